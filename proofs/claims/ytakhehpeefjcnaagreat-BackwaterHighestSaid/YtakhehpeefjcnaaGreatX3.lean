/-
  Texts of the proof: GvF9, GvF10, GvF11, GvF12, GvF13, GvF14, GvF15, GvF16, GvF17, GvG, GvH, GvI0, GvI.
-/
import Derived.Test.YtakhehpeefjcnaaGreatX2
import Derived.Orders
set_option linter.all false
namespace Go.Gv
open Go.RowKit
section
variable{P:Program}{F:Fid}{C:Nat->List D->D->List D->Prop}{nt:Nat}{S:Nat->Prop}{L:Nat->Option Loc}{w0:World}{M0:Mem}{f:Nat->D}{M M':Mem}{a:Act}{w w':World}{o:Oper}{d:D}{Q:Exit->Act->World->Prop}{ρ ρ':Pa->Loc}{ω ω':Nat->Option Pa}{New:Nat->Prop}{K:List (Nat×D)->List (Nat×Bool)->Prop}
def Pa.to(c:Nat):Pa->Pa
 | .r _=>.r c
 | .n _ i o=>.n c i o
theorem Pa.to_root(c:Nat)(p:Pa):(p.to c).root=c:=by cases p<;>rfl
theorem Pa.to_to(b c:Nat)(p:Pa)(h:p.root=b):(p.to c).to b=p:=by cases p<;>simp only[Pa.root]at h<;>subst h<;>rfl
theorem cS.carry{b c sz:Nat}{es:List (List D)}(h:cS F M ω ρ w b sz es)(hM:M.le M')(hs:∀p:Pa,p.root=b->ρ' (p.to c)=ρ p/\(ω (ρ p).blk=some p->ω' (ρ p).blk=some (p.to c)/\w'.heap[(ρ p).blk]? = w.heap[(ρ p).blk]?)):cS F M' ω' ρ' w' c sz es:=by
 have path:∀(p:Pa) (sz:Nat) (es:List (List D)) (R R':Nat->Nat->D->Value->Prop),p.root=b->bR ω ρ w p sz es R->(∀i r off d v,es[i]? = some r->r[off]? = some d->R i off d v->R' i off d v)->bR ω' ρ' w' (p.to c) sz es R':=by
  intro p sz es R R' hp h hR
  obtain⟨e1,e2⟩:=hs p hp
  unfold bR at h ⊢
  rw[e1]
  rcases h with h|⟨h1,h2⟩
  ·exact .inl h
  ·obtain⟨g1,g2⟩:=e2 h1
   exact .inr ⟨g1,h2.frame g2 hR⟩
 unfold cS at h ⊢
 refine path (.r b) sz es _ _ rfl h (fun i r off d v k1 k2 hr=>?_)
 cases d
 case own sz2 es2 =>
  obtain⟨h1,h2⟩:=hr
  refine⟨?_,path (.n b i off) sz2 es2 _ _ rfl h2 (fun _ _ _ d v _ _ hr=>af.mono hM d v hr)⟩
  have:=(hs (.n b i off) rfl).1
  simp only[au,Pa.to]at h1 this ⊢
  rw[this]
  exact h1
 all_goals exact af.mono hM _ _ hr
theorem SR.lendX(h:SR F nt S L w0 M0 f M a w)(hO:Own F L (fun k=>S k\/w0.heap.size<=k) f M a w ρ ω){b sz:Nat}{es es':List (List D)}(hf:f b=.blk sz es)(hb:10000<=b)(hω:ω (ρ (.r b)).blk=some (.r b)){ρ1:Pa->Loc}{ω1:Nat->Option Pa}
  (hρ1:∀p:Pa,p.root=b->ρ1 (p.to ap)=ρ p) (hω1:∀k q,ω1 k=some q↔∃p:Pa,ω k=some p/\p.root=b/\q=p.to ap)
  (hch:Ch (fun k=>∃p,ω1 k=some p) w w') (hM:M.le M') (hfr:∀p,M p=none->M' p≠none->(∃q,ω1 p.block=some q)\/w.heap.size<=p.block) (hh:∀p v,M' p=some v->w'.cell? p=some v)
  (hρ':ρ' (.r ap)=ρ1 (.r ap)) (hl:o5 F M' w' ρ' ω' ap sz es') (hnew:∀k p,ω' k=some p->(∃q,ω1 k=some q)\/w.heap.size<=k)
  {dst:Option Nat} (ht:∀t,dst=some t->t<nt) {v:Value} (hv:af F M' d v) :
  ∃ρ2 ω2,(∀p:Pa,p.root=b->ρ2 p=ρ' (p.to ap))/\(∀p:Pa,p.root≠b->ρ2 p=ρ p)/\Own F L (fun k=>S k\/w0.heap.size<=k) (eff (fc dst d++[(b,.blk sz es')]) [(b,false)] f) M' (a.put dst v) w' ρ2 ω2/\SR F nt S L w0 M0 (eff (fc dst d++[(b,.blk sz es')]) [(b,false)] f) M' (a.put dst v) w':=by
 have hS1:∀k q,ω1 k=some q->∃p,ω k=some p/\p.root=b:=fun k q e=>by
  obtain⟨p,h1,h2,_⟩:=(hω1 k q).1 e
  exact⟨p,h1,h2⟩
 have other:∀k p,ω k=some p->p.root≠b->(∀q,ω1 k≠some q)/\ω' k=none/\w'.heap[k]? = w.heap[k]?:=fun k p e hp=>by
  have h1:∀q,ω1 k≠some q:=fun q e1=>by
   obtain⟨p',h1,h2⟩:=hS1 k q e1
   rw[e]at h1;cases h1;exact hp h2
  refine⟨h1,?_,hch.block k (hO.lt _ _ e) (fun⟨q,e1⟩=>h1 q e1)⟩
  cases e2:ω' k with
  | none=>rfl
  | some q =>
   rcases hnew k q e2 with ⟨q,e1⟩|h2
   ·exact absurd e1 (h1 q)
   ·have:=hO.lt _ _ e;omega
 obtain⟨ρ2,hρ2⟩:∃ρ2:Pa->Loc,ρ2=fun p=>if p.root=b then ρ' (p.to ap) else ρ p:=⟨_,rfl⟩
 obtain⟨ω2,hω2⟩:∃ω2:Nat->Option Pa,ω2=fun k=>match ω' k with
  | some q=>some (q.to b)
  | none=>match ω k with
   | some p=>if p.root=b then none else some p
   | none=>none:=⟨_,rfl⟩
 have r1:∀p:Pa,p.root=b->ρ2 p=ρ' (p.to ap):=fun p hp=>by rw[hρ2];simp only[if_pos hp]
 have r2:∀p:Pa,p.root≠b->ρ2 p=ρ p:=fun p hp=>by rw[hρ2];simp only[if_neg hp]
 have o1:∀k q,ω' k=some q->ω2 k=some (q.to b):=fun k q e=>by rw[hω2];simp only[e]
 have o2:∀k p,ω k=some p->p.root≠b->ω2 k=some p:=fun k p e hp=>by rw[hω2];simp only[(other k p e hp).2.1,e,if_neg hp]
 have o3:∀k p,ω2 k=some p->(∃q,ω' k=some q/\p=q.to b)\/(ω k=some p/\p.root≠b):=fun k p e=>by
  rw[hω2]at e
  simp only at e
  cases e1:ω' k with
  | some q=>rw[e1]at e;cases e;exact .inl ⟨q,rfl,rfl⟩
  | none =>
   rw[e1]at e
   simp only at e
   cases e2:ω k with
   | none=>rw[e2]at e;cases e
   | some p' =>
    rw[e2]at e
    simp only at e
    split at e
    ·cases e
    ·cases e;exact .inr ⟨rfl,by assumption⟩
 have hrb:ρ2 (.r b)=ρ (.r b):=by
  rw[r1 (.r b) rfl]
  show ρ' (.r ap)=_
  rw[hρ',<- hρ1 (.r b) rfl]
  rfl
 have hfb:eff (fc dst d++[(b,.blk sz es')]) [(b,false)] f b=.blk sz es':=aM (by
  cases dst with
  | none=>simp[fc]
  | some t =>
   have:(b==t)=false:=by have:=ht t rfl;have:=h.hnt;simp;omega
   simp[fc,x0i,this])
 have lk:∀s,s≠b->dst≠some s->(fc dst d++[(b,D.blk sz es')]).lookup s=none:=fun s h1 h2=>by
  have e1:(s==b)=false:=by simpa using h1
  cases dst with
  | none=>simp only[fc,List.nil_append,x0i,e1,x0Z]
  | some t =>
   have e2:(s==t)=false:=by simp;rintro rfl;exact h2 rfl
   simp only[fc,x1A,List.nil_append,x0i,e1,e2,x0Z]
 have hsize:(a.put dst v).tmps.size=nt:=by cases dst<;>simp[Act.put,h.size]
 have main:Own F L (fun k=>S k\/w0.heap.size<=k) (eff (fc dst d++[(b,.blk sz es')]) [(b,false)] f) M' (a.put dst v) w' ρ2 ω2->SR F nt S L w0 M0 (eff (fc dst d++[(b,.blk sz es')]) [(b,false)] f) M' (a.put dst v) w':=fun own =>
  ⟨h.hnt,hsize,by cases dst<;>simp[Act.put,h.defers],h.ch.trans hch (fun k hk ⟨q,e⟩=>by
   obtain⟨p,e1,_⟩:=hS1 k q e
   rcases hO.new _ _ e1 with h3|h3
   ·exact h3
   ·omega),hh,Mem.le_trans h.ext hM,fun p h1 h2=>by
   by_cases e:M p=none
   ·rcases hfr p e h2 with ⟨q,e1⟩|h3
    ·obtain⟨p',e2,_⟩:=hS1 _ q e1
     exact hO.new _ _ e2
    ·exact .inr (x1h h.ch.size h3)
   ·exact h.fresh p h1 e,ρ2,ω2,own⟩
 refine⟨ρ2,ω2,r1,r2,(fun x=>⟨x,main x⟩) ?_⟩
 ·refine hO.step (ks:=[(b,false)]) (fun p hp=>?_) hM hch.size (fun s hs=>?_) (fun c hc=>?_) (fun k p e=>?_) (fun p q e=>?_) (fun c l hc hl' hB=>?_)
  ·refine⟨(b,false),by simp,?_⟩
   by_cases e:p.root=b
   ·cases p with
    | r x =>
     simp only[Pa.root]at e
     subst e
     exact absurd hrb hp
    | n x i off =>
     simp only[Pa.root]at e
     subst e
     simp[bA]
   ·exact absurd (r2 p e) hp
  ·by_cases e:dst=some s
   ·right
    have hst:=ht s e
    subst e
    have e1:eff (fc (some s) d++[(b,.blk sz es')]) [(b,false)] f s=d:=aM (by simp[fc])
    refine .inr ⟨v,getElem?_put_same (by rw[h.size];exact hst),?_⟩
    rw[e1]
    exact aT.of_pure hv
   ·left
    rcases bx (f:=f) (ks:=[(b,false)]) (lk s (by omega) e)with h1|h1
    ·exact .inl h1
    ·refine .inr ⟨h1.1,?_,h1.2⟩
     cases dst with
     | none=>rfl
     | some t=>exact getElem?_put (fun x=>e (by rw[x]))
  ·by_cases e:c=b
   ·subst e
    right
    refine .inl ⟨sz,es',hfb,hl.rows.carry (Mem.le_refl _) (fun p hp=>?_)⟩
    have e1:ρ2 (p.to c)=ρ' p:=by rw[r1 _ (Pa.to_root _ _),Pa.to_to ap c p hp]
    exact⟨e1,fun e2=>⟨o1 _ _ e2,rfl⟩⟩
   ·left
    rcases bM (f:=f) (ks:=[(b,false)]) (lk c e (fun x=>by have:=ht c x;have:=h.hnt;omega))with h1|h1
    ·exact .inl h1
    ·refine .inr ⟨h1,fun p hp=>?_⟩
     have hpb:p.root≠b:=by rw[hp];exact e
     exact⟨r2 p hpb,fun hw=>⟨o2 _ _ hw hpb,(other _ _ hw hpb).2.2⟩⟩
  ·rcases o3 k p e with ⟨q,e1,_⟩|⟨e1,_⟩
   ·rcases hnew k q e1 with ⟨q',e2⟩|h2
    ·obtain⟨p',e3,_⟩:=hS1 k q' e2
     exact .inl ⟨p',e3⟩
    ·exact .inr ⟨hl.lt k q e1,.inr (x1h h.ch.size h2)⟩
   ·exact .inl ⟨p,e1⟩
  ·rcases o3 _ q e with ⟨q',e1,_⟩|⟨e1,e2⟩
   ·exact hl.apart p q' e1
   ·have h1:=hO.apart p q e1
    cases e3:M' p with
    | none=>rfl
    | some u =>
     rcases hfr p h1 (by rw[e3];simp)with ⟨q',e4⟩|h4
     ·exact absurd e4 ((other _ _ e1 e2).1 q')
     ·have:=hO.lt _ _ e1;omega
  ·by_cases e:c=b
   ·subst e
    exact⟨hrb,by rw[hf];rfl⟩
   ·have hcb:(Pa.r c).root≠b:=e
    refine⟨r2 _ hcb,?_⟩
    rcases bM (f:=f) (ks:=[(b,false)]) (lk c e (fun x=>by have:=ht c x;have:=h.hnt;omega))with h1|h1
    ·rw[hB]at h1;cases h1
    ·rw[<- h1];exact hB
theorem SR.lend(h:SR F nt S L w0 M0 f M a w)(hO:Own F L (fun k=>S k\/w0.heap.size<=k) f M a w ρ ω){b sz:Nat}{es es':List (List D)}(hf:f b=.blk sz es)(hb:10000<=b)(hω:ω (ρ (.r b)).blk=some (.r b)){ρ1:Pa->Loc}{ω1:Nat->Option Pa}
  (hρ1:∀p:Pa,p.root=b->ρ1 (p.to ap)=ρ p) (hω1:∀k q,ω1 k=some q↔∃p:Pa,ω k=some p/\p.root=b/\q=p.to ap)
  (hch:Ch (fun k=>∃p,ω1 k=some p) w w') (hM:M.le M') (hfr:∀p,M p=none->M' p≠none->(∃q,ω1 p.block=some q)\/w.heap.size<=p.block) (hh:∀p v,M' p=some v->w'.cell? p=some v)
  (hρ':ρ' (.r ap)=ρ1 (.r ap)) (hl:o5 F M' w' ρ' ω' ap sz es') (hnew:∀k p,ω' k=some p->(∃q,ω1 k=some q)\/w.heap.size<=k)
  {dst:Option Nat} (ht:∀t,dst=some t->t<nt) {v:Value} (hv:af F M' d v) :
  SR F nt S L w0 M0 (eff (fc dst d++[(b,.blk sz es')]) [(b,false)] f) M' (a.put dst v) w':=by
 obtain⟨_,_,_,_,_,hs⟩:=h.lendX hO hf hb hω hρ1 hω1 hch hM hfr hh hρ' hl hnew ht hv
 exact hs
theorem vc(hC:bD P F C)(h:SR F nt S L w0 M0 f M a w)(hp:∀t,o.dst=some t->t<nt){g fi:Nat}{x:Opd}{xs:List Opd}{y:Operand}{ys:List Operand}{ts:Array TypeId}(ho:o.op=.call { callee:=.value (.func fi),args:=⟨y::ys⟩,argTypes:=ts })(hx0:ai F x y=true)(hx:bC F xs ys=true)
  (hg:F g=some fi) (hr:match vd f x with
  | .adr (.r b) i off=>i=0/\off=0/\match f b with
   | .blk sz es=>0<es.length/\(∀x∈xs,isV (vd f x)=true)/\∃d,∃es':List (List D),0<es'.length/\C g (.blk sz es::xs.map (vd f)) d [.blk sz es']/\K (fc o.dst d++[(b,.blk sz es')]) [(b,false)]
   | _=>False
  | _=>False):o.wp P a w (PostX F nt S L w0 M0 f K) Q:=by
 split at hr
 ·rename_i b i off hvx
  obtain⟨rfl,rfl,hr⟩:=hr
  split at hr
  ·rename_i sz es hf
   obtain⟨hpos,hxs,d,es',hpos',hc,hK⟩:=hr
   have hrun:(execOp a.eval o).run P w=(callFunc fi (a.eval y::ys.map a.eval).toArray).run P w:=by
    simp only[execOp,ho,resolve,Act.eval,Deferred.ofValue,Sem.run_bind,Sem.run_pure,Result.andThen_ok,invoke]
    congr 2
    rw[Array.append_empty,x1l]
    apply Array.ext'
    simp
    cases y<;>simp[Act.eval]
   obtain⟨ρ,ω,hO⟩:=h.own
   have hb:=hO.big hf
   have hv:=hO.opd hx0
   rw[hvx,am rfl]at hv
   simp only[au,x1s,x0U]at hv
   have hroot:=hO.roots b sz es hb hf
   have hω:ω (ρ (.r b)).blk=some (.r b):=by
    rcases hroot with ⟨e0,_⟩|⟨hω,_⟩
    ·rw[e0]at hpos;simp at hpos
    ·exact hω
   have hrep:aq F M (xs.map (vd f)) (ys.map a.eval):=by
    have h1:=fm h hx (by rw[x0f];exact hxs)
    rwa[x0m (g:=vd f) fun x hx'=>by unfold dpv;exact(gK (hxs x hx')).1]at h1
   obtain⟨ρ1,hρ1⟩:∃ρ1:Pa->Loc,ρ1=fun p=>ρ (p.to b):=⟨_,rfl⟩
   obtain⟨ω1,hω1⟩:∃ω1:Nat->Option Pa,ω1=fun k=>match ω k with
    | some p=>if p.root=b then some (p.to ap) else none
    | none=>none:=⟨_,rfl⟩
   have w1:∀k q,ω1 k=some q↔∃p:Pa,ω k=some p/\p.root=b/\q=p.to ap:=fun k q=>by
    rw[hω1]
    simp only
    constructor
    ·intro e
     split at e
     ·rename_i p hp
      split at e
      ·cases e;exact⟨p,hp,by assumption,rfl⟩
      ·cases e
     ·cases e
    ·rintro⟨p,e1,e2,rfl⟩
     simp only[e1,if_pos e2]
   have p1:∀p:Pa,p.root=b->ρ1 (p.to ap)=ρ p:=fun p hp=>by
    rw[hρ1]
    simp only
    rw[Pa.to_to b ap p hp]
   have lent:o5 F M w ρ1 ω1 ap sz es:=by
    refine⟨(w1 _ _).2 ⟨.r b,?_,rfl,rfl⟩,cS.carry hroot (Mem.le_refl _) (fun p hp=>⟨p1 p hp,fun e=>⟨(w1 _ _).2 ⟨p,e,hp,rfl⟩,rfl⟩⟩),fun k p e=>?_,fun k p e=>?_,fun p q e=>?_⟩
    ·have:=p1 (.r b) rfl
     simp only[Pa.to]at this
     rw[this];exact hω
    ·obtain⟨p',e1,_⟩:=(w1 _ _).1 e
     exact hO.lt _ _ e1
    ·obtain⟨p',_,_,rfl⟩:=(w1 _ _).1 e
     exact Pa.to_root _ _
    ·obtain⟨p',e1,_⟩:=(w1 _ _).1 e
     exact hO.apart p p' e1
   have hL:=hC.runsL g fi sz es _ d es' hg hc M w _ ρ1 ω1 h.holds hrep lent
   have e1:ρ1 (.r ap)=ρ (.r b):=p1 (.r b) rfl
   rw[e1,<- hv]at hL
   unfold Oper.wp
   rw[hrun,cb (hC.body g fi hg),Oper.upon_enter]
   refine hL.mono ?_
   rintro e0 w' ⟨v,M',ρ',ω',rfl,q1,q2,q3,q4,q5,q6,q7,q8⟩
   exact⟨_,_,M',hK,h.lend hO hf hb hω p1 w1 q1 q2 q3 q4 (by rw[q6,e1]) q7 q8 hp q5⟩
  ·exact hr.elim
 ·exact hr.elim
theorem lx{es:List (List D)}{k n:Nat}{zs:List D}(h:k+n<=es.length):(cV es k n zs).length=es.length:=by
 simp[cV];omega
theorem vt{es:List (List D)}{k n:Nat}{zs:List D}(h:k+n<=es.length)(i:Nat):(cV es k n zs)[i]? = if k<=i/\i<k+n then some zs else es[i]?:=by
 unfold cV
 rw[x1t]
 have hl:(es.take k).length=k:=by simp;omega
 by_cases h1:i<k
 ·rw[x0t (by omega),x0B h1,if_neg (by omega)]
 ·rw[x0v (by omega),hl]
  by_cases h2:i<k+n
  ·rw[x0t (by simp;omega),if_pos (by omega),List.getElem?_replicate,if_pos (by omega)]
  ·rw[x0v (by simp;omega),List.length_replicate,x0u,if_neg (by omega)]
   congr 1
   omega
theorem o4{es:List (List D)}{k n:Nat}{zs e:List D}(he:e∈cV es k n zs):e=zs\/e∈es:=by
 simp only[cV,x0l]at he
 rcases he with (h|h)|h
 ·exact .inr (x0E h)
 ·exact .inl (List.mem_replicate.1 h).2
 ·exact .inr (x03 h)
def qe(P:Program)(T:Nat)(zs:List D):Bool:=match P.underlying T with
 | some (.slice e)=>zeroOk P e zs
 | _=>false
theorem nZ{z:Array Value}{n i off:Nat}{u:Value}(hi:i<n)(ho:z.toList[off]? = some u):(Builtin.zeroCells z n).toList[i*z.size+off]? = some u:=by
 have h1:off<z.size:=by have:=(x0b.1 ho).1;simpa using this
 have h2:i*z.size+z.size<=n*z.size:=by rw[<- x0T];exact x0h _ hi
 have h3:(i*z.size+off)%z.size=off:=by
  rw[x0S,Nat.mul_add_mod,Nat.mod_eq_of_lt h1]
 unfold Builtin.zeroCells
 rw[Array.toList_map,x0x]
 rw[Array.toList_range,List.getElem?_range (show i*z.size+off<n*z.size by omega),x1b,h3]
 rw[x0g z off h1]
 have:=(x0b.1 ho).2
 rw[<- this];simp
theorem oV{T:Nat}{ty:TypeId}{zs:List D}(hk:qe P T zs=true)(hz1:∀c∈zs,az c=true){g o n cap:Nat}{cur:List Value}{T0:TypeId}(hn:n≠0)(hg:w.heap[g]? = some (.cells cur.toArray T0 (0,0)))(hgl:g<w.heap.size)(hl:o+n*zs.length<=cur.length) :
  ∃(w':World) (Z:List Value),(Builtin.clear_ #[T] ty #[.slice (some ⟨g,o,none⟩) n cap]).run P w=.ok (.tuple #[]) w'/\w'.heap[g]? = some (.cells (cur.take o++Z++cur.drop (o+n*zs.length)).toArray T0 (0,0))/\Z.length=n*zs.length /\
   (∀i off c,i<n->zs[off]? = some c->∃u,Z[i*zs.length+off]? = some u/\∀(F:Fid) (M:Mem),af F M c u)/\Ch (fun k=>k=g) w w':=by
 unfold qe at hk
 split at hk
 ·rename_i e hu
  obtain⟨z,i,hi,hiz,hz,hzs,hzc⟩:=zeroOk_z hk
  have hcell:∀(off:Nat) (c:D),zs[off]? = some c->∃u,z.cells.toList[off]? = some u/\u.oneCell'=true/\∀(F:Fid) (M:Mem),af F M c u:=fun off c hc=>by
   have h1:off<z.cells.toList.length:=by have:=(x0b.1 hc).1;simp;omega
   have h2:∀(F:Fid) (M:Mem),af F M c (z.cells.toList[off]):=fun F M=>by
    rcases hzc off c _ hc (x0e h1) (F:=F) (L:=fun _=>none) (New:=fun _=>True) (f:=fun _=>.any) (M:=M) (a:={ tmps:=#[],defers:=[] }) (w:=w)with ⟨_,h3⟩|⟨n,rfl,_⟩|⟨_,_,_,h3,_⟩
    ·exact h3
    ·have:=hz1 _ (x0c hc);simp[az]at this
    ·cases h3
   exact⟨_,x0e h1,oneCell_of (h2 ⟨P,fun _=>none,fun _=>0,fun _=>.nilIface⟩ (fun _=>none)) (hz1 _ (x0c hc)),h2⟩
  have hone:∀v∈(Builtin.zeroCells z.cells n).toList,v.oneCell'=true:=fun v hv=>by
   simp only[Builtin.zeroCells,Array.toList_map,x0s]at hv
   obtain⟨x,hx,rfl⟩:=hv
   have hx':x<n*z.cells.size:=by simpa using hx
   have hpos:0<z.cells.size:=by
    rcases x0R z.cells.size with h|h
    ·rw[h]at hx';simp at hx'
    ·exact h
   have hlt:=x1y x hpos
   obtain⟨u,k1,k2,_⟩:=hcell (x%z.cells.size) (zs[x%z.cells.size]'(by rw[<- hzs];exact hlt)) (x0e _)
   rw[x0g z.cells _ hlt]
   have:z.cells[x%z.cells.size]=u:=by
    have:=(x0b.1 k1).2
    simpa using this
   rw[this];exact k2
  have hZ:(Builtin.zeroCells z.cells n).toList.length=n*zs.length:=by
   simp[Builtin.zeroCells,hzs]
  obtain⟨w',e1,e2,e3,e4,e5,e6,e7,e8⟩:=cC (P:=P) g T0 o (Builtin.zeroCells z.cells n).toList 0 cur w hg (by rw[hZ];simpa using hl) hone
  refine⟨w',(Builtin.zeroCells z.cells n).toList,?_,?_,hZ,fun i off c hin hc=>?_,⟨e5,e6,e7,by omega,fun k _ hk=>e3 k hk,by omega⟩⟩
  ·have hu':(underlying T).run P w=.ok (.slice e) w:=run_underlying hu w
   unfold Builtin.clear_
   simp only[x1a,x0X,Sem.run_bind,hu',Result.andThen_ok]
   cases n with
   | zero=>exact absurd rfl hn
   | succ n=>simp only[hz,Result.andThen_ok,e1,Sem.run_pure]
  ·rw[e2];simp only[x0U,hZ]
  ·obtain⟨u,k1,_,k3⟩:=hcell off c hc
   exact⟨u,by rw[<- hzs];exact nZ hin k1,k3⟩
 ·cases hk
theorem om{base k n sz:Nat}{es:List (List D)}{zs:List D}{us Z:List Value}{R:D->Value->Prop}(hkn:k+n<=es.length)(hzs:zs.length=sz)(hes:∀e∈es,e.length=sz)(hlen:base+es.length*sz<=us.length)(hZl:Z.length=n*sz)(hZ:∀i off c,i<n->zs[off]? = some c->∃u,Z[i*sz+off]? = some u/\R c u)
  (hold:∀i r off d,es[i]? = some r->r[off]? = some d->∃u,us[base+i*sz+off]? = some u/\R d u):∀i r off d,(cV es k n zs)[i]? = some r->r[off]? = some d->∃u,(us.take (base+k*sz)++Z++us.drop (base+k*sz+n*sz))[base+i*sz+off]? = some u/\R d u:=by
 intro i r off d h1 h2
 have hle:k*sz+n*sz<=es.length*sz:=by rw[<- x0A];exact x0h _ hkn
 have hget:=fun x=>cp (vs:=us) (us:=Z) (q:=base+k*sz) (n:=n*sz) (x:=x) hZl (by omega)
 rw[vt hkn]at h1
 split at h1
 ·rename_i hi
  cases h1
  have ho:off<sz:=by have:=(x0b.1 h2).1;omega
  obtain⟨u,k1,k2⟩:=hZ (i-k) off d (by omega) h2
  refine⟨u,?_,k2⟩
  have e1:i*sz=k*sz+(i-k)*sz:=by rw[<- x0A];congr 1;omega
  have e2:(i-k)*sz+sz<=n*sz:=by rw[<- x0T];exact x0h _ (by omega)
  rw[hget,if_pos (by omega),<- k1]
  congr 1
  omega
 ·rename_i hi
  have ho:off<sz:=by have:=(x0b.1 h2).1;have:=hes r (x0c h1);omega
  obtain⟨u,k1,k2⟩:=hold i r off d h1 h2
  refine⟨u,?_,k2⟩
  rw[hget,if_neg,k1]
  intro hx
  by_cases hik:i<k
  ·have:i*sz+sz<=k*sz:=by rw[<- x0T];exact x0h _ hik
   omega
  ·have:k*sz+n*sz<=i*sz:=by rw[<- x0A];exact x0h _ (by omega)
   omega
theorem wg{b:Nat}{x:D}(h:f b=x)(hx:isB x=true):eff [(b,x)] [] f=f:=by
 funext s
 unfold eff
 by_cases e:s=b
 ·subst e;simp[h]
 ·have e1:(s==b)=false:=by simpa using e
  simp[x0i,e1,aD]
theorem An(h:SR F nt S L w0 M0 f M a w)(hp:∀t,o.dst=some t->t<nt){zs:List D}{x:Opd}{y:Operand}{T:TypeId}(ho:o.op=.call { callee:=.builtin .clear,args:=#[y],argTypes:=#[T] })(hx:ai F x y=true)(hk:qe P T zs=true)
  (hr:match vd f x with
  | .nils=>K (cU o.dst) []
  | .ref (.r b) k n=>match f b with
   | .blk sz es=>k+n<=es.length/\zs.length=sz/\(∀e∈es,∀c∈e,az c=true)/\(∀c∈zs,az c=true)/\K (cU o.dst++[(b,.blk sz (cV es k n zs))]) []
   | _=>False
  | .ref (.n b i o') k n=>match f b with
   | .blk sz0 es0=>∃row0,es0[i]? = some row0/\∃sz es,row0[o']? = some (.own sz es)/\k+n<=es.length/\zs.length=sz/\(∀c∈zs,az c=true)/\K (cU o.dst++[(b,.blk sz0 (aV es0 i o' 1 [.own sz (cV es k n zs)]))]) []
   | _=>False
  | _=>False):o.wp P a w (PostX F nt S L w0 M0 f K) Q:=by
 obtain⟨ρ,ω,hO⟩:=h.own
 have hv:=hO.opd hx
 have exec:∀v w',(Builtin.clear_ #[T] o.type #[a.eval y]).run P w=.ok v w'->(execOp a.eval o).run P w=.ok (.value v) w':=fun v w' e=>by
  simp only[execOp,ho,resolve,invoke,builtin,x1C,x0I,x0Y,Sem.run_bind,Sem.run_pure,Result.andThen_ok,e]
 have noop:∀v:Value,(v=.slice none 0 0\/∃A cap,v=.slice A 0 cap)->a.eval y=v->(underlying T).run P w=.ok (match P.underlying T with|some u=>u|none=>default) w->(execOp a.eval o).run P w=.ok (.value (.tuple #[])) w:=by
  intro v hv' e hu
  refine exec _ _ ?_
  rw[e]
  unfold Builtin.clear_
  simp only[x1a,x0X,Sem.run_bind,hu,Result.andThen_ok]
  rcases hv' with rfl|⟨A,cap,rfl⟩
  ·simp
  ·cases A<;>simp
 have hu:(underlying T).run P w=.ok (match P.underlying T with|some u=>u|none=>default) w:=by
  unfold qe at hk
  split at hk
  ·rename_i e hu
   rw[run_underlying hu w,hu]
  ·cases hk
 have unit:∀(b:Nat) (x:D) (M':Mem) (w':World),SR F nt S L w0 M0 (eff [(b,x)] [] f) M' a w'->SR F nt S L w0 M0 (eff (cU o.dst++[(b,x)]) [] f) M' (a.put o.dst (.tuple #[])) w':=fun b x M' w' hs=>by
  rw[<- qj]
  cases hd:o.dst with
  | none=>simpa[Act.put]using hs
  | some t=>exact hs.put (hp t hd) fun _ _ _=>by rw[am rfl];simp[au,af,aq]
 split at hr
 ·rename_i hvx
  rw[hvx,am rfl]at hv
  simp only[au,af]at hv
  refine dO (noop _ (.inl rfl) hv hu) ⟨_,_,M,hr,?_⟩
  cases hd:o.dst with
  | none=>simpa[Act.put,cU,jW]using h
  | some t=>exact h.put (hp t hd) fun _ _ _=>by rw[am rfl];simp[au,af,aq]
 ·rename_i b k n hvx
  rw[hvx,am rfl]at hv
  split at hr
  ·rename_i sz es hf
   obtain⟨hkn,hzs,hes1,hz1,hK⟩:=hr
   have hb:=hO.big hf
   have hgp:aR f (.r b)=some (sz,es):=by simp[aR,hf]
   by_cases hn:n=0
   ·subst hn
    have e0:cV es k 0 zs=es:=by simp[cV]
    rw[e0]at hK
    have hv':∃A cap,a.eval y=.slice A 0 cap:=by
     simp only[au]at hv
     rcases hv with ⟨_,A,e⟩|⟨cap,e,_⟩
     ·exact⟨A,0,e⟩
     ·exact⟨_,cap,e⟩
    refine dO (noop _ (.inr hv') rfl hu) ⟨_,_,M,hK,unit b _ M w ?_⟩
    rw[wg hf rfl];exact h
   ·rcases fw hO hgp hkn hv (fun e he c hc=>cy (hes1 e (x03 (x0E he)) c hc))with ⟨A,hv,hn0⟩|⟨cap,us,T0,hv,⟨hcap,hmc⟩,hcl,hω,g0,g1,g2,g4,g5⟩
    ·exact absurd hn0 hn
    ·have hrows:jb w (ρ (.r b)) sz es (fun i off d v=>ck F M ω ρ w b i off d v):=by
      rcases hO.roots b sz es hb hf with ⟨e0,_⟩|⟨_,hr⟩
      ·rw[e0]at hkn;simp at hkn;omega
      ·exact hr
     obtain⟨q0,us0,T1,q1,q2,q3,q4,q5⟩:=id hrows
     rw[g1]at q1
     simp only[x0k,Obj.cells.injEq,and_true]at q1
     obtain⟨q1,rfl⟩:=q1
     obtain rfl:us=us0:=by simpa using congrArg Array.toList q1
     have hle:k*sz+n*sz<=es.length*sz:=by rw[<- x0A];exact x0h _ hkn
     obtain⟨w',Z,e1,e2,e3,e4,e5⟩:=oV (P:=P) (w:=w) (ty:=o.type) hk hz1 hn (cap:=cap) g1 (hO.lt _ _ hω) (o:=(ρ (.r b)).base+k*sz) (by rw[hzs,g2];omega)
     rw[hzs]at e2 e3 e4
     have hfill:=h.fill hO hf hω hrows (es':=cV es k n zs) (us:=us.take ((ρ (.r b)).base+k*sz)++Z++us.drop ((ρ (.r b)).base+k*sz+n*sz)) (w':=w') (Nat.le_of_eq (lx hkn)) (fun e he=>by
      rcases o4 he with rfl|he
      ·exact⟨hzs,hz1⟩
      ·exact⟨g4 e he,hes1 e he⟩) e5 e2 (by simp;omega) (om (R:=fun d v=>af F M d v) hkn hzs g4 (by rw[g2];exact q3) e3 (fun i off c hi hc=>by
       obtain⟨u,k1,k2⟩:=e4 i off c hi hc
       exact⟨u,k1,k2 F M⟩) (fun i r off d h1 h2=>by
       obtain⟨u,k1,k2⟩:=q5 i r off d h1 h2
       rw[aZ (cy (hes1 r (x0c h1) d (x0c h2)))]at k2
       exact⟨u,k1,k2⟩))
     obtain⟨_,_,_,_,hs⟩:=hfill
     refine dO (exec _ _ (by rw[hv];exact e1)) ⟨_,_,M,hK,unit b _ M w' hs⟩
  ·exact hr.elim
 ·rename_i b i0 o0 k n hvx
  rw[hvx,am rfl]at hv
  split at hr
  ·rename_i sz0 es0 hf
   obtain⟨row0,hi0,sz,es,ho0,hkn,hzs,hz1,hK⟩:=hr
   have hb:=hO.big hf
   have hgp:aR f (.n b i0 o0)=some (sz,es):=by simp[aR,hf,hi0,ho0]
   have hpath:bR ω ρ w (.n b i0 o0) sz es (fun _ _ d v=>af F M d v):=(hO.get (p:=.n b i0 o0) hb hgp).1
   have hnoO:∀e∈(es.drop k).take n,∀c∈e,isO c=false:=by
    intro e he c hc'
    have he:=x03 (x0E he)
    rcases hpath with ⟨e0,_⟩|⟨_,_,vs,T,_,_,_,_,h5⟩
    ·rw[e0]at he;cases he
    ·obtain⟨i,hi⟩:=x0V.1 he
     obtain⟨j,hj⟩:=x0V.1 hc'
     obtain⟨u,_,h6⟩:=h5 i e j c hi hj
     cases c<;>first|rfl|(simp[af]at h6)
   by_cases hn:n=0
   ·subst hn
    have e0:cV es k 0 zs=es:=by simp[cV]
    rw[e0]at hK
    have hv':∃A cap,a.eval y=.slice A 0 cap:=by
     simp only[au]at hv
     rcases hv with ⟨_,A,e⟩|⟨cap,e,_⟩
     ·exact⟨A,0,e⟩
     ·exact⟨_,cap,e⟩
    refine dO (noop _ (.inr hv') rfl hu) ⟨_,_,M,hK,unit b _ M w (h.fillN hO hf hi0 ho0 rfl h.ch (x0r _) h.holds hpath (fun _ _ _ _=>rfl))⟩
   ·rcases fw hO hgp hkn hv hnoO with ⟨A,hv,hn0⟩|⟨cap,us,T0,hv,⟨hcap,hmc⟩,hcl,hω,g0,g1,g2,g4,g5⟩
    ·exact absurd hn0 hn
    ·have hrows:jb w (ρ (.n b i0 o0)) sz es (fun _ _ d v=>af F M d v):=by
      rcases hpath with ⟨e0,_⟩|⟨_,hr⟩
      ·rw[e0]at hkn;simp at hkn;omega
      ·exact hr
     obtain⟨q0,us0,T1,q1,q2,q3,q4,q5⟩:=id hrows
     rw[g1]at q1
     simp only[x0k,Obj.cells.injEq,and_true]at q1
     obtain⟨q1,rfl⟩:=q1
     obtain rfl:us=us0:=by simpa using congrArg Array.toList q1
     have hle:k*sz+n*sz<=es.length*sz:=by rw[<- x0A];exact x0h _ hkn
     obtain⟨w',Z,e1,e2,e3,e4,e5⟩:=oV (P:=P) (w:=w) (ty:=o.type) hk hz1 hn (cap:=cap) g1 (hO.lt _ _ hω) (o:=(ρ (.n b i0 o0)).base+k*sz) (by rw[hzs,g2];omega)
     rw[hzs]at e2 e3 e4
     have hnew:=hO.new _ _ hω
     have hMb:∀p:Addr,p.block=(ρ (.n b i0 o0)).blk->M p=none:=fun p hp=>hO.apart p (.n b i0 o0) (by rw[hp];exact hω)
     have hh:∀p v,M p=some v->w'.cell? p=some v:=fun p v hp=>by
      have hne:p.block≠(ρ (.n b i0 o0)).blk:=fun e=>by rw[hMb p e]at hp;cases hp
      have h8:=h.holds p v hp
      rw[World.cell?_of_block (e5.block _ (World.block_lt_of_cell? w p h8) hne)]
      exact h8
     refine dO (exec _ _ (by rw[hv];exact e1)) ⟨_,_,M,hK,unit b _ M w' (h.fillN hO hf hi0 ho0 (lx hkn) (h.ch.trans e5 (fun k hk e=>by rcases hnew with h7|h7;rw[e];exact h7;omega)) e5.size hh (.inr ⟨hω,g0,_,T0,e2,by simp;omega,by rw[lx hkn];exact q3,fun e he=>by
      rcases o4 he with rfl|he
      ·exact hzs
      ·exact g4 e he,om (R:=fun d v=>af F M d v) hkn hzs g4 (by rw[g2];exact q3) e3 (fun i off c hi hc=>by
       obtain⟨u,k1,k2⟩:=e4 i off c hi hc
       exact⟨u,k1,k2 F M⟩) q5⟩) (fun k q hk hq=>e5.block k (hO.lt _ _ hk) (by rintro rfl;rw[hω]at hk;cases hk;exact hq rfl)))⟩
  ·exact hr.elim
 ·exact hr.elim
end
end Go.Gv

namespace Go.Gv
open Go.RowKit
section
variable{P:Program}{F:Fid}{C:Nat->List D->D->List D->Prop}{nt:Nat}{S:Nat->Prop}{L:Nat->Option Loc}{w0:World}{M0:Mem}{f:Nat->D}{M M':Mem}{a:Act}{w w':World}{o:Oper}{d:D}{Q:Exit->Act->World->Prop}{ρ ρ':Pa->Loc}{ω ω':Nat->Option Pa}{New:Nat->Prop}{K:List (Nat×D)->List (Nat×Bool)->Prop}
theorem lI(p:Pa):bA p.root true p=true:=by cases p<;>simp[bA,Pa.root]
theorem jr{t i b:Nat}{x d:D}(h:(b,x)∈cx t i d):b=rt t i/\∃sz es,x=.blk sz es/\∀t',(rt t' i,x)∈cx t' i d:=by
 cases d<;>simp only[cx,x0M,x1o,or_false,Prod.mk.injEq]at h
 all_goals exact⟨h.1,_,_,h.2,fun t'=>by rw[h.2];simp[cx]⟩
theorem js{t b:Nat}{x:D}:∀{ds:List D} {i:Nat},(b,x)∈bB t i ds->∃j,i<=j/\j<i+ds.length/\b=rt t j/\∃sz es,x=.blk sz es/\∀t',(rt t' j,x)∈bB t' i ds
 | [],_,h=>by simp[bB]at h
 | d::ds,i,h=>by
  simp only[bB,x0l]at h
  rcases h with h|h
  ·obtain⟨e,sz,es,e2,h2⟩:=jr h
   exact⟨i,x0r _,by simp,e,sz,es,e2,fun t'=>by simp only[bB,x0l];exact .inl (h2 t')⟩
  ·obtain⟨j,h1,h2,e,sz,es,e2,h3⟩:=js h
   exact⟨j,by omega,by simp;omega,e,sz,es,e2,fun t'=>by simp only[bB,x0l];exact .inr (h3 t')⟩
theorem fJ{t b:Nat}{x y:D}:∀{ds:List D} {i:Nat},(b,x)∈bB t i ds->(b,y)∈bB t i ds->x=y
 | [],_,h,_=>by simp[bB]at h
 | d::ds,i,h,h'=>by
  simp only[bB,x0l]at h h'
  have far:∀{z:D},(b,z)∈bB t (i+1) ds->b≠rt t i:=fun hz e=>by
   obtain⟨j,h1,_,e2,_⟩:=js hz
   rw[e]at e2
   unfold rt at e2
   omega
  rcases h with h|h<;>rcases h' with h'|h'
  ·cases d<;>simp only[cx,x0M,x1o,or_false,Prod.mk.injEq]at h h'
   all_goals rw[h.2,h'.2]
  ·exact absurd (jr h).1 (far h')
  ·exact absurd (jr h').1 (far h)
  ·exact fJ h h'
theorem tq{b:Nat}{x:D}:∀{l:List (Nat×D)},(∀y,(b,y)∈l->y=x)->(b,x)∈l->l.lookup b=some x
 | [],_,h=>by simp at h
 | (c,y)::l,hu,h=>by
  by_cases e:b=c
  ·subst e
   rw[hu y (by simp)]
   simp
  ·have e1:(b==c)=false:=by simpa using e
   simp only[x0i,e1]
   refine tq (fun y hy=>hu y (by simp[hy])) ?_
   rcases x0M.1 h with h|h
   ·cases h;exact absurd rfl e
   ·exact h
theorem sr{b:Nat}:∀{l:List (Nat×D)},(∀y,(b,y)∉l)->l.lookup b=none
 | [],_=>rfl
 | (c,y)::l,h=>by
  have e:b≠c:=fun e=>h y (by simp[e])
  have e1:(b==c)=false:=by simpa using e
  simp only[x0i,e1]
  exact sr fun y hy=>h y (by simp[hy])
theorem uI{t i:Nat}{d:D}{v:Value}(h:au F M ρ (fx 0 i d) v)(he:∀x,(rt 0 i,x)∈cx 0 i d->ρ' (.r (rt t i))=ρ (.r (rt 0 i)))(hp:∀p k n,d≠.ref p k n)(hp2:∀p k n,d≠.adr p k n)(hp3:∀b,d≠.mrf b)(hp4:∀T p k n,d≠.ifa T p k n):au F M ρ' (fx t i d) v:=by
 cases d
 case own sz es =>
  have e:=he (.blk sz es) (by simp[cx])
  simp only[fx,au]at h ⊢
  rw[e];exact h
 case blk sz es =>
  have e:=he (.blk sz es) (by simp[cx])
  simp only[fx,au]at h ⊢
  rw[e];exact h
 case ref p k n=>exact absurd rfl (hp p k n)
 case adr p k n=>exact absurd rfl (hp2 p k n)
 case mrf b=>exact absurd rfl (hp3 b)
 case ifa T p k n=>exact absurd rfl (hp4 T p k n)
 all_goals exact h
theorem iU{t:Nat}:∀{ds:List D} {i:Nat} {vs:List Value},cq F M ρ (bF 0 i ds) vs->(∀j x,(rt 0 j,x)∈bB 0 i ds->ρ' (.r (rt t j))=ρ (.r (rt 0 j)))->(∀d∈ds,wZ d=true)->cq F M ρ' (bF t i ds) vs
 | [],i,vs,h,_,_=>⟨by simpa[bF]using h.1,fun j d v h1=>by simp[bF]at h1⟩
 | d::ds,i,[],h,_,_=>by have:=h.1;simp[bF]at this
 | d::ds,i,v::vs,h,he,hk=>by
  have hd:=hk d (by simp)
  have ih:=iU (t:=t) (ds:=ds) (i:=i+1) (vs:=vs) ⟨by have:=h.1;simpa[bF]using this,fun j d' v' h1 h2=>h.2 (j+1) d' v' (by simpa[bF]using h1) (by simpa using h2)⟩ (fun j x hx=>he j x (by simp only[bB,x0l];exact .inr hx)) (fun d' hd'=>hk d' (by simp[hd']))
  refine⟨by have:=ih.1;simp[bF,this],fun j d' v' h1 h2=>?_⟩
  cases j with
  | zero =>
   simp only[bF,x0X,x0k]at h1 h2
   subst h1 h2
   exact uI (h.2 0 _ _ (by simp[bF]) rfl) (fun x hx=>he i x (by simp only[bB,x0l];exact .inl hx)) (fun p k n e=>by rw[e]at hd;cases hd) (fun p k n e=>by rw[e]at hd;cases hd) (fun b e=>by rw[e]at hd;cases hd) (fun T p k n e=>by rw[e]at hd;cases hd)
  | succ j=>exact ih.2 j d' v' (by simpa[bF]using h1) (by simpa using h2)
theorem gj{t b:Nat}{x R:D}(hok:okR R=true)(h:(b,x)∈aQ t R):∃j,1<=j/\j<=14/\b=rt t j/\∃sz es,x=.blk sz es/\∀t',(rt t' j,x)∈aQ t' R:=by
 obtain⟨j,h1,h2,h3,h4⟩:=js h
 refine⟨j,h1,?_,h3,h4⟩
 have:(iE R).length<=14:=by
  cases R<;>simp only[okR,x0a,x0d,x0n]at hok<;>first|exact hok.1|simp[iE]
 omega
theorem uV{R:D}(hok:okR R=true):∀d∈iE R,wZ d=true:=by
 cases R<;>simp only[okR,x0a,x0n,x0f]at hok<;>first|exact hok.2|(intro d hd;simp only[iE,x0M,x1o,or_false]at hd;subst hd;rfl)
theorem u9(hC:bD P F C)(h:SR F nt S L w0 M0 f M a w)(hL:∀t i,i<15->L (rt t i)=none){t:Nat}(hd:o.dst=some t)(ht:t<nt){g fi:Nat}{xs:List Opd}{ys:Array Operand}{ts:Array TypeId}(ho:o.op=.call { callee:=.value (.func fi),args:=ys,argTypes:=ts })(hx:bC F xs ys.toList=true)
  (hg:F g=some fi) (hr:(∀x∈xs,isV (vd f x)=true)/\∃R,okR R=true/\C g (xs.map (vd f)) R [.nils]/\K ((t,eL t R)::aQ t R) (en t R)):o.wp P a w (PostX F nt S L w0 M0 f K) Q:=by
 obtain⟨hxs,R,hok,hc,hK⟩:=hr
 have hrun:(execOp a.eval o).run P w=(callFunc fi (ys.toList.map a.eval).toArray).run P w:=by
  simp only[execOp,ho,resolve,Act.eval,Deferred.ofValue,Sem.run_bind,Sem.run_pure,Result.andThen_ok,invoke]
  congr 2
  rw[Array.append_empty,x1l]
  apply Array.ext'
  simp
 have hrep:aq F M (xs.map (vd f)) (ys.toList.map a.eval):=by
  have h1:=fm h hx (by rw[x0f];exact hxs)
  rwa[x0m (g:=vd f) fun x hx'=>by unfold dpv;exact(gK (hxs x hx')).1]at h1
 obtain⟨ρ,ω,hO⟩:=h.own
 have ht10:t<10000:=x1D ht h.hnt
 unfold Oper.wp
 rw[hrun,cb (hC.body g fi hg),Oper.upon_enter]
 refine(hC.runsA g fi _ R hg hc M w _ h.holds hrep).mono ?_
 rintro e w' ⟨v,M',ρ',ω',us,rfl,hb,hM,hfr,hh,hsh,hrl,hroot,hω',hap'⟩
 rw[hd]
 refine⟨_,_,M',hK,?_⟩
 have mem:∀b,((aQ t R).any fun q=>q.1==b)=true↔∃x,(b,x)∈aQ t R:=fun b=>by
  simp only[x0O,x0o]
  constructor
  ·rintro⟨⟨c,x⟩,h1,rfl⟩;exact⟨x,h1⟩
  ·rintro⟨x,h1⟩;exact⟨(b,x),h1,rfl⟩
 obtain⟨ρ2,hρ2⟩:∃ρ2:Pa->Loc,ρ2=fun p=>if ((aQ t R).any fun q=>q.1==p.root)=true then ρ' (p.to (p.root-16*t)) else ρ p:=⟨_,rfl⟩
 obtain⟨ω2,hω2⟩:∃ω2:Nat->Option Pa,ω2=fun k=>match ω' k with
  | some q=>some (q.to (q.root+16*t))
  | none=>match ω k with
   | some p=>if ((aQ t R).any fun q=>q.1==p.root)=true then none else some p
   | none=>none:=⟨_,rfl⟩
 have r1:∀p:Pa,(∃x,(p.root,x)∈aQ t R)->ρ2 p=ρ' (p.to (p.root-16*t)):=fun p hp=>by rw[hρ2];simp only[(mem _).2 hp,if_true]
 have r2:∀p:Pa,¬(∃x,(p.root,x)∈aQ t R)->ρ2 p=ρ p:=fun p hp=>by
  rw[hρ2]
  have:¬((aQ t R).any fun q=>q.1==p.root)=true:=fun e=>hp ((mem _).1 e)
  simp only[if_neg this]
 have o1:∀k q,ω' k=some q->ω2 k=some (q.to (q.root+16*t)):=fun k q e=>by rw[hω2];simp only[e]
 have oldnew:∀k p q,ω k=some p->ω' k≠some q:=fun k p q e e'=>by
  have:=hO.lt k p e
  have:=(hω' k q e').1
  omega
 have o2:∀k p,ω k=some p->¬(∃x,(p.root,x)∈aQ t R)->ω2 k=some p:=fun k p e hp=>by
  have e1:ω' k=none:=by
   cases e2:ω' k with
   | none=>rfl
   | some q=>exact absurd e2 (oldnew k p q e)
  have:¬((aQ t R).any fun q=>q.1==p.root)=true:=fun e=>hp ((mem _).1 e)
  rw[hω2];simp only[e1,e,if_neg this]
 have o3:∀k p,ω2 k=some p->(∃q,ω' k=some q)\/ω k=some p:=fun k p e=>by
  rw[hω2]at e
  simp only at e
  cases e1:ω' k with
  | some q=>exact .inl ⟨q,rfl⟩
  | none =>
   rw[e1]at e
   simp only at e
   cases e2:ω k with
   | none=>rw[e2]at e;cases e
   | some p' =>
    rw[e2]at e
    simp only at e
    split at e
    ·cases e
    ·cases e;exact .inr rfl
 have hshift:∀j x,(rt 0 j,x)∈aQ 0 R->ρ2 (.r (rt t j))=ρ' (.r (rt 0 j)):=fun j x hx=>by
  obtain⟨j',h1,h2,h3,sz,es,h4,h5⟩:=gj hok hx
  have ej:j=j':=by unfold rt at h3;omega
  subst ej
  rw[r1 (.r (rt t j)) ⟨x,h5 t⟩]
  show ρ' (.r (rt t j-16*t))=_
  have:rt t j-16*t=rt 0 j:=by unfold rt;omega
  rw[this]
 have lkn:∀s,s≠t->¬(∃x,(s,x)∈aQ t R)->((t,eL t R)::aQ t R).lookup s=none:=fun s h1 h2=>by
  have e1:(s==t)=false:=by simpa using h1
  simp only[x0i,e1]
  exact sr fun y hy=>h2 ⟨y,hy⟩
 have small:∀s,s<10000->¬(∃x,(s,x)∈aQ t R):=fun s hs ⟨x,hx⟩=>by
  obtain⟨j,_,_,h3,_⟩:=gj hok hx
  unfold rt at h3;omega
 refine⟨h.hnt,by simp[Act.put,h.size],by simp[Act.put,h.defers],h.ch.trans (Ch.of_below hb (fun _=>False)) (fun _ _ e=>e.elim),hh,Mem.le_trans h.ext hM,fun p h1 h2=>?_,ρ2,ω2,hO.step (ks:=en t R) (fun p hp=>?_) hM hb.size (fun s hs=>?_) (fun c hc=>?_) (fun k p e=>?_) (fun p q e=>?_) (fun c l hc hl hB=>?_)⟩
 ·by_cases e:M p=none
  ·exact .inr (x1h h.ch.size (hfr p e h2))
  ·exact h.fresh p h1 e
 ·by_cases e:∃x,(p.root,x)∈aQ t R
  ·obtain⟨x,hx⟩:=e
   exact⟨(p.root,true),x0s.2 ⟨_,hx,rfl⟩,lI p⟩
  ·exact absurd (r2 p e) hp
 ·by_cases e:s=t
  ·right
   subst e
   have e1:eff ((s,eL s R)::aQ s R) (en s R) f s=eL s R:=aM (by simp)
   refine .inr ⟨v,getElem?_put_same (by rw[h.size];exact ht),?_⟩
   rw[e1]
   have hp:=uV hok
   cases R<;>simp only[okR,x0n]at hok
   case agg ds=>exact⟨us,hsh,iU hrl (fun j x hx=>hshift j x hx) hp⟩
   case tup ds=>exact⟨us,hsh,iU hrl (fun j x hx=>hshift j x hx) hp⟩
   all_goals
    have h3:=iU (t:=s) hrl (fun j x hx=>hshift j x hx) hp
    simp only[sO]at hsh
    subst hsh
    have h4:=h3.2 0 _ v rfl rfl
    exact h4
  ·left
   rcases bx (f:=f) (ks:=en t R) (lkn s e (small s hs))with h1|h1
   ·exact .inl h1
   ·exact .inr ⟨h1.1,getElem?_put e,h1.2⟩
 ·by_cases e:∃x,(c,x)∈aQ t R
  ·obtain⟨x,hx⟩:=e
   obtain⟨j,h1,h2,h3,sz,es,rfl,h5⟩:=gj hok hx
   right
   have hct:(c==t)=false:=by simp;omega
   have hlk:((t,eL t R)::aQ t R).lookup c=some (.blk sz es):=by
    simp only[x0i,hct]
    exact tq (fun y hy=>(fJ hx hy).symm) hx
   have ec:c-16*t=rt 0 j:=by rw[h3];unfold rt;omega
   have ec2:rt 0 j+16*t=c:=by rw[h3];unfold rt;omega
   refine .inl ⟨sz,es,aM hlk,(hroot (rt 0 j) sz es (h5 0)).carry (Mem.le_refl _) (fun p hp=>?_)⟩
   refine⟨?_,fun e2=>⟨?_,rfl⟩⟩
   ·rw[r1 _ ⟨_,by rw[Pa.to_root];exact hx⟩,Pa.to_root,ec,Pa.to_to (rt 0 j) c p hp]
   ·rw[o1 _ _ e2,hp,ec2]
  ·left
   rcases bM (f:=f) (ks:=en t R) (lkn c (by omega) e)with h1|h1
   ·exact .inl h1
   ·refine .inr ⟨h1,fun p hp=>?_⟩
    have hpe:¬(∃x,(p.root,x)∈aQ t R):=by rw[hp];exact e
    exact⟨r2 p hpe,fun hw=>⟨o2 _ _ hw hpe,hb.block _ (hO.lt _ _ hw)⟩⟩
 ·rcases o3 k p e with ⟨q,e1⟩|e1
  ·exact .inr ⟨(hω' k q e1).2.1,.inr (x1h h.ch.size (hω' k q e1).1)⟩
  ·exact .inl ⟨p,e1⟩
 ·rcases o3 _ q e with ⟨q',e1⟩|e1
  ·exact hap' p q' e1
  ·cases e3:M' p with
   | none=>rfl
   | some u =>
    have h1:=hfr p (hO.apart p q e1) (by rw[e3];simp)
    have:=hO.lt _ _ e1
    omega
 ·by_cases e:∃x,(c,x)∈aQ t R
  ·obtain⟨x,hx⟩:=e
   obtain⟨j,h1,h2,h3,_⟩:=gj hok hx
   rw[h3,hL t j (by omega)]at hl;cases hl
  ·have hpe:¬(∃x,((Pa.r c).root,x)∈aQ t R):=e
   refine⟨r2 _ hpe,?_⟩
   rcases bM (f:=f) (ks:=en t R) (lkn c (by omega) e)with h1|h1
   ·rw[hB]at h1;cases h1
   ·rw[<- h1];exact hB
end
end Go.Gv

namespace Go.Gv
section
variable{P:Program}{F:Fid}{C:Nat->List D->D->List D->Prop}{nt:Nat}{S:Nat->Prop}{L:Nat->Option Loc}{w0:World}{M0:Mem}{f:Nat->D}{M:Mem}{a:Act}{w:World}{o:Oper}{d:D}{Q:Exit->Act->World->Prop}{ρ:Pa->Loc}{ω:Nat->Option Pa}{New:Nat->Prop}{K:List (Nat×D)->List (Nat×Bool)->Prop}
end
end Go.Gv
namespace Go.Gv
section
variable{P:Program}{F:Fid}{C:Nat->List D->D->List D->Prop}{nt:Nat}{S:Nat->Prop}{L:Nat->Option Loc}{w0:World}{M0:Mem}{f:Nat->D}{M:Mem}{a:Act}{w:World}{o:Oper}{d:D}{Q:Exit->Act->World->Prop}{ρ:Pa->Loc}{ω:Nat->Option Pa}{New:Nat->Prop}{K:List (Nat×D)->List (Nat×Bool)->Prop}
theorem mM{t:Nat}:∀{ds:List D} {i j:Nat},(bF t i ds)[j]? =(ds[j]?).map (fx t (i+j))
 | [],i,j=>by simp[bF]
 | d::ds,i,j=>by
  cases j with
  | zero=>simp[bF]
  | succ j =>
   simp only[bF,List.getElem?_cons_succ]
   rw[mM,show i+1+j=i+(j+1) by omega]
theorem mN{t:Nat}:∀{ds:List D} {i:Nat},(bF t i ds).length=ds.length
 | [],i=>rfl
 | d::ds,i=>by simp[bF,mN]
theorem lE{t b:Nat}{x:D}:∀{ds:List D} {i:Nat},(b,x)∈bB t i ds->∃j d,ds[j]? = some d/\(b,x)∈cx t (i+j) d
 | [],i,h=>by simp[bB]at h
 | d::ds,i,h=>by
  simp only[bB,x0l]at h
  rcases h with h|h
  ·exact⟨0,d,by simp,h⟩
  ·obtain⟨j,d',h1,h2⟩:=lE h
   exact⟨j+1,d',by simpa using h1,by rwa[show i+(j+1)=i+1+j by omega]⟩
theorem lF{t b:Nat}{x:D}:∀{ds:List D} {i j:Nat} {d:D},ds[j]? = some d->(b,x)∈cx t (i+j) d->(b,x)∈bB t i ds
 | [],i,j,d,h,_=>by simp at h
 | d0::ds,i,j,d,h,hx=>by
  simp only[bB,x0l]
  cases j with
  | zero=>simp at h;subst h;exact .inl hx
  | succ j=>exact .inr (lF (j:=j) (by simpa using h) (by rwa[show i+(j+1)=i+1+j by omega]at hx))
theorem mP{t j sz:Nat}{ds:List D}{es:List (List D)}(h:ds[j]? = some (.own sz es)):(rt t (1+j),D.blk sz es)∈bB t 1 ds:=lF h (by simp[cx])
theorem SR.unpack(h:SR F nt S L w0 M0 f M a w)(hL:∀t i,i<15->L (rt t i)=none){t:Nat}(ht:t<nt){c sz:Nat}{row:List D}(hg:f c=.blk sz [row])(hok:okR (.agg row)=true)(hcn:∀x,(c,x)∉aQ t (.agg row)){v:Value}
  (hv:∀ρ ω,Own F L (fun k=>S k\/w0.heap.size<=k) f M a w ρ ω->∃vs:List Value,v=.agg vs.toArray/\vs.length=row.length/\∀(j:Nat) (d:D) (u:Value),row[j]? = some d->vs[j]? = some u->ck F M ω ρ w c 0 j d u) :
  SR F nt S L w0 M0 (eff ((t,eL t (.agg row))::(c,.any)::aQ t (.agg row)) (en t (.agg row)) f) M (a.put (some t) v) w:=by
 obtain⟨ρ,ω,hO⟩:=h.own
 obtain⟨vs,hv1,hv2,hv3⟩:=hv ρ ω hO
 have hc10:10000<=c:=hO.big hg
 have ht10:t<10000:=x1D ht h.hnt
 have hct0:c≠t:=by omega
 obtain⟨R,hR⟩:∃R,R=D.agg row:=⟨_,rfl⟩
 rw[<- hR]at hok hcn ⊢
 have mem:∀b,((aQ t R).any fun q=>q.1==b)=true↔∃x,(b,x)∈aQ t R:=fun b=>by
  simp only[x0O,x0o]
  constructor
  ·rintro⟨⟨c,x⟩,h1,rfl⟩;exact⟨x,h1⟩
  ·rintro⟨x,h1⟩;exact⟨(b,x),h1,rfl⟩
 have inR:∀j sz es,row[j]? = some (.own sz es)->(rt t (1+j),D.blk sz es)∈aQ t R:=fun j sz es hj=>by
  rw[hR];exact mP hj
 have ofR:∀b x,(b,x)∈aQ t R->∃j sz es,b=rt t (1+j)/\row[j]? = some (.own sz es)/\x=.blk sz es:=fun b x hx=>by
  rw[hR]at hx
  obtain⟨j,d,hj,hd⟩:=lE hx
  have hj':j<vs.length:=by rw[hv2];exact(x0b.1 hj).1
  have hcell:=hv3 j d _ hj (x0e hj')
  cases d<;>simp only[cx,x0M,x1o,or_false,Prod.mk.injEq]at hd
  case own sz es=>exact⟨j,sz,es,hd.1,hj,hd.2⟩
  case blk sz es=>simp[ck,af]at hcell
 obtain⟨ρ2,hρ2⟩:∃ρ2:Pa->Loc,ρ2=fun p=>match p with
  | .r b=>if ((aQ t R).any fun q=>q.1==b)=true then ρ (.n c 0 (b-rt t 1)) else ρ p
  | .n _ _ _=>ρ p:=⟨_,rfl⟩
 obtain⟨ω2,hω2⟩:∃ω2:Nat->Option Pa,ω2=fun k=>match ω k with
  | some p=>if p.root=c then(match p with
    | .n _ i o=>if i=0/\((aQ t R).any fun q=>q.1==rt t (1+o))=true then some (.r (rt t (1+o))) else none
    | .r _=>none) else if ((aQ t R).any fun q=>q.1==p.root)=true then none else some p
  | none=>none:=⟨_,rfl⟩
 have r1:∀j x,(rt t (1+j),x)∈aQ t R->ρ2 (.r (rt t (1+j)))=ρ (.n c 0 j):=fun j x hx=>by
  rw[hρ2];simp only[(mem _).2 ⟨x,hx⟩,if_true]
  have:rt t (1+j)-rt t 1=j:=by unfold rt;omega
  rw[this]
 have r2:∀p:Pa,¬(∃x,(p.root,x)∈aQ t R)->ρ2 p=ρ p:=fun p hp=>by
  rw[hρ2]
  cases p with
  | r b =>
   have:¬((aQ t R).any fun q=>q.1==b)=true:=fun e=>hp ((mem _).1 e)
   simp only[if_neg this]
  | n b i o=>rfl
 have o1:∀k j x,ω k=some (.n c 0 j)->(rt t (1+j),x)∈aQ t R->ω2 k=some (.r (rt t (1+j))):=fun k j x e hx=>by
  rw[hω2];simp only[e,Pa.root,if_true,(mem _).2 ⟨x,hx⟩,and_self]
 have o2:∀k p,ω k=some p->p.root≠c->¬(∃x,(p.root,x)∈aQ t R)->ω2 k=some p:=fun k p e hpc hp=>by
  have:¬((aQ t R).any fun q=>q.1==p.root)=true:=fun e=>hp ((mem _).1 e)
  rw[hω2];simp only[e,if_neg hpc,if_neg this]
 have o3:∀k p,ω2 k=some p->∃q,ω k=some q:=fun k p e=>by
  rw[hω2]at e
  simp only at e
  cases e1:ω k with
  | some q=>exact⟨q,rfl⟩
  | none=>rw[e1]at e;cases e
 have lkn:∀s,s≠t->s≠c->¬(∃x,(s,x)∈aQ t R)->((t,eL t R)::(c,D.any)::aQ t R).lookup s=none:=fun s h1 h2 h3=>by
  have e1:(s==t)=false:=by simpa using h1
  have e2:(s==c)=false:=by simpa using h2
  simp only[x0i,e1,e2]
  exact sr fun y hy=>h3 ⟨y,hy⟩
 have small:∀s,s<10000->¬(∃x,(s,x)∈aQ t R):=fun s hs ⟨x,hx⟩=>by
  obtain⟨j,_,_,h3,_⟩:=ofR s x hx
  unfold rt at h3;omega
 refine⟨h.hnt,by simp[Act.put,h.size],by simp[Act.put,h.defers],h.ch,h.holds,h.ext,h.fresh,ρ2,ω2,hO.step (ks:=en t R) (fun p hp=>?_) (Mem.le_refl _) (x0r _) (fun s hs=>?_) (fun b hb=>?_) (fun k p e=>.inl (o3 k p e)) (fun p q e=>?_) (fun b l hb hl hB=>?_)⟩
 ·by_cases e:∃x,(p.root,x)∈aQ t R
  ·obtain⟨x,hx⟩:=e
   exact⟨(p.root,true),x0s.2 ⟨_,hx,rfl⟩,lI p⟩
  ·exact absurd (r2 p e) hp
 ·by_cases e:s=t
  ·right
   subst e
   have e1:eff ((s,eL s R)::(c,D.any)::aQ s R) (en s R) f s=eL s R:=aM (by simp)
   refine .inr ⟨v,getElem?_put_same (by rw[h.size];exact ht),?_⟩
   rw[e1,hR]
   refine⟨vs,hv1,by rw[mN];exact hv2.symm,fun j d u h1 h2=>?_⟩
   rw[mM,x0j]at h1
   obtain⟨d',h1,rfl⟩:=h1
   have hcell:=hv3 j d' u h1 h2
   cases d'
   case own sz' es' =>
    simp only[fx,au]
    rw[r1 j _ (inR j _ _ h1)]
    exact hcell.1
   all_goals first|exact au.of_pure hcell|(simp[ck,af]at hcell;done)
  ·left
   rcases bx (f:=f) (ks:=en t R) (lkn s e (by omega) (small s hs))with h1|h1
   ·exact .inl h1
   ·exact .inr ⟨h1.1,getElem?_put e,h1.2⟩
 ·by_cases e:∃x,(b,x)∈aQ t R
  ·obtain⟨x,hx⟩:=e
   obtain⟨j,sz',es',h3,h4,rfl⟩:=ofR b x hx
   right
   have hct:(b==t)=false:=by simp;omega
   have hbc:b≠c:=fun e=>hcn _ (e▸hx)
   have hct2:(b==c)=false:=by simpa using hbc
   have hlk:((t,eL t R)::(c,D.any)::aQ t R).lookup b=some (.blk sz' es'):=by
    simp only[x0i,hct,hct2]
    exact tq (fun y hy=>(fJ hx hy).symm) hx
   refine .inl ⟨sz',es',aM hlk,?_⟩
   have hj':j<vs.length:=by rw[hv2];exact(x0b.1 h4).1
   have hcell:=hv3 j _ _ h4 (x0e hj')
   subst h3
   have e1:=r1 j _ hx
   unfold cS bR
   rw[e1]
   rcases hcell.2 with h5|⟨h5,h6,us,T,g1,g2,g3,g4,g5⟩
   ·exact .inl h5
   ·refine .inr ⟨o1 _ j _ h5 hx,h6,us,T,g1,g2,g3,g4,fun i r off d k1 k2=>?_⟩
    obtain⟨u,k3,k4⟩:=g5 i r off d k1 k2
    refine⟨u,k3,?_⟩
    cases d
    case own=>simp[af]at k4
    all_goals exact k4
  ·by_cases ebc:b=c
   ·subst ebc
    refine .inl (.inl ?_)
    have hct:(b==t)=false:=by simp;omega
    rw[aM (d:=.any) (by simp[x0i,hct])]
    rfl
   ·left
    rcases bM (f:=f) (ks:=en t R) (lkn b (by omega) ebc e)with h1|h1
    ·exact .inl h1
    ·refine .inr ⟨h1,fun p hp=>?_⟩
     have hpe:¬(∃x,(p.root,x)∈aQ t R):=by rw[hp];exact e
     exact⟨r2 p hpe,fun hw=>⟨o2 _ _ hw (by rw[hp];exact ebc) hpe,rfl⟩⟩
 ·obtain⟨q',e1⟩:=o3 _ q e
  exact hO.apart p q' e1
 ·by_cases e:∃x,(b,x)∈aQ t R
  ·obtain⟨x,hx⟩:=e
   obtain⟨j,h1,h2,h3,_⟩:=gj hok hx
   rw[h3,hL t j (by omega)]at hl;cases hl
  ·have hct:(b==t)=false:=by simp;omega
   by_cases ebc:b=c
   ·subst ebc
    rw[aM (d:=.any) (by simp[x0i,hct])]at hB;cases hB
   ·refine⟨r2 _ e,?_⟩
    rcases bM (f:=f) (ks:=en t R) (lkn b (by omega) ebc e)with h1|h1
    ·rw[hB]at h1;cases h1
    ·rw[<- h1];exact hB
end
end Go.Gv

namespace Go.Gv
section
variable{P:Program}{F:Fid}{C:Nat->List D->D->List D->Prop}{nt:Nat}{S:Nat->Prop}{L:Nat->Option Loc}{w0:World}{M0:Mem}{f:Nat->D}{M:Mem}{a:Act}{w:World}{o:Oper}{d:D}{Q:Exit->Act->World->Prop}{ρ:Pa->Loc}{ω:Nat->Option Pa}{New:Nat->Prop}{K:List (Nat×D)->List (Nat×Bool)->Prop}
theorem vX{es rs:List (List D)}{k:Nat}(h:k+rs.length<=es.length):(io es k rs).length=es.length:=by
 simp only[io,x0L,x09,x1B];omega
theorem vW{es rs:List (List D)}{k i:Nat}(h:k+rs.length<=es.length):(io es k rs)[i]? = if k<=i/\i<k+rs.length then rs[i-k]? else es[i]?:=by
 unfold io
 have hl:(es.take k).length=k:=by simp;omega
 by_cases h1:i<k
 ·rw[if_neg (by omega),x1t,x0t (by omega),x0B h1]
 ·by_cases h2:i<k+rs.length
  ·rw[if_pos (by omega),x1t,x0v (by omega),hl,x0t (by omega)]
  ·rw[if_neg (by omega),x0v (by rw[x0L,hl];omega),x0L,hl,x0u]
   congr 1;omega
theorem vY{es rs:List (List D)}{k:Nat}{e:List D}(he:e∈io es k rs):e∈rs\/e∈es:=by
 unfold io at he
 rcases x0l.1 he with he|he
 ·rcases x0l.1 he with he|he
  ·exact .inr (x0E he)
  ·exact .inl he
 ·exact .inr (x03 he)
def ov(P:Program)(t sz:Nat):Bool:=match P.underlying t with
 | some (.slice e)=>(match P.info? e with
  | some i=>i.size==sz
  | none=>false)
 | _=>false
theorem xt{T T2 sz:Nat}{ty:TypeId}(hk:ov P T sz=true){g o n m cap cap2:Nat}{ad:Addr}{cur news:List Value}{T0:TypeId}(hg:w.heap[g]? = some (.cells cur.toArray T0 (0,0)))(hl:o+min m n*sz<=cur.length)
  (hnl:news.length=m*sz) (hnews:∀j u,news[j]? = some u->w.cell? (ad.add j)=some u) (hone:∀u∈news,u.oneCell'=true) :
  ∃w',(Builtin.copy_ #[T,T2] ty #[.slice (some ⟨g,o,none⟩) n cap,.slice (some ad) m cap2]).run P w=.ok (.int .i64 (min m n:Nat)) w'/\w'.heap[g]? = some (.cells (cur.take o++news.take (min m n*sz)++cur.drop (o+min m n*sz)).toArray T0 (0,0))/\Ch (fun k=>k=g) w w':=by
 unfold ov at hk
 split at hk
 ·rename_i e hu
  split at hk
  ·rename_i i hi
   have hsz:i.size=sz:=by simpa using hk
   have hle:min m n*sz<=m*sz:=x0h _ (Nat.min_le_left _ _)
   have hnl2:(news.take (min m n*sz)).length=min m n*sz:=by rw[x09];omega
   obtain⟨w',e1,e2,e3,e4,e5,e6,e7,e8⟩:=cC (P:=P) g T0 o (news.take (min m n*sz)) 0 cur w hg (by rw[hnl2];omega) (fun v hv=>hone v (x0E hv))
   refine⟨w',?_,by rw[e2];simp only[x0U,hnl2],⟨e5,e6,e7,by omega,fun k _ hk=>e3 k hk,by omega⟩⟩
   have hld:=run_loadCells_list (P:=P) w ad (news.take (min m n*sz)) (fun j v hj=>hnews j v (by rw[x04]at hj;split at hj;exact hj;cases hj))
   rw[hnl2]at hld
   have hmn:Nat.min m n=min m n:=rfl
   simp[Builtin.copy_,run_underlying hu,sizeOf,typeInfo,hi,Builtin.lenOf,Builtin.firstCells,hsz,hmn,hld,e1,goInt]
  ·cases hk
 ·cases hk
theorem u4{T T2 sz:Nat}{ty:TypeId}(hk:ov P T sz=true)(A:Option Addr)(cap:Nat)(ad:Addr)(m cap2:Nat):(Builtin.copy_ #[T,T2] ty #[.slice A 0 cap,.slice (some ad) m cap2]).run P w=.ok (.int .i64 0) w:=by
 unfold ov at hk
 split at hk
 ·rename_i e hu
  split at hk
  ·rename_i i hi
   have hmn:Nat.min m 0=0:=Nat.min_zero m
   cases A<;>simp[Builtin.copy_,run_underlying hu,sizeOf,typeInfo,hi,Builtin.lenOf,Builtin.firstCells,hmn,loadCells,loadCellsFrom,storeCells,goInt]
  ·cases hk
 ·cases hk
theorem Ao(h:SR F nt S L w0 M0 f M a w){t:Nat}(hd:o.dst=some t)(ht:t<nt){sz:Nat}{x y:Opd}{x' y':Operand}{T T2:TypeId}(ho:o.op=.call { callee:=.builtin .copy,args:=#[x',y'],argTypes:=#[T,T2] })(hx:ai F x x'=true)(hy:ai F y y'=true)(hk:ov P T sz=true)
  (hr:eP f false (vd f y) sz fun rows bs=>bs=[]/\0<rows.length/\match vd f x with
   | .ref (.r b) k n=>(n=0->K [(t,.int .i64 0)] [])/\(0<n->match f b with
    | .blk sz' es=>sz'=sz/\k+n<=es.length/\(∀e∈es,∀c∈e,az c=true)/\(∀e∈rows,∀c∈e,az c=true)/\K [(t,.int .i64 (min rows.length n:Nat)),(b,.blk sz (io es k (rows.take n)))] []
    | _=>False)
   | _=>False):o.wp P a w (PostX F nt S L w0 M0 f K) Q:=by
 obtain⟨ρ,ω,hO⟩:=h.own
 obtain⟨rows,bs,c2,⟨hbs0,hrl,hr⟩,hbs,_,huY,A2,m,cap2,news,ey,hm,hnl,hA2,hone,hY⟩:=nw h hO hy hr
 have hc2:c2=none:=by
  rw[hbs0]at hbs
  cases c2 with
  | none=>rfl
  | some c=>simp at hbs
 subst hc2
 have hv:=hO.opd hx
 split at hr
 ·rename_i b k n hvx
  rw[hvx,am rfl]at hv
  obtain⟨ad0,hA0,_⟩:=hA2 (by omega)
  rcases x0R n with hn|hn
  ·have hK:=hr.1 hn
   subst hn
   have hv0:∃A cap,a.eval x'=.slice A 0 cap:=by
    simp only[au]at hv
    rcases hv with ⟨_,A,e⟩|⟨cap,e,_⟩
    ·exact⟨A,0,e⟩
    ·exact⟨_,cap,e⟩
   obtain⟨A,cap,hv0⟩:=hv0
   refine postX_val hd (v:=.int .i64 0) (w':=w) ?_ hK (h.put ht (fun ρ ω _=>by rw[am rfl];simp only[au,af]))
   subst hA0
   have e1:=u4 (P:=P) (w:=w) (T2:=T2) (ty:=o.type) hk A cap ad0 m cap2
   simp only[execOp,ho,resolve,invoke,builtin,x1C,x0I,x0Y,Sem.run_bind,Sem.run_pure,Result.andThen_ok,hv0,ey,e1]
  have hr:=hr.2 hn
  split at hr
  ·rename_i sz' es hf
   obtain⟨rfl,hkn,hes1,hrow1,hK⟩:=hr
   have hb:=hO.big hf
   have hgp:aR f (.r b)=some (sz',es):=by simp[aR,hf]
   obtain⟨ad,rfl,hnews⟩:=hA2 (by omega)
   rcases fw hO hgp hkn hv (fun e he c hc=>cy (hes1 e (x03 (x0E he)) c hc))with ⟨A,hv,hn0⟩|⟨cap,us,T0,hv,⟨hcap,hmc⟩,hcl,hω,g0,g1,g2,g4,g5⟩
   ·omega
   ·have hrows:jb w (ρ (.r b)) sz' es (fun i off d v=>ck F M ω ρ w b i off d v):=by
     rcases hO.roots b sz' es hb hf with ⟨e0,_⟩|⟨_,hr⟩
     ·rw[e0]at hkn;simp at hkn;omega
     ·exact hr
    obtain⟨q0,us0,T1,q1,q2,q3,q4,q5⟩:=id hrows
    rw[g1]at q1
    simp only[x0k,Obj.cells.injEq,and_true]at q1
    obtain⟨q1,rfl⟩:=q1
    obtain rfl:us=us0:=by simpa using congrArg Array.toList q1
    have hle:k*sz'+n*sz'<=es.length*sz':=by rw[<- x0A];exact x0h _ hkn
    have hmn:min m n*sz'<=n*sz':=x0h _ (Nat.min_le_right _ _)
    obtain⟨w',e1,e2,e3⟩:=xt (P:=P) (w:=w) (T2:=T2) (ty:=o.type) hk (m:=m) (n:=n) (cap:=cap) (cap2:=cap2) (o:=(ρ (.r b)).base+k*sz') g1 (by rw[g2];omega) hnl hnews hone
    have hmin:(rows.take n).length=min m n:=by rw[x09,hm,Nat.min_comm]
    have hfit:k+(rows.take n).length<=es.length:=by rw[hmin];omega
    have hml:min m n*sz'<=m*sz':=x0h _ (Nat.min_le_left _ _)
    have hN:(news.take (min m n*sz')).length=min m n*sz':=by rw[x09];omega
    have hfill:=h.fill hO hf hω hrows (es':=io es k (rows.take n)) (us:=us.take ((ρ (.r b)).base+k*sz')++news.take (min m n*sz')++us.drop ((ρ (.r b)).base+k*sz'+min m n*sz')) (w':=w') (Nat.le_of_eq (vX hfit)) (fun e he=>by
     rcases vY he with he|he
     ·have he:=x0E he
      exact⟨huY e he,hrow1 e he⟩
     ·exact⟨g4 e he,hes1 e he⟩) e3 e2 (by simp only[x0L,x09,x1B]at hN ⊢;omega) (fun i r off d h1 h2=>by
     have hget:=fun x=>cp (vs:=us) (us:=news.take (min m n*sz')) (q:=(ρ (.r b)).base+k*sz') (n:=min m n*sz') (x:=x) hN (by omega)
     rw[vW hfit,hmin]at h1
     split at h1
     ·rename_i hi
      have hil:i-k<(rows.take n).length:=by rw[hmin];omega
      have hin:i-k<n:=by rw[hmin]at hil;omega
      rw[x0B hin]at h1
      obtain⟨u,k1,k2⟩:=hY (i-k) r off d h1 h2
      have hof:off<sz':=by rw[<- huY r (x0c h1)];exact(x0b.1 h2).1
      have h3:=eG (sz:=sz') (show i-k<min m n by omega) hof
      have h4:(i-k)*sz'+k*sz'=i*sz':=by rw[<- x0A];congr 1;omega
      refine⟨u,?_,k2.2⟩
      rw[hget,if_pos (by omega),show(ρ (.r b)).base+i*sz'+off-((ρ (.r b)).base+k*sz')=(i-k)*sz'+off by omega,x0B h3]
      exact k1
     ·rename_i hi
      obtain⟨u,k1,k2⟩:=q5 i r off d h1 h2
      have hof:off<sz':=by rw[<- g4 r (x0c h1)];exact(x0b.1 h2).1
      rw[aZ (cy (hes1 r (x0c h1) d (x0c h2)))]at k2
      refine⟨u,?_,k2⟩
      have h5:¬((ρ (.r b)).base+k*sz'<=(ρ (.r b)).base+i*sz'+off/\(ρ (.r b)).base+i*sz'+off<(ρ (.r b)).base+k*sz'+min m n*sz'):=by
       rintro⟨h6,h7⟩
       rcases x1i i k with h8|h8
       ·have:=eG (sz:=sz') h8 hof;omega
       ·have h9:(k+min m n)*sz'<=i*sz':=x0h _ (by omega)
        rw[x0A]at h9;omega
      rw[hget,if_neg h5]
      exact k1)
    obtain⟨_,_,_,_,hs⟩:=hfill
    have hs2:=hs.put (t:=t) (d:=.int .i64 (min rows.length n:Nat)) (v:=.int .i64 (min m n:Nat)) ht (fun _ _ _=>by rw[am rfl,hm];simp only[au,af])
    refine dO (v:=.int .i64 (min m n:Nat)) (w':=w') ?_ ?_
    ·simp only[execOp,ho,resolve,invoke,builtin,x1C,x0I,x0Y,Sem.run_bind,Sem.run_pure,Result.andThen_ok,hv,ey,e1]
    ·rw[hd]
     refine⟨_,_,M,hK,?_⟩
     have:eff [(t,D.int .i64 (min rows.length n:Nat)),(b,D.blk sz' (io es k (rows.take n)))] [] f=eff [(t,.int .i64 (min rows.length n:Nat))] [] (eff [(b,.blk sz' (io es k (rows.take n)))] [] f):=by
      funext s
      unfold eff
      by_cases h1:s=t
      ·subst h1;simp
      ·have e1:(s==t)=false:=by simpa using h1
       simp only[x0i,e1,x0Z,aD,List.any_nil,x0n,if_false]
     rw[this]
     exact hs2
  ·exact hr.elim
 ·exact hr.elim
end
end Go.Gv

namespace Go.Gv
section
variable{P:Program}{F:Fid}{C:Nat->List D->D->List D->Prop}{nt:Nat}{S:Nat->Prop}{L:Nat->Option Loc}{w0:World}{M0:Mem}{f:Nat->D}{M:Mem}{a:Act}{w:World}{o:Oper}{d:D}{Q:Exit->Act->World->Prop}{ρ:Pa->Loc}{ω:Nat->Option Pa}{New:Nat->Prop}{K:List (Nat×D)->List (Nat×Bool)->Prop}
theorem vR{d:D}(h:az d=true):aU d=d:=by cases d<;>first|rfl|(simp[az]at h)
theorem SR.frzA(h:SR F nt S L w0 M0 f M a w){t:Nat}(ht:t<10000){c sz:Nat}{row:List D}(hft:f t=.adr (.r c) 0 0)(hfc:f c=.blk sz [row])(hrow:∀d∈row,az d=true) :
  ∃M',SR F nt S L w0 M0 (eff [(t,.ptr row),(c,.any)] [] f) M' a w:=by
 obtain⟨ρ,ω,hO⟩:=h.own
 have gp:aR f (.r c)=some (sz,[row]):=by simp only[aR,hfc]
 have hc:10000<=c:=bX hO gp
 have hO1:=hO.only hc
 have e1:aR (fcE f c) (.r c)=aR f (.r c):=uF 0
 obtain⟨v,hv1,hv2⟩:∃v,a.tmps[t]? = some v/\aT F M ρ (f t) v:=by
  rcases hO.slots t ht with g|g
  ·rw[hft]at g;cases g
  ·exact g
 rw[hft,am rfl]at hv2
 have hr:=mE hO1 hv2 (by simp only[aN,e1,gp])
 have ed:dp1 (fcE f c) (.adr (.r c) 0 0)=.ptr row:=by
  simp only[dp1,e1,gp,x0X,x1r,List.drop_zero]
  congr 1
  conv=>rhs;rw[<- List.map_id row]
  exact x0m fun d hd=>vR (hrow d hd)
 rw[ed]at hr
 have hle:M.le (bL (dS ω c) M w):=cw hO1
 have hE:=hO.erase hc
 have hf':∀s,eff [(t,.ptr row),(c,.any)] [] f s=if s=t then .ptr row else fbE f c s:=fun s=>by
  unfold eff fbE
  by_cases e:s=t
  ·subst e;simp
  ·have b1:(s==t)=false:=by simpa using e
   by_cases e2:s=c
   ·subst e2
    simp only[List.lookup,b1,beq_self_eq_true,if_neg e,if_true]
   ·have b2:(s==c)=false:=by simpa using e2
    simp only[List.lookup,b1,b2,if_neg e,if_neg e2]
    simp[aD]
 refine⟨bL (dS ω c) M w,⟨h.hnt,h.size,h.defers,h.ch,cl h.holds,Mem.le_trans h.ext hle,fun p h1 h2=>?_,ρ,jY ω c,?_⟩⟩
 ·by_cases e:M p=none
  ·unfold bL at h2
   split at h2
   ·rename_i q hq
    exact hO.new _ _ (cN hq).1
   ·exact absurd e h2
  ·exact h.fresh p h1 e
 ·refine hE.step (ks:=[]) (fun p hp=>absurd rfl hp) hle (x0r _) (fun s hs=>?_) (fun b hb=>?_) (fun k p e=>.inl ⟨p,e⟩) (fun p q e=>?_) (fun b l hb hl hB=>?_)
  ·rw[hf']
   by_cases e:s=t
   ·subst e
    rw[if_pos rfl]
    refine .inr (.inr ⟨v,hv1,?_⟩)
    rw[hf',if_pos rfl,am rfl]
    exact hr
   ·rw[if_neg e]
    exact .inl (.inr ⟨rfl,rfl,by simp[aD]⟩)
  ·have:b≠t:=by omega
   rw[hf',if_neg this]
   exact .inl (.inr ⟨rfl,fun p hp=>⟨rfl,fun hw=>⟨hw,rfl⟩⟩⟩)
  ·obtain⟨e2,e3⟩:=fj e
   have e4:dS ω c p.block=none:=by
    simp only[dS,e2,if_neg e3]
   simp only[bL,e4]
   exact hO.apart p q e2
  ·have:b≠t:=by omega
   rw[hf',if_neg this]at hB
   exact⟨rfl,hB⟩
theorem Aw(h:SR F nt S L w0 M0 f M a w){x y:Opd}{x' y':Operand}{t:TypeId}(ho:o.op=.store t x' y')(hx:ai F x x'=true)(hy:ai F y y'=true)(hk:ic P t 1=true)
  (hr:aC C f o.dst K (.stP x y)):o.wp P a w (PostX F nt S L w0 M0 f K) Q:=by
 simp only[aC]at hr
 obtain⟨hd,hr⟩:=hr
 split at hr
 ·rename_i s
  obtain⟨hs,hr⟩:=hr
  split at hr
  ·rename_i c i0 o0 hfs
   obtain⟨rfl,rfl,hr⟩:=hr
   split at hr
   ·rename_i sz row hfc
    obtain⟨hrow,hr⟩:=hr
    split at hr
    ·rename_i b i1 o1 i off ex
     obtain⟨hbc,hr⟩:=hr
     split at hr
     ·rename_i sz0 es0 hb
      obtain⟨row0,h1,sz1,es,h2,r,h3,h4,hK⟩:=hr
      obtain⟨ρ,ω,hO⟩:=h.own
      have hc:10000<=c:=bX hO (show aR f (.r c)=some (sz,[row]) by simp only[aR,hfc])
      have hb0:10000<=b:=bX hO (show aR f (.r b)=some (sz0,es0) by simp only[aR,hb])
      obtain⟨M',h'⟩:=h.frzA hs hfs hfc hrow
      have look1:eff [(s,.ptr row),(c,.any)] [] f s=.ptr row:=by simp[eff]
      have lookb:eff [(s,.ptr row),(c,.any)] [] f b=f b:=by
       have b1:(b==s)=false:=by simp;omega
       have b2:(b==c)=false:=by simpa using hbc
       simp[eff,List.lookup,b1,b2,aD]
      have lookx:vd (eff [(s,.ptr row),(c,.any)] [] f) x=.adr (.n b i1 o1) i off:=by
       cases x with
       | c d=>exact ex
       | t q =>
        simp only[vd]at ex ⊢
        have q1:q≠s:=fun e=>by rw[e,hfs]at ex;cases ex
        have q2:q≠c:=fun e=>by rw[e,hfc]at ex;cases ex
        have b1:(q==s)=false:=by simpa using q1
        have b2:(q==c)=false:=by simpa using q2
        simp[eff,List.lookup,b1,b2,aD,ex]
      refine Oper.wp_mono ?_ (xL (C:=C) (K:=fun ws ks=>ws=[(b,.blk sz0 (aV es0 i1 o1 1 [.own sz1 (aV es i off 1 [.ptr row])]))]/\ks=[]) (n:=1) (ns:=[]) h' hd ho hx hy hk ?_)
      ·rintro a' w' ⟨ws,ks,M2,⟨rfl,rfl⟩,h2⟩
       refine⟨_,_,M2,hK,?_⟩
       have e:eff [(b,.blk sz0 (aV es0 i1 o1 1 [.own sz1 (aV es i off 1 [.ptr row])]))] [] (eff [(s,.ptr row),(c,.any)] [] f)=eff [(b,.blk sz0 (aV es0 i1 o1 1 [.own sz1 (aV es i off 1 [.ptr row])])),(s,.ptr row),(c,.any)] [] f:=by
        funext q
        unfold eff
        simp only[List.lookup]
        cases e1:q==b<;>simp[aD]
       rw[<- e]
       exact h2
      ·have look2:vd (eff [(s,.ptr row),(c,.any)] [] f) (.t s)=.ptr row:=look1
       simp only[aC,look2,lookx,eT,cT,dP,if_true,true_or,true_and]
       refine⟨rfl,rfl,?_⟩
       refine⟨by simp[az],?_⟩
       rw[lookb,hb]
       exact⟨row0,h1,sz1,es,h2,r,h3,h4,rfl,trivial⟩
     ·exact hr.elim
    ·exact hr.elim
   ·exact hr.elim
  ·exact hr.elim
 ·exact hr.elim
end
end Go.Gv

namespace Go.Gv
section
variable{P:Program}{F:Fid}{C:Nat->List D->D->List D->Prop}{nt:Nat}{S:Nat->Prop}{L:Nat->Option Loc}{w0:World}{M0:Mem}{f:Nat->D}{M:Mem}{a:Act}{w:World}{o:Oper}{Q:Exit->Act->World->Prop}{K:List (Nat×D)->List (Nat×Bool)->Prop}
theorem SR.frzX(h:SR F nt S L w0 M0 f M a w){t:Nat}(ht:t<10000){c sz:Nat}{row ds:List D}{vs:List Value}(hft:f t=.adr (.r c) 0 0)(hfc:f c=.blk sz [row])
  (hrep:∀ρ ω,Own F L (fun k=>S k\/w0.heap.size<=k) f M a w ρ ω->cq F M ρ ds vs)
  (hcells:∀ρ ω,Own F L (fun k=>S k\/w0.heap.size<=k) f M a w ρ ω->∃(us:List Value) (T:TypeId),w.heap[(ρ (.r c)).blk]? = some (.cells us.toArray T (0,0))/\∀j v,vs[j]? = some v->us[(ρ (.r c)).base+j]? = some v) :
  ∃M',SR F nt S L w0 M0 (eff [(t,.ptx ds),(c,.any)] [] f) M' a w:=by
 obtain⟨ρ,ω,hO⟩:=h.own
 have gp:aR f (.r c)=some (sz,[row]):=by simp only[aR,hfc]
 have hc:10000<=c:=bX hO gp
 have hO1:=hO.only hc
 obtain⟨v,hv1,hv2⟩:∃v,a.tmps[t]? = some v/\aT F M ρ (f t) v:=by
  rcases hO.slots t ht with g|g
  ·rw[hft]at g;cases g
  ·exact g
 rw[hft,am rfl]at hv2
 simp only[au,x1s,x0U]at hv2
 have hω:ω (ρ (.r c)).blk=some (.r c):=by
  rcases hO.roots c sz [row] hc hfc with ⟨e0,_⟩|⟨h1,_⟩
  ·cases e0
  ·exact h1
 have hω1:dS ω c (ρ (.r c)).blk=some (.r c):=by simp[dS,hω,Pa.root]
 have hle:M.le (bL (dS ω c) M w):=cw hO1
 have hr:aT F (bL (dS ω c) M w) ρ (.ptx ds) v:=by
  obtain⟨us,T,h1,h2⟩:=hcells ρ ω hO
  have hL:=hrep ρ ω hO
  refine⟨_,vs,hv2,⟨hL.1,fun i d v e1 e2=>(hL.2 i d v e1 e2).mono hle⟩,fun j u hj=>?_⟩
  have:=ii (M:=M) (ω:=dS ω c) (o:=(ρ (.r c)).base) hω1 h1
  refine this j u ?_
  rw[x0u]
  exact h2 j u hj
 have hE:=hO.erase hc
 have hf':∀s,eff [(t,.ptx ds),(c,.any)] [] f s=if s=t then .ptx ds else fbE f c s:=fun s=>by
  unfold eff fbE
  by_cases e:s=t
  ·subst e;simp
  ·have b1:(s==t)=false:=by simpa using e
   by_cases e2:s=c
   ·subst e2
    simp only[List.lookup,b1,beq_self_eq_true,if_neg e,if_true]
   ·have b2:(s==c)=false:=by simpa using e2
    simp only[List.lookup,b1,b2,if_neg e,if_neg e2]
    simp[aD]
 refine⟨bL (dS ω c) M w,⟨h.hnt,h.size,h.defers,h.ch,cl h.holds,Mem.le_trans h.ext hle,fun p h1 h2=>?_,ρ,jY ω c,?_⟩⟩
 ·by_cases e:M p=none
  ·unfold bL at h2
   split at h2
   ·rename_i q hq
    exact hO.new _ _ (cN hq).1
   ·exact absurd e h2
  ·exact h.fresh p h1 e
 ·refine hE.step (ks:=[]) (fun p hp=>absurd rfl hp) hle (x0r _) (fun s hs=>?_) (fun b hb=>?_) (fun k p e=>.inl ⟨p,e⟩) (fun p q e=>?_) (fun b l hb hl hB=>?_)
  ·rw[hf']
   by_cases e:s=t
   ·subst e
    rw[if_pos rfl]
    refine .inr (.inr ⟨v,hv1,?_⟩)
    rw[hf',if_pos rfl]
    exact hr
   ·rw[if_neg e]
    exact .inl (.inr ⟨rfl,rfl,by simp[aD]⟩)
  ·have:b≠t:=by omega
   rw[hf',if_neg this]
   exact .inl (.inr ⟨rfl,fun p hp=>⟨rfl,fun hw=>⟨hw,rfl⟩⟩⟩)
  ·obtain⟨e2,e3⟩:=fj e
   have e4:dS ω c p.block=none:=by
    simp only[dS,e2,if_neg e3]
   simp only[bL,e4]
   exact hO.apart p q e2
  ·have:b≠t:=by omega
   rw[hf',if_neg this]at hB
   exact⟨rfl,hB⟩
theorem m9{M:Mem}{ρ:Pa->Loc}{d:D}{ds:List D}{v:Value}(h:gw d=some ds)(hr:aT F M ρ d v)(h1:ds.all qv=true):cq F M ρ ds v.cells.toList/\∀u∈v.cells.toList,u.oneCell'=true:=by
 have one:∀{x:D} {u:Value},qv x=true->au F M ρ x u->u.oneCell'=true:=fun{x u} hx hu=>by
  cases x
  case ref p k n =>
   simp only[au]at hu
   rcases hu with ⟨_,A,rfl⟩|⟨cap,rfl,_⟩<;>rfl
  case adr p i off =>
   simp only[au]at hu
   subst hu
   rfl
  all_goals first
   | (simp[qv,az]at hx;done)
   | exact oneCell_of hu (by simpa[qv]using hx)
 cases d
 case agx xs =>
  simp only[gw,x0k]at h
  subst h
  obtain⟨vs,rfl,hL⟩:=hr
  refine⟨by simpa[Value.cells]using hL,fun u hu=>?_⟩
  have hu':u∈vs:=by simpa[Value.cells]using hu
  obtain⟨j,hj,e⟩:=x0C.1 hu'
  have hj':j<xs.length:=by rw[hL.1];exact hj
  exact one (x0f.1 h1 _ (x0p hj')) (hL.2 j _ u (x0e hj') (by rw[<- e];exact x0e hj))
 case adr p i off =>
  simp only[gw,x0k]at h
  subst h
  rw[am rfl]at hr
  have hv:v.cells.toList=[v]:=by
   simp only[au]at hr
   subst hr
   rfl
  rw[hv]
  refine⟨⟨rfl,fun j d u e1 e2=>?_⟩,fun u hu=>?_⟩
  ·cases j with
   | zero=>simp at e1 e2;subst e1;subst e2;exact hr
   | succ j=>simp at e1
  ·simp at hu
   subst hu
   exact one rfl hr
 case int k n =>
  simp only[gw,x0k]at h
  subst h
  rw[am rfl]at hr
  have hv:v.cells.toList=[v]:=by
   simp only[au,af]at hr
   subst hr
   rfl
  rw[hv]
  refine⟨⟨rfl,fun j d u e1 e2=>?_⟩,fun u hu=>?_⟩
  ·cases j with
   | zero=>simp at e1 e2;subst e1;subst e2;exact hr
   | succ j=>simp at e1
  ·simp at hu
   subst hu
   exact one rfl hr
 case nilp =>
  simp only[gw,x0k]at h
  subst h
  rw[am rfl]at hr
  have hv:v.cells.toList=[v]:=by
   simp only[au,af]at hr
   subst hr
   rfl
  rw[hv]
  refine⟨⟨rfl,fun j d u e1 e2=>?_⟩,fun u hu=>?_⟩
  ·cases j with
   | zero=>simp at e1 e2;subst e1;subst e2;exact hr
   | succ j=>simp at e1
  ·simp at hu
   subst hu
   exact one rfl hr
 all_goals cases h
theorem Av(h:SR F nt S L w0 M0 f M a w){n:Nat}{x y:Opd}{x' y':Operand}{t:TypeId}(ho:o.op=.store t x' y')(hx:ai F x x'=true)(hy:ai F y y'=true)(hk:ic P t n=true)
  (hr:aC C f o.dst K (.stF n x y)):o.wp P a w (PostX F nt S L w0 M0 f K) Q:=by
 simp only[aC]at hr
 obtain⟨hd,hr⟩:=hr
 split at hr
 ·rename_i s
  obtain⟨hs,hr⟩:=hr
  split at hr
  ·rename_i c i0 o0 hfs
   obtain⟨rfl,rfl,hr⟩:=hr
   split at hr
   ·rename_i sz row hfc
    obtain⟨hrow,ds,hds,hdl,hd1,hK⟩:=hr
    obtain⟨ρ,ω,hO⟩:=h.own
    have hc:10000<=c:=bX hO (show aR f (.r c)=some (sz,[row]) by simp only[aR,hfc])
    have hxv:=hO.opd hx
    have hyv:=hO.opd hy
    obtain⟨hL,hone⟩:=m9 hds hyv hd1
    have hus:(a.eval y').cells.toList.length=n:=by rw[<- hL.1,hdl]
    have hus':(a.eval y').cells.size=n:=by simpa using hus
    simp only[vd]at hxv
    rw[hfs,am rfl]at hxv
    simp only[au]at hxv
    obtain⟨vs,T,hω,h0,hl,g1,g2,g3,g4⟩:=hO.row (p:=.r c) hc (show aR f (.r c)=some (sz,[row]) by simp[aR,hfc]) (i:=0) rfl
    rw[h0]at hxv
    obtain⟨w',k1,k2,k3,k4,k5,k6,k7⟩:=iJ (P:=P) (off:=(ρ (.r c)).base+0*sz+0) hk g1 hus' (by omega) hone
    have hst:=h.store hO (b:=c) (i:=0) (off:=0) (n:=n) (cs:=List.replicate n .any) (bs:=[]) (src:=fun _=>none) (ks:=[]) hfc rfl (by omega) (by simp) hus (lr g1 k2 k3 k4 k5 k6 k7)
     (fun j c u e1 e2=>.inl (by
      have:c=.any:=by
       rw[List.getElem?_replicate]at e1
       split at e1
       ·simpa using e1.symm
       ·cases e1
      subst this
      exact⟨rfl,by simp[af]⟩)) (fun j j' c e=>by cases e) (fun j c e=>by cases e) (by simp) (fun e=>by
      rw[x0O]at e
      obtain⟨x,hx,e⟩:=e
      rw[List.eq_of_mem_replicate hx]at e
      cases e)
    have look1:eff ((c,.blk sz (aV [row] 0 0 n (List.replicate n .any)))::bW []) [] f s=f s:=by
     have b1:(s==c)=false:=by simp;omega
     simp[eff,bW,List.lookup,b1,aD]
    have lookc:eff ((c,.blk sz (aV [row] 0 0 n (List.replicate n .any)))::bW []) [] f c=.blk sz (aV [row] 0 0 n (List.replicate n .any)):=by
     simp[eff,bW]
    obtain⟨row1,hrow1⟩:∃row1,aV [row] 0 0 n (List.replicate n .any)=[row1]:=by simp[aV]
    have hyok:vd (eff ((c,.blk sz (aV [row] 0 0 n (List.replicate n .any)))::bW []) [] f) y=vd f y:=by
     cases y with
     | c d=>rfl
     | t q =>
      simp only[vd]
      have q2:q≠c:=fun e=>by
       subst e
       simp only[vd,hfc,gw]at hds
       cases hds
      have b2:(q==c)=false:=by simpa using q2
      simp[eff,bW,List.lookup,b2,aD]
    have hrun:(execOp a.eval o).run P w=.ok .skip w':=by
     simp only[execOp,ho,hxv,Sem.run_bind,k1,Result.andThen_ok,Sem.run_pure]
    obtain⟨M',h'⟩:=hst.frzX (t:=s) hs (c:=c) (sz:=sz) (row:=row1) (ds:=ds) (vs:=(a.eval y').cells.toList) (by rw[look1,hfs]) (by rw[lookc,hrow1])
     (fun ρ' ω' hO'=>(m9 hds (by rw[<- hyok];exact hO'.opd hy) hd1).1)
     (fun ρ' ω' hO'=>by
      have e1:=hO'.opd hx
      simp only[vd]at e1
      rw[look1,hfs,am rfl]at e1
      simp only[au,x1s,x0U]at e1
      rw[hxv]at e1
      simp only[x1s,x0U,Value.pointer.injEq,x0k,Addr.mk.injEq]at e1
      refine⟨_,T,by rw[<- e1.1];exact k2,fun j v hj=>?_⟩
      rw[<- e1.2.1]
      simp only[x1s,x0U]
      have hj':j<n:=by rw[<- hus];exact(x0b.1 hj).1
      have hb:(ρ (.r c)).base<=vs.length:=by omega
      rw[x1t,x0v (by simp;omega),x0t (by simp;omega)]
      rw[<- hj]
      congr 1
      simp;omega)
    refine nN hrun ?_
    rw[hd]
    refine⟨_,_,M',hK,?_⟩
    have e:eff [(s,.ptx ds),(c,.any)] [] (eff ((c,.blk sz (aV [row] 0 0 n (List.replicate n .any)))::bW []) [] f)=eff [(s,.ptx ds),(c,.any)] [] f:=by
     funext q
     unfold eff
     simp only[List.lookup,bW,x0Y]
     cases e1:q==s<;>cases e2:q==c<;>simp[aD]
    rw[e]at h'
    simpa[Act.put]using h'
   ·exact hr.elim
  ·exact hr.elim
 ·exact hr.elim
end
end Go.Gv

namespace Go.Gv
open Go.RowKit
section
variable{P:Program}{F:Fid}{C:Nat->List D->D->List D->Prop}{nt:Nat}{S:Nat->Prop}{L:Nat->Option Loc}{w0:World}{M0:Mem}{f:Nat->D}{M M':Mem}{a:Act}{w w':World}{o:Oper}{d:D}{Q:Exit->Act->World->Prop}{ρ ρ':Pa->Loc}{ω ω':Nat->Option Pa}{New:Nat->Prop}{K:List (Nat×D)->List (Nat×Bool)->Prop}
theorem vh(hC:bD P F C)(h:SR F nt S L w0 M0 f M a w)(hp:∀t,o.dst=some t->t<nt){g fi:Nat}(hg:F g=some fi)(hO:Own F L (fun k=>S k\/w0.heap.size<=k) f M a w ρ ω){b sz:Nat}{es es':List (List D)}{W:List D}{vs:List Value}
  (hf:f b=.blk sz es) (hpos:0<es.length) (hc:C g (.blk sz es::W) d [.blk sz es',.nilp]) (hlen:vs.length=W.length)
  (hrep:∀ρ1:Pa->Loc,ρ1 (.r ap)=ρ (.r b)->∀(i:Nat) (d:D) (v:Value),W[i]? = some d->vs[i]? = some v->aT F M ρ1 d v)
  (hrun:(execOp a.eval o).run P w=(callFunc fi vs.toArray).run P w) (hK:K (fc o.dst d++[(b,.blk sz es')]) [(b,false)]):o.wp P a w (PostX F nt S L w0 M0 f K) Q:=by
 have hb:=hO.big hf
 have hroot:=hO.roots b sz es hb hf
 have hω:ω (ρ (.r b)).blk=some (.r b):=by
  rcases hroot with ⟨e0,_⟩|⟨hω,_⟩
  ·rw[e0]at hpos;simp at hpos
  ·exact hω
 obtain⟨ρ1,hρ1⟩:∃ρ1:Pa->Loc,ρ1=fun p=>ρ (p.to b):=⟨_,rfl⟩
 obtain⟨ω1,hω1⟩:∃ω1:Nat->Option Pa,ω1=fun k=>match ω k with
  | some p=>if p.root=b then some (p.to ap) else none
  | none=>none:=⟨_,rfl⟩
 have w1:∀k q,ω1 k=some q↔∃p:Pa,ω k=some p/\p.root=b/\q=p.to ap:=fun k q=>by
  rw[hω1]
  simp only
  constructor
  ·intro e
   split at e
   ·rename_i p hp
    split at e
    ·cases e;exact⟨p,hp,by assumption,rfl⟩
    ·cases e
   ·cases e
  ·rintro⟨p,e1,e2,rfl⟩
   simp only[e1,if_pos e2]
 have p1:∀p:Pa,p.root=b->ρ1 (p.to ap)=ρ p:=fun p hp=>by
  rw[hρ1]
  simp only
  rw[Pa.to_to b ap p hp]
 have lent:o5 F M w ρ1 ω1 ap sz es:=by
  refine⟨(w1 _ _).2 ⟨.r b,?_,rfl,rfl⟩,cS.carry hroot (Mem.le_refl _) (fun p hp=>⟨p1 p hp,fun e=>⟨(w1 _ _).2 ⟨p,e,hp,rfl⟩,rfl⟩⟩),fun k p e=>?_,fun k p e=>?_,fun p q e=>?_⟩
  ·have:=p1 (.r b) rfl
   simp only[Pa.to]at this
   rw[this];exact hω
  ·obtain⟨p',e1,_⟩:=(w1 _ _).1 e
   exact hO.lt _ _ e1
  ·obtain⟨p',_,_,rfl⟩:=(w1 _ _).1 e
   exact Pa.to_root _ _
  ·obtain⟨p',e1,_⟩:=(w1 _ _).1 e
   exact hO.apart p p' e1
 have e1:ρ1 (.r ap)=ρ (.r b):=p1 (.r b) rfl
 have hM:=hC.runsM g fi sz es _ d es' hg hc M w vs ρ1 ω1 h.holds hlen (hrep ρ1 e1) lent
 unfold Oper.wp
 rw[hrun,cb (hC.body g fi hg),Oper.upon_enter]
 refine hM.mono ?_
 rintro e0 w' ⟨v,M',ρ',ω',rfl,q1,q2,q3,q4,q5,q6,q7,q8⟩
 exact⟨_,_,M',hK,h.lend hO hf hb hω p1 w1 q1 q2 q3 q4 (by rw[q6,e1]) q7 q8 hp q5⟩
theorem vf(hC:bD P F C)(h:SR F nt S L w0 M0 f M a w)(hp:∀t,o.dst=some t->t<nt){g:Nat}{x:Opd}{xs:List Opd}{y:Operand}{ys:Array Operand}{ts:Array TypeId}(ho:o.op=.call { callee:=.value y,args:=ys,argTypes:=ts })(hx0:ai F x y=true)(hx:bC F xs ys.toList=true)
  (hr:match vd f x with
  | .fny g' [.adr (.r b) i off] cs=>g'=g/\i=0/\off=0/\cs.all isV=true/\match f b with
   | .blk sz es=>0<es.length/\(∀x∈xs,isV (vd f x)=true)/\∃d,∃es':List (List D),0<es'.length/\C g (.blk sz es::(xs.map (vd f)++.ptx [.adr (.r 10015) 0 0]::cs)) d [.blk sz es',.nilp]/\K (fc o.dst d++[(b,.blk sz es')]) [(b,false)]
   | _=>False
  | _=>False):o.wp P a w (PostX F nt S L w0 M0 f K) Q:=by
 split at hr
 ·rename_i g' b i off cs hvx
  obtain⟨rfl,rfl,rfl,hcs,hr⟩:=hr
  split at hr
  ·rename_i sz es hf
   obtain⟨hpos,hxs,d,es',hpos',hc,hK⟩:=hr
   obtain⟨ρ,ω,hO⟩:=h.own
   have hv:=hO.opd hx0
   rw[hvx]at hv
   obtain⟨fi,a',us,vs,hg,hv,r1,c1,r2⟩:=hv
   have hrep:aq F M (xs.map (vd f)) (ys.toList.map a.eval):=by
    have h1:=fm h hx (by rw[x0f];exact hxs)
    rwa[x0m (g:=vd f) fun x hx'=>by unfold dpv;exact(gK (hxs x hx')).1]at h1
   have hlen:=hrep.length.symm
   rw[x0f]at hcs
   refine vh hC h hp hg hO hf hpos hc (vs:=ys.toList.map a.eval++.pointer (some a')::vs) (by rw[x0L,x0L,x0Q,x0Q,hlen,r2.1]) (fun ρ1 e1 i d v k1 k2=>?_) ?_ hK
   ·by_cases hi:i<(xs.map (vd f)).length
    ·rw[x0t hi]at k1
     rw[x0t (by rw[<- hlen];exact hi)]at k2
     obtain⟨v',hv',rv⟩:=hrep.get k1
     rw[k2]at hv'
     cases hv'
     exact aT.of_pure rv
    ·rw[x0v (by omega)]at k1
     rw[x0v (by omega),<- hlen]at k2
     cases hj:i-(xs.map (vd f)).length with
     | zero =>
      rw[hj]at k1 k2
      simp at k1 k2
      subst k1;subst k2
      refine⟨a',us,rfl,⟨r1.1,fun i d u e2 e3=>?_⟩,c1⟩
      cases i with
      | zero =>
       have e4:=r1.2 0 _ u rfl e3
       simp at e2
       subst e2
       simp only[au]at e4 ⊢
       rw[show(10015:Nat)=ap from rfl,e1]
       exact e4
      | succ i=>simp at e2
     | succ j =>
      rw[hj]at k1 k2
      simp only[List.getElem?_cons_succ]at k1 k2
      exact aT.of_pure ((r2.2 j d v k1 k2).pure (hcs d (x0c k1)))
   ·simp only[execOp,ho,resolve,hv,Deferred.ofValue,Sem.run_bind,Sem.run_pure,Result.andThen_ok,invoke]
    congr 2
    rw[x1l]
    apply Array.ext'
    simp
  ·exact hr.elim
 ·exact hr.elim
end
end Go.Gv

namespace Go.Gv
open Go.RowKit
section
variable{P:Program}{F:Fid}{C:Nat->List D->D->List D->Prop}{nt:Nat}{S:Nat->Prop}{L:Nat->Option Loc}{w0:World}{M0:Mem}{f:Nat->D}{M M':Mem}{a:Act}{w w':World}{o:Oper}{d:D}{Q:Exit->Act->World->Prop}{ρ ρ':Pa->Loc}{ω ω':Nat->Option Pa}{New:Nat->Prop}{K:List (Nat×D)->List (Nat×Bool)->Prop}
theorem Own.know(h:Own F L New f M a w ρ ω){s:Nat}(hs:s<10000){v:Value}(hv:a.tmps[s]? = some v)(r:aT F M ρ d v)(hB:isB d=false):Own F L New (eff [(s,d)] [] f) M a w ρ ω:=by
 have key:∀t,t≠s->eff [(s,d)] [] f t=f t:=fun t ht=>by
  have e1:(t==s)=false:=by simpa using ht
  simp[eff,x0i,e1,aD]
 refine h.step (ks:=[]) (fun p hp=>absurd rfl hp) (Mem.le_refl _) (x0r _) (fun t ht=>?_) (fun c hc=>.inl (.inr ⟨key c (by omega),fun p _=>⟨rfl,fun e=>⟨e,rfl⟩⟩⟩)) (fun k p e=>.inl ⟨p,e⟩) h.apart (fun c l hc hl hB'=>⟨rfl,?_⟩)
 ·by_cases e:t=s
  ·subst e
   exact .inr (.inr ⟨v,hv,by rw[aM (d:=d) (by simp)];exact r⟩)
  ·exact .inl (.inr ⟨key t e,rfl,rfl⟩)
 ·rw[key c (by omega)]at hB';exact hB'
theorem SR.know(h:SR F nt S L w0 M0 f M a w){s:Nat}(ho:Own F L (fun k=>S k\/w0.heap.size<=k) (eff [(s,d)] [] f) M a w ρ ω):SR F nt S L w0 M0 (eff [(s,d)] [] f) M a w :=
 ⟨h.hnt,h.size,h.defers,h.ch,h.holds,h.ext,h.fresh,ρ,ω,ho⟩
theorem SR.same{g:Nat->D}(h:SR F nt S L w0 M0 f M a w)(e:g=f):SR F nt S L w0 M0 g M a w:=by rw[e];exact h
end
end Go.Gv

namespace Go.Gv
open Go.RowKit
section
variable{P:Program}{F:Fid}{C:Nat->List D->D->List D->Prop}{nt:Nat}{S:Nat->Prop}{L:Nat->Option Loc}{w0:World}{M0:Mem}{f:Nat->D}{M M':Mem}{a:Act}{w w':World}{o:Oper}{d:D}{Q:Exit->Act->World->Prop}{ρ ρ':Pa->Loc}{ω ω':Nat->Option Pa}{New:Nat->Prop}{K:List (Nat×D)->List (Nat×Bool)->Prop}
end
end Go.Gv

namespace Go.Gv
open Go.RowKit
abbrev Env:=List (Nat×D)
def ac:Env->Nat->D
 | [],_=>.any
 | (s,d)::r,t=>if s=t then d else ac r t
def dJ(ks:List (Nat×Bool))(e:Env):Env:=if ks=[] then e else e.map fun p=>(p.1,if aD ks p.2 then .any else p.2)
theorem wO(ws:List (Nat×D))(e:Env)(t:Nat):ac (ws++e) t=match ws.lookup t with
  | some d=>d
  | none=>ac e t:=by
 induction ws with
 | nil=>rfl
 | cons p ws ih =>
  obtain⟨s,d⟩:=p
  simp only[x1A,ac,x0i]
  by_cases h:s=t
  ·subst h;simp
  ·have h1:(t==s)=false:=by simp;exact fun e=>h e.symm
   rw[if_neg h,h1]
   exact ih
theorem uJ(ks:List (Nat×Bool)):∀(e:Env) (t:Nat),ac (dJ ks e) t=if aD ks (ac e t) then .any else ac e t:=by
 intro e t
 unfold dJ
 by_cases hk:ks=[]
 ·subst hk;simp[kW]
 ·rw[if_neg hk]
  induction e with
  | nil =>
   show D.any=if aD ks D.any=true then D.any else D.any
   by_cases hm:aD ks D.any=true
   ·rw[if_pos hm]
   ·rw[if_neg hm]
  | cons p e ih =>
   obtain⟨s,d⟩:=p
   by_cases h:s=t
   ·simp[ac,h]
   ·have h1:ac ((s,d)::e) t=ac e t:=by simp[ac,h]
    rw[h1,<- ih]
    simp[ac,h]
theorem iz(ws:List (Nat×D))(ks:List (Nat×Bool))(e:Env):ac (ws++dJ ks e)=eff ws ks (ac e):=by
 funext t
 rw[wO]
 unfold eff
 cases List.lookup t ws with
 | some d=>rfl
 | none=>exact uJ ks e t
def gC(e:Env)(dst:Option Nat)(K:Env->Prop):Prop :=
 match dst with
 | none=>K e
 | some t=>K ((t,.tup [])::e)
def rq(C:Nat->List D->D->List D->Prop)(dst:Option Nat)(K:Env->Prop)(e:Env)(op:NOp):Prop:=aC C (ac e) dst (fun ws ks=>K (ws++dJ ks e)) op
def ig(C:Nat->List D->D->List D->Prop)(K:Env->Prop):List ao->Env->Prop
 | [],e=>K e
 | o::os,e=>match o.guard with
  | none=>rq C o.dst (ig C K os) e o.op
  | some (s,want)=>match ac e s with
   | .bool b=>(b=want->rq C o.dst (ig C K os) ((s,.bool want)::e) o.op)/\(b=!want->gC ((s,.bool !want)::e) o.dst (ig C K os))
   | .tup []=>gC e o.dst (ig C K os)
   | _=>False
section
variable{P:Program}{F:Fid}{C:Nat->List D->D->List D->Prop}{nt:Nat}{S:Nat->Prop}{L:Nat->Option Loc}{w0:World}{M0:Mem}{f:Nat->D}{M:Mem}{a:Act}{w:World}{o:Oper}{d:D}{Q:Exit->Act->World->Prop}{ρ:Pa->Loc}{ω:Nat->Option Pa}{New:Nat->Prop}{K:List (Nat×D)->List (Nat×Bool)->Prop}
def oL(P:Program)(F:Fid):NOp->Op->Bool
 | .asg x,.move y=>ai F x y
 | .asg x,.assign y=>ai F x y
 | .ldQ _ x,.load t x'=>tyS P t 1 false&&ai F x x'
 | .appQ _ sz by_ x y,.call { callee:=.builtin .append,args:=⟨[x',y']⟩,argTypes:=⟨[t,t']⟩ }=>t==t'&&sX P t sz by_&&ai F x x'&&ai F y y'
 | .cpy sz x y,.call { callee:=.builtin .copy,args:=⟨[x',y']⟩,argTypes:=⟨[t,_]⟩ }=>ov P t sz&&ai F x x'&&ai F y y'
 | .stP x y,.store t x' y'=>ic P t 1&&ai F x x'&&ai F y y'
 | .stF n x y,.store t x' y'=>ic P t n&&ai F x x'&&ai F y y'
 | .callY _ x xs,.call { callee:=.value y,args:=ys,argTypes:=_ }=>ai F x y&&bC F xs ys.toList
 | .nilo _,.move y=>ai F (.c .nils) y
 | .nilo _,.assign y=>ai F (.c .nils) y
 | .box _ x,.box _ x'=>ai F x x'
 | .alc zs,.alloc t=>zeroOk P t zs
 | .bls sz len zs _ ps,.buildSlice t len' ps'=>len==len'&&blsOk P F t sz len zs ps ps'.toList
 | .mks sz by_ zs n c,.makeSlice t n' c'=>mksOk P t sz by_ zs&&ai F n n'&&ai F c c'
 | .call g xs _,.call { callee:=.value (.func fi),args:=ys,argTypes:=_ }=>F g==some fi&&bC F xs ys.toList
 | .callF g xs,.call { callee:=.value (.func fi),args:=ys,argTypes:=_ }=>F g==some fi&&bC F xs ys.toList
 | .callN g x xs,.call { callee:=.value (.func fi),args:=⟨y::ys⟩,argTypes:=_ }=>F g==some fi&&ai F x y&&bC F xs ys
 | .callE g x xs,.call { callee:=.value (.func fi),args:=⟨y::ys⟩,argTypes:=_ }=>F g==some fi&&ai F x y&&bC F xs ys
 | .callA g xs,.call { callee:=.value (.func fi),args:=ys,argTypes:=_ }=>F g==some fi&&bC F xs ys.toList
 | .callL g x xs,.call { callee:=.value (.func fi),args:=⟨y::ys⟩,argTypes:=_ }=>F g==some fi&&ai F x y&&bC F xs ys
 | .clr zs x,.call { callee:=.builtin .clear,args:=⟨[y]⟩,argTypes:=⟨[t]⟩ }=>qe P t zs&&ai F x y
 | .callv x xs,.call { callee:=.value x',args:=ys,argTypes:=_ }=>ai F x x'&&bC F xs ys.toList
 | .st n _ x v,.store t x' v'=>ic P t n&&ai F x x'&&ai F v v'
 | .app sz by_ _ x y,.call { callee:=.builtin .append,args:=⟨[x',y']⟩,argTypes:=⟨[t,t']⟩ }=>t==t'&&sX P t sz by_&&ai F x x'&&ai F y y'
 | .mkm _ _,.makeMap _ none=>true
 | .mpu sh kt et z m x v,.mapUpdate t m' x' v'=>mapOk F t kt et sh z&&ai F m m'&&ai F x x'&&ai F v v'
 | .dead,_=>true
 | p,q=>qL P F p q
theorem mt{t:Option Nat}(hK:dc t K d):∀a' w',bK F nt S L w0 M0 f t d a' w'->PostX F nt S L w0 M0 f K a' w':=by
 rintro a' w' ⟨M',h⟩
 cases t with
 | none=>exact⟨[],[],M',hK,by rw[jW];exact h⟩
 | some t=>exact⟨_,_,M',hK,h⟩
theorem w7(hl:laidOutB F.P=true)(hP:P=F.P)(h:SR F nt S L w0 M0 f M a w){n:NOp}{q:Op}(hp:bJ nt f o.dst)(ho:o.op=q)(hk:qL P F n q=true)(hr:res f (·=d) n):o.wp P a w (bK F nt S L w0 M0 f o.dst d) Q:=by
 unfold qL at hk
 split at hk<;>(try simp only[x0a,x0o]at hk)
 ·exact tO h hp (.inl ho) hk hr
 ·exact tO h hp (.inr ho) hk hr
 ·exact At h hp ho hk hr
 ·exact xK h hp ho hk.1.1 hk.1.2 hk.2 hr
 ·obtain⟨⟨rfl,h1⟩,h2⟩:=hk;exact Al h hp ho h1 h2 hr
 ·obtain⟨rfl,h1⟩:=hk;exact D0 h hp ho h1 hr
 ·exact xE h hp ho hk.2 hk.1 hr
 ·exact xH h hp ho hk.1.2 hk.2 hk.1.1 hr
 ·exact xI h hp ho hk.1.2 hk.2 hk.1.1 hr
 ·obtain⟨rfl,h1⟩:=hk;exact Ap h hp ho h1 hr
 ·exact Aq h hp ho hk.2 hk.1 hr
 ·exact xG h hp ho hk.1.2 hk.2 hk.1.1 hr
 ·exact xF h hp ho hk.1.2 hk.2 hk.1.1 hr
 ·exact DW h hp ho hk.2 hk.1 hr
 ·exact snd_boxF h hp ho hk hr
 ·obtain⟨rfl,h1⟩:=hk;exact xC h hp ho h1 hr
 ·obtain⟨rfl,h1⟩:=hk;exact xD h hp ho h1 hr
 ·exact Am h hp ho hk hr
 ·exact Ar h hp ho hk.2 hk.1 hr
 ·exact xJ h hp ho hk.2 hk.1 hr
 ·exact DX h hp ho hk.1.2 hk.2 hk.1.1 hr
 ·exact As h hp ho hk.1.2 hk.2 hk.1.1 hr
 ·exact Au h hp ho hk.1.1.2 hk.1.2 hk.2 hk.1.1.1 hr
 ·exact DY h hp ho hk.1 hk.2 hr
 ·exact DZ h hp ho hk.1 hk.2 hr
 ·obtain⟨⟨⟨rfl,h1⟩,h2⟩,h3⟩:=hk;exact Ak h hp ho h2 h3 h1 hr
 ·exact u7 h hp ho hk.1.1.1 hk.1.1.2 hk.1.2 hk.2 hr
 ·exact vi h hp ho hk.1.1.1 hk.1.1.2 hk.1.2 hk.2 hr
 ·obtain⟨⟨⟨rfl,h1⟩,h2⟩,h3⟩:=hk;exact snd_mpl hl h hp ho h2 h3 h1 hP hr
 ·cases hk
theorem vL{t q sz by_:Nat}{x y:Opd}(h:aC C f (some t) K (.appQ q sz by_ x y)):aC C f (some t) K (.app sz by_ false x y):=by
 simp only[aC]at h ⊢
 split at h
 ·rename_i c i o' k n ex
  obtain⟨rfl,h⟩:=h
  obtain⟨rows,bs,⟨h1,h2,h⟩,hg⟩:=dC h
  refine hg _ ?_
  subst h1
  simp only[ex]
  split at h
  ·rename_i sz0 es0 hf
   obtain⟨row0,h3,es,h4,h5,h6,h7⟩:=h
   refine⟨rfl,h2,rfl,?_⟩
   first|(rw[hf])|skip
   exact⟨row0,h3,es,h4,h5,h6,h7⟩
  ·exact h.elim
 ·exact h.elim
theorem C3{dst:Option Nat}{q:Nat}{x:Opd}(h:aC C f dst K (.ldQ q x)):aC C f dst K (.ld 1 false x):=by
 simp only[aC,res]at h ⊢
 split at h
 ·rename_i c i off ex
  obtain⟨rfl,h⟩:=h
  split at h
  ·rename_i sz es hf
   obtain⟨r,h1,d,h2,h3⟩:=h
   have hl:=(x0b.1 h2).1
   have gp:aR f (.r c)=some (sz,es):=by simp only[aR,hf]
   simp only[ex,gp]
   refine⟨r,h1,by omega,?_⟩
   have:(r.drop off).headD .any=d:=by
    rw[List.headD_eq_head?_getD,List.head?_drop,h2];rfl
   rw[this]
   exact h3
  ·exact h.elim
 ·exact h.elim
theorem rH{dst:Option Nat}{xs:List Opd}{g:Nat}(h0:∀x∈xs,isV (vd f x)=true)(hc:C g (xs.map (vd f)) d [])(hK:dc dst K d):(∀x∈xs,bE f (vd f x))/\∃d,C g (xs.map (dpv f)) d []/\(isF d=true\/(xs.all fun x=>isV (vd f x))=true)/\dc dst K d:=by
 have e:xs.map (dpv f)=xs.map (vd f):=x0m fun x hx=>(gK (h0 x hx)).1
 exact⟨fun x hx=>(gK (h0 x hx)).2,d,by rw[e];exact hc,.inr (x0f.2 h0),hK⟩
def NoL(L:Nat->Option Loc):Prop:=∀t i,i<15->L (rt t i)=none
theorem DL(hC:bD P F C)(hL:NoL L)(h:SR F nt S L w0 M0 f M a w){n:NOp}{q:Op}(hd:∀t,o.dst=some t->t<nt)(ho:o.op=q)(hk:oL P F n q=true)(hr:aC C f o.dst K n):o.wp P a w (PostX F nt S L w0 M0 f K) Q:=by
 have hp:bJ nt f o.dst:=by
  unfold bJ
  split
  ·trivial
  ·rename_i t e;exact hd t e
 unfold oL at hk
 have dst:∀{n:NOp},aC C f none K n->(∀x,n≠.asg x)->(∀x,n≠.nilo x)->True:=fun _ _ _=>trivial
 split at hk<;>(try simp only[x0a,x0o]at hk)
 ·cases hdst:o.dst with
  | none=>rw[hdst]at hr;exact hr.elim
  | some t=>rw[hdst]at hr;exact tN h hdst (hd t hdst) (hL t 0 (by decide)) (.inl ho) hk hr
 ·cases hdst:o.dst with
  | none=>rw[hdst]at hr;exact hr.elim
  | some t=>rw[hdst]at hr;exact tN h hdst (hd t hdst) (hL t 0 (by decide)) (.inr ho) hk hr
 ·have hr':res f (dc o.dst K) (.ld 1 false _):=C3 hr
  obtain⟨d,h1,h2⟩:=pJ hr'
  exact Oper.wp_mono (mt h1) (w7 (n:=.ld 1 false _) hC.laid hC.prog h hp ho (by simp only[qL,x0a];exact hk) (h2 _ rfl))
 ·obtain⟨⟨⟨rfl,h1⟩,h2⟩,h3⟩:=hk
  cases hdst:o.dst with
  | none=>rw[hdst]at hr;exact hr.elim
  | some t=>rw[hdst]at hr;exact tM h hdst (hd t hdst) (hL t 0 (by decide)) ho rfl h2 h3 h1 (vL hr)
 ·simp only[aC]at hr
  cases hdst:o.dst with
  | none=>rw[hdst]at hr;exact hr.elim
  | some t=>rw[hdst]at hr;exact Ao h hdst (hd t hdst) ho hk.1.2 hk.2 hk.1.1 hr
 ·exact Aw h ho hk.1.2 hk.2 hk.1.1 hr
 ·exact Av h ho hk.1.2 hk.2 hk.1.1 hr
 ·simp only[aC]at hr
  exact vf hC h hd ho hk.1 hk.2 hr
 ·cases hdst:o.dst with
  | none=>rw[hdst]at hr;exact hr.elim
  | some t=>rw[hdst]at hr;exact rb h hdst (hd t hdst) (hL t 0 (by decide)) (.inl ho) hk hr
 ·cases hdst:o.dst with
  | none=>rw[hdst]at hr;exact hr.elim
  | some t=>rw[hdst]at hr;exact rb h hdst (hd t hdst) (hL t 0 (by decide)) (.inr ho) hk hr
 ·cases hdst:o.dst with
  | none=>rw[hdst]at hr;exact hr.elim
  | some t=>rw[hdst]at hr;exact snd_box h hdst (hd t hdst) (hL t 0 (by decide)) ho hk hr
 ·cases hdst:o.dst with
  | none=>rw[hdst]at hr;exact hr.elim
  | some t=>rw[hdst]at hr;exact snd_alc h hdst (hd t hdst) (hL t 0 (by decide)) ho hk hr
 ·obtain⟨rfl,hk⟩:=hk
  cases hdst:o.dst with
  | none=>rw[hdst]at hr;exact hr.elim
  | some t=>rw[hdst]at hr;exact snd_bls h hdst (hd t hdst) (hL t 0 (by decide)) ho hk hr
 ·cases hdst:o.dst with
  | none=>rw[hdst]at hr;exact hr.elim
  | some t=>rw[hdst]at hr;exact snd_mks h hdst (hd t hdst) (hL t 0 (by decide)) ho hk.1.2 hk.2 hk.1.1 hr
 ·exact ra hC h hp ho hk.2 hk.1 hr
 ·simp only[aC]at hr
  cases hdst:o.dst with
  | none=>rw[hdst]at hr;exact hr.2.elim
  | some t=>rw[hdst]at hr;exact vb hC h hdst (hd t hdst) (hL t 0 (by decide)) ho hk.2 hk.1 hr
 ·simp only[aC]at hr
  exact ve hC h hd ho hk.1.2 hk.2 hk.1.1 hr
 ·simp only[aC]at hr
  cases hdst:o.dst with
  | none=>rw[hdst]at hr;exact hr.elim
  | some t=>rw[hdst]at hr;exact va hC h hdst (hd t hdst) (hL t 0 (by decide)) ho hk.1.2 hk.2 hk.1.1 hr
 ·simp only[aC]at hr
  obtain⟨h0,hr⟩:=hr
  rcases hr with ⟨d,hc,hK⟩|hr
  ·exact ra hC h hp ho hk.2 hk.1 (rH h0 hc hK)
  ·cases hdst:o.dst with
   | none=>rw[hdst]at hr;exact hr.elim
   | some t=>rw[hdst]at hr;exact u9 hC h hL hdst (hd t hdst) ho hk.2 hk.1 ⟨h0,hr⟩
 ·simp only[aC]at hr
  exact vc hC h hd ho hk.1.2 hk.2 hk.1.1 hr
 ·simp only[aC]at hr
  exact An h hd ho hk.2 hk.1 hr
 ·exact vg hC h hp ho hk.1 hk.2 hr
 ·have hdst:o.dst=none:=hr.1
  exact xL h hdst ho hk.1.2 hk.2 hk.1.1 (by rw[hdst]at hr;exact hr)
 ·obtain⟨⟨⟨rfl,h1⟩,h2⟩,h3⟩:=hk
  cases hdst:o.dst with
  | none=>rw[hdst]at hr;exact hr.elim
  | some t=>rw[hdst]at hr;exact tM h hdst (hd t hdst) (hL t 0 (by decide)) ho rfl h2 h3 h1 hr
 ·cases hdst:o.dst with
  | none=>rw[hdst]at hr;exact hr.elim
  | some t=>rw[hdst]at hr;exact snd_mkm h hdst (hd t hdst) (hL t 0 (by decide)) ho hr
 ·have hdst:o.dst=none:=hr.1
  exact snd_mpu hC.laid h hdst ho hk.1.1.2 hk.1.2 hk.2 hk.1.1.1 hC.prog (by rw[hdst]at hr;exact hr)
 ·exact hr.elim
 ·have hr':res f (dc o.dst K) n:=by
   clear dst
   cases n<;>first|exact hr|(simp[qL]at hk)
  obtain⟨d,h1,h2⟩:=pJ hr'
  exact Oper.wp_mono (mt h1) (w7 hC.laid hC.prog h hp ho hk (h2 _ rfl))
def Bf(nt:Nat):Option Nat->Bool
 | none=>true
 | some t=>decide (t<nt)
def pv(ops:Array Oper):Option (Nat×Bool)->Option (Nat×Bool)->Bool
 | none,none=>true
 | some (j,b),some (s,b')=>b==b'&&decide (s<10000)&&(match ops[j]? with
  | some o=>o.dst==some s
  | none=>false)
 | _,_=>false
def oJ(P:Program)(F:Fid)(nt:Nat)(ops:Array Oper)(n:ao)(o:Oper):Bool :=
 n.dst==o.dst&&Bf nt n.dst&&pv ops o.guard n.guard&&oL P F n.op o.op
theorem sT{ops:Array Oper}{tmps:Array Value}{j s:Nat}{b:Bool}{o:Oper}(h1:ops[j]? = some o)(h2:o.dst=some s)(h3:tmps[s]? = some (.bool b)):yielded ops tmps j=some b:=by
 simp[yielded,h1,h2,h3]
theorem rA{ops:Array Oper}{tmps:Array Value}{j s:Nat}{o:Oper}(h1:ops[j]? = some o)(h2:o.dst=some s){vs:Array Value}(h3:tmps[s]? = some (.tuple vs)):yielded ops tmps j=none:=by
 simp[yielded,h1,h2,h3]
def Skp(want:Bool)(d:D):Prop:=d=.bool (!want)\/d=.tup []
theorem xY{ops:Array Oper}{n:ao}{o:Oper}(h:pv ops o.guard n.guard=true){f:Nat->D}{M:Mem}{a:Act}{w:World}(hs:SR F nt S L w0 M0 f M a w) :
  (n.guard=none->Region.wanted o (yielded ops a.tmps)=true) /\
  (∀s want b,n.guard=some (s,want)->f s=.bool b->Region.wanted o (yielded ops a.tmps)=(b==want)) /\
  (∀s want,n.guard=some (s,want)->f s=.tup []->Region.wanted o (yielded ops a.tmps)=false):=by
 unfold pv at h
 split at h
 ·rename_i e1 e2
  exact⟨fun _=>by simp[Region.wanted,e1],fun s want b e3=>(by rw[e2]at e3;cases e3),fun s want e3=>(by rw[e2]at e3;cases e3)⟩
 ·rename_i j b s b' e1 e2
  simp only[x0a,x0o,x0d]at h
  obtain⟨⟨rfl,hs10⟩,h⟩:=h
  split at h
  ·rename_i o' ho'
   simp only[x0o]at h
   obtain⟨ρ,ω,hO⟩:=hs.own
   refine⟨fun e3=>(by rw[e2]at e3;cases e3),fun s1 want b1 e3 e4=>?_,fun s1 want e3 e4=>?_⟩
   ·rw[e2]at e3
    cases e3
    rcases hO.slots s hs10 with h5|⟨v,h5,h6⟩
    ·rw[e4]at h5;cases h5
    ·rw[e4]at h6
     simp only[aT,au,af]at h6
     subst h6
     simp[Region.wanted,e1,sT ho' h h5]
   ·rw[e2]at e3
    cases e3
    rcases hO.slots s hs10 with h5|⟨v,h5,h6⟩
    ·rw[e4]at h5;cases h5
    ·rw[e4]at h6
     simp only[aT,au,af]at h6
     obtain⟨vs,rfl,_⟩:=h6
     simp[Region.wanted,e1,rA ho' h h5]
  ·cases h
 ·cases h
theorem qb{e:Env}{s:Nat}{b:Bool}(h:ac e s=.bool b):ac ((s,.bool b)::e)=ac e:=by
 funext t
 simp only[ac]
 by_cases ht:s=t
 ·subst ht;rw[if_pos rfl,h]
 ·rw[if_neg ht]
def ij(C:Nat->List D->D->List D->Prop)(n:ao)(f:Nat->D)(x:Option (List (Nat×D)×List (Nat×Bool))):Prop :=
 match x with
 | some (ws,ks)=>(∀s b,n.guard=some (s,b)->f s=.bool b)/\aC C f n.dst (fun ws' ks'=>ws'=ws/\ks'=ks) n.op
 | none=>∃s b,n.guard=some (s,b)/\Skp b (f s)
def nS(n:ao):Option (List (Nat×D)×List (Nat×Bool))->(Nat->D)->(Nat->D)
 | some (ws,ks)=>eff ws ks
 | none=>match n.dst with
  | some t=>eff [(t,.tup [])] []
  | none=>fun f=>f
theorem BS(hC:bD P F C)(hL:NoL L){ops:Array Oper}{n:ao}(hk:oJ P F nt ops n o=true)(h:SR F nt S L w0 M0 f M a w){x:Option (List (Nat×D)×List (Nat×Bool))}(hr:ij C n f x){R:Act->World->Prop}
  (hR:∀M' a' w',SR F nt S L w0 M0 (nS n x f) M' a' w'->R a' w') :
  if Region.wanted o (yielded ops a.tmps) then o.wp P a w R Q\/(o.asks P a w/\LetsOut Q) else R (a.put o.dst undef) w:=by
 unfold oJ at hk
 simp only[x0a,x0o]at hk
 obtain⟨⟨⟨hd,hdo⟩,hgu⟩,hop⟩:=hk
 have hw:=xY hgu h
 have hdst:∀t,o.dst=some t->t<nt:=fun t e=>by
  rw[<- hd]at e
  rw[e]at hdo
  simpa[Bf]using hdo
 cases x with
 | some y =>
  obtain⟨ws,ks⟩:=y
  obtain⟨h1,h2⟩:=hr
  have hwant:Region.wanted o (yielded ops a.tmps)=true:=by
   cases hg:n.guard with
   | none=>exact hw.1 hg
   | some p=>obtain⟨s,b⟩:=p;rw[hw.2.1 s b b hg (h1 s b hg)];simp
  rw[hwant,if_pos rfl]
  left
  rw[hd]at h2
  refine Oper.wp_mono ?_ (DL hC hL h hdst rfl hop h2)
  rintro a' w' ⟨ws',ks',M',⟨rfl,rfl⟩,h'⟩
  exact hR M' a' w' h'
 | none =>
  obtain⟨s,b,h1,h2⟩:=hr
  have hno:Region.wanted o (yielded ops a.tmps)=false:=by
   rcases h2 with h2|h2
   ·rw[hw.2.1 s b (!b) h1 h2];cases b<;>rfl
   ·exact hw.2.2 s b h1 h2
  rw[hno,if_neg Bool.false_ne_true]
  refine hR M _ w ?_
  unfold nS
  rw[hd]
  cases hdd:o.dst with
  | none=>exact h
  | some t=>exact h.put (hdst t hdd) (fun _ _ _=>by simp[aT,au,af,aq,undef])
theorem vq{K:Env->Prop}{n:ao}{ns:List ao}{e:Env}(h:ig C K (n::ns) e):∃x e',ij C n (ac e) x/\ac e'=nS n x (ac e)/\ig C K ns e':=by
 have run:∀e1,ac e1=ac e->(∀s b,n.guard=some (s,b)->ac e s=.bool b)->rq C n.dst (ig C K ns) e1 n.op->∃x e',ij C n (ac e) x/\ac e'=nS n x (ac e)/\ig C K ns e':=by
  intro e1 he hg h1
  unfold rq at h1
  obtain⟨ws,ks,h2,h3⟩:=nq h1
  rw[he]at h3
  exact⟨some (ws,ks),_,⟨hg,h3 _ ⟨rfl,rfl⟩⟩,by rw[iz,he];rfl,h2⟩
 rw[ig]at h
 split at h
 ·rename_i hg
  exact run e rfl (fun s b e'=>(by rw[hg]at e';cases e')) h
 ·rename_i s want hg
  split at h
  ·rename_i b hb
   by_cases hbw:b=want
   ·subst hbw
    exact run _ (qb hb) (fun s' b' e'=>(by rw[hg]at e';cases e';exact hb)) (h.1 rfl)
   ·have hb':b=!want:=by cases b<;>cases want<;>simp_all
    have h1:=h.2 hb'
    rw[hb']at hb
    have he:=qb hb
    refine⟨none,?_⟩
    unfold gC at h1
    unfold nS
    split at h1
    ·rename_i hd
     exact⟨_,⟨s,want,hg,.inl hb⟩,by rw[hd];exact he,h1⟩
    ·rename_i t hd
     refine⟨_,⟨s,want,hg,.inl hb⟩,?_,h1⟩
     rw[hd]
     have:=iz [(t,.tup [])] [] ((s,.bool !want)::e)
     simp only[dJ,if_true]at this
     rw[he]at this
     exact this
  ·rename_i hb
   refine⟨none,?_⟩
   unfold gC at h
   unfold nS
   split at h
   ·rename_i hd
    exact⟨_,⟨s,want,hg,.inr hb⟩,by rw[hd],h⟩
   ·rename_i t hd
    refine⟨_,⟨s,want,hg,.inr hb⟩,?_,h⟩
    rw[hd]
    have:=iz [(t,.tup [])] [] e
    simp only[dJ,if_true]at this
    exact this
  ·exact h.elim
theorem vr(hC:bD P F C)(hL:NoL L){ops:Array Oper}{K:Env->Prop}(hQ:∀e M a w,SR F nt S L w0 M0 (ac e) M a w->K e->Q .normal a w)(ns:List ao):∀(os:List Oper),ns.length=os.length->(∀p∈ns.zip os,oJ P F nt ops p.1 p.2=true) ->
  ∀(e:Env) (M:Mem) (a:Act) (w:World),SR F nt S L w0 M0 (ac e) M a w->ig C K ns e->wpList P ops Q os a w:=by
 induction ns with
 | nil =>
  intro os hl _ e M a w h hr
  cases os with
  | nil=>exact hQ e M a w h hr
  | cons o os=>simp at hl
 | cons n ns ih =>
  intro os hl hk e M a w h hr
  cases os with
  | nil=>simp at hl
  | cons o os =>
   obtain⟨x,e',h1,h2,h3⟩:=vq hr
   rw[wpList]
   exact BS hC hL (hk (n,o) (by simp)) h h1 (fun M' a' w' h'=>ih os (by simpa using hl) (fun p hp=>hk p (by simp[hp])) e' M' a' w' (by rw[h2];exact h') h3)
def lO(P:Program)(F:Fid)(nt:Nat)(ns:List ao)(ops:Array Oper):Bool:=ns.length==ops.toList.length&&(ns.zip ops.toList).all fun p=>oJ P F nt ops p.1 p.2
theorem qS(hC:bD P F C)(hL:NoL L){ops:Array Oper}{ns:List ao}(hk:lO P F nt ns ops=true){id:Nat}{K:Env->Prop}{e:Env}(h:SR F nt S L w0 M0 (ac e) M a w)(hr:ig C K ns e)(hQ:∀e M a w,SR F nt S L w0 M0 (ac e) M a w->K e->Q .normal a w) :
  (Code.region id ops false).wp P Q a w:=by
 simp only[lO,x0a,x0o,x0f]at hk
 exact wp_region_list (vr hC hL hQ ns ops.toList hk.1 hk.2 e M a w h hr)
end
end Go.Gv

namespace Go.Gv
open Go.RowKit
def nV:Option Opd->List Opd
 | some x=>[x]
 | none=>[]
def ah:NOp->List Opd
 | .mov x=>[x]
 | .asg x=>[x]
 | .stP x y=>[x,y]
 | .stF _ x y=>[x,y]
 | .mkY _ x xs=>x::xs
 | .callY _ x xs=>x::xs
 | .ldQ _ x=>[x]
 | .appQ _ _ _ x y=>[x,y]
 | .cpy _ x y=>[x,y]
 | .nilo _=>[]
 | .nck x=>[x]
 | .boxF x=>[x]
 | .blsF _ _ _ ps=>ps.map fun p=>p.2
 | .blsX _ _ _ ps=>ps.map fun p=>p.2
 | .pick c a b=>[c,a,b]
 | .bin _ x y=>[x,y]
 | .beq _ _ x y=>[x,y]
 | .un _ x=>[x]
 | .conv _ x=>[x]
 | .idxA _ _ _ x i=>[x,i]
 | .idxS x i=>[x,i]
 | .ext _ x=>[x]
 | .fad _ x=>[x]
 | .iadS _ x i=>[x,i]
 | .iadA _ _ x i=>[x,i]
 | .ld _ _ x=>[x]
 | .box _ x=>[x]
 | .alc _=>[]
 | .mkm _ _=>[]
 | .mpl _ _ _ _ _ m x=>[m,x]
 | .mpu _ _ _ _ m x v=>[m,x,v]
 | .bld _ ps=>ps.map fun p=>p.2.2
 | .bls _ _ _ _ ps=>ps.map fun p=>p.2
 | .mks _ _ _ n c=>[n,c]
 | .len x=>[x]
 | .lens x=>[x]
 | .call _ xs _=>xs
 | .callv x xs=>x::xs
 | .callF _ xs=>xs
 | .callN _ x xs=>x::xs
 | .callE _ x xs=>x::xs
 | .callL _ x xs=>x::xs
 | .callA _ xs=>xs
 | .clr _ x=>[x]
 | .mk _ xs=>xs
 | .slc _ x lo hi=>x::(nV lo++nV hi)
 | .mn x y=>[x,y]
 | .mx x y=>[x,y]
 | .add64 x y c=>[x,y,c]
 | .sub64 x y c=>[x,y,c]
 | .st _ _ a v=>[a,v]
 | .app _ _ _ x y=>[x,y]
 | .dead=>[]
section
variable{C:Nat->List D->D->List D->Prop}{f g:Nat->D}
def da(f g:Nat->D)(d:D):Prop:=∀b,cF b true d=true->g b=f b
theorem fA(p:Pa):bA p.root true p=true:=by cases p<;>simp[bA,Pa.root]
theorem cK{p:Pa}(h:g p.root=f p.root):aR g p=aR f p:=by
 cases p<;>simp only[aR,Pa.root]at h ⊢<;>rw[h]
theorem da.ref{p:Pa}{k n:Nat}(h:da f g (.ref p k n)):g p.root=f p.root:=h _ (by simp only[cF,aB];exact fA p)
theorem da.adr{p:Pa}{i o:Nat}(h:da f g (.adr p i o)):g p.root=f p.root:=h _ (by simp only[cF,aB];exact fA p)
theorem da.ifa{T:Nat}{p:Pa}{i o:Nat}(h:da f g (.ifa T p i o)):g p.root=f p.root:=h _ (by simp only[cF,aB];exact fA p)
theorem da.mrf{b:Nat}(h:da f g (.mrf b)):g b=f b:=h _ (by simp[cF,aB])
theorem fg{d:D}(h:∀b,aB b true d=true->g b=f b):dp1 g d=dp1 f d/\(aN g d↔aN f d):=by
 cases d<;>try exact⟨rfl,Iff.rfl⟩
 case ref p k n =>
  have e:=cK (p:=p) (h _ (by simp only[aB];exact fA p))
  simp only[dp1,aN,e,and_self]
 case adr p i off =>
  have e:=cK (p:=p) (h _ (by simp only[aB];exact fA p))
  simp only[dp1,aN,e,and_self]
theorem fk{b:Nat}{ds:List D}{d:D}(h:d∈ds)(hm:aB b true d=true):ds.any (aB b true)=true:=x0O.2 ⟨d,h,hm⟩
theorem v8{d:D}(h:isX d=false)(ha:da f g d):dp g d=dp f d/\(bE g d↔bE f d):=by
 have e:∀f:Nat->D,dp f d=dp1 f d/\(bE f d↔aN f d)/\∀b,cF b true d=aB b true d:=fun f=>by
  cases d<;>first|exact⟨rfl,Iff.rfl,fun _=>rfl⟩|(simp[isX]at h)
 obtain⟨e1,e2,e3⟩:=e f
 obtain⟨g1,g2,_⟩:=e g
 obtain⟨h1,h2⟩:=fg (f:=f) (g:=g) (d:=d) (fun b hb=>ha b (by rw[e3];exact hb))
 exact⟨by rw[g1,e1,h1],by rw[g2,e2];exact h2⟩
theorem mF{d:D}(h:da f g d):dp g d=dp f d/\(bE g d↔bE f d):=by
 cases d
 case agx ds =>
  have e:∀d∈ds,dp1 g d=dp1 f d/\(aN g d↔aN f d):=fun d hd=>fg fun b hb=>h b (fk hd hb)
  simp only[dp,bE]
  exact⟨by rw[x0m fun d hd=>(e d hd).1],⟨fun x d hd=>(e d hd).2.1 (x d hd),fun x d hd=>(e d hd).2.2 (x d hd)⟩⟩
 case tpx ds =>
  have e:∀d∈ds,dp1 g d=dp1 f d/\(aN g d↔aN f d):=fun d hd=>fg fun b hb=>h b (fk hd hb)
  simp only[dp,bE]
  exact⟨by rw[x0m fun d hd=>(e d hd).1],⟨fun x d hd=>(e d hd).2.1 (x d hd),fun x d hd=>(e d hd).2.2 (x d hd)⟩⟩
 case ptx ds =>
  have e:∀d∈ds,dp1 g d=dp1 f d/\(aN g d↔aN f d):=fun d hd=>fg fun b hb=>h b (fk hd hb)
  simp only[dp,bE]
  exact⟨by rw[x0m fun d hd=>(e d hd).1],⟨fun x d hd=>(e d hd).2.1 (x d hd),fun x d hd=>(e d hd).2.2 (x d hd)⟩⟩
 case rfx n sz ds=>exact⟨rfl,Iff.rfl⟩
 case fny g ds cs=>exact⟨rfl,Iff.rfl⟩
 case fnx k ds =>
  have e:∀d∈ds,dp1 g d=dp1 f d/\(aN g d↔aN f d):=fun d hd=>fg fun b hb=>h b (fk hd hb)
  simp only[dp,bE]
  exact⟨by rw[x0m fun d hd=>(e d hd).1],⟨fun x d hd=>(e d hd).2.1 (x d hd),fun x d hd=>(e d hd).2.2 (x d hd)⟩⟩
 all_goals
  exact v8 rfl h
theorem lz{d:D}{K:D->List Nat->Prop}(h:∀b,aB b true d=true->g b=f b)(hr:cT f d K):cT g d K:=by
 unfold cT at hr ⊢
 split at hr
 ·rename_i b k n
  rw[h b (by simp[aB,bA])]
  exact hr
 ·exact hr
theorem lA:∀{ds:List D} {K:List D->List Nat->Prop},(∀d∈ds,∀b,aB b true d=true->g b=f b)->ik f ds K->ik g ds K
 | [],K,_,hr=>hr
 | d::ds,K,h,hr=>by
  obtain⟨c,bs,h1,h2⟩:=kA hr
  obtain⟨cs,bs',h3,h4⟩:=kB h1
  refine lz (h d (by simp)) (h2 _ (lA (fun d hd=>h d (by simp[hd])) (h4 _ h3)))
theorem jl{d:D}{ns:List Nat}{K:List D->List Nat->Prop}(h:da f g d)(hr:eT f d ns K):eT g d ns K:=by
 unfold eT at hr ⊢
 split at hr
 ·exact hr
 ·exact⟨hr.1,lA (fun d hd b hb=>h b (fk hd hb)) hr.2⟩
 ·rename_i hne1 hne2
  refine⟨hr.1,lz (fun b hb=>h b ?_) hr.2⟩
  cases d<;>first|exact hb|(exact absurd rfl (hne2 _))|(simp[aB]at hb)
theorem ki{sz:Nat}{ns:List Nat}:∀{ps:List (Nat×Opd)} {es:List (List D)} {bs:List Nat} {K:List (List D)->List Nat->Prop},(∀p∈ps,vd g p.2=vd f p.2/\da f g (vd f p.2))->eE f sz ns ps es bs K->eE g sz ns ps es bs K
 | [],es,bs,K,_,hr=>hr
 | (i,x)::ps,es,bs,K,h,hr=>by
  obtain⟨h0,hr⟩:=hr
  obtain⟨e1,e2⟩:=h (i,x) (by simp)
  obtain⟨cs,b1,⟨h1,h1'⟩,h2⟩:=il hr
  refine⟨h0,?_⟩
  simp only at e1 e2
  rw[e1]
  exact jl e2 (h2 _ ⟨h1,ki (fun p hp=>h p (by simp[hp])) h1'⟩)
theorem iH{mv:Bool}{d:D}{sz:Nat}{K:List (List D)->List Nat->Prop}(h:da f g d)(hr:eP f mv d sz K):eP g mv d sz K:=by
 unfold eP at hr ⊢
 split at hr
 ·exact hr
 ·exact hr
 ·rename_i p k n
  cases mv with
  | true =>
   obtain⟨h0,hr⟩:=hr
   refine⟨h0,?_⟩
   cases p with
   | r b=>simp only at hr ⊢;rw[show g b=f b from h.ref];exact hr
   | n b i o=>exact hr
  | false=>simp only at hr ⊢;rw[cK h.ref];exact hr
 ·exact hr
theorem dy{x:Option Opd}{n:Nat}{K:Nat->Prop}(h:∀y∈nV x,vd g y=vd f y)(hr:dQ f x n K):dQ g x n K:=by
 unfold dQ at hr ⊢
 split at hr
 ·exact hr
 ·rename_i y
  rw[h y (by simp[nV])]
  exact hr
theorem iu:∀{ps:List (Nat×Opd)} {es:List (List D)},(∀p∈ps,vd g p.2=vd f p.2)->gf g ps es=gf f ps es
 | [],_,_=>rfl
 | p::ps,es,h=>by
  simp only[gf]
  rw[h p (by simp)]
  exact iu fun q hq=>h q (by simp[hq])
theorem jP{sz len:Nat}{zs:List D}{ps:List (Nat×Opd)}(h:∀p∈ps,vd g p.2=vd f p.2):jo g sz len zs ps=jo f sz len zs ps:=by
 unfold jo
 rw[x0m (fun p hp=>by rw[h p hp])]
theorem u3{o:NOp}{K:D->Prop}(hv:∀x∈ah o,vd g x=vd f x)(ha:∀x∈ah o,da f g (vd f x))(hr:res f K o):res g K o:=by
 cases o with
 | ld n ag x =>
  have e:=hv x (by simp[ah]);have a:=ha x (by simp[ah])
  simp only[res,e]at hr ⊢
  split at hr
  ·rename_i ex;rw[ex]at a;rw[cK a.adr];exact hr
  ·exact hr
  ·exact hr
  ·exact hr
 | iadS sz x i =>
  have e:=hv x (by simp[ah]);have a:=ha x (by simp[ah]);have e2:=hv i (by simp[ah])
  simp only[res,e,e2]at hr ⊢
  split at hr
  ·exact hr
  ·exact hr
  ·exact hr
  ·rename_i ex _;rw[ex]at a;rw[cK a.ref];exact hr
  ·exact hr
 | slc sz x lo hi =>
  have e:=hv x (by simp[ah]);have a:=ha x (by simp[ah])
  have hlo:∀y∈nV lo,vd g y=vd f y:=fun y hy=>hv y (by simp[ah,hy])
  have hhi:∀y∈nV hi,vd g y=vd f y:=fun y hy=>hv y (by simp[ah,hy])
  simp only[res,e]at hr ⊢
  split at hr
  ·exact⟨hr.1,dy hhi (jm hr.2 fun m h=>dy hlo h)⟩
  ·exact dy hhi (jm hr fun m h=>dy hlo h)
  ·rename_i ex
   rw[ex]at a;rw[cK a.ref]
   split at hr
   ·exact⟨hr.1,dy hhi (jm hr.2 fun m h=>dy hlo h)⟩
   ·exact hr
  ·exact hr
 | bld zs ps =>
  have e:∀p∈ps,vd g p.2.2=vd f p.2.2:=fun p hp=>hv _ (x0s.2 ⟨p,hp,rfl⟩)
  simp only[res]at hr ⊢
  obtain⟨h1,h2,h3⟩:=hr
  have e2:(ps.all fun p=>isV (vd g p.2.2))=(ps.all fun p=>isV (vd f p.2.2)):=by
   rw[x0z,x0f,x0f]
   exact⟨fun h p hp=>by rw[<- e p hp];exact h p hp,fun h p hp=>by rw[e p hp];exact h p hp⟩
  have m1:(ps.map fun p=>(p.1,p.2.1,vd g p.2.2))=ps.map fun p=>(p.1,p.2.1,vd f p.2.2):=x0m fun p hp=>by rw[e p hp]
  have m2:(ps.map fun p=>(p.1,p.2.1,bI (vd g p.2.2)))=ps.map fun p=>(p.1,p.2.1,bI (vd f p.2.2)):=x0m fun p hp=>by rw[e p hp]
  rw[e2,m1,m2]
  exact⟨fun p hp=>by rw[e p hp];exact h1 p hp,h2,h3⟩
 | mk k xs =>
  have e:∀x∈xs,vd g x=vd f x:=fun x hx=>hv x hx
  simp only[res]at hr ⊢
  obtain⟨h1,h2,h3⟩:=hr
  have e2:(xs.all fun x=>isV (vd g x))=(xs.all fun x=>isV (vd f x)):=by
   rw[x0z,x0f,x0f]
   exact⟨fun h p hp=>by rw[<- e p hp];exact h p hp,fun h p hp=>by rw[e p hp];exact h p hp⟩
  rw[e2,x0m e]
  exact⟨fun p hp=>by rw[e p hp];exact h1 p hp,h2,h3⟩
 | mkY k x0 xs =>
  have e0:=hv x0 (by simp[ah])
  have e:∀x∈xs,vd g x=vd f x:=fun x hx=>hv x (by simp[ah,hx])
  simp only[res,e0]at hr ⊢
  rw[x0m e]
  exact hr
 | pick c x y=>simp only[res,hv c (by simp[ah]),hv x (by simp[ah]),hv y (by simp[ah])]at hr ⊢;exact hr
 | add64 x y c=>simp only[res,hv c (by simp[ah]),hv x (by simp[ah]),hv y (by simp[ah])]at hr ⊢;exact hr
 | sub64 x y c=>simp only[res,hv c (by simp[ah]),hv x (by simp[ah]),hv y (by simp[ah])]at hr ⊢;exact hr
 | bin op x y=>simp only[res,hv x (by simp[ah]),hv y (by simp[ah])]at hr ⊢;exact hr
 | beq op ks x y=>simp only[res,hv x (by simp[ah]),hv y (by simp[ah])]at hr ⊢;exact hr
 | idxA l s g x i=>simp only[res,hv x (by simp[ah]),hv i (by simp[ah])]at hr ⊢;exact hr
 | idxS x i=>simp only[res,hv x (by simp[ah]),hv i (by simp[ah])]at hr ⊢;exact hr
 | iadA l s x i=>simp only[res,hv x (by simp[ah]),hv i (by simp[ah])]at hr ⊢;exact hr
 | mn x y=>simp only[res,hv x (by simp[ah]),hv y (by simp[ah])]at hr ⊢;exact hr
 | mx x y=>simp only[res,hv x (by simp[ah]),hv y (by simp[ah])]at hr ⊢;exact hr
 | mov x=>simp only[res,hv x (by simp[ah])]at hr ⊢;exact hr
 | nck x=>simp only[res,hv x (by simp[ah])]at hr ⊢;exact hr
 | un op x=>simp only[res,hv x (by simp[ah])]at hr ⊢;exact hr
 | conv k x=>simp only[res,hv x (by simp[ah])]at hr ⊢;exact hr
 | ext i x=>simp only[res,hv x (by simp[ah])]at hr ⊢;exact hr
 | fad i x=>simp only[res,hv x (by simp[ah])]at hr ⊢;exact hr
 | len x=>simp only[res,hv x (by simp[ah])]at hr ⊢;exact hr
 | boxF x=>simp only[res,hv x (by simp[ah])]at hr ⊢;exact hr
 | blsF sz len zs ps =>
  have e:∀p∈ps,vd g p.2=vd f p.2:=fun p hp=>hv _ (x0s.2 ⟨p,hp,rfl⟩)
  simp only[res]at hr ⊢
  rw[iu e]
  exact⟨fun p hp=>by rw[e p hp];exact hr.1 p hp,hr.2⟩
 | blsX sz len zs ps =>
  have e:∀p∈ps,vd g p.2=vd f p.2:=fun p hp=>hv _ (x0s.2 ⟨p,hp,rfl⟩)
  simp only[res]at hr ⊢
  rw[jP e]
  exact⟨hr.1,fun p hp=>by rw[e p hp];exact hr.2.1 p hp,hr.2.2⟩
 | lens x=>simp only[res,hv x (by simp[ah])]at hr ⊢;exact hr
 | mpl sh kt et ok z m x =>
  have e:=hv m (by simp[ah]);have a:=ha m (by simp[ah]);have e2:=hv x (by simp[ah])
  simp only[res,e,e2]at hr ⊢
  split at hr
  ·rename_i b ex
   rw[ex]at a
   rw[a.mrf]
   exact hr
  ·exact hr
 | _=>simp only[res]at hr
theorem sK{o:NOp}{dst:Option Nat}{K:List (Nat×D)->List (Nat×Bool)->Prop}(hv:∀x∈ah o,vd g x=vd f x)(ha:∀x∈ah o,da f g (vd f x))(hr:aC C f dst K o):aC C g dst K o:=by
 cases o with
 | asg x =>
  have e:=hv x (by simp[ah]);have a:=ha x (by simp[ah])
  cases dst with
  | none=>exact hr
  | some t =>
   simp only[aC,e]at hr ⊢
   split at hr
   ·rename_i c k n ex
    rw[ex]at a
    rw[show g c=f c from a.ref]
    exact hr
   ·exact hr
 | ldQ q x =>
  have e:=hv x (by simp[ah]);have a:=ha x (by simp[ah])
  simp only[aC,e]at hr ⊢
  split at hr
  ·rename_i c i off ex
   rw[ex]at a
   rw[show g c=f c from a.adr]
   exact hr
  ·exact hr
 | appQ q sz by_ x y =>
  have e:=hv x (by simp[ah]);have a:=ha x (by simp[ah]);have e2:=hv y (by simp[ah]);have a2:=ha y (by simp[ah])
  cases dst with
  | none=>exact hr
  | some t =>
   simp only[aC,e,e2]at hr ⊢
   split at hr
   ·rename_i c i o k n ex
    rw[ex]at a
    obtain⟨h0,hr⟩:=hr
    obtain⟨rows,bs,⟨h1,h1',h2⟩,h3⟩:=dC hr
    refine⟨h0,iH a2 (h3 _ ⟨h1,h1',?_⟩)⟩
    rw[show g c=f c from a.ref]
    exact h2
   ·exact hr
 | cpy sz x y =>
  have e:=hv x (by simp[ah]);have a:=ha x (by simp[ah]);have e2:=hv y (by simp[ah]);have a2:=ha y (by simp[ah])
  cases dst with
  | none=>exact hr
  | some t =>
   simp only[aC,e,e2]at hr ⊢
   obtain⟨rows,bs,⟨h1,h1',h2⟩,h3⟩:=dC hr
   refine iH a2 (h3 _ ⟨h1,h1',?_⟩)
   split at h2
   ·rename_i c k n ex;rw[ex]at a;rw[show g c=f c from a.ref];exact h2
   ·exact h2
 | callY k x0 xs =>
  have e0:=hv x0 (by simp[ah]);have a0:=ha x0 (by simp[ah])
  have e:∀x∈xs,vd g x=vd f x:=fun x hx=>hv x (by simp[ah,hx])
  simp only[aC,e0]at hr ⊢
  split at hr
  ·rename_i g' b i o cs hvx
   rw[hvx]at a0
   have hb:g b=f b:=a0 b (by simp[cF,aB,bA])
   rw[hb,x0m e]
   obtain⟨h1,h2,h3,h4,hr⟩:=hr
   refine⟨h1,h2,h3,h4,?_⟩
   split at hr
   ·exact⟨hr.1,fun x hx=>by rw[e x hx];exact hr.2.1 x hx,hr.2.2⟩
   ·exact hr.elim
  ·exact hr.elim
 | stF n x y =>
  have e:=hv x (by simp[ah]);have a:=ha x (by simp[ah]);have e2:=hv y (by simp[ah])
  simp only[aC,e2]at hr ⊢
  refine⟨hr.1,?_⟩
  have hr:=hr.2
  split at hr
  ·rename_i s
   simp only[vd]at e a
   rw[e]
   refine⟨hr.1,?_⟩
   have hr:=hr.2
   split at hr
   ·rename_i c i0 o0 ex
    rw[ex]at a
    rw[show g c=f c from a.adr]
    exact hr
   ·exact hr
  ·exact hr
 | stP x y =>
  have e:=hv x (by simp[ah]);have a:=ha x (by simp[ah]);have e2:=hv y (by simp[ah]);have a2:=ha y (by simp[ah])
  simp only[aC,e]at hr ⊢
  refine⟨hr.1,?_⟩
  have hr:=hr.2
  split at hr
  ·rename_i s
   simp only[vd]at e2 a2
   rw[e2]
   refine⟨hr.1,?_⟩
   have hr:=hr.2
   split at hr
   ·rename_i c i0 o0 ex
    rw[ex]at a2
    rw[show g c=f c from a2.adr]
    refine⟨hr.1,hr.2.1,?_⟩
    have hr:=hr.2.2
    split at hr
    ·refine⟨hr.1,?_⟩
     have hr:=hr.2
     split at hr
     ·rename_i b i1 o1 i off ex2
      rw[ex2]at a
      rw[show g b=f b from a.adr]
      exact hr
     ·exact hr
    ·exact hr
   ·exact hr
  ·exact hr
 | nilo sz=>exact hr
 | alc zs=>exact hr
 | mkm kt et=>exact hr
 | mpu sh kt et z m x v =>
  have e:=hv m (by simp[ah]);have a:=ha m (by simp[ah]);have e2:=hv x (by simp[ah]);have e3:=hv v (by simp[ah])
  simp only[aC,e,e2,e3]at hr ⊢
  refine⟨hr.1,?_⟩
  have hr:=hr.2
  split at hr
  ·rename_i b ex
   rw[ex]at a
   rw[a.mrf]
   exact hr
  ·exact hr
 | box ns x =>
  have e:=hv x (by simp[ah]);have a:=ha x (by simp[ah])
  cases dst with
  | none=>exact hr
  | some t=>simp only[aC,e]at hr ⊢;exact jl a hr
 | bls sz len zs ns ps =>
  cases dst with
  | none=>exact hr
  | some t=>simp only[aC]at hr ⊢;exact ki (fun p hp=>⟨hv _ (x0s.2 ⟨p,hp,rfl⟩),ha _ (x0s.2 ⟨p,hp,rfl⟩)⟩) hr
 | mks sz by_ zs n c =>
  have e:=hv n (by simp[ah]);have e2:=hv c (by simp[ah])
  cases dst with
  | none=>exact hr
  | some t=>simp only[aC,e,e2]at hr ⊢;exact hr
 | st n ns x v =>
  have e:=hv x (by simp[ah]);have a:=ha x (by simp[ah]);have e2:=hv v (by simp[ah]);have a2:=ha v (by simp[ah])
  simp only[aC,e,e2]at hr ⊢
  obtain⟨h0,hr⟩:=hr
  refine⟨h0,?_⟩
  obtain⟨cs,bs,⟨h1,h2⟩,h3⟩:=il hr
  refine jl a2 (h3 _ ⟨h1,?_⟩)
  split at h2
  ·rename_i b i off ex;rw[ex]at a;rw[show g b=f b from a.adr];exact h2
  ·rename_i b i0 o0 i off ex;rw[ex]at a;rw[show g b=f b from a.adr];exact h2
  ·exact h2
 | app sz by_ mv x y =>
  have e:=hv x (by simp[ah]);have a:=ha x (by simp[ah]);have e2:=hv y (by simp[ah]);have a2:=ha y (by simp[ah])
  cases dst with
  | none=>exact hr
  | some t =>
   simp only[aC,e,e2]at hr ⊢
   obtain⟨rows,bs,⟨h1,h2⟩,h3⟩:=dC hr
   refine iH a2 (h3 _ ⟨h1,?_⟩)
   split at h2
   ·exact h2
   ·rename_i c k n ex;rw[ex]at a;rw[show g c=f c from a.ref];exact h2
   ·rename_i c i o k n ex;rw[ex]at a;rw[show g c=f c from a.ref];exact h2
   ·exact h2
 | call k xs ms =>
  simp only[aC]at hr ⊢
  obtain⟨h0,d,h1,h2,h3⟩:=hr
  have e:∀x∈xs,dpv g x=dpv f x/\(bE g (vd g x)↔bE f (vd f x)):=fun x hx=>by
   have:=mF (ha x hx)
   unfold dpv
   rw[hv x hx]
   exact this
  refine⟨fun x hx=>(e x hx).2.2 (h0 x hx),d,by rw[x0m fun x hx=>(e x hx).1];exact h1,h2.imp id (fun h=>?_),h3⟩
  rw[x0f]at h ⊢
  exact fun x hx=>by rw[hv x hx];exact h x hx
 | callF k xs =>
  have e:∀x∈xs,dpv g x=dpv f x/\(bE g (vd g x)↔bE f (vd f x)):=fun x hx=>by
   have:=mF (ha x hx)
   unfold dpv
   rw[hv x hx]
   exact this
  simp only[aC]at hr ⊢
  rw[x0m fun x hx=>(e x hx).1]
  exact⟨fun x hx=>(e x hx).2.2 (hr.1 x hx),hr.2⟩
 | callN k x0 xs =>
  have e0:=hv x0 (by simp[ah]);have a0:=ha x0 (by simp[ah])
  have e:∀x∈xs,vd g x=vd f x:=fun x hx=>hv x (by simp[ah,hx])
  simp only[aC,e0]at hr ⊢
  split at hr
  ·rename_i b i o k n hvx
   rw[hvx]at a0
   have hb:g b=f b:=a0.ref
   rw[hb,x0m e]
   obtain⟨h1,hr⟩:=hr
   refine⟨h1,?_⟩
   split at hr
   ·obtain⟨row0,h2,sz,es,h3,h4,h5,h6⟩:=hr
    exact⟨row0,h2,sz,es,h3,h4,fun x hx=>by rw[e x hx];exact h5 x hx,h6⟩
   ·exact hr.elim
  ·exact hr.elim
 | callA k xs =>
  have e:∀x∈xs,vd g x=vd f x:=fun x hx=>hv x (by simp[ah,hx])
  simp only[aC]at hr ⊢
  rw[x0m e]
  exact⟨fun x hx=>by rw[e x hx];exact hr.1 x hx,hr.2⟩
 | callL k x0 xs =>
  have e0:=hv x0 (by simp[ah]);have a0:=ha x0 (by simp[ah])
  have e:∀x∈xs,vd g x=vd f x:=fun x hx=>hv x (by simp[ah,hx])
  simp only[aC,e0]at hr ⊢
  split at hr
  ·rename_i b i o hvx
   rw[hvx]at a0
   have hb:g b=f b:=a0.adr
   rw[hb,x0m e]
   obtain⟨h1,h2,hr⟩:=hr
   refine⟨h1,h2,?_⟩
   split at hr
   ·exact⟨hr.1,fun x hx=>by rw[e x hx];exact hr.2.1 x hx,hr.2.2⟩
   ·exact hr.elim
  ·exact hr.elim
 | clr zs x0 =>
  have e0:=hv x0 (by simp[ah]);have a0:=ha x0 (by simp[ah])
  simp only[aC,e0]at hr ⊢
  split at hr
  ·exact hr
  ·rename_i b k n hvx
   rw[hvx]at a0
   have hb:g b=f b:=a0.ref
   rw[hb]
   exact hr
  ·rename_i b i o k n hvx
   rw[hvx]at a0
   have hb:g b=f b:=a0.ref
   rw[hb]
   exact hr
  ·exact hr.elim
 | callE k x0 xs =>
  have e0:=hv x0 (by simp[ah]);have a0:=ha x0 (by simp[ah])
  have e:∀x∈xs,kC g x=kC f x/\∀b,lT g b x↔lT f b x:=fun x hx=>by
   have h1:=hv x (by simp[ah,hx])
   have h2:=ha x (by simp[ah,hx])
   unfold kC lT
   rw[h1]
   revert h2
   generalize vd f x=d
   intro h2
   cases d<;>first|exact⟨rfl,fun _=>Iff.rfl⟩|skip
   rename_i p k n
   cases p with
   | r c =>
    have hb:g c=f c:=h2.ref
    exact⟨by simp only[hb],fun _=>by simp only[hb]⟩
   | n c i o=>exact⟨rfl,fun _=>Iff.rfl⟩
  simp only[aC,e0]at hr ⊢
  split at hr
  ·split at hr
   ·rename_i p k n hvx
    rw[hvx]at a0
    have hb:g p.root=f p.root:=a0.ref
    have hd:cJ g p=cJ f p:=by
     cases p with
     | r c=>rfl
     | n c i o=>simp only[cJ];rw[show g c=f c from hb]
    simp only[cK hb,hd]
    rw[x0m fun x hx=>(e x hx).1]
    split at hr
    ·obtain⟨h1,h2,h3,h4,h5,h6⟩:=hr
     exact⟨h1,h2,h3,h4,fun x hx=>((e x hx).2 _).2 (h5 x hx),h6⟩
    ·exact hr.elim
   ·exact hr.elim
  ·exact hr.elim
 | callv x0 xs =>
  have e0:=hv x0 (by simp[ah]);have a0:=ha x0 (by simp[ah])
  have e:∀x∈xs,dpv g x=dpv f x/\(bE g (vd g x)↔bE f (vd f x)):=fun x hx=>by
   have:=mF (ha x (by simp[ah,hx]))
   unfold dpv
   rw[hv x (by simp[ah,hx])]
   exact this
  simp only[aC,e0]at hr ⊢
  split at hr
  ·obtain⟨h0,d,h1,h2,h3⟩:=hr
   refine⟨fun x hx=>(e x hx).2.2 (h0 x hx),d,by rw[x0m fun x hx=>(e x hx).1];exact h1,h2.imp id (fun h=>?_),h3⟩
   rw[x0f]at h ⊢
   exact fun x hx=>by rw[hv x (by simp[ah,hx])];exact h x hx
  ·rename_i k cs ex
   rw[ex]at a0
   obtain⟨h0,h0',d,h1,h2,h3⟩:=hr
   have ec:∀c∈cs,dp1 g c=dp1 f c/\(aN g c↔aN f c):=fun c hc=>fg fun b hb=>a0 b (fk hc hb)
   exact⟨fun x hx=>(e x hx).2.2 (h0 x hx),fun c hc=>(ec c hc).2.2 (h0' c hc),d,by rw[x0m fun x hx=>(e x hx).1,x0m fun c hc=>(ec c hc).1];exact h1,h2,h3⟩
  ·exact hr
 | _=>(simp only[aC]at hr ⊢;exact u3 hv ha hr)
end
end Go.Gv

namespace Go.Gv
open Go.RowKit
def aA:D->List Nat
 | .ref p _ _=>[p.root]
 | .adr p _ _=>[p.root]
 | .ifa _ p _ _=>[p.root]
 | .mrf b=>[b]
 | _=>[]
def a7:D->List Nat
 | .agx ds=>ds.flatMap aA
 | .tpx ds=>ds.flatMap aA
 | .ptx ds=>ds.flatMap aA
 | .rfx _ _ ds=>ds.flatMap aA
 | .fnx _ ds=>ds.flatMap aA
 | .fny _ ds cs=>ds.flatMap aA++cs.flatMap aA
 | d=>aA d
theorem mX{b:Nat}{all:Bool}{p:Pa}(h:bA b all p=true):b=p.root:=by
 cases p<;>simp[bA,Pa.root]at h ⊢<;>simp_all
theorem lH{b:Nat}{all:Bool}{d:D}(h:aB b all d=true):b∈aA d:=by
 cases d<;>simp only[aB,x0n]at h
 case ref p k n=>simp[aA,mX h]
 case adr p i o=>simp[aA,mX h]
 case ifa T p i o=>simp[aA,mX h]
 case mrf c=>simp at h;simp[aA,h.2]
theorem jv{b:Nat}{all:Bool}{d:D}(h:cF b all d=true):b∈a7 d:=by
 have part:∀ds:List D,ds.any (aB b all)=true->b∈ds.flatMap aA:=fun ds h=>by
  obtain⟨d,h1,h2⟩:=x0O.1 h
  exact List.mem_flatMap.2 ⟨d,h1,lH h2⟩
 cases d
 case agx ds=>exact part ds h
 case tpx ds=>exact part ds h
 case ptx ds=>exact part ds h
 case rfx n sz ds=>exact part ds h
 case fnx g ds=>exact part ds h
 case fny g ds cs =>
  simp only[cF,x0H]at h
  simp only[a7,x0l]
  rcases h with h|h
  ·exact .inl (part ds h)
  ·exact .inr (part cs h)
 all_goals (simp only[cF]at h;simp only[a7];exact lH h)
theorem kU(ks:List (Nat×Bool)):aD ks .any=false:=by
 simp[aD,cF,aB]
theorem mW{ks:List (Nat×Bool)}{d:D}(h:aD ks d=true):∃k∈ks,cF k.1 k.2 d=true:=by
 simpa[aD]using h
theorem gM{ws:List (Nat×D)}{k:Nat}{d:D}(h:ws.lookup k=some d):(k,d)∈ws:=by
 induction ws with
 | nil=>cases h
 | cons p ws ih =>
  obtain⟨s,x⟩:=p
  rw[x0i]at h
  cases e:k==s with
  | true=>rw[e]at h;simp at e h;subst e;subst h;simp
  | false=>rw[e]at h;simp[ih h]
theorem qB{ws:List (Nat×D)}{k:Nat}(h:ws.lookup k=none):k∉ws.map (·.1):=by
 induction ws with
 | nil=>simp
 | cons p ws ih =>
  obtain⟨s,x⟩:=p
  rw[x0i]at h
  cases e:k==s with
  | true=>rw[e]at h;cases h
  | false=>rw[e]at h;simp at e;simp only[x0I,x0M,not_or];exact⟨e,ih h⟩
theorem fz{ws:List (Nat×D)}{k:Nat}(h:k∉ws.map (·.1)):ws.lookup k=none:=by
 refine qC fun d hd=>h (x0s.2 ⟨_,hd,rfl⟩)
structure Fam where
 n:Nat
 ws:Nat->List (Nat×D)
 ks:Nat->List (Nat×Bool)
 rd:Nat->List Nat
 mn:Nat->List Nat
 fr:Nat->List (Nat×Nat)
 bef:Nat->Nat->Bool
 f0:Nat->D
def Fam.W(A:Fam)(i:Nat):List Nat:=(A.ws i).map (·.1)
def Fam.E(A:Fam)(i:Nat):(Nat->D)->(Nat->D):=eff (A.ws i) (A.ks i)
def Fam.G(A:Fam)(l:Nat->Bool):Nat->(Nat->D)
 | 0=>A.f0
 | m+1=>if l m then A.E m (A.G l m) else A.G l m
def Fam.St(A:Fam)(m:Nat):Nat->D:=A.G (fun _=>true) m
def fD(m:Nat):D->Option (List (Option D))
 | .blk _ es=>some (es.map fun r=>r[m]?)
 | _=>none
def Fam.Pres(A:Fam)(i k m:Nat):Prop:=fD m (A.St (i+1) k)=fD m (A.St i k)
def Fam.Apart(A:Fam)(i j:Nat):Prop:=(∀k∈A.W i,k∉A.rd j/\k∉A.W j/\∀m,(k,m)∈A.fr j->A.Pres i k m)/\∀k∈A.ks i,k.1∉A.mn j
def Fam.Ind(A:Fam)(i j:Nat):Prop:=A.Apart i j/\A.Apart j i
structure Fam.Ok (A:Fam):Prop where
 kills:∀i,i<A.n->∀k∈A.ks i,k.1∈A.W i
 vals:∀i,i<A.n->∀p∈A.ws i,∀b all,cF b all p.2=true->b∈A.mn i\/b∈A.W i
 closed:∀i,i<A.n->∀k∈A.rd i,∀b all,cF b all (A.St i k)=true->b∈A.mn i
 fine:∀i,i<A.n->∀p∈A.fr i,p.1∉A.W i
 known:∀i,i<A.n->∀k∈A.rd i,A.St i k≠.any
 pairs:∀i j,i<j->j<A.n->A.bef j i=true\/A.Ind i j
section
variable{A:Fam}
theorem ef{ws:List (Nat×D)}{ks:List (Nat×Bool)}{f:Nat->D}{k:Nat}{d:D}(h:ws.lookup k=some d):eff ws ks f k=d:=aM h
theorem cE{ws:List (Nat×D)}{ks:List (Nat×Bool)}{f:Nat->D}{k:Nat}(h:ws.lookup k=none):eff ws ks f k=if aD ks (f k) then .any else f k:=by
 unfold eff;rw[h]
theorem Fam.Ok.noKill(h:A.Ok){i j:Nat}(hi:i<A.n)(hj:j<A.n)(hI:A.Apart j i){p:Nat×D}(hp:p∈A.ws i):aD (A.ks j) p.2=false:=by
 cases hm:aD (A.ks j) p.2 with
 | false=>rfl
 | true =>
  obtain⟨k,h1,h2⟩:=mW hm
  have h3:=h.kills j hj k h1
  have h5:=(hI.1 _ h3).2.1
  have h4:=hI.2 k h1
  rcases h.vals i hi p hp _ _ h2 with h6|h6
  ·exact absurd h6 h4
  ·exact absurd h6 h5
theorem Fam.Ok.comm(h:A.Ok){i j:Nat}(hi:i<A.n)(hj:j<A.n)(hI:A.Ind i j)(f:Nat->D):A.E i (A.E j f)=A.E j (A.E i f):=by
 funext k
 unfold Fam.E
 cases h1:(A.ws i).lookup k with
 | some d =>
  have hk:k∈A.W i:=x0s.2 ⟨_,gM h1,rfl⟩
  have h2:(A.ws j).lookup k=none:=fz (hI.1.1 k hk).2.1
  have h3:=h.noKill hi hj hI.2 (gM h1)
  rw[ef h1,cE h2,ef h1]
  simp only at h3
  rw[h3];rfl
 | none =>
  cases h2:(A.ws j).lookup k with
  | some d =>
   have h3:=h.noKill hj hi hI.1 (gM h2)
   rw[cE h1,ef h2,ef h2]
   simp only at h3
   rw[h3];rfl
  | none =>
   rw[cE h1,cE h2,cE h2,cE h1]
   cases e1:aD (A.ks i) (f k)<;>cases e2:aD (A.ks j) (f k)<;>simp[e1,e2,kU]
def vG(A:Fam)(l:Nat->Bool):Prop:=∀j,j<A.n->l j=true->∀i,i<j->A.bef j i=true->l i=true
open Classical in
noncomputable def cM(A:Fam)(l:Nat->Bool)(m:Nat)(d:D):D:=if ∃u,u<m/\l u=false/\aD (A.ks u) d=true then .any else d
theorem oA(l:Nat->Bool)(m:Nat):cM A l m .any=.any:=by
 unfold cM;split<;>rfl
theorem BK(h:A.Ok){l:Nat->Bool}(hs:vG A l):∀m,m<=A.n->∀k,(∀u,u<m->l u=false->k∉A.W u)->A.St m k=cM A l m (A.G l m k)
 | 0,_,k,_=>by
  unfold cM
  rw[if_neg (by rintro⟨u,hu,_⟩;omega)]
  rfl
 | m+1,hm,k,hk=>by
  have ih:=BK h hs m (by omega) k (fun u hu=>hk u (by omega))
  have e1:A.St (m+1) k=A.E m (A.St m) k:=by simp[Fam.St,Fam.G]
  rw[e1]
  cases hl:l m with
  | true =>
   have e2:A.G l (m+1) k=A.E m (A.G l m) k:=by simp[Fam.G,hl]
   rw[e2]
   unfold Fam.E
   cases h1:(A.ws m).lookup k with
   | some d =>
    rw[ef h1,ef h1]
    unfold cM
    rw[if_neg]
    rintro⟨u,hu,hlu,hmu⟩
    have hum:u<m:=by
     rcases x1i u m with h|h
     ·exact h
     ·have:u=m:=by omega
      subst this;rw[hl]at hlu;cases hlu
    rcases h.pairs u m hum (by omega)with h2|h2
    ·rw[hs m (by omega) hl u hum h2]at hlu;cases hlu
    ·have:=h.noKill (i:=m) (j:=u) (by omega) (by omega) h2.1 (gM h1)
     simp only at this
     rw[this]at hmu;cases hmu
   | none =>
    rw[cE h1,cE h1,ih]
    have same:∀d,cM A l (m+1) d=cM A l m d:=fun d=>by
     unfold cM
     congr 1
     refine propext ⟨fun⟨u,h3,h4,h5⟩=>⟨u,?_,h4,h5⟩,fun⟨u,h3,h4,h5⟩=>⟨u,by omega,h4,h5⟩⟩
     rcases x1i u m with h|h
     ·exact h
     ·have:u=m:=by omega
      subst this;rw[hl]at h4;cases h4
    rw[same]
    generalize A.G l m k=g
    by_cases hc:∃u,u<m/\l u=false/\aD (A.ks u) g=true
    ·have e3:cM A l m g=.any:=by unfold cM;rw[if_pos hc]
     rw[e3,kU]
     cases hg:aD (A.ks m) g with
     | true=>simp only[if_true];rw[oA];rfl
     | false=>simp only[x0n,if_false];rw[e3]
    ·have e3:cM A l m g=g:=by unfold cM;rw[if_neg hc]
     rw[e3]
     cases hg:aD (A.ks m) g with
     | true=>simp only[if_true];rw[oA]
     | false=>simp only[x0n,if_false];rw[e3]
  | false =>
   have e2:A.G l (m+1) k=A.G l m k:=by simp[Fam.G,hl]
   rw[e2]
   unfold Fam.E
   rw[cE (fz (hk m (by omega) hl)),ih]
   generalize A.G l m k=g
   by_cases hc:∃u,u<m/\l u=false/\aD (A.ks u) g=true
   ·have e3:cM A l m g=.any:=by unfold cM;rw[if_pos hc]
    have e4:cM A l (m+1) g=.any:=by
     unfold cM
     obtain⟨u,h1,h2⟩:=hc
     rw[if_pos ⟨u,by omega,h2⟩]
    rw[e3,e4,kU];rfl
   ·have e3:cM A l m g=g:=by unfold cM;rw[if_neg hc]
    rw[e3]
    cases hg:aD (A.ks m) g with
    | true =>
     have e4:cM A l (m+1) g=.any:=by unfold cM;exact if_pos ⟨m,by omega,hl,hg⟩
     rw[e4];rfl
    | false =>
     have e4:cM A l (m+1) g=g:=by
      unfold cM
      refine if_neg ?_
      rintro⟨u,h1,h2,h3⟩
      rcases x1i u m with h|h
      ·exact hc ⟨u,h,h2,h3⟩
      ·have:u=m:=by omega
       subst this;rw[hg]at h3;cases h3
     rw[e4];rfl
theorem Fam.Ok.reads(h:A.Ok){l:Nat->Bool}(hs:vG A l){j:Nat}(hj:j<A.n)(hlj:l j=false)(hb:∀i,i<j->A.bef j i=true->l i=true):∀k∈A.rd j,A.G l A.n k=A.St j k:=by
 intro k hk
 have h1:A.G l j k=A.St j k:=by
  have h2:=BK h hs j (by omega) k (fun u hu hlu=>by
   rcases h.pairs u j hu hj with h3|h3
   ·rw[hb u hu h3]at hlu;cases hlu
   ·exact fun h4=>(h3.1.1 k h4).1 hk)
  have h3:=h.known j hj k hk
  rw[h2]at h3 ⊢
  unfold cM at h3 ⊢
  split at h3
  ·exact absurd rfl h3
  ·rename_i hc;rw[if_neg hc]
 have h2:∀m,j<=m->m<=A.n->A.G l m k=A.St j k:=by
  intro m
  induction m with
  | zero=>intro h3 _;have:j=0:=(by omega);subst this;exact h1
  | succ m ih =>
   intro h3 h4
   rcases x1i m j with h5|h5
   ·have:j=m+1:=by omega
    rw[<- this];exact h1
   ·have ihm:=ih h5 (by omega)
    cases hl:l m with
    | false=>simp[Fam.G,hl,ihm]
    | true =>
     have hjm:j<m:=by
      rcases x1i j m with h|h
      ·exact h
      ·have:j=m:=by omega
       subst this;rw[hl]at hlj;cases hlj
     rcases h.pairs j m hjm (by omega)with h6|h6
     ·rw[hs m (by omega) hl j hjm h6]at hlj;cases hlj
     ·have h7:(A.ws m).lookup k=none:=fz (fun h8=>(h6.2.1 k h8).1 hk)
      have h8:aD (A.ks m) (A.St j k)=false:=by
       cases hm:aD (A.ks m) (A.St j k) with
       | false=>rfl
       | true =>
        obtain⟨q,h9,h10⟩:=mW hm
        exact absurd (h.closed j hj k hk _ _ h10) (h6.2.2 q h9)
      simp only[Fam.G,hl,if_true,Fam.E]
      rw[cE h7,ihm,h8];rfl
 exact h2 A.n (by omega) (x0r _)
theorem ot(m:Nat)(ks:List (Nat×Bool))(d:D):fD m (if aD ks d then .any else d)=fD m d:=by
 cases d
 case blk sz es=>rw[oF rfl];rfl
 all_goals (split<;>rfl)
theorem iS(A:Fam)(f g:Nat->D)(i k m:Nat)(h:k∉A.W i):fD m (A.E i f k)=fD m (f k):=by
 unfold Fam.E
 rw[cE (fz h),ot]
theorem ou(A:Fam)(f g:Nat->D)(i k:Nat)(h:k∈A.W i):A.E i f k=A.E i g k:=by
 unfold Fam.E
 cases h1:(A.ws i).lookup k with
 | none=>exact absurd h (qB h1)
 | some d=>rw[ef h1,ef h1]
theorem jL(A:Fam)(m:Nat):A.St (m+1)=A.E m (A.St m):=by simp[Fam.St,Fam.G]
theorem Fam.Ok.readsC(h:A.Ok){l:Nat->Bool}(hs:vG A l){j:Nat}(hj:j<A.n)(hlj:l j=false)(hb:∀i,i<j->A.bef j i=true->l i=true):∀p∈A.fr j,fD p.2 (A.G l A.n p.1)=fD p.2 (A.St j p.1):=by
 rintro⟨k,c⟩ hk
 simp only
 have hkj:=h.fine j hj _ hk
 simp only at hkj
 have low:∀m,m<=j->fD c (A.G l m k)=fD c (A.St m k):=by
  intro m
  induction m with
  | zero=>intro _;rfl
  | succ m ih =>
   intro hm
   have ihm:=ih (by omega)
   rw[jL]
   by_cases hw:k∈A.W m
   ·cases hl:l m with
    | true =>
     simp only[Fam.G,hl,if_true]
     rw[ou A _ (A.St m) m k hw]
    | false =>
     simp only[Fam.G,hl,x0n,if_false]
     rcases h.pairs m j (by omega) hj with h1|h1
     ·rw[hb m (by omega) h1]at hl;cases hl
     ·have h2:=(h1.1.1 k hw).2.2 c hk
      unfold Fam.Pres at h2
      rw[jL]at h2
      rw[h2,ihm]
   ·rw[iS A _ (A.St m) m k c hw]
    cases hl:l m with
    | true =>
     simp only[Fam.G,hl,if_true]
     rw[iS A _ (A.St m) m k c hw,ihm]
    | false=>simp only[Fam.G,hl,x0n,if_false];exact ihm
 have run:∀m,j<=m->m<=A.n->(∀u,j<u->u<m->k∈A.W u->A.Pres u k c)->fD c (A.St m k)=fD c (A.St j k):=by
  intro m
  induction m with
  | zero=>intro h1 _ _;have:j=0:=(by omega);subst this;rfl
  | succ m ih =>
   intro h1 h2 h3
   rcases x1i m j with h4|h4
   ·have:j=m+1:=by omega
    rw[<- this]
   ·have ihm:=ih h4 (by omega) (fun u h5 h6 h7=>h3 u h5 (by omega) h7)
    by_cases hw:k∈A.W m
    ·have hjm:j<m:=by
      rcases x1i j m with h|h
      ·exact h
      ·have:j=m:=by omega
       subst this;exact absurd hw hkj
     have:=h3 m hjm (by omega) hw
     unfold Fam.Pres at this
     rw[this,ihm]
    ·rw[jL,iS A _ (A.St m) m k c hw,ihm]
 have high:∀m,j<=m->m<=A.n->fD c (A.G l m k)=fD c (A.St j k):=by
  intro m
  induction m with
  | zero=>intro h1 _;have:j=0:=(by omega);subst this;exact low 0 (x0r _)
  | succ m ih =>
   intro h1 h2
   rcases x1i m j with h4|h4
   ·have:j=m+1:=by omega
    rw[<- this];exact low j (x0r _)
   ·have ihm:=ih h4 (by omega)
    cases hl:l m with
    | false=>simp only[Fam.G,hl,x0n,if_false];exact ihm
    | true =>
     simp only[Fam.G,hl,if_true]
     by_cases hw:k∈A.W m
     ·have hjm:j<m:=by
       rcases x1i j m with h|h
       ·exact h
       ·have:j=m:=by omega
        subst this;rw[hl]at hlj;cases hlj
      have pres:∀u,j<u->u<A.n->k∈A.W u->l u=true->A.Pres u k c:=fun u h5 h6 h7 h8=>by
       rcases h.pairs j u h5 h6 with h9|h9
       ·rw[hs u h6 h8 j h5 h9]at hlj;cases hlj
       ·exact(h9.2.1 k h7).2.2 c hk
      have h5:=run m h4 (by omega) (fun u h5 h6 h7=>pres u h5 (by omega) h7 (by
       rcases h.pairs u m h6 (by omega)with h9|h9
       ·exact hs m (by omega) hl u h6 h9
       ·exact absurd hw (h9.1.1 k h7).2.1))
      have h6:=pres m hjm (by omega) hw hl
      unfold Fam.Pres at h6
      rw[ou A _ (A.St m) m k hw,<- jL,h6,h5]
     ·rw[iS A _ (A.St m) m k c hw,ihm]
 exact high A.n (by omega) (x0r _)
theorem Fam.Ok.more(h:A.Ok){l l':Nat->Bool}(hs:vG A l){j:Nat}(hj:j<A.n)(hlj:l j=false)(hj':l' j=true)(hl':∀i,i≠j->l' i=l i):A.G l' A.n=A.E j (A.G l A.n):=by
 have low:∀m,m<=j->A.G l' m=A.G l m:=by
  intro m
  induction m with
  | zero=>intro _;rfl
  | succ m ih =>
   intro hm
   simp only[Fam.G]
   rw[ih (by omega),hl' m (by omega)]
 have high:∀m,j<m->m<=A.n->A.G l' m=A.E j (A.G l m):=by
  intro m
  induction m with
  | zero=>intro h1;omega
  | succ m ih =>
   intro h1 h2
   rcases x1i j m with h3|h3
   ·have ihm:=ih h3 (by omega)
    simp only[Fam.G]
    rw[hl' m (by omega),ihm]
    cases hl:l m with
    | false=>rfl
    | true =>
     simp only[if_true]
     rcases h.pairs j m h3 (by omega)with h4|h4
     ·rw[hs m (by omega) hl j h3 h4]at hlj;cases hlj
     ·exact(h.comm hj (by omega) h4 _).symm
   ·have:m=j:=by omega
    subst this
    simp only[Fam.G]
    rw[hj',hlj,low m (x0r _)]
    rfl
 exact high A.n hj (x0r _)
end
end Go.Gv

namespace Go.Gv
open Go.RowKit
def iC:Opd->List Nat
 | .t s=>[s]
 | .c _=>[]
def qo:Option (Nat×Bool)->List Nat
 | some (s,_)=>[s]
 | none=>[]
def rdS(n:ao):List Nat:=(ah n.op).flatMap iC++qo n.guard
def DM:NOp->List Opd
 | .mov _=>[]
 | .nck _=>[]
 | .pick _ _ _=>[]
 | .bin _ _ _=>[]
 | .un _ _=>[]
 | .conv _ _=>[]
 | .ext _ _=>[]
 | .fad _ _=>[]
 | .ld _ _ _=>[]
 | .ldQ _ _=>[]
 | .mk _ _=>[]
 | .bld _ _=>[]
 | .boxF _=>[]
 | .blsF _ _ _ _=>[]
 | .blsX _ _ _ _=>[]
 | .len _=>[]
 | .iadA _ _ _ _=>[]
 | o=>ah o
def ldN:NOp->List Opd
 | .ld _ _ x=>[x]
 | _=>[]
def rdR(f:Nat->D)(n:ao):List Nat:=((DM n.op).flatMap fun x=>a7 (vd f x))++((ldN n.op).flatMap fun x=>aA (vd f x))
def mnR(f:Nat->D)(n:ao):List Nat:=(ah n.op).flatMap fun x=>a7 (vd f x)
def frR(f:Nat->D)(n:ao):List (Nat×Nat):=match n.op with
 | .ldQ o x=>match vd f x with
  | .adr (.r c) _ _=>[(c,o)]
  | _=>[]
 | _=>[]
def fwR(f:Nat->D)(n:ao):List (Nat×Nat):=match n.op with
 | .appQ o _ _ x _=>match vd f x with
  | .ref (.n c _ _) _ _=>[(c,o)]
  | _=>[]
 | _=>[]
abbrev Rds:=List Nat×List Nat×List (Nat×Nat)×List (Nat×Nat)
def fW(x:Rds):List Nat:=x.1.map (4 * ·)++x.2.1.map (4 * ·+1)++x.2.2.1.map (fun p=>4*(64*p.1+p.2%64)+2)++x.2.2.2.map (fun p=>4*(64*p.1+p.2%64)+3)
def rdN(f:Nat->D)(n:ao):Rds:=(rdS n++rdR f n,mnR f n,frR f n,fwR f n)
def iq(f:Nat->D)(n:ao):List Nat:=fW (rdN f n)
def wrK(ws:List (Nat×D))(ks:List (Nat×Bool)):List Nat:=(ws.map fun p=>4*p.1)++ks.map fun k=>4*k.1+1
def ci:D->Bool
 | .any=>true
 | _=>false
def chk(f:Nat->D)(n:ao):Bool:=((rdS n).all fun s=>!ci (f s))&&((rdR f n).all fun b=>isB (f b))&&((frR f n).all fun p=>!(n.dst==some p.1))&&(fwR f n).all fun p=>!(n.dst==some p.1)
def wOk(R:List Nat)(ws:List (Nat×D))(ks:List (Nat×Bool)):Bool :=
 (ks.all fun k=>(ws.map (·.1)).contains k.1)&&ws.all fun p=>(a7 p.2).all fun b=>R.contains (4*b+1)||(ws.map (·.1)).contains b
def vV(q:Nat)(r0:List Nat):Bool:=r0.any fun z=>decide (z%4=3)&&decide (z/256=q/256)&&!decide (z/4%64=q/4%64)
def rD(x r0:List Nat)(r w:List Nat):Bool:=x.all fun k=>!r.contains k&&!w.contains k&&r.all fun q=>!(decide (q%4=2)&&decide (k=4*(q/256)))||vV q r0
def j1(hs:List Nat)(rw:List (List Nat×List Nat)):Bool :=
 rw.zipIdx.all fun p=>rw.zipIdx.all fun q=>!decide (p.2<q.2)||(hs.getD q.2 0).testBit p.2||(rD p.1.2 p.1.1 q.1.1 q.1.2&&rD q.1.2 q.1.1 p.1.1 p.1.2)
def uz:Option Nat->List Nat
 | some t=>[4*t]
 | none=>[]
def jh(C:Nat->List D->D->List D->Prop)(hs:List Nat)(K:Env->Prop):List ao->Env->List (List Nat×List Nat)->Prop
 | [],e,acc=>j1 hs acc.reverse=true/\K e
 | o::os,e,acc=>chk (ac e) o=true/\match o.guard with
  | none=>aC C (ac e) o.dst (fun ws ks=>wOk (iq (ac e) o) ws ks=true/\jh C hs K os (ws++dJ ks e) ((iq (ac e) o,wrK ws ks)::acc)) o.op
  | some (s,want)=>match ac e s with
   | .bool b=>(b=want->aC C (ac e) o.dst (fun ws ks=>wOk (iq (ac e) o) ws ks=true/\jh C hs K os (ws++dJ ks e) ((iq (ac e) o,wrK ws ks)::acc)) o.op) /\
     (b=!want->gC e o.dst fun e'=>jh C hs K os e' ((iq (ac e) o,uz o.dst)::acc))
   | .tup []=>gC e o.dst fun e'=>jh C hs K os e' ((iq (ac e) o,uz o.dst)::acc)
   | _=>False
def dt(n:ao):Option (List (Nat×D)×List (Nat×Bool))->List (Nat×D)
 | some (ws,_)=>ws
 | none=>match n.dst with
  | some t=>[(t,.tup [])]
  | none=>[]
def ev:Option (List (Nat×D)×List (Nat×Bool))->List (Nat×Bool)
 | some (_,ks)=>ks
 | none=>[]
theorem yI(n:ao)(x:Option (List (Nat×D)×List (Nat×Bool)))(f:Nat->D):nS n x f=eff (dt n x) (ev x) f:=by
 cases x with
 | some y=>rfl
 | none =>
  unfold nS dt ev
  cases n.dst with
  | some t=>rfl
  | none=>exact(jW f).symm
abbrev fG:=ao×Option (List (Nat×D)×List (Nat×Bool))×Rds
def Tr(C:Nat->List D->D->List D->Prop):List fG->(Nat->D)->(Nat->D)->Prop
 | [],f,f'=>f'=f
 | (n,x,rd)::ts,f,f'=>ij C n f x/\chk f n=true/\wOk (iq f n) (dt n x) (ev x)=true/\rd=rdN f n/\Tr C ts (eff (dt n x) (ev x) f) f'
section
variable{C:Nat->List D->D->List D->Prop}
theorem BV{hs:List Nat}{K:Env->Prop}:∀(ns:List ao) (e:Env) (acc:List (List Nat×List Nat)),jh C hs K ns e acc->∃(ts:List fG) (e':Env),ts.map (·.1)=ns/\Tr C ts (ac e) (ac e')/\j1 hs (acc.reverse++ts.map fun t=>(fW t.2.2,wrK (dt t.1 t.2.1) (ev t.2.1)))=true/\K e'
 | [],e,acc,h=>⟨[],e,rfl,rfl,by simpa using h.1,h.2⟩
 | n::ns,e,acc,h=>by
  obtain⟨h0,h⟩:=h
  have fin:∀(x:Option (List (Nat×D)×List (Nat×Bool))) (e1:Env),ij C n (ac e) x->wOk (iq (ac e) n) (dt n x) (ev x)=true->ac e1=eff (dt n x) (ev x) (ac e)->jh C hs K ns e1 ((iq (ac e) n,wrK (dt n x) (ev x))::acc) ->
    ∃(ts:List fG) (e':Env),ts.map (·.1)=n::ns/\Tr C ts (ac e) (ac e')/\j1 hs (acc.reverse++ts.map fun t=>(fW t.2.2,wrK (dt t.1 t.2.1) (ev t.2.1)))=true/\K e':=by
   intro x e1 h1 h2 h3 h4
   obtain⟨ts,e',g1,g2,g3,g4⟩:=BV ns e1 _ h4
   refine⟨(n,x,rdN (ac e) n)::ts,e',by simp[g1],⟨h1,h0,h2,rfl,by rw[<- h3];exact g2⟩,?_,g4⟩
   simpa[iq]using g3
  have run:(∀s b,n.guard=some (s,b)->ac e s=.bool b)->aC C (ac e) n.dst (fun ws ks=>wOk (iq (ac e) n) ws ks=true/\jh C hs K ns (ws++dJ ks e) ((iq (ac e) n,wrK ws ks)::acc)) n.op ->
    ∃(ts:List fG) (e':Env),ts.map (·.1)=n::ns/\Tr C ts (ac e) (ac e')/\j1 hs (acc.reverse++ts.map fun t=>(fW t.2.2,wrK (dt t.1 t.2.1) (ev t.2.1)))=true/\K e':=by
   intro hg h1
   obtain⟨ws,ks,⟨h2,h3⟩,h4⟩:=nq h1
   exact fin (some (ws,ks)) _ ⟨hg,h4 _ ⟨rfl,rfl⟩⟩ h2 (iz ws ks e) h3
  have skp:∀s want,n.guard=some (s,want)->Skp want (ac e s)->gC e n.dst (fun e'=>jh C hs K ns e' ((iq (ac e) n,uz n.dst)::acc)) ->
    ∃(ts:List fG) (e':Env),ts.map (·.1)=n::ns/\Tr C ts (ac e) (ac e')/\j1 hs (acc.reverse++ts.map fun t=>(fW t.2.2,wrK (dt t.1 t.2.1) (ev t.2.1)))=true/\K e':=by
   intro s want hg hb h1
   unfold gC at h1
   split at h1
   ·rename_i hd
    refine fin none e ⟨s,want,hg,hb⟩ (by simp[wOk,dt,ev,hd]) (by simp[dt,ev,hd,jW]) ?_
    simpa[dt,ev,wrK,hd,uz]using h1
   ·rename_i t hd
    refine fin none ((t,.tup [])::e) ⟨s,want,hg,hb⟩ (by simp[wOk,dt,ev,hd,a7,aA]) ?_ ?_
    ·have:=iz [(t,.tup [])] [] e
     simp only[dJ,if_true]at this
     simpa[dt,ev,hd]using this
    ·simpa[dt,ev,wrK,hd,uz]using h1
  split at h
  ·rename_i hg
   exact run (fun s b e'=>(by rw[hg]at e';cases e')) h
  ·rename_i s want hg
   split at h
   ·rename_i b hb
    by_cases hbw:b=want
    ·subst hbw
     exact run (fun s' b' e'=>(by rw[hg]at e';cases e';exact hb)) (h.1 rfl)
    ·have hb':b=!want:=by cases b<;>cases want<;>simp_all
     have h1:=h.2 hb'
     rw[hb']at hb
     exact skp s want hg (.inl hb) h1
   ·rename_i hb
    exact skp s want hg (.inr hb) h
   ·exact h.elim
def aP(hs:List Nat)(ts:List fG)(f:Nat->D):Fam where
 n:=ts.length
 ws i:=match ts[i]? with
  | some t=>dt t.1 t.2.1
  | none=>[]
 ks i:=match ts[i]? with
  | some t=>ev t.2.1
  | none=>[]
 rd i:=match ts[i]? with
  | some t=>t.2.2.1
  | none=>[]
 mn i:=match ts[i]? with
  | some t=>t.2.2.2.1
  | none=>[]
 fr i:=match ts[i]? with
  | some t=>t.2.2.2.2.1
  | none=>[]
 bef j i:=(hs.getD j 0).testBit i
 f0:=f
theorem kJ(hs:List Nat)(t:fG)(ts:List fG)(f:Nat->D):∀i,(aP hs (t::ts) f).St (i+1)=(aP hs ts (eff (dt t.1 t.2.1) (ev t.2.1) f)).St i
 | 0=>by simp[Fam.St,Fam.G,Fam.E,aP]
 | i+1=>by
  have ih:=kJ hs t ts f i
  have e1:∀(A:Fam) (m:Nat),A.St (m+1)=A.E m (A.St m):=fun A m=>by simp[Fam.St,Fam.G]
  rw[e1,ih,e1]
  simp[Fam.E,aP]
theorem pQ(hs:List Nat):∀(ts:List fG) (f f':Nat->D),Tr C ts f f'->f'=(aP hs ts f).St ts.length/\∀(i:Nat) (t:fG),ts[i]? = some t->ij C t.1 ((aP hs ts f).St i) t.2.1/\chk ((aP hs ts f).St i) t.1=true/\wOk (fW t.2.2) (dt t.1 t.2.1) (ev t.2.1)=true/\t.2.2=rdN ((aP hs ts f).St i) t.1
 | [],f,f',h=>⟨h,fun i t h=>by simp at h⟩
 | (n,x,rd)::ts,f,f',h=>by
  obtain⟨h1,h2,h3,rfl,h4⟩:=h
  obtain⟨g1,g2⟩:=pQ hs ts _ f' h4
  refine⟨by rw[x0Q,kJ];exact g1,fun i t hi=>?_⟩
  cases i with
  | zero=>simp at hi;subst hi;exact⟨h1,h2,by simpa[iq]using h3,rfl⟩
  | succ i=>rw[kJ];exact g2 i t (by simpa using hi)
theorem x5{f:Nat->D}{n:ao}{x:Option (List (Nat×D)×List (Nat×Bool))}{c:Nat}(h2:(n.dst==some c)=false)(hx:x=none\/∃d ks,x=some ((match n.dst with|some t=>[(t,d)]|none=>[]),ks)):c∉(dt n x).map (·.1):=by
 have h3:n.dst≠some c:=by simpa using h2
 rcases hx with rfl|⟨d,ks,rfl⟩
 ·simp only[dt]
  split
  ·rename_i t e
   rw[e]at h3
   simp only[x0I,x0Y,x0M,x1o,or_false]
   exact fun e=>h3 (by rw[e])
  ·simp
 ·simp only[dt]
  split
  ·rename_i t e
   rw[e]at h3
   simp only[x0I,x0Y,x0M,x1o,or_false]
   exact fun e=>h3 (by rw[e])
  ·simp
theorem CM{f:Nat->D}{n:ao}{x:Option (List (Nat×D)×List (Nat×Bool))}(h:ij C n f x)(h2:chk f n=true){p:Nat×Nat}(hp:p∈frR f n):p.1∉(dt n x).map (·.1):=by
 have h3:(n.dst==some p.1)=false:=by
  simp only[chk,x0a,x0f]at h2
  simpa using h2.1.2 p hp
 refine x5 (f:=f) h3 ?_
 cases x with
 | none=>exact .inl rfl
 | some y =>
  obtain⟨ws,ks⟩:=y
  right
  have h:=h.2
  unfold frR at hp
  split at hp
  ·rename_i q x0 heq
   rw[heq]at h
   simp only[aC]at h
   split at h
   ·obtain⟨_,h⟩:=h
    split at h
    ·obtain⟨r,_,d,_,h⟩:=h
     unfold dc at h
     split at h
     ·rename_i t e
      obtain⟨rfl,rfl⟩:=h
      exact⟨_,_,by rw[e]⟩
     ·rename_i e
      obtain⟨rfl,rfl⟩:=h
      exact⟨.any,_,by rw[e]⟩
    ·exact h.elim
   ·exact h.elim
  ·cases hp
theorem ut{es:List (List D)}{sz i o m:Nat}{row:List D}(h:es[i]? = some row)(ho:o<row.length)(hm:o≠m):fD m (.blk sz (aV es i o 1 [.any]))=fD m (.blk sz es):=by
 simp only[fD,aV,h,x1r,x0k]
 apply List.ext_getElem?
 intro j
 rw[x0x,x0x,List.getElem?_set]
 split
 ·rename_i e
  subst e
  split
  ·rw[h]
   simp only[x1b,x0k]
   have hl:(row.take o).length=o:=by simp;omega
   rw[x1t]
   by_cases h1:m<o
   ·rw[x0t (by omega),x0B h1]
   ·rw[x0v (by omega),hl,x0v (by simp;omega),x0u]
    congr 1;simp only[x0Q,List.length_nil];omega
  ·rename_i h1
   rw[x1j (by omega)]
 ·rfl
theorem CL{f:Nat->D}{n:ao}{x:Option (List (Nat×D)×List (Nat×Bool))}(h:ij C n f x)(h2:chk f n=true){p:Nat×Nat}(hp:p∈fwR f n){m:Nat}(hm:p.2≠m):fD m (eff (dt n x) (ev x) f p.1)=fD m (f p.1):=by
 have h3:(n.dst==some p.1)=false:=by
  simp only[chk,x0a,x0f]at h2
  simpa using h2.2 p hp
 cases x with
 | none =>
  rw[cE (fz (x5 (f:=f) h3 (.inl rfl)))]
  exact ot _ _ _
 | some y =>
  obtain⟨ws,ks⟩:=y
  have h:=h.2
  have h30:n.dst≠some p.1:=by simpa using h3
  unfold fwR at hp
  split at hp
  ·rename_i q sz by_ x0 y0 heq
   rw[heq]at h
   simp only[aC]at h
   split at h
   ·rename_i t hd
    split at h
    ·rename_i c i o' k n' ex
     rw[ex]at hp
     simp only[x0M,x1o,or_false]at hp
     subst hp
     simp only at hm h30 ⊢
     obtain⟨rfl,h⟩:=h
     obtain⟨rows,bs,⟨h4,h5,h⟩,_⟩:=dC h
     split at h
     ·rename_i sz0 es0 hf
      obtain⟨row0,h6,es,h7,h8,h9,h10,h11⟩:=h
      subst h10 h11
      have e1:(c==t)=false:=by simp only[beq_eq_false_iff_ne,ne_eq];exact fun e=>h30 (by rw[hd,e])
      have e2:(c==rt t 0)=false:=by simpa using h5
      simp only[dt]
      rw[aM (d:=.blk sz0 (aV es0 i o' 1 [.any])) (by simp[x0i,e1,e2]),hf]
      exact ut h6 (x0b.1 h7).1 hm
     ·exact h.elim
    ·exact h.elim
   ·exact h.elim
  ·cases hp
theorem CI{hs:List Nat}{ts:List fG}{f f':Nat->D}(h:Tr C ts f f')(hi:j1 hs (ts.map fun t=>(fW t.2.2,wrK (dt t.1 t.2.1) (ev t.2.1)))=true):(aP hs ts f).Ok:=by
 obtain⟨_,hs'⟩:=pQ hs ts f f' h
 have get:∀i,i<ts.length->∃t,ts[i]? = some t:=fun i hi=>⟨_,x0e hi⟩
 have e4:∀{x:Rds} {z:Nat},z∈fW x->(∃k∈x.1,z=4*k)\/(∃k∈x.2.1,z=4*k+1)\/(∃p∈x.2.2.1,z=4*(64*p.1+p.2%64)+2)\/∃p∈x.2.2.2,z=4*(64*p.1+p.2%64)+3:=by
  intro x z hz
  simp only[fW,x0l,x0s]at hz
  rcases hz with ((⟨k,h1,h2⟩|⟨k,h1,h2⟩)|⟨p,h1,h2⟩)|⟨p,h1,h2⟩
  ·exact .inl ⟨k,h1,h2.symm⟩
  ·exact .inr (.inl ⟨k,h1,h2.symm⟩)
  ·exact .inr (.inr (.inl ⟨p,h1,h2.symm⟩))
  ·exact .inr (.inr (.inr ⟨p,h1,h2.symm⟩))
 have e1:∀{x:Rds} {k:Nat},k∈x.1->4*k∈fW x:=fun{x k} hk=>by
  simp only[fW,x0l,x0s];exact .inl (.inl (.inl ⟨k,hk,rfl⟩))
 have e2:∀{x:Rds} {k:Nat},k∈x.2.1->4*k+1∈fW x:=fun{x k} hk=>by
  simp only[fW,x0l,x0s];exact .inl (.inl (.inr ⟨k,hk,rfl⟩))
 have e3:∀{x:Rds} {p:Nat×Nat},p∈x.2.2.1->4*(64*p.1+p.2%64)+2∈fW x:=fun{x p} hk=>by
  simp only[fW,x0l,x0s];exact .inl (.inr ⟨p,hk,rfl⟩)
 refine⟨fun i hn k hk=>?_,fun i hn p hp b all hb=>?_,fun i hn k hk b all hb=>?_,fun i hn p hp hk=>?_,fun i hn k hk=>?_,fun i j hij hn=>?_⟩
 ·obtain⟨t,ht⟩:=get i hn
  obtain⟨_,_,h3,_⟩:=hs' i t ht
  simp only[aP,ht]at hk
  simp only[Fam.W,aP,ht]
  simp only[wOk,x0a,x0f]at h3
  exact x0G.1 (h3.1 k hk)
 ·obtain⟨t,ht⟩:=get i hn
  obtain⟨_,_,h3,_⟩:=hs' i t ht
  simp only[aP,ht]at hp
  simp only[Fam.W,aP,ht]
  simp only[wOk,x0a,x0f,x0H]at h3
  rcases h3.2 p hp b (jv hb)with h4|h4
  ·left
   have h5:=x0G.1 h4
   rcases e4 h5 with ⟨x,_,h6⟩|⟨x,h7,h6⟩|⟨x,_,h6⟩|⟨x,_,h6⟩
   ·omega
   ·have:x=b:=by omega
    subst this;exact h7
   ·omega
   ·omega
  ·exact .inr (x0G.1 h4)
 ·obtain⟨t,ht⟩:=get i hn
  obtain⟨h1,h2,_,h4⟩:=hs' i t ht
  simp only[aP,ht]at hk ⊢
  rw[h4]at hk ⊢
  simp only[chk,x0a,x0f]at h2
  rcases x0l.1 hk with h5|h5
  ·simp only[rdS]at h5
   rcases x0l.1 h5 with h6|h6
   ·obtain⟨x,h7,h8⟩:=List.mem_flatMap.1 h6
    cases x with
    | t s =>
     simp only[iC,x1d]at h8
     subst h8
     refine List.mem_flatMap.2 ⟨_,h7,?_⟩
     exact jv hb
    | c d=>simp[iC]at h8
   ·-- the guard's slot
    have:(∃bb,(aP hs ts f).St i k=.bool bb)\/(aP hs ts f).St i k=.tup []:=by
     cases hg:t.1.guard with
     | none=>rw[hg]at h6;simp[qo]at h6
     | some q =>
      obtain⟨s,want⟩:=q
      rw[hg]at h6
      simp only[qo,x1d]at h6
      subst h6
      unfold ij at h1
      split at h1
      ·exact .inl ⟨want,h1.1 k want hg⟩
      ·obtain⟨s',b',h7,h8⟩:=h1
       rw[hg]at h7;cases h7
       exact h8.imp (fun h8=>⟨_,h8⟩) id
    simp only[aP]at this hb
    rcases this with ⟨bb,hbb⟩|hbb<;>rw[hbb]at hb<;>simp[cF,aB]at hb
  ·have h6:=h2.1.1.2 k h5
   simp only[aP]at h6 hb
   have h7:∀d:D,isB d=true->cF b all d=false:=fun d hd=>by cases d<;>first|rfl|(simp[isB]at hd)
   rw[h7 _ h6]at hb;cases hb
 ·-- what reads a column writes its slot alone
  obtain⟨t,ht⟩:=get i hn
  obtain⟨h1,h2,h3,h4⟩:=hs' i t ht
  simp only[aP,ht]at hp
  simp only[Fam.W,aP,ht]at hk
  rw[h4]at hp
  simp only[rdN]at hp
  exact CM h1 h2 hp hk
 ·obtain⟨t,ht⟩:=get i hn
  obtain⟨h1,h2,_,h4⟩:=hs' i t ht
  simp only[aP,ht]at hk ⊢
  rw[h4]at hk
  simp only[chk,x0a,x0f]at h2
  rcases x0l.1 hk with h5|h5
  ·have:=h2.1.1.1 k h5
   intro e
   simp only[aP]at this
   rw[e]at this
   simp[ci]at this
  ·have:=h2.1.1.2 k h5
   intro e
   simp only[aP]at this
   rw[e]at this
   simp[isB]at this
 ·obtain⟨t,ht⟩:=get i (Nat.lt_trans hij hn)
  obtain⟨u,hu⟩:=get j hn
  simp only[j1,x0f]at hi
  have h1:=hi ((fW t.2.2,wrK (dt t.1 t.2.1) (ev t.2.1)),i) (List.mem_zipIdx_iff_getElem?.2 (by simp[ht])) ((fW u.2.2,wrK (dt u.1 u.2.1) (ev u.2.1)),j) (List.mem_zipIdx_iff_getElem?.2 (by simp[hu]))
  simp only[x0H,x0q,x0J,x0a]at h1
  rcases h1 with (h1|h1)|h1
  ·exact absurd hij h1
  ·exact .inl h1
  ·right
   simp only[rD,x0f,x0a,x0q]at h1
   have nm:∀{l:List Nat} {k:Nat},l.contains k=false->k∉l:=fun h hm=>by
    have:=x0G.2 hm
    rw[h]at this;cases this
   have one:∀(a b:fG) (x y:Nat),ts[x]? = some a->ts[y]? = some b->(∀k∈wrK (dt a.1 a.2.1) (ev a.2.1),((fW b.2.2).contains k=false/\(wrK (dt b.1 b.2.1) (ev b.2.1)).contains k=false)/\∀q∈fW b.2.2,(!(decide (q%4=2)&&decide (k=4*(q/256)))||vV q (fW a.2.2))=true)->(aP hs ts f).Apart x y:=by
    intro a b x y ha hb hab
    refine⟨fun k hk=>?_,fun k hk hm=>?_⟩
    ·have hk0:=hk
     simp only[Fam.W,aP,ha]at hk
     obtain⟨p,hp,rfl⟩:=x0s.1 hk
     obtain⟨⟨h2,h3⟩,h4⟩:=hab (4*p.1) (x0l.2 (.inl (x0s.2 ⟨p,hp,rfl⟩)))
     refine⟨fun hr=>nm h2 (e1 (by simp only[aP,hb]at hr;exact hr)),fun hw=>nm h3 (x0l.2 (.inl ?_)),fun m hm=>?_⟩
     ·simp only[Fam.W,aP,hb]at hw
      obtain⟨q,hq,e⟩:=x0s.1 hw
      exact x0s.2 ⟨q,hq,by rw[e]⟩
     ·simp only[aP,hb]at hm
      have h5:=h4 _ (e3 hm)
      have h6:(4*(64*p.1+m%64)+2)%4=2:=by omega
      have h7:(4*(64*p.1+m%64)+2)/256=p.1:=by omega
      have h8:(4*(64*p.1+m%64)+2)/4%64=m%64:=by omega
      simp only[h6,h7,decide_true,Bool.and_self,Bool.not_true,Bool.false_or,vV,h8,x0O,x0a,x0d,x0q,x0J]at h5
      obtain⟨z,hz,⟨hz3,hzc⟩,hzo⟩:=h5
      obtain⟨g1,g2,_,g4⟩:=hs' x a ha
      rcases e4 hz with ⟨_,_,h9⟩|⟨_,_,h9⟩|⟨_,_,h9⟩|⟨p',hp',h9⟩
      ·omega
      ·omega
      ·omega
      ·have e5:p'.1=p.1:=by omega
       have e6:p'.2%64≠m%64:=fun e=>hzo (by omega)
       rw[g4]at hp'
       simp only[rdN]at hp'
       have:=CL g1 g2 hp' (m:=m) (fun e=>e6 (by rw[e]))
       unfold Fam.Pres
       rw[jL]
       unfold Fam.E
       simp only[aP,ha]at this ⊢
       rw[e5]at this
       exact this
    ·simp only[aP,ha]at hk
     obtain⟨⟨h2,_⟩,_⟩:=hab (4*k.1+1) (x0l.2 (.inr (x0s.2 ⟨k,hk,rfl⟩)))
     refine nm h2 (e2 ?_)
     simp only[aP,hb]at hm;exact hm
   exact⟨one t u i j ht hu h1.1,one u t j i hu ht h1.2⟩
end
def uH(ops:Array Oper)(H:Array Nat)(j:Nat):Nat:=match ops[j]? with
 | some o=>o.after.toList.foldl (fun s e=>if Region.binds .any e then s ||| 2^e.on ||| H.getD e.on 0 else s) 0
 | none=>0
def td(ops:Array Oper)(j:Nat):Bool:=match ops[j]? with
 | some o=>o.after.toList.all fun e=>!Region.binds .any e||decide (e.on<j)
 | none=>true
theorem mJ(H:Array Nat)(i:Nat):∀(l:List Edge) (s:Nat),(l.foldl (fun s e=>if Region.binds .any e then s ||| 2^e.on ||| H.getD e.on 0 else s) s).testBit i=true ->
  s.testBit i=true\/∃e∈l,Region.binds .any e=true/\(i=e.on\/(H.getD e.on 0).testBit i=true)
 | [],s,h=>.inl h
 | e::l,s,h=>by
  simp only[List.foldl_cons]at h
  rcases mJ H i l _ h with h1|⟨e',h1,h2⟩
  ·split at h1
   ·rename_i hb
    simp only[Nat.testBit_or,x0H,Nat.testBit_two_pow,x0d]at h1
    rcases h1 with (h1|h1)|h1
    ·exact .inl h1
    ·exact .inr ⟨e,by simp,hb,.inl h1.symm⟩
    ·exact .inr ⟨e,by simp,hb,.inr h1⟩
   ·exact .inl h1
  ·exact .inr ⟨e',by simp[h1],h2⟩
theorem AJ{ops:Array Oper}{H:Array Nat}{j i:Nat}(h:(uH ops H j).testBit i=true):∃o,ops[j]? = some o/\∃e∈o.after.toList,Region.binds .any e=true/\(i=e.on\/(H.getD e.on 0).testBit i=true):=by
 unfold uH at h
 split at h
 ·rename_i o ho
  rcases mJ H i _ 0 h with h1|h1
  ·simp at h1
  ·exact⟨o,ho,h1⟩
 ·simp at h
def rO(hs:List Nat)(ops:Array Oper):Bool:=(List.range ops.size).all fun j=>hs.getD j 0==uH ops hs.toArray j&&td ops j
def left(n:Nat)(l:Nat->Bool):Nat:=((List.range n).filter fun i=>!l i).length
theorem ox{p q:Nat->Bool}{j:Nat}(hpq:∀i,q i=true->p i=true)(hp:p j=true)(hq:q j=false):∀(l:List Nat),j∈l->(l.filter q).length<(l.filter p).length
 | [],h=>by simp at h
 | i::l,h=>by
  have hle:(l.filter q).length<=(l.filter p).length:=by
   clear h
   induction l with
   | nil=>simp
   | cons x l ih =>
    simp only[List.filter_cons]
    cases hqx:q x with
    | true=>simp[hpq x hqx,ih]
    | false=>cases p x<;>simp<;>omega
  by_cases hij:i=j
  ·subst hij
   simp[hp,hq]
   omega
  ·have:=ox hpq hp hq l (by simpa[Ne.symm hij]using h)
   simp only[List.filter_cons]
   cases hqx:q i with
   | true=>simp[hpq i hqx,this]
   | false=>cases p i<;>simp<;>omega
section
variable{P:Program}{F:Fid}{C:Nat->List D->D->List D->Prop}{nt:Nat}{S:Nat->Prop}{L:Nat->Option Loc}{w0:World}{M0:Mem}{f:Nat->D}{M:Mem}{a:Act}{w:World}{Q:Exit->Act->World->Prop}
def lst(listed:Array Bool):Nat->Bool:=fun i=>listed.getD i true
theorem ju{ops:Array Oper}{listed:Array Bool}{i:Nat}:i∈Region.ready .any ops listed↔i<ops.size/\lst listed i=false/\∃o,ops[i]? = some o/\∀e∈o.after,Region.binds .any e=true->listed.getD e.on false=true:=by
 simp only[Region.ready,List.mem_filter,x1k,x0a,x0q,lst]
 constructor
 ·rintro⟨h1,h2,h3⟩
  refine⟨h1,h2,ops[i],x1f h1,fun e he hb=>?_⟩
  rw[x1f h1]at h3
  simp only[x1b,x1r,Array.all_eq_true_iff_forall_mem,x0H,x0q]at h3
  rcases h3 e he with h4|h4
  ·rw[hb]at h4;cases h4
  ·exact h4
 ·rintro⟨h1,h2,o,h3,h4⟩
  refine⟨h1,h2,?_⟩
  rw[h3]
  simp only[x1b,x1r,Array.all_eq_true_iff_forall_mem,x0H,x0q]
  intro e he
  cases hb:Region.binds .any e with
  | false=>exact .inl rfl
  | true=>exact .inr (h4 e he hb)
theorem wD(hs:List Nat)(j:Nat):hs.toArray.getD j 0=hs.getD j 0:=by
 simp[x1m,List.getD_eq_getElem?_getD]
theorem u2{f g:Nat->D}{n:ao}{dst:Option Nat}{K:List (Nat×D)->List (Nat×Bool)->Prop}(hv:∀x∈ah n.op,vd g x=vd f x)(hr:∀b∈rdR f n,g b=f b)(hc:∀p∈frR f n,fD p.2 (g p.1)=fD p.2 (f p.1))(h:aC C f dst K n.op):aC C g dst K n.op:=by
 obtain⟨d0,o,g0⟩:=n
 simp only at hv h ⊢
 have full:(∀x∈ah o,x∈DM o)->aC C g dst K o:=fun hN=>sK hv (fun x hx b hb=>hr b (x0l.2 (.inl (List.mem_flatMap.2 ⟨x,hN x hx,jv hb⟩)))) h
 cases o with
 | mov x=>simp only[aC,res,hv x (by simp[ah])]at h ⊢;exact h
 | nck x=>simp only[aC,res,hv x (by simp[ah])]at h ⊢;exact h
 | un op x=>simp only[aC,res,hv x (by simp[ah])]at h ⊢;exact h
 | conv k x=>simp only[aC,res,hv x (by simp[ah])]at h ⊢;exact h
 | ext i x=>simp only[aC,res,hv x (by simp[ah])]at h ⊢;exact h
 | fad i x=>simp only[aC,res,hv x (by simp[ah])]at h ⊢;exact h
 | boxF x=>simp only[aC,res,hv x (by simp[ah])]at h ⊢;exact h
 | blsF sz len zs ps =>
  have e:∀p∈ps,vd g p.2=vd f p.2:=fun p hp=>hv _ (x0s.2 ⟨p,hp,rfl⟩)
  simp only[aC,res]at h ⊢
  rw[iu e]
  exact⟨fun p hp=>by rw[e p hp];exact h.1 p hp,h.2⟩
 | blsX sz len zs ps =>
  have e:∀p∈ps,vd g p.2=vd f p.2:=fun p hp=>hv _ (x0s.2 ⟨p,hp,rfl⟩)
  simp only[aC,res]at h ⊢
  rw[jP e]
  exact⟨h.1,fun p hp=>by rw[e p hp];exact h.2.1 p hp,h.2.2⟩
 | len x=>simp only[aC,res,hv x (by simp[ah])]at h ⊢;exact h
 | pick c x y=>simp only[aC,res,hv c (by simp[ah]),hv x (by simp[ah]),hv y (by simp[ah])]at h ⊢;exact h
 | bin op x y=>simp only[aC,res,hv x (by simp[ah]),hv y (by simp[ah])]at h ⊢;exact h
 | iadA l s x i=>simp only[aC,res,hv x (by simp[ah]),hv i (by simp[ah])]at h ⊢;exact h
 | bld zs ps =>
  have e:∀p∈ps,vd g p.2.2=vd f p.2.2:=fun p hp=>hv _ (x0s.2 ⟨p,hp,rfl⟩)
  simp only[aC,res]at h ⊢
  obtain⟨h1,h2,h3⟩:=h
  have e2:(ps.all fun p=>isV (vd g p.2.2))=(ps.all fun p=>isV (vd f p.2.2)):=by
   rw[x0z,x0f,x0f]
   exact⟨fun h p hp=>by rw[<- e p hp];exact h p hp,fun h p hp=>by rw[e p hp];exact h p hp⟩
  have m1:(ps.map fun p=>(p.1,p.2.1,vd g p.2.2))=ps.map fun p=>(p.1,p.2.1,vd f p.2.2):=x0m fun p hp=>by rw[e p hp]
  have m2:(ps.map fun p=>(p.1,p.2.1,bI (vd g p.2.2)))=ps.map fun p=>(p.1,p.2.1,bI (vd f p.2.2)):=x0m fun p hp=>by rw[e p hp]
  rw[e2,m1,m2]
  exact⟨fun p hp=>by rw[e p hp];exact h1 p hp,h2,h3⟩
 | mk k xs =>
  have e:∀x∈xs,vd g x=vd f x:=fun x hx=>hv x hx
  simp only[aC,res]at h ⊢
  obtain⟨h1,h2,h3⟩:=h
  have e2:(xs.all fun x=>isV (vd g x))=(xs.all fun x=>isV (vd f x)):=by
   rw[x0z,x0f,x0f]
   exact⟨fun h p hp=>by rw[<- e p hp];exact h p hp,fun h p hp=>by rw[e p hp];exact h p hp⟩
  rw[e2,x0m e]
  exact⟨fun p hp=>by rw[e p hp];exact h1 p hp,h2,h3⟩
 | mkY k x0 xs =>
  have e0:=hv x0 (by simp[ah])
  have e:∀x∈xs,vd g x=vd f x:=fun x hx=>hv x (by simp[ah,hx])
  simp only[aC,res,e0]at h ⊢
  rw[x0m e]
  exact h
 | ldQ q x =>
  have e:=hv x (by simp[ah])
  simp only[aC,e]at h ⊢
  split at h
  ·rename_i c i off ex
   obtain⟨rfl,h⟩:=h
   split at h
   ·rename_i sz es hf
    obtain⟨r,h1,d,h2,h3⟩:=h
    have h4:=hc (c,off) (by simp[frR,ex])
    simp only[hf,fD]at h4
    refine⟨rfl,?_⟩
    split at h4
    ·rename_i sz' es' hg
     simp only[x0k]at h4
     have h5:=congrArg (fun l=>l[i]?) h4
     simp only[x0x,h1,x1b]at h5
     rw[x0j]at h5
     obtain⟨r',h6,h7⟩:=h5
     simp only[hg]
     exact⟨r',h6,d,by rw[h7];exact h2,h3⟩
    ·cases h4
   ·exact h.elim
  ·exact h.elim
 | ld n ag x =>
  have e:=hv x (by simp[ah])
  simp only[aC,res,e]at h ⊢
  split at h
  ·rename_i p i off ex
   rw[cK (p:=p) (hr _ (x0l.2 (.inr (List.mem_flatMap.2 ⟨x,by simp[ldN],by rw[ex];simp[aA]⟩))))]
   exact h
  ·exact h
  ·exact h
  ·exact h
 | _=>exact full (fun x hx=>hx)
theorem ue(hC:bD P F C)(hL:NoL L){hs:List Nat}{ops:Array Oper}{ts:List fG}{f':Nat->D}(htr:Tr C ts f f')(hok:(aP hs ts f).Ok)(hlen:ts.length=ops.size)(hb:∀j,j<ops.size->hs.getD j 0=uH ops hs.toArray j)(hed:∀(j:Nat) (o:Oper),ops[j]? = some o->∀e∈o.after,Region.binds .any e=true->e.on<j)
  (hk:∀(j:Nat) (t:fG) (o:Oper),ts[j]? = some t->ops[j]? = some o->oJ P F nt ops t.1 o=true)
  (hQ:∀M a w,SR F nt S L w0 M0 f' M a w->Q .normal a w):∀(fuel:Nat) (listed:Array Bool) (M:Mem) (a:Act) (w:World),listed.size=ops.size->left ops.size (lst listed)<=fuel ->
   (∀j,j<ops.size->lst listed j=true->∀i,(hs.getD j 0).testBit i=true->i<ops.size/\lst listed i=true)->SR F nt S L w0 M0 ((aP hs ts f).G (lst listed) ts.length) M a w->wpAny P .any ops Q fuel listed a w:=by
 obtain⟨hf',hsp⟩:=pQ hs ts f f' htr
 have hall:∀(listed:Array Bool),(∀i,i<ops.size->lst listed i=true)->(aP hs ts f).G (lst listed) ts.length=f':=by
  intro listed h
  rw[hf']
  unfold Fam.St
  have:∀m,m<=ts.length->(aP hs ts f).G (lst listed) m=(aP hs ts f).G (fun _=>true) m:=by
   intro m
   induction m with
   | zero=>intro _;rfl
   | succ m ih =>
    intro hm
    simp only[Fam.G]
    rw[h m (by omega),ih (by omega)]
    rfl
  exact this _ (x0r _)
 intro fuel
 induction fuel with
 | zero =>
  intro listed M a w hs' hf hcl h
  have hal:∀i,i<ops.size->lst listed i=true:=by
   intro i hi
   cases hl:lst listed i with
   | true=>rfl
   | false =>
    have:i∈(List.range ops.size).filter fun i=>!lst listed i:=by simp[hi,hl]
    have:=List.length_pos_of_mem this
    unfold left at hf
    omega
  refine⟨?_,hQ M a w (by rw[<- hall listed hal];exact h)⟩
  rw[List.eq_nil_iff_forall_not_mem]
  intro i hi
  obtain⟨h1,h2,_⟩:=ju.1 hi
  rw[hal i h1]at h2
  cases h2
 | succ fuel ih =>
  intro listed M a w hs' hf hcl h
  refine⟨fun hr=>hQ M a w ?_,fun j hj=>?_⟩
  ·have hal:∀i,i<ops.size->lst listed i=true:=by
    intro i
    induction i using Nat.strongRecOn with
    | _ i ihi =>
     intro hi
     cases hl:lst listed i with
     | true=>rfl
     | false =>
      have:i∈Region.ready .any ops listed:=ju.2 ⟨hi,hl,ops[i],x1f hi,fun e he hb=>by
       have h1:=hed i _ (x1f hi) e he hb
       have h2:=ihi e.on h1 (by omega)
       unfold lst at h2
       rw[x1m]at h2 ⊢
       rw[x1f (by omega)]at h2 ⊢
       simpa using h2⟩
      rw[hr]at this
      cases this
   rw[<- hall listed hal]
   exact h
  ·obtain⟨h1,h2,o,h3,h4⟩:=ju.1 hj
   obtain⟨t,ht⟩:∃t,ts[j]? = some t:=⟨ts[j]'(by omega),x0e (by omega)⟩
   have hanc:∀i,(hs.getD j 0).testBit i=true->i<ops.size/\lst listed i=true:=by
    intro i hi
    rw[hb j h1]at hi
    obtain⟨o',ho',e,he,hbd,h5⟩:=AJ hi
    rw[h3]at ho'
    cases ho'
    have h6:=hed j o h3 e (by simpa using he) hbd
    have h7:=h4 e (by simpa using he) hbd
    have h8:lst listed e.on=true:=by
     unfold lst
     rw[x1m]at h7 ⊢
     rw[x1f (by omega)]at h7 ⊢
     simpa using h7
    rcases h5 with rfl|h5
    ·exact⟨by omega,h8⟩
    ·rw[wD]at h5
     exact hcl e.on (by omega) h8 i h5
   have hshut:vG (aP hs ts f) (lst listed):=fun j' hj' hl' i _ hbf=>(hcl j' (by simpa[aP,hlen]using hj') hl' i hbf).2
   have hjn:j<(aP hs ts f).n:=by simp only[aP];omega
   have hreads:=hok.reads hshut hjn h2 (fun i _ hbf=>(hanc i hbf).2)
   have hcols:=hok.readsC hshut hjn h2 (fun i _ hbf=>(hanc i hbf).2)
   obtain⟨g1,g2,g3,g4⟩:=hsp j t ht
   have hrd:(aP hs ts f).rd j=t.2.2.1:=by simp[aP,ht]
   have hn:(aP hs ts f).n=ts.length:=rfl
   rw[hrd,hn,g4]at hreads
   have hfr:(aP hs ts f).fr j=frR ((aP hs ts f).St j) t.1:=by
    have:(aP hs ts f).fr j=t.2.2.2.2.1:=by simp[aP,ht]
    rw[this,g4];rfl
   rw[hfr,hn]at hcols
   have hstep:ij C t.1 ((aP hs ts f).G (lst listed) ts.length) t.2.1:=by
    have hv:∀x∈ah t.1.op,vd ((aP hs ts f).G (lst listed) ts.length) x=vd ((aP hs ts f).St j) x:=fun x hx=>by
     cases x with
     | t s=>exact hreads s (x0l.2 (.inl (x0l.2 (.inl (List.mem_flatMap.2 ⟨_,hx,by simp[iC]⟩)))))
     | c d=>rfl
    have ha:∀b∈rdR ((aP hs ts f).St j) t.1,(aP hs ts f).G (lst listed) ts.length b=(aP hs ts f).St j b:=fun b hb=>hreads b (x0l.2 (.inr hb))
    have hg:∀s b,t.1.guard=some (s,b)->(aP hs ts f).G (lst listed) ts.length s=(aP hs ts f).St j s:=fun s b e =>
     hreads s (x0l.2 (.inl (x0l.2 (.inr (by rw[e];simp[qo])))))
    unfold ij at g1 ⊢
    split at g1
    ·exact⟨fun s b e=>by rw[hg s b e];exact g1.1 s b e,u2 hv ha hcols g1.2⟩
    ·obtain⟨s,b,e1,e2⟩:=g1
     exact⟨s,b,e1,by rw[hg s b e1];exact e2⟩
   have hlst:∀i,lst (listed.setIfInBounds j true) i=(if i=j then true else lst listed i):=by
    intro i
    unfold lst
    rw[x1m,x1m,Array.getElem?_setIfInBounds]
    by_cases hij:i=j
    ·subst hij;simp[show i<listed.size from by omega]
    ·simp[hij,Ne.symm hij]
   have hlst':∀i,i≠j->lst (listed.setIfInBounds j true) i=lst listed i:=fun i hi=>by rw[hlst,if_neg hi]
   have hlstj:lst (listed.setIfInBounds j true) j=true:=by rw[hlst,if_pos rfl]
   have hmore:(aP hs ts f).G (lst (listed.setIfInBounds j true)) ts.length=nS t.1 t.2.1 ((aP hs ts f).G (lst listed) ts.length):=by
    rw[yI]
    have:=hok.more hshut hjn h2 hlstj hlst'
    rw[hn]at this
    rw[this]
    simp[Fam.E,aP,ht]
   have hfin:∀M' a' w',SR F nt S L w0 M0 (nS t.1 t.2.1 ((aP hs ts f).G (lst listed) ts.length)) M' a' w'->wpAny P .any ops Q fuel (listed.setIfInBounds j true) a' w':=by
    intro M' a' w' h'
    refine ih _ M' a' w' (by simpa using hs') ?_ (fun j' hj' hl' i hi=>?_) (by rw[hmore];exact h')
    ·have:left ops.size (lst (listed.setIfInBounds j true))<left ops.size (lst listed):=by
      refine ox (j:=j) (fun i hi=>?_) (by simp[h2]) (by simp[hlstj]) _ (by simpa using h1)
      by_cases hij:i=j
      ·subst hij;simp[h2]
      ·rw[hlst' i hij]at hi;exact hi
     omega
    ·by_cases hjj:j'=j
     ·subst hjj
      obtain⟨q1,q2⟩:=hanc i hi
      refine⟨q1,?_⟩
      rw[hlst];split
      ·rfl
      ·exact q2
     ·rw[hlst' j' hjj]at hl'
      obtain⟨q1,q2⟩:=hcl j' hj' hl' i hi
      refine⟨q1,?_⟩
      rw[hlst];split
      ·rfl
      ·exact q2
   have:=BS hC hL (hk j t o ht h3) h hstep (R:=wpAny P .any ops Q fuel (listed.setIfInBounds j true)) hfin (Q:=Q)
   unfold wpOp
   rw[h3]
   exact this
theorem qR(hC:bD P F C)(hL:NoL L)(hm:P.follows .mixedOrders=true){hs:List Nat}{ops:Array Oper}{ns:List ao}(hk:lO P F nt ns ops=true)(hdr:rO hs ops=true){id:Nat}{K:Env->Prop}{e:Env}(h:SR F nt S L w0 M0 (ac e) M a w)(hr:jh C hs K ns e [])
  (hQ:∀e M a w,SR F nt S L w0 M0 (ac e) M a w->K e->Q .normal a w):(Code.region id ops true).wp P Q a w:=by
 simp only[lO,x0a,x0o,x0f]at hk
 obtain⟨ts,e',g1,g2,g3,g4⟩:=BV ns e [] hr
 have hlen:ts.length=ops.size:=by
  have:ts.length=ns.length:=by rw[<- g1];simp
  rw[this];simpa using hk.1
 have hok:=CI g2 (by simpa using g3)
 simp only[rO,x0f,x1k,x0a,x0o]at hdr
 refine wp_region_any hm (ue hC hL (hs:=hs) g2 hok hlen (fun j hj=>(hdr j hj).1) (fun j o ho e he hb=>?_) (fun j t o ht ho=>?_) (fun M a w hs=>hQ e' M a w hs g4) _ _ M a _ (by simp) ?_ ?_ ?_)
 ·obtain⟨hj,_⟩:=Array.getElem?_eq_some_iff.1 ho
  have:=(hdr j hj).2
  simp only[td,ho,x0f,x0H,x0q,x0d]at this
  rcases this e (by simpa using he)with h5|h5
  ·rw[hb]at h5;cases h5
  ·exact h5
 ·refine hk.2 (t.1,o) ?_
  rw[x0V]
  refine⟨j,?_⟩
  rw[x1e]
  refine⟨?_,by simpa using ho⟩
  rw[<- g1]
  simp[ht]
 ·have:=x05 (fun i=>!lst (Array.replicate ops.size false) i) (List.range ops.size)
  simpa[left]using this
 ·intro j hj hl
  simp[lst,hj]at hl
 ·have h0:∀m,m<=ts.length->(aP hs ts (ac e)).G (lst (Array.replicate ops.size false)) m=ac e:=by
   intro m
   induction m with
   | zero=>intro _;rfl
   | succ m ih =>
    intro hm
    simp only[Fam.G]
    rw[ih (by omega)]
    have:lst (Array.replicate ops.size false) m=false:=by simp[lst,show m<ops.size from by omega]
    rw[this];rfl
  rw[h0 _ (x0r _)]
  exact h.grow (Bel.drew _)
end
end Go.Gv
