/-
  Texts of the proof: GvJ, GvJ2.
-/
import Derived.Test.YtlipihhhgpnjmaaGreatX3
import Derived.Defers
set_option linter.all false
namespace Go.Gv
variable[Drw]
open Go.RowKit
inductive bS where
 | nrm
 | ext (id:Nat)
 | ret
inductive cL where
 | skip
 | reg (draw:Bool) (hs:List Nat) (keep:List Nat) (ops:List au)
 | seq (a b:cL)
 | cond (c:Opd) (x y:cL)
 | block (id:Nat) (c:cL)
 | loop (c:cL)
 | exit (id:Nat)
 | ret
 deriving Inhabited
def u2(keep:List Nat)(e:Env):Env:=keep.map fun t=>(t,ac e t)
def pi(ks:Env):List Nat:=ks.flatMap fun p=>bV p.2
def zu(e:Env):List Nat->Env->Env
 | [],ks=>ks
 | r::rs,ks=>zu e rs (if (ks.map (·.1)).contains r then ks else ks++[(r,ac e r)])
def prune(keep:List Nat)(e:Env):Env:=zu e (pi (u2 keep e)) (u2 keep e)
def lT(e:Env):Env->Prop
 | []=>True
 | (t,d)::r=>ac e t=d/\lT e r
def wpN(C:Nat->List D->D->List D->Prop):cL->(bS->Env->Prop)->Env->Prop
 | .skip,Q,e=>Q .nrm e
 | .reg dr hs keep ops,Q,e=>match dr with
  | false=>i9 C (fun e'=>Q .nrm (prune keep e')) ops e
  | true=>jB C hs (fun e'=>Q .nrm (prune keep e')) ops e []
 | .seq x y,Q,e=>wpN C x (fun t e'=>match t with
  | .nrm=>wpN C y Q e'
  | t=>Q t e') e
 | .cond c x y,Q,e=>match vd (ac e) c with
  | .bool b=>(b=true->wpN C x Q e)/\(b=false->wpN C y Q e)
  | .bb=>wpN C x Q e/\wpN C y Q e
  | _=>False
 | .block id c,Q,e=>wpN C c (fun t e'=>match t with
  | .ext i=>if i=id then Q .nrm e' else Q (.ext i) e'
  | t=>Q t e') e
 | .loop c,Q,e=>∃(S:Type) (G:S->Env) (I:S->Prop) (m:S->Nat) (s0:S),I s0/\lT e (G s0) /\
   ∀s,I s->wpN C c (fun t e'=>match t with
    | .nrm=>∃s',I s'/\m s'<m s/\lT e' (G s')
    | t=>Q t e') (G s)
 | .exit id,Q,e=>Q (.ext id) e
 | .ret,Q,e=>Q .ret e
structure ar where
 np:Nat
 nt:Nat
 res:List (Nat×Option (Nat×Bool))
 body:cL
 deriving Inhabited
def params:Nat->List D->Env
 | _,[]=>[]
 | k,d::ds=>(k,d)::params (k+1) ds
def mY(e:Env):Nat×Option (Nat×Bool)->D
 | (t,none)=>dp (ac e) (ac e t)
 | (t,some (n,ag))=>match ac e t with
  | .adr p i off=>match aX (ac e) p with
   | some (_,es)=>qi ag n (((es[i]?.getD []).drop off).map bq)
   | none=>.any
  | _=>.any
def AN(e:Env):Nat×Option (Nat×Bool)->Prop
 | (t,none)=>t<10000/\bW (ac e) (ac e t)
 | (t,some (n,ag))=>t<10000/\match ac e t with
  | .adr p i off=>match aX (ac e) p with
   | some (_,es)=>off+n<=(es[i]?.getD []).length
   | none=>False
  | _=>False
def ef(rs:List (Nat×Option (Nat×Bool)))(d:D)(e:Env):Prop :=
 (∀r∈rs,AN e r)/\match rs with
 | [r]=>mY e r=d
 | rs=>d=.tup (rs.map (mY e))
def lI(rs:List (Nat×Option (Nat×Bool)))(sz:Nat)(es:List (List D))(e:Env):Prop :=
 0<sz/\(∀r∈es,∀c∈r,bP c=true)/\match rs with
 | [(t,none)]=>t<10000/\match ac e t with
  | .ref (.r b) k n=>k=0/\n=es.length/\ac e b=.blk sz es
  | .nils=>es=[]
  | _=>False
 | _=>False
def qB(rs:List (Nat×Option (Nat×Bool)))(d:D)(e:Env):Prop :=
 ef rs d (prune (rs.map (·.1)) e)/\∀p∈prune (rs.map (·.1)) e,ml p.2/\(p.1<10000->isB p.2=false)
def gW(W:List D)(sz1:Nat)(es1:List (List D))(sz2:Nat)(es2:List (List D)):Env:=params 0 W++[(ap,.blk sz1 es1),(br,.blk sz2 es2)]
def pc(x:D)(sz:Nat)(es:List (List D))(ds:List D):Env:=(0,x)::(params 1 ds++[(ap,.blk sz es)])
def nU(rs:List (Nat×Option (Nat×Bool)))(sz:Nat)(es:List (List D))(e:Env):Prop :=
 0<sz/\(∀r∈es,∀c∈r,bP c=true)/\match rs with
 | [(t,none)]=>t<10000/\match ac e t with
  | .ref (.r b) k n=>match ac e b with
   | .blk sz' es'=>sz'=sz/\k+n<=es'.length/\(es'.drop k).take n=es
   | _=>False
  | .nils=>es=[]
  | _=>False
 | _=>False
def eG(f:Nat->D):D->D->Prop
 | .ref (.r b) k n,.own sz es=>k=0/\n=es.length/\f b=.blk sz es
 | .adr (.r b) i off,.blk sz es=>i=0/\off=0/\f b=.blk sz es
 | d,r=>isV d=true/\r=d
def mo(f:Nat->D):List D->List D->Prop
 | [],[]=>True
 | d::ds,r::rs=>eG f d r/\mo f ds rs
 | _,_=>False
def cX:D->List Nat
 | .ref (.r b) _ _=>[b]
 | .adr (.r b) _ _=>[b]
 | _=>[]
def tO(rs:List (Nat×Option (Nat×Bool)))(R:D)(e:Env):Prop:=match rs with
 | [(t,none)]=>t<10000/\match ac e t,R with
  | .agx ds,.agg Rs=>mo (ac e) ds Rs/\bG (ds.flatMap cX)=true
  | .ref p k n,.own sz es=>eG (ac e) (.ref p k n) (.own sz es)
  | .adr p k n,.blk sz es=>eG (ac e) (.adr p k n) (.blk sz es)
  | _,_=>False
 | [(t,some (n,true))]=>t<10000/\match ac e t,R with
  | .adr (.r c) i off,.agg Rs=>i=0/\off=0/\(∃sz,ac e c=.blk sz [Rs])/\Rs.length=n/\okR (.agg Rs)=true/\(aS t (.agg Rs)).all (fun p=>p.1 != c)=true
  | _,_=>False
 | rs=>rs.length≠1/\(∀r∈rs,r.1<10000/\r.2=none)/\match R with
  | .tup Rs=>mo (ac e) (rs.map fun r=>ac e r.1) Rs/\bG ((rs.map fun r=>ac e r.1).flatMap cX)=true
  | _=>False
def sC(prog:Nat->Option ar)(C:Nat->List D->D->List D->Prop):Prop :=
 (∀g nf ds d,prog g=some nf->ds.length=nf.np->wpN C nf.body (fun t e=>(match t with
  | .ext _=>False
  | _=>True)/\ef nf.res d e) (params 0 ds)->C g ds d [])/\(∀g ds d,C g ds d []->C g ds (wH d) []) /\
 (∀g nf ds sz es,prog g=some nf->ds.length=nf.np->wpN C nf.body (fun t e=>(match t with
  | .ext _=>False
  | _=>True)/\lI nf.res sz es e) (params 0 ds)->C g ds .any [.own sz es]) /\
 (∀g nf ds d,prog g=some nf->ds.length=nf.np->wpN C nf.body (fun t e=>(match t with
  | .ext _=>False
  | _=>True)/\qB nf.res d e) (params 0 ds)->C g ds d [.nilp]) /\
 (∀g nf ds d sz es es',prog g=some nf->ds.length+1=nf.np->wpN C nf.body (fun t e=>(match t with
  | .ext _=>False
  | _=>True)/\(0<es'.length/\ac e ap=.blk sz es')/\ef nf.res d ((ap,.any)::e)) (pc (.adr (.r ap) 0 0) sz es ds)->C g (.blk sz es::ds) d [.blk sz es']) /\
 (∀g nf W d sz es es',prog g=some nf->W.length=nf.np->wpN C nf.body (fun t e=>(match t with
  | .ext _=>False
  | _=>True)/\(0<es'.length/\ac e ap=.blk sz es')/\ef nf.res d ((ap,.any)::e)) (params 0 W++[(ap,.blk sz es)])->C g (.blk sz es::W) d [.blk sz es',.nilp]) /\
 (∀g nf ds sz es es',prog g=some nf->ds.length+1=nf.np->(∀d∈ds,isO d=false)->0<sz->wpN C nf.body (fun t e=>(match t with
  | .ext _=>False
  | _=>True)/\nU nf.res sz es' e) (pc (.ref (.r ap) 0 es.length) sz es ds)->C g (.own sz es::ds) .any [.own sz es',.nils,.nils]) /\
 (∀g nf W d sz1 es1 es1' sz2 es2 es2',prog g=some nf->W.length=nf.np->wpN C nf.body (fun t e=>(match t with
  | .ext _=>False
  | _=>True)/\(0<es1'.length/\0<es2'.length/\ac e ap=.blk sz1 es1'/\ac e br=.blk sz2 es2')/\ef nf.res d ((ap,.any)::(br,.any)::e)) (gW W sz1 es1 sz2 es2)->C g (.blk sz1 es1::.blk sz2 es2::W) d [.blk sz1 es1',.blk sz2 es2',.nilp]) /\
 ∀g nf ds R,prog g=some nf->ds.length=nf.np->okR R=true->wpN C nf.body (fun t e=>(match t with
  | .ext _=>False
  | _=>True)/\tO nf.res R e) (params 0 ds)->C g ds R [.nils]
def al(prog:Nat->Option ar)(C:Nat->List D->D->List D->Prop):Prop :=
 sC prog C/\∀g sz es W d es',(∀C',sC prog C'->C' g (.blk sz es::W) d [.blk sz es',.nilp])->C g (.blk sz es::W) d [.blk sz es',.nils]
def cN(P:Program)(F:Fid)(nt:Nat):cL->Code->Bool
 | .skip,.skip=>true
 | .reg dr hs _ ns,.region _ ops dr'=>dr==dr'&&oE P F nt ns ops&&(!dr||wx hs ops)
 | .seq x y,.seq x' y'=>cN P F nt x x'&&cN P F nt y y'
 | .cond c x y,.cond c' x' y'=>ao F c c'&&cN P F nt x x'&&cN P F nt y y'
 | .block i c,.block i' c'=>i==i'&&cN P F nt c c'
 | .loop c,.loop c'=>cN P F nt c c'
 | .exit i,.exit i'=>i==i'
 | .ret,.ret=>true
 | _,_=>false
def iA(P:Program):Nat×Option (Nat×Bool)->ResultVar->Bool
 | (t,none),.tmp t'=>t==t'
 | (t,some (n,ag)),.cell t' ty=>t==t'&&tyS P ty n ag
 | _,_=>false
def dZ(P:Program)(F:Fid)(fi:Nat)(nf:ar):Bool:=match P.funcs[fi]? with
 | some fn=>fn.ntmps==nf.nt&&fn.params.size+fn.nfree==nf.np&&decide (nf.np<=nf.nt)&&decide (nf.nt<=10000)&&nf.res.length==fn.results.toList.length&&((nf.res.zip fn.results.toList).all fun p=>iA P p.1 p.2) &&
  !(fn.name == "runtime.NumGoroutine") && match fn.body with
  | some c=>cN P F nf.nt nf.body c
  | none=>false
 | none=>false
section
variable{P:Program}{F:Fid}{C:Nat->List D->D->List D->Prop}{nt:Nat}{S:Nat->Prop}{L:Ln}{w0:World}{M0:Mem}{f:Nat->D}{M:Mem}{a:Act}{w:World}{Q:Exit->Act->World->Prop}{ρ:Pa->Loc}{ω:Nat->Option Pa}
theorem C9{e:Env}{t:Nat}{d:D}(h:ac e t=d)(hd:d≠.any):(t,d)∈e:=by
 induction e with
 | nil=>exact absurd h.symm hd
 | cons p e ih =>
  obtain⟨s,x⟩:=p
  simp only[ac]at h
  split at h
  ·rename_i e1;subst e1;subst h;simp
  ·simp[ih h]
theorem nL{e:Env}:∀{e':Env},(∀p∈e',ac e p.1=p.2)->∀t,ac e' t=.any\/ac e' t=ac e t
 | [],_,t=>.inl rfl
 | (s,d)::r,h,t=>by
  simp only[ac]
  by_cases hs:s=t
  ·subst hs
   rw[if_pos rfl]
   exact .inr (h (s,d) (by simp)).symm
  ·rw[if_neg hs]
   exact nL (fun p hp=>h p (by simp[hp])) t
theorem ut{e:Env}:∀(rs:List Nat) (ks:Env),(∀p∈ks,ac e p.1=p.2)->∀p∈zu e rs ks,ac e p.1=p.2
 | [],ks,h=>h
 | r::rs,ks,h=>by
  refine ut rs _ ?_
  split
  ·exact h
  ·intro p hp
   rcases x0n.1 hp with h1|h1
   ·exact h p h1
   ·simp at h1;subst h1;rfl
theorem SR.prune{e:Env}(h:SR F nt S L w0 M0 (ac e) M a w)(keep:List Nat):SR F nt S L w0 M0 (ac (prune keep e)) M a w :=
 h.weak (nL (ut _ _ (fun p hp=>by obtain⟨t,_,rfl⟩:=x0w.1 hp;rfl)))
theorem vY{e:Env}:∀{e':Env},lT e e'->∀p∈e',ac e p.1=p.2
 | [],_,p,hp=>by cases hp
 | (s,d)::r,h,p,hp=>by
  rcases x0H.1 hp with rfl|hp
  ·exact h.1
  ·exact vY h.2 p hp
theorem SR.weakL{e e':Env}(h:SR F nt S L w0 M0 (ac e) M a w)(hw:lT e e'):SR F nt S L w0 M0 (ac e') M a w:=h.weak (nL (vY hw))
def QM(F:Fid)(nt:Nat)(S:Nat->Prop)(L:Ln)(w0:World)(M0:Mem)(Q:bS->Env->Prop):Exit->Act->World->Prop
 | .normal,a,w=>∃e M,SR F nt S L w0 M0 (ac e) M a w/\Q .nrm e
 | .exit id,a,w=>∃e M,SR F nt S L w0 M0 (ac e) M a w/\Q (.ext id) e
 | .ret,a,w=>∃e M,SR F nt S L w0 M0 (ac e) M a w/\Q .ret e
 | _,_,_=>False
theorem cm(hC:bQ P F C)(hL:NoL L)(hm:P.follows .mixedOrders=true):∀(nc:cL) (c:Code),cN P F nt nc c=true->∀(Q:bS->Env->Prop) (e:Env) (M:Mem) (a:Act) (w:World),
  SR F nt S L w0 M0 (ac e) M a w->wpN C nc Q e->c.wp P (QM F nt S L w0 M0 Q) a w
 | .skip,c,hk,Q,e,M,a,w,h,hw=>by
  cases c<;>simp only[cN,x0o]at hk
  exact wp_skip ⟨e,M,h,hw⟩
 | .reg dr hs keep ns,c,hk,Q,e,M,a,w,h,hw=>by
  cases c<;>simp only[cN,x0o]at hk
  rename_i id ops dr'
  simp only[x0a,x0r,x0u,x0t]at hk
  obtain⟨⟨rfl,h1⟩,h2⟩:=hk
  have hQ:∀e M a w,SR F nt S L w0 M0 (ac e) M a w->Q .nrm (prune keep e)->QM F nt S L w0 M0 Q .normal a w:=fun e M a w hs hq=>⟨_,M,hs.prune keep,hq⟩
  cases dr with
  | false=>exact vE hC hL h1 h hw hQ
  | true=>exact vD hC hL hm h1 (by simpa using h2) h hw hQ
 | .seq x y,c,hk,Q,e,M,a,w,h,hw=>by
  cases c<;>simp only[cN,x0o]at hk
  rename_i x' y'
  simp only[x0a]at hk
  refine wp_seq (wp_mono (cm hC hL hm x x' hk.1 _ e M a w h hw) ?_)
  intro t a' w' hq
  cases t<;>simp only[QM,Exit.then]at hq ⊢
  ·obtain⟨e',M',h1,h2⟩:=hq
   exact cm hC hL hm y y' hk.2 Q e' M' a' w' h1 h2
  all_goals exact hq
 | .cond c x y,c',hk,Q,e,M,a,w,h,hw=>by
  cases c'<;>simp only[cN,x0o]at hk
  rename_i c' x' y'
  simp only[x0a]at hk
  simp only[wpN]at hw
  split at hw
  ·rename_i b hb
   have h1:=h.opd hk.1.1 (by rw[hb];rfl)
   rw[hb]at h1
   simp only[ae]at h1
   cases b with
   | true=>exact wp_cond_true h1 (cm hC hL hm x x' hk.1.2 Q e M a w h (hw.1 rfl))
   | false=>exact wp_cond_false h1 (cm hC hL hm y y' hk.2 Q e M a w h (hw.2 rfl))
  ·rename_i hb
   have h1:=h.opd hk.1.1 (by rw[hb];rfl)
   rw[hb]at h1
   simp only[ae]at h1
   obtain⟨b,h1⟩:=h1
   cases b with
   | true=>exact wp_cond_true h1 (cm hC hL hm x x' hk.1.2 Q e M a w h hw.1)
   | false=>exact wp_cond_false h1 (cm hC hL hm y y' hk.2 Q e M a w h hw.2)
  ·exact hw.elim
 | .block i x,c,hk,Q,e,M,a,w,h,hw=>by
  cases c<;>simp only[cN,x0o]at hk
  rename_i i' x'
  simp only[x0a,x0r]at hk
  obtain⟨rfl,hk⟩:=hk
  refine wp_block (wp_mono (cm hC hL hm x x' hk _ e M a w h hw) ?_)
  intro t a' w' hq
  cases t<;>simp only[QM,Exit.inBlock]at hq ⊢
  case exit j =>
   obtain⟨e',M',h1,h2⟩:=hq
   split at h2
   ·rename_i hj;rw[if_pos hj];exact⟨e',M',h1,h2⟩
   ·rename_i hj;rw[if_neg hj];exact⟨e',M',h1,h2⟩
  all_goals exact hq
 | .loop x,c,hk,Q,e,M,a,w,h,hw=>by
  cases c<;>simp only[cN,x0o]at hk
  rename_i x'
  obtain⟨ST,G,I,m,s0,h0,hw0,hround⟩:=hw
  let iG:Act->World->Nat->Prop:=fun a w n=>∃s M,I s/\SR F nt S L w0 M0 (ac (G s)) M a w/\m s=n
  have hmin:∀a w n,iG a w n->∃k,iG a w k/\∀k',iG a w k'->k<=k':=by
   intro a w n
   induction n using Nat.strongRecOn with
   | _ n ih =>
    intro hn
    by_cases hl:∃k,k<n/\iG a w k
    ·obtain⟨k,hk,hf⟩:=hl
     exact ih k hk hf
    ·exact⟨n,hn,fun k' hk'=>Nat.le_of_not_lt fun hlt=>hl ⟨k',hlt,hk'⟩⟩
  let mu:Act->World->Nat:=fun a w=>Classical.epsilon fun k=>iG a w k/\∀k',iG a w k'->k<=k'
  have hmu:∀a w n,iG a w n->iG a w (mu a w)/\∀k',iG a w k'->mu a w<=k':=fun a w n hn=>Classical.epsilon_spec (hmin a w n hn)
  refine wp_loop (fun a w=>∃n,iG a w n) mu ⟨_,s0,M,h0,h.weakL hw0,rfl⟩ ?_
  rintro a w ⟨n,hn⟩
  obtain⟨⟨s,M,hI,hs,hms⟩,_⟩:=hmu a w n hn
  refine wp_mono (cm hC hL hm x x' hk _ (G s) M a w hs (hround s hI)) ?_
  intro t a' w' hq
  cases t<;>simp only[QM,Exit.then]at hq ⊢
  ·obtain⟨e',M',h1,s',h2,h3,h4⟩:=hq
   have hf:iG a' w' (m s'):=⟨s',M',h2,h1.weakL h4,rfl⟩
   exact⟨⟨_,hf⟩,Nat.lt_of_le_of_lt ((hmu a' w' _ hf).2 _ hf) (by omega)⟩
  all_goals exact hq
 | .exit i,c,hk,Q,e,M,a,w,h,hw=>by
  cases c<;>simp only[cN,x0o]at hk
  rename_i i'
  simp only[x0r]at hk
  subst hk
  exact wp_exit ⟨e,M,h,hw⟩
 | .ret,c,hk,Q,e,M,a,w,h,hw=>by
  cases c<;>simp only[cN,x0o]at hk
  exact wp_ret ⟨e,M,h,hw⟩
theorem iu:∀(ds:List D) (k t:Nat),ac (params k ds) t=if k<=t then(ds[t-k]?).getD .any else .any
 | [],k,t=>by simp[params,ac]
 | d::ds,k,t=>by
  simp only[params,ac]
  by_cases h:k=t
  ·subst h;simp
  ·rw[if_neg h,iu ds (k+1) t]
   by_cases hk:k<=t
   ·rw[if_pos hk,if_pos (by omega)]
    rw[show t-k=(t-(k+1))+1 from by omega]
    simp
   ·rw[if_neg hk,if_neg (by omega)]
theorem m9{ds:List D}{vs:List Value}(r:av F M ds vs)(hh:∀p v,M p=some v->w.cell? p=some v)(hl:ds.length<=nt)(hnt:nt<=10000) :
  SR F nt (fun _=>False) .nil w M (ac (params 0 ds)) M { tmps:=vs.toArray++Array.replicate (nt-vs.toArray.size) undef,defers:=[] } w where
 hnt:=hnt
 size:=by have:=r.length;simp;omega
 defers:=rfl
 ch:=Ch.refl _ _
 holds:=hh
 ext:=Mem.le_refl _
 fresh p h1 h2:=absurd h1 h2
 own:=by
  have big:∀b,10000<=b->ac (params 0 ds) b=.any:=fun b hb=>by
   rw[iu]
   simp[x01 (show ds.length<=b by omega)]
  refine⟨fun _=>default,fun _=>none,⟨fun t _=>?_,fun b sz es hb e=>?_,fun b kt et ks vs hb e=>?_,fun k p e=>(by cases e),fun k p e=>(by cases e),fun p q e=>(by cases e),fun b l _ e=>(by cases e)⟩⟩
  ·by_cases ht:t<ds.length
   ·have hd:ac (params 0 ds) t=ds[t]:=by rw[iu];simp[ht]
    obtain⟨v,hv,rv⟩:=r.get (x0e ht)
    refine .inr ⟨v,?_,by rw[hd];exact bC.of_pure rv⟩
    have:t<vs.length:=by rw[r.length];exact ht
    simp only[Array.getElem?_append,List.size_toArray,this,if_true,x1j]
    exact hv
   ·exact .inl (by rw[iu];simp[ht])
  ·rw[big b hb]at e;cases e
  ·rw[big b hb]at e;cases e
theorem gg{e:Env}(h:SR F nt S L w0 M0 (ac e) M a w)(hO:Own F L (qW S w0) (ac e) M a w ρ ω)(g:ResultVar->Sem Value)(hg1:∀t,g (.tmp t)=pure (a.tmps.getD t undef))(hg2:∀x t,g (.cell x t)=(do loadVar t (<- asAddr (a.tmps.getD x undef)))) :
  ∀(rs:List (Nat×Option (Nat×Bool))) (rvs:List ResultVar),rs.length=rvs.length->(∀p∈rs.zip rvs,iA P p.1 p.2=true)->(∀r∈rs,AN e r) ->
  ∃vs:List Value,(rvs.mapM g).run P w=.ok vs w/\av F (bB ω M w) (rs.map (mY e)) vs
 | [],[],_,_,_=>⟨[],rfl,by simp[av]⟩
 | r::rs,rv::rvs,hl,hk,hv=>by
  obtain⟨vs,h1,h2⟩:=gg h hO g hg1 hg2 rs rvs (by simpa using hl) (fun p hp=>hk p (by simp[hp])) (fun r hr=>hv r (by simp[hr]))
  have hr:=hk (r,rv) (by simp)
  have hvr:=hv r (by simp)
  have one:∃v,(g rv).run P w=.ok v w/\ae F (bB ω M w) (mY e r) v:=by
   unfold iA at hr
   split at hr
   ·rename_i t t' e1 e2
    simp only[x0r]at hr
    subst hr
    simp only at e1
    subst e1
    simp only at e2
    rw[e2,hg1]
    refine⟨_,rfl,?_⟩
    simp only[AN]at hvr
    have:=hO.opd (x:=.t t) (y:=.tmp t) (by simp[ao,hvr.1])
    simp only[vd]at this
    exact Ck hO this hvr.2
   ·rename_i t n ag t' ty e1 e2
    simp only[x0a,x0r]at hr
    obtain⟨rfl,hty⟩:=hr
    simp only at e1
    subst e1
    simp only[AN]at hvr
    obtain⟨ht,hvr⟩:=hvr
    split at hvr
    ·rename_i p i off ex
     split at hvr
     ·rename_i sz es hg
      have hx:=hO.opd (x:=.t t) (y:=.tmp t) (by simp[ao,ht])
      simp only[vd]at hx
      rw[ex,az rfl]at hx
      simp only[aC]at hx
      have hpos:0<n\/n=0:=by omega
      cases hi:es[i]? with
      | none =>
       rw[hi]at hvr
       simp at hvr
       obtain⟨rfl,rfl⟩:=hvr
       cases ag with
       | false=>have:=la hty;omega
       | true =>
        refine⟨.agg #[],?_,?_⟩
        ·have:=fa (P:=P) (w:=w) hty (a:=⟨(ρ p).blk,(ρ p).base+i*(ρ p).sz+0,none⟩) (vs:=[]) (by simp) (by simp)
         simp only[Instr.loadAt,Instr.sureAddr,Sem.run_bind,Sem.run_pure,Result.andThen_ok]at this
         simp only at e2
         have ea:a.tmps.getD t undef=a.eval (.tmp t):=rfl
         rw[e2,hg2,ea,hx]
         simp only[asAddr,Sem.run_bind,Sem.run_pure,Result.andThen_ok,this]
         simp
        ·simp[mY,ex,hg,hi,qi,ae,av]
      | some r =>
       rw[hi]at hvr
       simp only[x1p]at hvr
       obtain⟨us,T,hω,h0,hl,g1,g2,g3,g4⟩:=hO.row (cY hO hg) hg hi
       rw[h0]at hx
       refine⟨if ag then .agg ((us.drop ((ρ p).base+i*sz+off)).take n).toArray else(us.drop ((ρ p).base+i*sz+off)).headD undef,?_,?_⟩
       ·have:=fa (P:=P) (w:=w) hty (a:=⟨(ρ p).blk,(ρ p).base+i*sz+off,none⟩) (vs:=us.drop ((ρ p).base+i*sz+off)) (fun j v hj=>by
         rw[dy]
         rw[x0v]at hj
         simp[World.cell?,g1,hj]) (by simp;omega)
        simp only[Instr.loadAt,Instr.sureAddr,Sem.run_bind,Sem.run_pure,Result.andThen_ok]at this
        simp only at e2
        have ea:a.tmps.getD t undef=a.eval (.tmp t):=rfl
        rw[e2,hg2,ea,hx]
        simp only[asAddr,Sem.run_bind,Sem.run_pure,Result.andThen_ok,this]
       ·simp only[mY,ex,hg,hi,x1p]
        have hrl:av F (bB ω M w) ((r.drop off).map bq) ((us.drop ((ρ p).base+i*sz+off)).take (sz-off)):=av.of_forall' (by simp;omega) (fun j d v e1 e3=>by
         rw[x0z,x0p]at e1
         obtain⟨d',e1,rfl⟩:=e1
         rw[x0v]at e1
         obtain⟨u,k1,k2⟩:=g4 _ _ e1
         rw[x1g]at e3
         split at e3
         ·rw[x0v,x0Y]at e3
          rw[k1]at e3;cases e3
          exact nx hO k2
         ·cases e3)
        have hpk:=qj hrl ag n
        cases ag with
        | true =>
         simp only[if_true]at hpk ⊢
         rw[List.take_take,Nat.min_eq_left (by omega)]at hpk
         exact hpk
        | false =>
         have:=la hty
         simp only[x0o,if_false]at hpk ⊢
         have e3:((us.drop ((ρ p).base+i*sz+off)).take (sz-off)).headD undef=(us.drop ((ρ p).base+i*sz+off)).headD undef:=by
          cases us.drop ((ρ p).base+i*sz+off) with
          | nil=>simp
          | cons x xs =>
           rw[show sz-off=(sz-off-1)+1 from by omega]
           simp
         rw[e3]at hpk
         exact hpk
     ·exact hvr.elim
    ·exact hvr.elim
   ·cases hr
  obtain⟨v,h3,h4⟩:=one
  refine⟨v::vs,by simp[List.mapM_cons,h3,h1],?_⟩
  simp only[x0F,av]
  exact⟨v,vs,rfl,h4,h2⟩
theorem Af(hC:bQ P F C)(hm:P.follows .mixedOrders=true){fi:Nat}{nf:ar}(hk:dZ P F fi nf=true){ds:List D}{d:D}(hl:ds.length=nf.np)
  (hw:wpN C nf.body (fun t e=>(match t with
   | .ext _=>False
   | _=>True)/\ef nf.res d e) (params 0 ds)):Bw P F fi ds d:=by
 intro M w vs hh r
 unfold dZ at hk
 split at hk
 ·rename_i fn hfn
  simp only[x0a,x0r,x0f,x0b,x0t]at hk
  obtain⟨⟨⟨⟨⟨⟨⟨h1,h2⟩,h3⟩,h3'⟩,h4⟩,h5⟩,h6⟩,h7⟩:=hk
  split at h7
  ·rename_i c hc
   have hs:=m9 (nt:=nf.nt) r hh (by omega) h3'
   have hwp:=cm hC (fun _ _ _=>rfl) hm nf.body c h7 _ _ M _ w hs hw
   refine calls_of_wp hfn hc ?_
   rw[h1]
   refine wp_mono hwp ?_
   have fin:∀(a':Act) (w':World),(∃e M',SR F nf.nt (fun _=>False) .nil w M (ac e) M' a' w'/\ef nf.res d e)->a'.defers=[]/\∃v,(results fn a'.tmps).run P w'=.ok v w' /\
     (∃v' M',Ending.returned v=.returned v'/\Bel w w'/\M.le M'/\(∀p,M p=none->M' p≠none->w.heap.size<=p.block)/\(∀p v,M' p=some v->w'.cell? p=some v)/\ae F M' d v'):=by
    rintro a' w' ⟨e,M',hs',hr1,hr2⟩
    refine⟨hs'.defers,?_⟩
    obtain⟨ρ,ω,hO⟩:=hs'.own
    obtain⟨us,k1,k2⟩:=gg (P:=P) hs' hO (fun
     | .tmp t=>pure (a'.tmps.getD t undef)
     | .cell x t=>do loadVar t (<- asAddr (a'.tmps.getD x undef))) (fun _=>rfl) (fun _ _=>rfl) nf.res fn.results.toList h4 h5 hr1
    have hrun:(results fn a'.tmps).run P w'=.ok (if h:us.toArray.size=1 then us.toArray[0] else .tuple us.toArray) w':=by
     unfold results
     rw[Sem.run_bind,x03]
     have k1':((fn.results.toList.mapM fun
      | .tmp t=>pure (a'.tmps.getD t undef)
      | .cell x t=>do loadVar t (<- asAddr (a'.tmps.getD x undef)):Sem (List Value))).run P w'=.ok us w':=k1
     simp only[Sem.run_map]
     erw [k1']
     rfl
    refine⟨_,hrun,_,bB ω M' w',rfl,hs'.ch.below (fun _ _ h=>h),Mem.le_trans hs'.ext (cF hO),fun p hp hq=>?_,cw hs'.holds,?_⟩
    ·unfold bB at hq
     split at hq
     ·rename_i q hq'
      rcases hO.new _ _ hq' with h|h
      ·exact h.elim
      ·exact h
     ·exact(hs'.fresh p hp hq).elim False.elim id
    have hlen:=k2.length
    simp only[x0S]at hlen
    split at hr2
    ·rename_i r1 hres
     rw[hres]at k2 hlen
     simp only[x0F,x02,av]at k2
     obtain⟨v,r',rfl,k3,rfl⟩:=k2
     rw[<- hr2]
     simpa using k3
    ·rename_i hne
     have:¬us.toArray.size=1:=by
      intro h'
      have:nf.res.length=1:=by rw[<- hlen];simpa using h'
      match hq:nf.res,this with
      | [x],_=>exact hne x hq
     rw[dif_neg this,hr2]
     simp only[ae]
     exact⟨us,rfl,k2⟩
   intro t a' w' hq
   cases t<;>simp only[QM]at hq
   ·obtain⟨e,M',q1,_,q2⟩:=hq
    exact fin a' w' ⟨e,M',q1,q2⟩
   ·obtain⟨e,M',q1,q2,_⟩:=hq
    exact q2.elim
   ·obtain⟨e,M',q1,_,q2⟩:=hq
    exact fin a' w' ⟨e,M',q1,q2⟩
  ·cases h7
 ·cases hk
theorem wM(hC:bQ P F C)(hm:P.follows .mixedOrders=true){fi:Nat}{nf:ar}(hk:dZ P F fi nf=true){ds:List D}{d:D}(hl:ds.length=nf.np)
  (hw:wpN C nf.body (fun t e=>(match t with
   | .ext _=>False
   | _=>True)/\qB nf.res d e) (params 0 ds)):By P F fi ds d:=by
 intro M w vs hh r
 unfold dZ at hk
 split at hk
 ·rename_i fn hfn
  simp only[x0a,x0r,x0f,x0b,x0t]at hk
  obtain⟨⟨⟨⟨⟨⟨⟨h1,h2⟩,h3⟩,h3'⟩,h4⟩,h5⟩,h6⟩,h7⟩:=hk
  split at h7
  ·rename_i c hc
   have hs:=m9 (nt:=nf.nt) r hh (by omega) h3'
   have hwp:=cm hC (fun _ _ _=>rfl) hm nf.body c h7 _ _ M _ w hs hw
   refine calls_of_wp hfn hc ?_
   rw[h1]
   refine wp_mono hwp ?_
   have fin:∀(a':Act) (w':World),(∃e M',SR F nf.nt (fun _=>False) .nil w M (ac e) M' a' w'/\qB nf.res d e)->a'.defers=[]/\∃v,(results fn a'.tmps).run P w'=.ok v w' /\
     (∃v' M2,Ending.returned v=.returned v'/\Bel w w'/\(∀p,M2 p≠none->w.heap.size<=p.block)/\(∀p v,M2 p=some v->w'.cell? p=some v)/\ae F M2 d v'):=by
    rintro a' w' ⟨e0,M1,hs0,⟨hr1,hr2⟩,hfl⟩
    obtain⟨e,he⟩:∃e,e=prune (nf.res.map (·.1)) e0:=⟨_,rfl⟩
    rw[<- he]at hr1 hr2 hfl
    have hlk:∀t,ac e t=.any\/(t,ac e t)∈e:=fun t=>by
     by_cases h:ac e t=.any
     ·exact .inl h
     ·exact .inr (C9 rfl h)
    have hs1:SR F nf.nt (fun _=>False) .nil w M (ac e) M1 a' w':=by rw[he];exact hs0.prune _
    have hs':=hs1.flat (fun t=>by
     rcases hlk t with h|h
     ·rw[h];trivial
     ·exact(hfl _ h).1) (fun t ht=>by
     rcases hlk t with h|h
     ·rw[h];rfl
     ·exact(hfl _ h).2 ht)
    refine⟨hs'.defers,?_⟩
    obtain⟨ρ,ω,hO⟩:=hs'.own
    obtain⟨us,k1,k2⟩:=gg (P:=P) hs' hO (fun
     | .tmp t=>pure (a'.tmps.getD t undef)
     | .cell x t=>do loadVar t (<- asAddr (a'.tmps.getD x undef))) (fun _=>rfl) (fun _ _=>rfl) nf.res fn.results.toList h4 h5 hr1
    have hrun:(results fn a'.tmps).run P w'=.ok (if h:us.toArray.size=1 then us.toArray[0] else .tuple us.toArray) w':=by
     unfold results
     rw[Sem.run_bind,x03]
     have k1':((fn.results.toList.mapM fun
      | .tmp t=>pure (a'.tmps.getD t undef)
      | .cell x t=>do loadVar t (<- asAddr (a'.tmps.getD x undef)):Sem (List Value))).run P w'=.ok us w':=k1
     simp only[Sem.run_map]
     erw [k1']
     rfl
    refine⟨_,hrun,_,bB ω (fun _=>none) w',rfl,hs'.ch.below (fun _ _ h=>h),fun p hq=>?_,cw hs'.holds,?_⟩
    ·unfold bB at hq
     split at hq
     ·rename_i q hq'
      rcases hO.new _ _ hq' with h|h
      ·exact h.elim
      ·exact h
     ·exact absurd rfl hq
    have hlen:=k2.length
    simp only[x0S]at hlen
    split at hr2
    ·rename_i r1 hres
     rw[hres]at k2 hlen
     simp only[x0F,x02,av]at k2
     obtain⟨v,r',rfl,k3,rfl⟩:=k2
     rw[<- hr2]
     simpa using k3
    ·rename_i hne
     have:¬us.toArray.size=1:=by
      intro h'
      have:nf.res.length=1:=by rw[<- hlen];simpa using h'
      match hq:nf.res,this with
      | [x],_=>exact hne x hq
     rw[dif_neg this,hr2]
     simp only[ae]
     exact⟨us,rfl,k2⟩
   intro t a' w' hq
   cases t<;>simp only[QM]at hq
   ·obtain⟨e,M',q1,_,q2⟩:=hq
    exact fin a' w' ⟨e,M',q1,q2⟩
   ·obtain⟨e,M',q1,q2,_⟩:=hq
    exact q2.elim
   ·obtain⟨e,M',q1,_,q2⟩:=hq
    exact fin a' w' ⟨e,M',q1,q2⟩
  ·cases h7
 ·cases hk
theorem wL(hC:bQ P F C)(hm:P.follows .mixedOrders=true){fi:Nat}{nf:ar}(hk:dZ P F fi nf=true){ds:List D}{sz:Nat}{es:List (List D)}(hl:ds.length=nf.np)
  (hw:wpN C nf.body (fun t e=>(match t with
   | .ext _=>False
   | _=>True)/\lI nf.res sz es e) (params 0 ds)):Bx P F fi ds sz es:=by
 intro M w vs hh r
 unfold dZ at hk
 split at hk
 ·rename_i fn hfn
  simp only[x0a,x0r,x0f,x0b,x0t]at hk
  obtain⟨⟨⟨⟨⟨⟨⟨h1,h2⟩,h3⟩,h3'⟩,h4⟩,h5⟩,h6⟩,h7⟩:=hk
  split at h7
  ·rename_i c hc
   have hs:=m9 (nt:=nf.nt) r hh (by omega) h3'
   have hwp:=cm hC (fun _ _ _=>rfl) hm nf.body c h7 _ _ M _ w hs hw
   refine calls_of_wp hfn hc ?_
   rw[h1]
   refine wp_mono hwp ?_
   have fin:∀(a':Act) (w':World),(∃e M',SR F nf.nt (fun _=>False) .nil w M (ac e) M' a' w'/\lI nf.res sz es e)->a'.defers=[]/\∃v,(results fn a'.tmps).run P w'=.ok v w' /\
     ((es=[]/\0<sz/\∃A:Option Addr,Ending.returned v=.returned (.slice A 0 0)/\Bel w w')\/∃(b o:Nat) (T:TypeId) (us:List Value) (cap:Nat),Ending.returned v=.returned (.slice (some ⟨b,o,none⟩) es.length cap)/\Bel w w'/\w.heap.size<=b /\
      w'.heap[b]? = some (.cells us.toArray T (0,0))/\es.length<=cap/\(o+cap*sz<=us.length/\cap<=9223372036854775807)/\(∀e∈es,e.length=sz) /\
      ∀i r off d,es[i]? = some r->r[off]? = some d->bP d=true/\∃u,us[o+i*sz+off]? = some u/\ae F M d u):=by
    rintro a' w' ⟨e,M',hs',hsz0,hflat,hr⟩
    refine⟨hs'.defers,?_⟩
    obtain⟨ρ,ω,hO⟩:=hs'.own
    split at hr
    ·rename_i t hres
     obtain⟨ht,hr⟩:=hr
     have hrun:(results fn a'.tmps).run P w'=.ok (a'.tmps.getD t undef) w':=by
      rw[hres]at h4 h5
      obtain⟨rv,hrv⟩:∃rv,fn.results.toList=[rv]:=by
       match hq:fn.results.toList,h4 with
       | [x],_=>exact⟨x,rfl⟩
      have hok:=h5 ((t,none),rv) (by rw[hrv];simp)
      unfold results
      rw[Sem.run_bind,x03]
      simp only[Sem.run_map]
      rw[hrv]
      cases rv with
      | tmp t' =>
       simp only[iA,x0r]at hok
       subst hok
       rfl
      | cell t' ty=>simp[iA]at hok
     have hev:a'.tmps.getD t undef=a'.eval (.tmp t):=rfl
     have hx:=hO.opd (x:=.t t) (y:=.tmp t) (by simp[ao,ht])
     simp only[vd]at hx
     split at hr
     ·rename_i b k n hlk
      obtain⟨rfl,rfl,hb⟩:=hr
      rw[hlk,az rfl]at hx
      simp only[aC]at hx
      have hrow:=hO.roots b sz es (hO.big hb) hb
      unfold cB at hrow
      refine⟨_,hrun,?_⟩
      rcases hx with ⟨h0,A,hv⟩|⟨cap,hv,hcap,hcl,hmc⟩
      ·exact .inl ⟨x0G h0,hsz0,A,by rw[hev,hv],hs'.ch.below (fun _ _ h=>h)⟩
      rcases hrow with hrow|⟨hω,hrows⟩
      ·obtain⟨v1,v2,v3,v4⟩:=hrow
       have hc0:cap=0:=by
        rw[v2,v3]at hcl
        simp only[x1a]at hcl
        rcases x0X cap with h|h
        ·exact h
        ·have:=Nat.mul_pos h v4;omega
       subst hc0
       have hl0:es.length=0:=by rw[v1];rfl
       exact .inl ⟨v1,hsz0,_,by rw[hev,hv,hl0],hs'.ch.below (fun _ _ h=>h)⟩
      obtain⟨hsz,us,T,g1,g2,g3,g4,g5⟩:=hrows
      refine .inr ⟨(ρ (.r b)).blk,(ρ (.r b)).base,T,us,cap,?_,hs'.ch.below (fun _ _ h=>h),?_,g1,hcap,⟨?_,hmc⟩,g4,fun i r off d e1 e2=>?_⟩
      ·rw[hev,hv]
       simp
      ·rcases hO.new _ _ hω with h|h
       ·exact h.elim
       ·exact h
      ·rw[g2,<- hsz]
       simpa using hcl
      ·obtain⟨u,k1,k2⟩:=g5 i r off d e1 e2
       have hf1:=hflat r (x0g e1) d (x0g e2)
       rw[bx (fy hf1)]at k2
       exact⟨hf1,u,k1,gH hf1 k2⟩
     ·rename_i hlk
      rw[hlk,az rfl]at hx
      simp only[aC,ae]at hx
      exact⟨_,hrun,.inl ⟨hr,hsz0,none,by rw[hev,hx],hs'.ch.below (fun _ _ h=>h)⟩⟩
     ·exact hr.elim
    ·exact hr.elim
   intro t a' w' hq
   cases t<;>simp only[QM]at hq
   ·obtain⟨e,M',q1,_,q2⟩:=hq
    exact fin a' w' ⟨e,M',q1,q2⟩
   ·obtain⟨e,M',q1,q2,_⟩:=hq
    exact q2.elim
   ·obtain⟨e,M',q1,_,q2⟩:=hq
    exact fin a' w' ⟨e,M',q1,q2⟩
  ·cases h7
 ·cases hk
theorem wY{sz:Nat}{es:List (List D)}{t:Nat}:∀{W:List D},W.length<=10000->ac (params 0 W++[(ap,.blk sz es)]) t=if t=ap then .blk sz es else(W[t]?).getD .any:=by
 intro W hl
 have key:∀(ds:List D) (k:Nat),k+ds.length<=10000->ac (params k ds++[(ap,.blk sz es)]) t=if t=ap then .blk sz es else if k<=t then(ds[t-k]?).getD .any else .any:=by
  intro ds
  induction ds with
  | nil =>
   intro k _
   simp only[params,x1v,ac]
   by_cases h:ap=t
   ·rw[if_pos h,if_pos h.symm]
   ·rw[if_neg h,if_neg (Ne.symm h)];simp
  | cons d ds ih =>
   intro k hk
   simp only[x0T]at hk
   simp only[params,x1o,ac]
   by_cases h:k=t
   ·subst h
    rw[if_pos rfl,if_neg (by unfold ap;omega)]
    simp
   ·rw[if_neg h,ih (k+1) (by omega)]
    by_cases h2:t=ap
    ·rw[if_pos h2,if_pos h2]
    ·rw[if_neg h2,if_neg h2]
     by_cases h3:k<=t
     ·rw[if_pos h3,if_pos (by omega),show t-k=(t-(k+1))+1 from by omega]
      simp
     ·rw[if_neg h3,if_neg (by omega)]
 rw[key W 0 (by omega)]
 simp
theorem oH{sz:Nat}{es:List (List D)}{W:List D}{vs:List Value}(hLd:L.ds=[])(hlen:vs.length=W.length)(r:∀(i:Nat) (d:D) (v:Value),W[i]? = some d->vs[i]? = some v->bC F M ρ d v)(hh:∀p v,M p=some v->w.cell? p=some v)(hl:W.length<=nt)(hnt:nt<=10000)
  (hroot:dg F M ω ρ w ap sz es) (hlt:∀k p,ω k=some p->k<w.heap.size) (hap:∀(p:Addr) (q:Pa),ω p.block=some q->M p=none) (hS:∀k p,ω k=some p->S k) (hLt:∀b l,L b=some l->b=ap/\l=ρ (.r ap)) :
  SR F nt S L w M (ac (params 0 W++[(ap,.blk sz es)])) M { tmps:=vs.toArray++Array.replicate (nt-vs.toArray.size) undef,defers:=[] } w where
 hnt:=hnt
 size:=by simp;omega
 defers:=hLd.symm
 ch:=Ch.refl _ _
 holds:=hh
 ext:=Mem.le_refl _
 fresh p h1 h2:=absurd h1 h2
 own:=by
  have lk:=fun t=>wY (sz:=sz) (es:=es) (W:=W) (t:=t) (by omega)
  have big:∀b,10000<=b->b≠ap->ac (params 0 W++[(ap,.blk sz es)]) b=.any:=fun b hb hne=>by
   rw[lk,if_neg hne]
   simp[x01 (show W.length<=b by omega)]
  refine⟨ρ,ω,⟨fun t ht=>?_,fun b sz' es' hb e=>?_,fun b kt et ks vs hb e=>?_,hlt,fun k p e=>.inl (hS k p e),hap,fun b l hb e _=>by obtain⟨rfl,rfl⟩:=hLt b l e;rfl⟩⟩
  ·unfold wd
   rw[lk,if_neg (by unfold ap;omega)]
   by_cases ht2:t<W.length
   ·have hv:t<vs.length:=by omega
    refine .inr ⟨vs[t],?_,by rw[x0e ht2];exact r t _ _ (x0e ht2) (x0e hv)⟩
    simp[Array.getElem?_append,hv]
   ·exact .inl (by rw[x01 (by omega)];rfl)
  ·by_cases e1:b=ap
   ·subst e1
    rw[lk,if_pos rfl]at e
    cases e
    exact hroot
   ·rw[big b hb e1]at e;cases e
  ·by_cases e1:b=ap
   ·subst e1
    rw[lk,if_pos rfl]at e
    cases e
   ·rw[big b hb e1]at e;cases e
theorem sn{x:D}{v0:Value}{ds:List D}{vs:List Value}(hv0:bC F M ρ x v0)(r:av F M ds vs):(v0::vs).length=(x::ds).length/\∀(i:Nat) (d:D) (v:Value),(x::ds)[i]? = some d->(v0::vs)[i]? = some v->bC F M ρ d v:=by
 refine⟨by simp[r.length],fun i d v h1 h2=>?_⟩
 cases i with
 | zero=>simp at h1 h2;subst h1;subst h2;exact hv0
 | succ i =>
  simp at h1 h2
  obtain⟨v',hv,rv⟩:=r.get h1
  rw[h2]at hv
  cases hv
  exact bC.of_pure rv
theorem yD(t i:Nat)(hi:i<15):rt t i≠ap:=by unfold rt ap;omega
theorem pJ(hC:bQ P F C)(hm:P.follows .mixedOrders=true){fi:Nat}{nf:ar}(hk:dZ P F fi nf=true){W:List D}{d:D}{sz:Nat}{es es':List (List D)}(hl:W.length=nf.np)
  (hw:wpN C nf.body (fun t e=>(match t with
   | .ext _=>False
   | _=>True)/\(0<es'.length/\ac e ap=.blk sz es')/\ef nf.res d ((ap,.any)::e)) (params 0 W++[(ap,.blk sz es)])):ul P F fi sz es W d es':=by
 intro M w vs ρ0 ω0 hh hlen r hlent
 unfold dZ at hk
 split at hk
 ·rename_i fn hfn
  simp only[x0a,x0r,x0f,x0b,x0t]at hk
  obtain⟨⟨⟨⟨⟨⟨⟨h1,h2⟩,h3⟩,h3'⟩,h4⟩,h5⟩,h6⟩,h7⟩:=hk
  split at h7
  ·rename_i c hc
   obtain⟨S,hS⟩:∃S:Nat->Prop,S=fun k=>∃p,ω0 k=some p:=⟨_,rfl⟩
   obtain⟨L,hL⟩:∃L:Ln,L=⟨fun b=>if b=ap then some (ρ0 (.r ap)) else none,[]⟩:=⟨_,rfl⟩
   have hs:=oH (nt:=nf.nt) (S:=S) (L:=L) (by rw[hL]) hlen r hh (by omega) h3' hlent.rows hlent.lt hlent.apart (fun k p e=>by rw[hS];exact⟨p,e⟩) (fun b l e=>by
    rw[hL]at e
    simp only at e
    split at e
    ·rename_i h;cases e;exact⟨h,rfl⟩
    ·cases e)
   have hwp:=cm hC (fun t i hi=>by rw[hL];simp only[if_neg (yD t i hi)]) hm nf.body c h7 _ _ M _ w hs hw
   refine calls_of_wp hfn hc ?_
   rw[h1]
   refine wp_mono hwp ?_
   have fin:∀(a':Act) (w':World),(∃e M',SR F nf.nt S L w M (ac e) M' a' w'/\(0<es'.length/\ac e ap=.blk sz es')/\ef nf.res d ((ap,.any)::e))->a'.defers=[]/\∃v,(results fn a'.tmps).run P w'=.ok v w' /\
     (∃v' M' ρ' ω',Ending.returned v=.returned v'/\Ch (fun k=>∃p,ω0 k=some p) w w'/\M.le M'/\(∀p,M p=none->M' p≠none->(∃q,ω0 p.block=some q)\/w.heap.size<=p.block)/\(∀p v,M' p=some v->w'.cell? p=some v)/\ae F M' d v'/\ρ' (.r ap)=ρ0 (.r ap)/\ui F M' w' ρ' ω' ap sz es'/\∀k p,ω' k=some p->(∃q,ω0 k=some q)\/w.heap.size<=k):=by
    rintro a' w' ⟨e,M',hs',⟨hpos,hlk⟩,hr1,hr2⟩
    refine⟨hs'.defers.trans (by rw[hL]),?_⟩
    obtain⟨ρ,ω,hO⟩:=hs'.own
    have hbig:10000<=ap:=by unfold ap;omega
    have hfE:ac ((ap,.any)::e)=fbE (ac e) ap:=by
     funext t
     unfold fbE
     simp only[ac]
     by_cases h:t=ap
     ·rw[if_pos h,if_pos h.symm]
     ·rw[if_neg h,if_neg (Ne.symm h)]
    have hE:Own F L (qW S w) (ac ((ap,.any)::e)) M' a' w' ρ (fp ω ap):=by
     rw[hfE];exact hO.erase hbig
    have hs2:SR F nf.nt S L w M (ac ((ap,.any)::e)) M' a' w':=⟨hs'.hnt,hs'.size,hs'.defers,hs'.ch,hs'.holds,hs'.ext,hs'.fresh,ρ,fp ω ap,hE⟩
    obtain⟨us,k1,k2⟩:=gg (P:=P) hs2 hE (fun
     | .tmp t=>pure (a'.tmps.getD t undef)
     | .cell x t=>do loadVar t (<- asAddr (a'.tmps.getD x undef))) (fun _=>rfl) (fun _ _=>rfl) nf.res fn.results.toList h4 h5 hr1
    have hrun:(results fn a'.tmps).run P w'=.ok (if h:us.toArray.size=1 then us.toArray[0] else .tuple us.toArray) w':=by
     unfold results
     rw[Sem.run_bind,x03]
     have k1':((fn.results.toList.mapM fun
      | .tmp t=>pure (a'.tmps.getD t undef)
      | .cell x t=>do loadVar t (<- asAddr (a'.tmps.getD x undef)):Sem (List Value))).run P w'=.ok us w':=k1
     simp only[Sem.run_map]
     erw [k1']
     rfl
    have hroot:=hO.roots ap sz es' hbig hlk
    have hρ:ρ (.r ap)=ρ0 (.r ap):=hO.lent ap _ hbig (by rw[hL];simp) (by rw[hlk];rfl)
    have hω:ω (ρ (.r ap)).blk=some (.r ap):=by
     rcases hroot with ⟨e0,_⟩|⟨hω,_⟩
     ·rw[e0]at hpos;simp at hpos
     ·exact hω
    have hle:M'.le (bB (fp ω ap) M' w'):=cF hE
    have hnew:∀k p,ω k=some p->(∃q,ω0 k=some q)\/w.heap.size<=k:=fun k p e=>by
     have h8:=hO.new k p e
     rwa[hS]at h8
    refine⟨_,hrun,_,bB (fp ω ap) M' w',ρ,fz ω ap,rfl,by rw[<- hS];exact hs'.ch,Mem.le_trans hs'.ext hle,fun p hp hq=>?_,cw hs'.holds,?_,hρ,⟨qf hω rfl,dg.frame hroot hle (fun p hp=>⟨rfl,fun e=>⟨qf e hp,rfl⟩⟩),fun k p e=>hO.lt k p (dR e).1,fun k p e=>(dR e).2,fun p q e=>?_⟩,fun k p e=>hnew k p (dR e).1⟩
    ·unfold bB at hq
     split at hq
     ·rename_i q hq'
      exact hnew _ _ (fg hq').1
     ·have h8:=hs'.fresh p hp hq
      rwa[hS]at h8
    ·have hlen:=k2.length
     simp only[x0S]at hlen
     split at hr2
     ·rename_i r1 hres
      rw[hres]at k2 hlen
      simp only[x0F,x02,av]at k2
      obtain⟨v,r',rfl,k3,rfl⟩:=k2
      rw[<- hr2]
      simpa using k3
     ·rename_i hne
      have:¬us.toArray.size=1:=by
       intro h'
       have:nf.res.length=1:=by rw[<- hlen];simpa using h'
       match hq:nf.res,this with
       | [x],_=>exact hne x hq
      rw[dif_neg this,hr2]
      simp only[ae]
      exact⟨us,rfl,k2⟩
    ·obtain⟨e1,e2⟩:=dR e
     have e3:fp ω ap p.block=none:=by simp only[fp,e1,e2,if_true]
     unfold bB
     rw[e3]
     exact hO.apart p q e1
   intro t a' w' hq
   cases t<;>simp only[QM]at hq
   ·obtain⟨e,M',q1,_,q2⟩:=hq
    exact fin a' w' ⟨e,M',q1,q2⟩
   ·obtain⟨e,M',q1,q2,_⟩:=hq
    exact q2.elim
   ·obtain⟨e,M',q1,_,q2⟩:=hq
    exact fin a' w' ⟨e,M',q1,q2⟩
  ·cases h7
 ·cases hk
theorem wP(hC:bQ P F C)(hm:P.follows .mixedOrders=true){fi:Nat}{nf:ar}(hk:dZ P F fi nf=true){ds:List D}{d:D}{sz:Nat}{es es':List (List D)}(hl:ds.length+1=nf.np)
  (hw:wpN C nf.body (fun t e=>(match t with
   | .ext _=>False
   | _=>True)/\(0<es'.length/\ac e ap=.blk sz es')/\ef nf.res d ((ap,.any)::e)) (pc (.adr (.r ap) 0 0) sz es ds)):Bz P F fi sz es ds d es':=by
 intro M w vs ρ0 ω0 hh r hlent
 obtain⟨h1,h2⟩:=sn (ρ:=ρ0) (x:=.adr (.r ap) 0 0) (v0:=.pointer (some ⟨(ρ0 (.r ap)).blk,(ρ0 (.r ap)).base,none⟩)) (by rw[az rfl];simp[aC]) r
 exact pJ hC hm hk (W:=.adr (.r ap) 0 0::ds) (by simpa using hl) hw M w _ ρ0 ω0 hh h1 h2 hlent
theorem wZ{sz1 sz2:Nat}{es1 es2:List (List D)}{t:Nat}:∀{W:List D},W.length<=10000->ac (gW W sz1 es1 sz2 es2) t=if t=ap then .blk sz1 es1 else if t=br then .blk sz2 es2 else(W[t]?).getD .any:=by
 intro W hl
 have key:∀(ds:List D) (k:Nat),k+ds.length<=10000->ac (params k ds++[(ap,.blk sz1 es1),(br,.blk sz2 es2)]) t=if t=ap then .blk sz1 es1 else if t=br then .blk sz2 es2 else if k<=t then(ds[t-k]?).getD .any else .any:=by
  intro ds
  induction ds with
  | nil =>
   intro k _
   simp only[params,x1v,ac]
   by_cases h:ap=t
   ·rw[if_pos h,if_pos h.symm]
   ·rw[if_neg h,if_neg (Ne.symm h)]
    by_cases h':br=t
    ·rw[if_pos h',if_pos h'.symm]
    ·rw[if_neg h',if_neg (Ne.symm h')];simp
  | cons d ds ih =>
   intro k hk
   simp only[x0T]at hk
   simp only[params,x1o,ac]
   by_cases h:k=t
   ·subst h
    rw[if_pos rfl,if_neg (by unfold ap;omega),if_neg (by unfold br;omega)]
    simp
   ·rw[if_neg h,ih (k+1) (by omega)]
    by_cases h2:t=ap
    ·rw[if_pos h2,if_pos h2]
    ·rw[if_neg h2,if_neg h2]
     by_cases h2':t=br
     ·rw[if_pos h2',if_pos h2']
     ·rw[if_neg h2',if_neg h2']
      by_cases h3:k<=t
      ·rw[if_pos h3,if_pos (by omega),show t-k=(t-(k+1))+1 from by omega]
       simp
      ·rw[if_neg h3,if_neg (by omega)]
 unfold gW
 rw[key W 0 (by omega)]
 simp
theorem vR{sz1 sz2:Nat}{es1 es2:List (List D)}{W:List D}{vs:List Value}(hLd:L.ds=[])(hlen:vs.length=W.length)(r:∀(i:Nat) (d:D) (v:Value),W[i]? = some d->vs[i]? = some v->bC F M ρ d v)(hh:∀p v,M p=some v->w.cell? p=some v)(hl:W.length<=nt)(hnt:nt<=10000)
  (hlent:xI F M w ρ ω ap sz1 es1 br sz2 es2) (hS:∀k p,ω k=some p->S k) (hLt:∀b l,L b=some l->(b=ap/\l=ρ (.r ap))\/(b=br/\l=ρ (.r br))) :
  SR F nt S L w M (ac (gW W sz1 es1 sz2 es2)) M { tmps:=vs.toArray++Array.replicate (nt-vs.toArray.size) undef,defers:=[] } w where
 hnt:=hnt
 size:=by simp;omega
 defers:=hLd.symm
 ch:=Ch.refl _ _
 holds:=hh
 ext:=Mem.le_refl _
 fresh p h1 h2:=absurd h1 h2
 own:=by
  have lk:=fun t=>wZ (sz1:=sz1) (es1:=es1) (sz2:=sz2) (es2:=es2) (W:=W) (t:=t) (by omega)
  have big:∀b,10000<=b->b≠ap->b≠br->ac (gW W sz1 es1 sz2 es2) b=.any:=fun b hb hne hne'=>by
   rw[lk,if_neg hne,if_neg hne']
   simp[x01 (show W.length<=b by omega)]
  refine⟨ρ,ω,⟨fun t ht=>?_,fun b sz' es' hb e=>?_,fun b kt et ks vs hb e=>?_,hlent.lt,fun k p e=>.inl (hS k p e),hlent.apart,fun b l hb e _=>by rcases hLt b l e with ⟨rfl,rfl⟩|⟨rfl,rfl⟩<;>rfl⟩⟩
  ·unfold wd
   rw[lk,if_neg (by unfold ap;omega),if_neg (by unfold br;omega)]
   by_cases ht2:t<W.length
   ·have hv:t<vs.length:=by omega
    refine .inr ⟨vs[t],?_,by rw[x0e ht2];exact r t _ _ (x0e ht2) (x0e hv)⟩
    simp[Array.getElem?_append,hv]
   ·exact .inl (by rw[x01 (by omega)];rfl)
  ·by_cases e1:b=ap
   ·subst e1
    rw[lk,if_pos rfl]at e
    cases e
    exact hlent.rows1
   ·by_cases e2:b=br
    ·subst e2
     rw[lk,if_neg e1,if_pos rfl]at e
     cases e
     exact hlent.rows2
    ·rw[big b hb e1 e2]at e;cases e
  ·by_cases e1:b=ap
   ·subst e1
    rw[lk,if_pos rfl]at e
    cases e
   ·by_cases e2:b=br
    ·subst e2
     rw[lk,if_neg e1,if_pos rfl]at e
     cases e
    ·rw[big b hb e1 e2]at e;cases e
theorem DM(t i:Nat)(hi:i<15):rt t i≠br:=by unfold rt br;omega
def vp(ω:Nat->Option Pa)(b c:Nat):Nat->Option Pa:=fun k=>match ω k with
 | some p=>if p.root=b\/p.root=c then some p else none
 | none=>none
theorem mL{b c k:Nat}{p:Pa}(h:ω k=some p)(hp:p.root=b\/p.root=c):vp ω b c k=some p:=by
 simp only[vp,h,if_pos hp]
theorem jj{b c k:Nat}{p:Pa}(h:vp ω b c k=some p):ω k=some p/\(p.root=b\/p.root=c):=by
 unfold vp at h
 split at h
 ·rename_i q hq
  split at h
  ·cases h
   exact⟨hq,by assumption⟩
  ·cases h
 ·cases h
theorem wQ(hC:bQ P F C)(hm:P.follows .mixedOrders=true){fi:Nat}{nf:ar}(hk:dZ P F fi nf=true){W:List D}{d:D}{sz1 sz2:Nat}{es1 es1' es2 es2':List (List D)}(hl:W.length=nf.np)
  (hw:wpN C nf.body (fun t e=>(match t with
   | .ext _=>False
   | _=>True)/\(0<es1'.length/\0<es2'.length/\ac e ap=.blk sz1 es1'/\ac e br=.blk sz2 es2')/\ef nf.res d ((ap,.any)::(br,.any)::e)) (gW W sz1 es1 sz2 es2)):BB P F fi sz1 es1 sz2 es2 W d es1' es2':=by
 intro M w vs ρ0 ω0 hh hlen r hlent
 unfold dZ at hk
 split at hk
 ·rename_i fn hfn
  simp only[x0a,x0r,x0f,x0b,x0t]at hk
  obtain⟨⟨⟨⟨⟨⟨⟨h1,h2⟩,h3⟩,h3'⟩,h4⟩,h5⟩,h6⟩,h7⟩:=hk
  split at h7
  ·rename_i c hc
   obtain⟨S,hS⟩:∃S:Nat->Prop,S=fun k=>∃p,ω0 k=some p:=⟨_,rfl⟩
   obtain⟨L,hL⟩:∃L:Ln,L=⟨fun b=>if b=ap then some (ρ0 (.r ap)) else if b=br then some (ρ0 (.r br)) else none,[]⟩:=⟨_,rfl⟩
   have hBC:br≠ap:=by decide
   have hs:=vR (nt:=nf.nt) (S:=S) (L:=L) (by rw[hL]) hlen r hh (by omega) h3' hlent (fun k p e=>by rw[hS];exact⟨p,e⟩) (fun b l e=>by
    rw[hL]at e
    simp only at e
    split at e
    ·rename_i h;cases e;exact .inl ⟨h,rfl⟩
    ·split at e
     ·rename_i h;cases e;exact .inr ⟨h,rfl⟩
     ·cases e)
   have hwp:=cm hC (fun t i hi=>by rw[hL];simp only[if_neg (yD t i hi),if_neg (DM t i hi)]) hm nf.body c h7 _ _ M _ w hs hw
   refine calls_of_wp hfn hc ?_
   rw[h1]
   refine wp_mono hwp ?_
   have fin:∀(a':Act) (w':World),(∃e M',SR F nf.nt S L w M (ac e) M' a' w'/\(0<es1'.length/\0<es2'.length/\ac e ap=.blk sz1 es1'/\ac e br=.blk sz2 es2')/\ef nf.res d ((ap,.any)::(br,.any)::e))->a'.defers=[]/\∃v,(results fn a'.tmps).run P w'=.ok v w' /\
     (∃v' M' ρ' ω',Ending.returned v=.returned v'/\Ch (fun k=>∃p,ω0 k=some p) w w'/\M.le M'/\(∀p,M p=none->M' p≠none->(∃q,ω0 p.block=some q)\/w.heap.size<=p.block)/\(∀p v,M' p=some v->w'.cell? p=some v)/\ae F M' d v'/\ρ' (.r ap)=ρ0 (.r ap)/\ρ' (.r br)=ρ0 (.r br)/\xI F M' w' ρ' ω' ap sz1 es1' br sz2 es2'/\∀k p,ω' k=some p->(∃q,ω0 k=some q)\/w.heap.size<=k):=by
    rintro a' w' ⟨e,M',hs',⟨hpos1,hpos2,hlk1,hlk2⟩,hr1,hr2⟩
    refine⟨hs'.defers.trans (by rw[hL]),?_⟩
    obtain⟨ρ,ω,hO⟩:=hs'.own
    have hbig:10000<=ap:=by unfold ap;omega
    have hbigC:10000<=br:=by unfold br;omega
    have hfE:ac ((ap,.any)::(br,.any)::e)=fbE (fbE (ac e) br) ap:=by
     funext t
     unfold fbE
     simp only[ac]
     by_cases h:t=ap
     ·rw[if_pos h,if_pos h.symm]
     ·rw[if_neg h,if_neg (Ne.symm h)]
      by_cases h':t=br
      ·rw[if_pos h',if_pos h'.symm]
      ·rw[if_neg h',if_neg (Ne.symm h')]
    have hE:Own F L (qW S w) (ac ((ap,.any)::(br,.any)::e)) M' a' w' ρ (fp (fp ω br) ap):=by
     rw[hfE];exact(hO.erase hbigC).erase hbig
    have hs2:SR F nf.nt S L w M (ac ((ap,.any)::(br,.any)::e)) M' a' w':=⟨hs'.hnt,hs'.size,hs'.defers,hs'.ch,hs'.holds,hs'.ext,hs'.fresh,ρ,_,hE⟩
    obtain⟨us,k1,k2⟩:=gg (P:=P) hs2 hE (fun
     | .tmp t=>pure (a'.tmps.getD t undef)
     | .cell x t=>do loadVar t (<- asAddr (a'.tmps.getD x undef))) (fun _=>rfl) (fun _ _=>rfl) nf.res fn.results.toList h4 h5 hr1
    have hrun:(results fn a'.tmps).run P w'=.ok (if h:us.toArray.size=1 then us.toArray[0] else .tuple us.toArray) w':=by
     unfold results
     rw[Sem.run_bind,x03]
     have k1':((fn.results.toList.mapM fun
      | .tmp t=>pure (a'.tmps.getD t undef)
      | .cell x t=>do loadVar t (<- asAddr (a'.tmps.getD x undef)):Sem (List Value))).run P w'=.ok us w':=k1
     simp only[Sem.run_map]
     erw [k1']
     rfl
    have hroot1:=hO.roots ap sz1 es1' hbig hlk1
    have hroot2:=hO.roots br sz2 es2' hbigC hlk2
    have hρ1:ρ (.r ap)=ρ0 (.r ap):=hO.lent ap _ hbig (by rw[hL];simp) (by rw[hlk1];rfl)
    have hρ2:ρ (.r br)=ρ0 (.r br):=hO.lent br _ hbigC (by rw[hL];simp[hBC]) (by rw[hlk2];rfl)
    have own:∀{b sz:Nat} {es:List (List D)},0<es.length->dg F M' ω ρ w' b sz es->ω (ρ (.r b)).blk=some (.r b):=fun{b sz es} hpos hroot=>by
     rcases hroot with ⟨e0,_⟩|⟨hω,_⟩
     ·rw[e0]at hpos;simp at hpos
     ·exact hω
    have hω1:=own hpos1 hroot1
    have hω2:=own hpos2 hroot2
    have hle:M'.le (bB (fp (fp ω br) ap) M' w'):=cF hE
    have hnew:∀k p,ω k=some p->(∃q,ω0 k=some q)\/w.heap.size<=k:=fun k p e=>by
     have h8:=hO.new k p e
     rwa[hS]at h8
    refine⟨_,hrun,_,bB (fp (fp ω br) ap) M' w',ρ,vp ω ap br,rfl,by rw[<- hS];exact hs'.ch,Mem.le_trans hs'.ext hle,fun p hp hq=>?_,cw hs'.holds,?_,hρ1,hρ2,⟨mL hω1 (.inl rfl),mL hω2 (.inr rfl),dg.frame hroot1 hle (fun p hp=>⟨rfl,fun e=>⟨mL e (.inl hp),rfl⟩⟩),dg.frame hroot2 hle (fun p hp=>⟨rfl,fun e=>⟨mL e (.inr hp),rfl⟩⟩),fun k p e=>hO.lt k p (jj e).1,fun k p e=>(jj e).2,fun p q e=>?_⟩,fun k p e=>hnew k p (jj e).1⟩
    ·unfold bB at hq
     split at hq
     ·rename_i q hq'
      exact hnew _ _ (fg (fg hq').1).1
     ·have h8:=hs'.fresh p hp hq
      rwa[hS]at h8
    ·have hlen:=k2.length
     simp only[x0S]at hlen
     split at hr2
     ·rename_i r1 hres
      rw[hres]at k2 hlen
      simp only[x0F,x02,av]at k2
      obtain⟨v,r',rfl,k3,rfl⟩:=k2
      rw[<- hr2]
      simpa using k3
     ·rename_i hne
      have:¬us.toArray.size=1:=by
       intro h'
       have:nf.res.length=1:=by rw[<- hlen];simpa using h'
       match hq:nf.res,this with
       | [x],_=>exact hne x hq
      rw[dif_neg this,hr2]
      simp only[ae]
      exact⟨us,rfl,k2⟩
    ·obtain⟨e1,e2⟩:=jj e
     have e3:fp (fp ω br) ap p.block=none:=by
      by_cases h:q.root=br
      ·simp only[fp,e1,h,if_true]
      ·have h':=e2.resolve_right h
       have:fp ω br p.block=some q:=s9 e1 h
       simp only[fp]at this ⊢
       simp only[this,h',if_true]
     unfold bB
     rw[e3]
     exact hO.apart p q e1
   intro t a' w' hq
   cases t<;>simp only[QM]at hq
   ·obtain⟨e,M',q1,_,q2⟩:=hq
    exact fin a' w' ⟨e,M',q1,q2⟩
   ·obtain⟨e,M',q1,q2,_⟩:=hq
    exact q2.elim
   ·obtain⟨e,M',q1,_,q2⟩:=hq
    exact fin a' w' ⟨e,M',q1,q2⟩
  ·cases h7
 ·cases hk
theorem wO(hC:bQ P F C)(hm:P.follows .mixedOrders=true){fi:Nat}{nf:ar}(hk:dZ P F fi nf=true){ds:List D}{sz:Nat}{es es':List (List D)}(hl:ds.length+1=nf.np)(hpure:∀d∈ds,isO d=false)(hsz:0<sz)
  (hw:wpN C nf.body (fun t e=>(match t with
   | .ext _=>False
   | _=>True)/\nU nf.res sz es' e) (pc (.ref (.r ap) 0 es.length) sz es ds)):xJ P F fi sz es ds es':=by
 unfold dZ at hk
 split at hk
 case h_2=>cases hk
 rename_i fn hfn
 simp only[x0a,x0r,x0f,x0b,x0t]at hk
 obtain⟨⟨⟨⟨⟨⟨⟨h1,h2⟩,h3⟩,h3'⟩,h4⟩,h5⟩,h6⟩,h7⟩:=hk
 split at h7
 case h_2=>cases h7
 rename_i c hc
 have fin:∀(S:Nat->Prop) (L:Ln) (M:Mem) (w:World) (b:Nat),(∀k,S k->k=b)->L.ds=[]->∀(a':Act) (w':World),(∃e M',SR F nf.nt S L w M (ac e) M' a' w'/\nU nf.res sz es' e)->a'.defers=[]/\∃v,(results fn a'.tmps).run P w'=.ok v w'/\∃v',Ending.returned v=.returned v'/\Ch S w w' /\
   ((es'=[]/\∃A,v'=.slice A 0 0)\/∃(B o2 cap2:Nat) (T2:TypeId) (us2:List Value),(S B\/w.heap.size<=B)/\v'=.slice (some ⟨B,o2,none⟩) es'.length cap2/\w'.heap[B]? = some (.cells us2.toArray T2 (0,0))/\es'.length<=cap2/\cap2<=9223372036854775807/\o2+cap2*sz<=us2.length /\
    ∀i r off d,es'[i]? = some r->r[off]? = some d->∃u,us2[o2+i*sz+off]? = some u/\ae F M d u):=by
  rintro S L M w b hSb hLd a' w' ⟨e,M',hs',hsz0,hflat,hr⟩
  refine⟨hs'.defers.trans hLd,?_⟩
  obtain⟨ρ,ω,hO⟩:=hs'.own
  split at hr
  ·rename_i t hres
   obtain⟨ht,hr⟩:=hr
   have hrun:(results fn a'.tmps).run P w'=.ok (a'.tmps.getD t undef) w':=by
    rw[hres]at h4 h5
    obtain⟨rv,hrv⟩:∃rv,fn.results.toList=[rv]:=by
     match hq:fn.results.toList,h4 with
     | [x],_=>exact⟨x,rfl⟩
    have hok:=h5 ((t,none),rv) (by rw[hrv];simp)
    unfold results
    rw[Sem.run_bind,x03]
    simp only[Sem.run_map]
    rw[hrv]
    cases rv with
    | tmp t' =>
     simp only[iA,x0r]at hok
     subst hok
     rfl
    | cell t' ty=>simp[iA]at hok
   have hev:a'.tmps.getD t undef=a'.eval (.tmp t):=rfl
   have hx:=hO.opd (x:=.t t) (y:=.tmp t) (by simp[ao,ht])
   simp only[vd]at hx
   refine⟨_,hrun,_,rfl,hs'.ch,?_⟩
   split at hr
   ·rename_i b' k n hlk
    split at hr
    ·rename_i sz2 es2 hb
     obtain⟨rfl,hkn,hes⟩:=hr
     rw[hlk,az rfl]at hx
     have hgp:aX (ac e) (.r b')=some (sz2,es2):=by simp[aX,hb]
     rcases ip hO hgp hkn hx (fun e he c hc=>fy (hflat e (by rw[<- hes];exact he) c hc))with ⟨A,hv,hn0⟩|⟨cap,us,T,hv,⟨hcap,hmc⟩,hcl,hω,g0,g1,g2,g4,g5⟩
     ·exact .inl ⟨by rw[<- hes,hn0];simp,A,by rw[hev];exact hv⟩
     ·have hn:es'.length=n:=by rw[<- hes];simp;omega
      refine .inr ⟨(ρ (.r b')).blk,(ρ (.r b')).base+k*sz2,cap,T,us,hO.new _ _ hω,by rw[hev,hn];exact hv,g1,by rw[hn];exact hcap,hmc,by rw[g2];exact hcl,fun i r off d e1 e2=>?_⟩
      obtain⟨u,k1,k2⟩:=g5 i r off d (by rw[hes];exact e1) e2
      exact⟨u,k1,gH (hflat r (x0g e1) d (x0g e2)) k2⟩
    ·exact hr.elim
   ·rename_i hlk
    rw[hlk,az rfl]at hx
    simp only[aC,ae]at hx
    exact .inl ⟨hr,none,by rw[hev];exact hx⟩
   ·exact hr.elim
  ·exact hr.elim
 have run:∀(S:Nat->Prop) (L:Ln) (M:Mem) (w:World) (b:Nat) (v0:Value) (vs:List Value) (ρ0:Pa->Loc) (ω0:Nat->Option Pa),(∀k,S k->k=b)->L.ds=[]->NoL L->av F M ds vs->(∀p v,M p=some v->w.cell? p=some v)->bC F M ρ0 (.ref (.r ap) 0 es.length) v0->dg F M ω0 ρ0 w ap sz es->(∀k p,ω0 k=some p->k<w.heap.size)->(∀(p:Addr) (q:Pa),ω0 p.block=some q->M p=none)->(∀k p,ω0 k=some p->S k)->(∀b l,L b=some l->b=ap/\l=ρ0 (.r ap)) ->
   Calls P fi (v0::vs).toArray w (fun e w'=>∃v',e=.returned v'/\Ch S w w' /\
   ((es'=[]/\∃A,v'=.slice A 0 0)\/∃(B o2 cap2:Nat) (T2:TypeId) (us2:List Value),(S B\/w.heap.size<=B)/\v'=.slice (some ⟨B,o2,none⟩) es'.length cap2/\w'.heap[B]? = some (.cells us2.toArray T2 (0,0))/\es'.length<=cap2/\cap2<=9223372036854775807/\o2+cap2*sz<=us2.length /\
    ∀i r off d,es'[i]? = some r->r[off]? = some d->∃u,us2[o2+i*sz+off]? = some u/\ae F M d u)):=by
  intro S L M w b v0 vs ρ0 ω0 hSb hLd hLr r hh hv0 hroot hlt hap hS hLt
  obtain⟨hc1,hc2⟩:=sn hv0 r
  have hs:=oH (nt:=nf.nt) (S:=S) (L:=L) hLd hc1 hc2 hh (by simp;omega) h3' hroot hlt hap hS hLt
  have hwp:=cm hC hLr hm nf.body c h7 _ _ M _ w hs hw
  refine calls_of_wp hfn hc ?_
  rw[h1]
  refine wp_mono hwp ?_
  intro t a' w' hq
  cases t<;>simp only[QM]at hq
  ·obtain⟨e,M',q1,_,q2⟩:=hq
   exact fin S L M w b hSb hLd a' w' ⟨e,M',q1,q2⟩
  ·obtain⟨e,M',q1,q2,_⟩:=hq
   exact q2.elim
  ·obtain⟨e,M',q1,_,q2⟩:=hq
   exact fin S L M w b hSb hLd a' w' ⟨e,M',q1,q2⟩
 have pure:∀{M:Mem} {w:World} {b:Option Nat} {vs:List Value},og F M w b ds vs->av F M ds vs:=fun{M w b vs} h=>av.of_forall' h.1 (fun i d v e1 e2=>(yz (hpure d (x0g e1))).1 (h.2 i d v e1 e2))
 intro M w vs hh
 refine⟨fun e A r=>?_,fun b o T us cap r hM hb hcell hcap hmc hle hu hc=>?_⟩
 ·refine(run (fun _=>False) .nil M w 0 (.slice A 0 0) vs (fun _=>⟨0,0,sz,0⟩) (fun _=>none) (fun k h=>h.elim) rfl (fun _ _ _=>rfl) (pure r) hh (by
   rw[az rfl];simp only[aC];exact .inl ⟨by rw[e];rfl,A,rfl⟩) (.inl ⟨e,rfl,rfl,hsz⟩) (fun k p h=>by cases h) (fun p q h=>by cases h) (fun k p h=>by cases h) (fun b l h=>by cases h)).mono ?_
  rintro e0 w' ⟨v',rfl,hch,h|⟨B,o2,cap2,T2,us2,hB,q1,q2,q3,q4,q5,q6⟩⟩
  ·exact⟨_,rfl,hch.below (fun _ _ h=>h),.inl h⟩
  ·exact⟨_,rfl,hch.below (fun _ _ h=>h),.inr ⟨B,o2,T2,us2,cap2,q1,hB.elim False.elim id,q2,q3,⟨q5,q4⟩,q6⟩⟩
 ·have hO:∀i r off d,es[i]? = some r->r[off]? = some d->isO d=false:=fun i r off d h1 h2=>by
   obtain⟨u,_,k2⟩:=hc i r off d h1 h2
   exact yf (Ge k2)
  have hle2:es.length*sz<=cap*sz:=x0q _ hcap
  refine(run (fun k=>k=b) .nil M w b (.slice (some ⟨b,o,none⟩) es.length cap) vs (fun _=>⟨b,o,sz,us.length⟩) (fun k=>if k=b then some (.r ap) else none) (fun k h=>h) rfl (fun _ _ _=>rfl) (pure r) hh (by
   rw[az rfl];simp only[aC,Nat.zero_mul,x1r,x1a];exact .inr ⟨cap,rfl,hcap,hle,hmc⟩) (.inr ⟨by simp,rfl,us,T,hcell,rfl,by show o+es.length*sz<=us.length;omega,hu,fun i r off d h1 h2=>by
    obtain⟨u,k1,k2⟩:=hc i r off d h1 h2
    refine⟨u,k1,?_⟩
    show cE F M _ _ w ap i off d u
    rw[bx (hO i r off d h1 h2)]
    exact k2⟩) (fun k p h=>by
    split at h
    ·rename_i e;rw[e];exact hb
    ·cases h) (fun p q h=>by
    split at h
    ·rename_i e;exact hM p e
    ·cases h) (fun k p h=>by
    split at h
    ·assumption
    ·cases h) (fun b l h=>by cases h)).mono ?_
  rintro e0 w' ⟨v',rfl,hch,h|⟨B,o2,cap2,T2,us2,hB,q1,q2,q3,q4,q5,q6⟩⟩
  ·exact⟨_,rfl,hch,.inl h⟩
  ·rcases hB with rfl|hB
   ·exact⟨_,rfl,hch,.inr (.inl ⟨o2,cap2,T2,us2,q1,q2,q3,q4,q5,q6⟩)⟩
   ·exact⟨_,rfl,hch,.inr (.inr ⟨B,o2,T2,us2,cap2,q1,hB,q2,q3,⟨q5,q4⟩,q6⟩)⟩
theorem nF{f:Nat->D}:∀{ds Rs:List D},mo f ds Rs->ds.length=Rs.length/\∀(j:Nat) (d r:D),ds[j]? = some d->Rs[j]? = some r->eG f d r
 | [],[],_=>⟨rfl,fun j d r h=>by simp at h⟩
 | [],_::_,h=>h.elim
 | _::_,[],h=>h.elim
 | d::ds,r::rs,h=>by
  obtain⟨h1,h2⟩:=nF h.2
  refine⟨by simp[h1],fun j d' r' e1 e2=>?_⟩
  cases j with
  | zero=>simp at e1 e2;subst e1 e2;exact h.1
  | succ j=>exact h2 j d' r' (by simpa using e1) (by simpa using e2)
theorem rO{t:Nat}:∀{ds:List D} {i j:Nat},(bU t i ds)[j]? =(ds[j]?).map (gU t (i+j))
 | [],i,j=>by simp[bU]
 | d::ds,i,j=>by
  cases j with
  | zero=>simp[bU]
  | succ j =>
   simp only[bU,List.getElem?_cons_succ]
   rw[rO,show i+1+j=i+(j+1) by omega]
theorem nG{t:Nat}:∀{ds:List D} {i:Nat},(bU t i ds).length=ds.length
 | [],i=>rfl
 | d::ds,i=>by simp[bU,nG]
theorem pO{t b:Nat}{x:D}:∀{ds:List D} {i:Nat},(b,x)∈bR t i ds->∃j d,ds[j]? = some d/\(b,x)∈cZ t (i+j) d
 | [],i,h=>by simp[bR]at h
 | d::ds,i,h=>by
  simp only[bR,x0n]at h
  rcases h with h|h
  ·exact⟨0,d,by simp,h⟩
  ·obtain⟨j,d',h1,h2⟩:=pO h
   exact⟨j+1,d',by simpa using h1,by rwa[show i+(j+1)=i+1+j by omega]⟩
theorem nH{t b:Nat}{x:D}:∀{ds:List D} {i j:Nat} {d:D},ds[j]? = some d->(b,x)∈cZ t (i+j) d->(b,x)∈bR t i ds
 | [],i,j,d,h,_=>by simp at h
 | d0::ds,i,j,d,h,hx=>by
  simp only[bR,x0n]
  cases j with
  | zero=>simp at h;subst h;exact .inl hx
  | succ j=>exact .inr (nH (j:=j) (by simpa using h) (by rwa[show i+(j+1)=i+1+j by omega]at hx))
theorem mF:∀{l:List Nat},bG l=true->l.Nodup
 | [],_=>List.nodup_nil
 | x::l,h=>by
  simp only[bG,x0a,x0t]at h
  refine List.nodup_cons.2 ⟨fun hx=>?_,mF h.2⟩
  have:=x0R.2 hx
  rw[h.1]at this;cases this
theorem ji:∀{l:List Nat},l.Nodup->bG l=true
 | [],_=>rfl
 | x::l,h=>by
  obtain⟨h1,h2⟩:=List.nodup_cons.1 h
  simp only[bG,x0a,x0t]
  exact⟨by cases e:l.contains x;rfl;exact absurd (x0R.1 e) h1,ji h2⟩
def nR(b:Nat):Nat->List D->Option Nat
 | _,[]=>none
 | i,d::ds=>if (cX d).contains b then some i else nR b (i+1) ds
theorem oB{b:Nat}:∀{ds:List D} {i c:Nat},nR b i ds=some c->∃j d,c=i+j/\ds[j]? = some d/\b∈cX d
 | [],i,c,h=>by cases h
 | d::ds,i,c,h=>by
  unfold nR at h
  split at h
  ·rename_i e
   cases h
   exact⟨0,d,by simp,by simp,by simpa using e⟩
  ·obtain⟨j,d',h1,h2,h3⟩:=oB h
   exact⟨j+1,d',by omega,by simpa using h2,h3⟩
theorem sd{b:Nat}:∀{ds:List D} {i j:Nat} {d:D},bG (ds.flatMap cX)=true->ds[j]? = some d->b∈cX d->nR b i ds=some (i+j)
 | [],i,j,d,_,h,_=>by simp at h
 | d0::ds,i,j,d,hn,h,hb=>by
  have hnd:((d0::ds).flatMap cX).Nodup:=mF hn
  rw[List.flatMap_cons,x1x]at hnd
  unfold nR
  cases j with
  | zero =>
   simp at h;subst h
   rw[if_pos (by simpa using hb)];rfl
  | succ j =>
   have h':ds[j]? = some d:=by simpa using h
   have hm:b∈ds.flatMap cX:=List.mem_flatMap.2 ⟨d,x0g h',hb⟩
   rw[if_neg (fun e=>hnd.2.2 b (by simpa using e) b hm rfl),sd (ji hnd.2.1) h' hb]
   congr 1;omega
theorem iR{e:Nat->D}(hO:Own F .nil (fun k=>False\/w0.heap.size<=k) e M a w ρ ω){ds Rs:List D}{us:List Value}(hh:mo e ds Rs)(hn:bG (ds.flatMap cX)=true)(hus:df F M ρ ds us) :
  ∃ρ' ω',df F M ρ' (bU 0 1 Rs) us/\(∀b sz es,(b,D.blk sz es)∈bR 0 1 Rs->dg F M ω' ρ' w b sz es)/\(∀k p,ω' k=some p->w0.heap.size<=k/\k<w.heap.size/\∃x,(p.root,x)∈bR 0 1 Rs)/\(∀(p:Addr) (q:Pa),ω' p.block=some q->M p=none):=by
 obtain⟨hlen,hget⟩:=nF hh
 obtain⟨nb,hnb⟩:∃nb:Nat->Nat,nb=fun c=>match ds[c-10001]? with
  | some d=>(cX d).headD c
  | none=>c:=⟨_,rfl⟩
 obtain⟨ρ',hρ'⟩:∃ρ':Pa->Loc,ρ'=fun p=>ρ (p.to (nb p.root)):=⟨_,rfl⟩
 obtain⟨ω',hω'⟩:∃ω':Nat->Option Pa,ω'=fun k=>match ω k with
  | some p=>match nR p.root 10001 ds with
   | some c=>some (p.to c)
   | none=>none
  | none=>none:=⟨_,rfl⟩
 have nbOf:∀j d b,ds[j]? = some d->cX d=[b]->nb (rt 0 (1+j))=b:=fun j d b h1 h2=>by
  have:rt 0 (1+j)-10001=j:=by unfold rt;omega
  rw[hnb];simp only[this,h1,h2];rfl
 have part:∀j d r,ds[j]? = some d->Rs[j]? = some r->∀b x,(b,x)∈cZ 0 (1+j) r->∃c,cX d=[c]/\b=rt 0 (1+j)/\e c=x/\10000<=c:=by
  intro j d r h1 h2 b x hx
  have hp:=hget j d r h1 h2
  have big:∀{c sz es},e c=.blk sz es->10000<=c:=fun h=>hO.big h
  cases r<;>simp only[cZ,x0H,x07,or_false,Prod.mk.injEq]at hx
  case own sz es =>
   cases d<;>try (simp[eG,isV]at hp;done)
   rename_i p k n
   cases p with
   | r c=>exact⟨c,rfl,hx.1,by rw[hx.2];exact hp.2.2,big hp.2.2⟩
   | n c i o=>simp[eG,isV]at hp
  case blk sz es =>
   cases d<;>try (simp[eG,isV]at hp;done)
   rename_i p k n
   cases p with
   | r c=>exact⟨c,rfl,hx.1,by rw[hx.2];exact hp.2.2,big hp.2.2⟩
   | n c i o=>simp[eG,isV]at hp
 refine⟨ρ',ω',⟨by rw[nG,<- hlen];exact hus.1,fun j x v h1 h2=>?_⟩,fun b sz es hb=>?_,fun k p hk=>?_,fun p q hq=>?_⟩
 ·rw[rO,x0p]at h1
  obtain⟨r,hr,rfl⟩:=h1
  have hj:j<ds.length:=by rw[hlen];exact(x0d.1 hr).1
  have hd:=x0e hj
  have hv:=hus.2 j _ v hd h2
  have hp:=hget j _ r hd hr
  generalize ds[j]=d at hd hv hp
  have pure:isV d=true->r=d->aC F M ρ' (gU 0 (1+j) r) v:=fun h3 h4=>by
   subst h4
   cases r<;>first|(simp[isV]at h3;done)|exact hv
  cases d with
  | ref p k n =>
   cases p with
   | r c =>
    cases r<;>try (simp[eG,isV]at hp;done)
    rename_i sz es
    obtain⟨rfl,rfl,h3⟩:=hp
    have e1:ρ' (.r (rt 0 (1+j)))=ρ (.r c):=by
     rw[hρ'];simp only[Pa.root,nbOf j _ c hd rfl,Pa.to]
    simp only[gU,aC]at hv ⊢
    rw[e1];exact hv
   | n c i o=>cases r<;>simp[eG,isV]at hp
  | adr p k n =>
   cases p with
   | r c =>
    cases r<;>try (simp[eG,isV]at hp;done)
    rename_i sz es
    obtain⟨rfl,rfl,h3⟩:=hp
    have e1:ρ' (.r (rt 0 (1+j)))=ρ (.r c):=by
     rw[hρ'];simp only[Pa.root,nbOf j _ c hd rfl,Pa.to]
    simp only[gU,aC]at hv ⊢
    rw[e1];exact hv
   | n c i o=>cases r<;>simp[eG,isV]at hp
  | _=>first|(simp[eG,isV]at hp;done)|(simp only[eG]at hp;exact pure hp.1 hp.2)
 ·obtain⟨j,r,hr,hx⟩:=pO hb
  have hj:j<ds.length:=by rw[hlen];exact(x0d.1 hr).1
  have hd:=x0e hj
  obtain⟨c,h1,rfl,h3,h4⟩:=part j _ r hd hr _ _ hx
  refine(hO.roots c sz es h4 h3).carry (Mem.le_refl _) (fun p hp=>⟨?_,fun hw=>⟨?_,rfl⟩⟩)
  ·rw[hρ'];simp only[Pa.to_root,nbOf j _ c hd h1]
   rw[Pa.to_to c _ p hp]
  ·rw[hω'];simp only[hw,hp]
   rw[sd hn hd (by rw[h1];simp)]
   simp only[x0s]
   congr 1
   unfold rt;omega
 ·rw[hω']at hk
  simp only at hk
  split at hk
  ·rename_i p' hp'
   split at hk
   ·rename_i c hc
    cases hk
    have hnew:=hO.new _ _ hp'
    refine⟨by rcases hnew with h|h;exact h.elim;exact h,hO.lt _ _ hp',?_⟩
    obtain⟨j,d,rfl,hd,hb⟩:=oB hc
    have hj:j<Rs.length:=by rw[<- hlen];exact(x0d.1 hd).1
    have hr:=x0e hj
    have hp:=hget j d _ hd hr
    have e1:10001+j=rt 0 (1+j):=by unfold rt;omega
    rw[Pa.to_root,e1]
    generalize Rs[j]=r at hr hp
    cases d<;>simp only[cX,x07]at hb
    case ref p k n =>
     cases p with
     | r c =>
      cases r<;>try (simp[eG,isV]at hp;done)
      rename_i sz0 es0
      exact⟨.blk sz0 es0,nH hr (by simp[cZ])⟩
     | n c i o=>simp[cX]at hb
    case adr p k n =>
     cases p with
     | r c =>
      cases r<;>try (simp[eG,isV]at hp;done)
      rename_i sz0 es0
      exact⟨.blk sz0 es0,nH hr (by simp[cZ])⟩
     | n c i o=>simp[cX]at hb
   ·cases hk
  ·cases hk
 ·rw[hω']at hq
  simp only at hq
  split at hq
  ·rename_i p' hp'
   exact hO.apart p p' hp'
  ·cases hq
theorem Aj{f:Nat->D}{d r:D}(h:eG f d r):isX d=false:=by
 cases d<;>first|rfl|(cases r<;>simp[eG,isV]at h)
theorem vI{P:Program}{a':Act}{w':World}(g:ResultVar->Sem Value)(hg1:∀t,g (.tmp t)=pure (a'.tmps.getD t undef)):∀(rs:List (Nat×Option (Nat×Bool))) (rvs:List ResultVar),rs.length=rvs.length->(∀p∈rs.zip rvs,iA P p.1 p.2=true)->(∀r∈rs,r.2=none) ->
  (rvs.mapM g).run P w'=.ok (rs.map fun r=>a'.tmps.getD r.1 undef) w'
 | [],[],_,_,_=>rfl
 | r::rs,rv::rvs,hl,hk,hn=>by
  have ih:=vI (P:=P) (w':=w') g hg1 rs rvs (by simpa using hl) (fun p hp=>hk p (by simp[hp])) (fun r hr=>hn r (by simp[hr]))
  have hr:=hk (r,rv) (by simp)
  have hn0:=hn r (by simp)
  obtain⟨t,o⟩:=r
  simp only at hn0
  subst hn0
  cases rv with
  | tmp t' =>
   simp only[iA,x0r]at hr
   subst hr
   simp[List.mapM_cons,hg1,ih]
  | cell t' ty=>simp[iA]at hr
theorem wK(hC:bQ P F C)(hm:P.follows .mixedOrders=true){fi:Nat}{nf:ar}(hk:dZ P F fi nf=true){ds:List D}{R:D}(hl:ds.length=nf.np)
  (hw:wpN C nf.body (fun t e=>(match t with
   | .ext _=>False
   | _=>True)/\tO nf.res R e) (params 0 ds)):Bv P F fi ds R:=by
 intro M w vs hh r
 unfold dZ at hk
 split at hk
 ·rename_i fn hfn
  simp only[x0a,x0r,x0f,x0b,x0t]at hk
  obtain⟨⟨⟨⟨⟨⟨⟨h1,h2⟩,h3⟩,h3'⟩,h4⟩,h5⟩,h6⟩,h7⟩:=hk
  split at h7
  ·rename_i c hc
   have hs:=m9 (nt:=nf.nt) r hh (by omega) h3'
   have hwp:=cm hC (fun _ _ _=>rfl) hm nf.body c h7 _ _ M _ w hs hw
   refine calls_of_wp hfn hc ?_
   rw[h1]
   refine wp_mono hwp ?_
   have fin:∀(a':Act) (w':World),(∃e M',SR F nf.nt (fun _=>False) .nil w M (ac e) M' a' w'/\tO nf.res R e)->a'.defers=[]/\∃v,(results fn a'.tmps).run P w'=.ok v w' /\
     (∃v' M' ρ ω us,Ending.returned v=.returned v'/\Bel w w'/\M.le M'/\(∀p,M p=none->M' p≠none->w.heap.size<=p.block)/\(∀p v,M' p=some v->w'.cell? p=some v) /\
      xA R us v'/\df F M' ρ (bU 0 1 (j7 R)) us/\(∀b sz es,(b,D.blk sz es)∈aS 0 R->dg F M' ω ρ w' b sz es)/\(∀k p,ω k=some p->w.heap.size<=k/\k<w'.heap.size/\∃x,(p.root,x)∈aS 0 R)/\(∀(p:Addr) (q:Pa),ω p.block=some q->M' p=none)):=by
    rintro a' w' ⟨e,M',hs',hr⟩
    refine⟨hs'.defers,?_⟩
    obtain⟨ρ,ω,hO⟩:=hs'.own
    have hbel:Bel w w':=hs'.ch.below (fun _ _ h=>h)
    have hfr:∀p,M p=none->M' p≠none->w.heap.size<=p.block:=fun p h1 h2=>(hs'.fresh p h1 h2).elim False.elim id
    have one:∀t,nf.res=[(t,none)]->(results fn a'.tmps).run P w'=.ok (a'.tmps.getD t undef) w':=fun t hres=>by
     rw[hres]at h4 h5
     obtain⟨rv,hrv⟩:∃rv,fn.results.toList=[rv]:=by
      match hq:fn.results.toList,h4 with
      | [x],_=>exact⟨x,rfl⟩
     have hok:=h5 ((t,none),rv) (by rw[hrv];simp)
     unfold results
     rw[Sem.run_bind,x03]
     simp only[Sem.run_map]
     rw[hrv]
     cases rv with
     | tmp t' =>
      simp only[iA,x0r]at hok
      subst hok
      rfl
     | cell t' ty=>simp[iA]at hok
    have val:∀t,t<10000->bC F M' ρ (ac e t) (a'.tmps.getD t undef):=fun t ht=>by
     exact hO.opd (x:=.t t) (y:=.tmp t) (by simp[ao,ht])
    unfold tO at hr
    split at hr
    ·rename_i t hres
     obtain⟨ht,hr⟩:=hr
     have hv:=val t ht
     split at hr
     ·rename_i ds' Rs hlk
      rw[hlk]at hv
      obtain⟨us,hv,hrl⟩:=hv
      obtain⟨ρ',ω',k1,k2,k3,k4⟩:=iR hO hr.1 hr.2 hrl
      exact⟨_,one t hres,_,M',ρ',ω',us,rfl,hbel,hs'.ext,hfr,hs'.holds,hv,k1,k2,k3,k4⟩
     ·rename_i p k n sz es hlk
      rw[hlk,az rfl]at hv
      have hn:bG ([D.ref p k n].flatMap cX)=true:=by cases p<;>simp[cX,bG]
      obtain⟨ρ',ω',k1,k2,k3,k4⟩:=iR hO (ds:=[.ref p k n]) (Rs:=[.own sz es]) (us:=[a'.tmps.getD t undef]) ⟨hr,trivial⟩ hn ⟨rfl,fun j d v e1 e2=>by
       cases j with
       | zero=>simp only[x1k,x0s]at e1 e2;subst e1 e2;exact hv
       | succ j=>simp at e1⟩
      exact⟨_,one t hres,_,M',ρ',ω',_,rfl,hbel,hs'.ext,hfr,hs'.holds,rfl,k1,k2,k3,k4⟩
     ·rename_i p k n sz es hlk
      rw[hlk,az rfl]at hv
      have hn:bG ([D.adr p k n].flatMap cX)=true:=by cases p<;>simp[cX,bG]
      obtain⟨ρ',ω',k1,k2,k3,k4⟩:=iR hO (ds:=[.adr p k n]) (Rs:=[.blk sz es]) (us:=[a'.tmps.getD t undef]) ⟨hr,trivial⟩ hn ⟨rfl,fun j d v e1 e2=>by
       cases j with
       | zero=>simp only[x1k,x0s]at e1 e2;subst e1 e2;exact hv
       | succ j=>simp at e1⟩
      exact⟨_,one t hres,_,M',ρ',ω',_,rfl,hbel,hs'.ext,hfr,hs'.holds,rfl,k1,k2,k3,k4⟩
     ·exact hr.elim
    ·rename_i t n hres
     obtain⟨ht,hr⟩:=hr
     split at hr
     ·rename_i c i off Rs hlk
      obtain⟨rfl,rfl,⟨sz,hg⟩,hn,hok,hcn⟩:=hr
      have htn:t<nf.nt:=by
       rcases hO.slots t ht with h1|⟨v,h1,_⟩
       ·rw[hlk]at h1;cases h1
       ·have:=(x1O.1 h1).1
        have:=hs'.size
        omega
      obtain⟨ty,hrv,hty⟩:∃ty,fn.results.toList=[.cell t ty]/\tyS P ty n true=true:=by
       rw[hres]at h4 h5
       obtain⟨rv,hrv⟩:∃rv,fn.results.toList=[rv]:=by
        match hq:fn.results.toList,h4 with
        | [x],_=>exact⟨x,rfl⟩
       have hok:=h5 ((t,some (n,true)),rv) (by rw[hrv];simp)
       cases rv with
       | tmp t'=>simp[iA]at hok
       | cell t' ty =>
        simp only[iA,x0a,x0r]at hok
        obtain⟨rfl,hok⟩:=hok
        exact⟨ty,hrv,hok⟩
      have gp:aX (ac e) (.r c)=some (sz,[Rs]):=by simp only[aX,hg]
      have hc:10000<=c:=cY hO gp
      have one':∀ρ ω,Own F .nil (fun k=>False\/w.heap.size<=k) (ac e) M' a' w' ρ ω->∃v,(results fn a'.tmps).run P w'=.ok v w'/\∃vs:List Value,v=.agg vs.toArray/\vs.length=Rs.length/\∀(j:Nat) (d:D) (u:Value),Rs[j]? = some d->vs[j]? = some u->cE F M' ω ρ w' c 0 j d u:=by
       intro ρ ω hO
       have hx:=hO.opd (x:=.t t) (y:=.tmp t) (by simp[ao,ht])
       simp only[vd]at hx
       rw[hlk,az rfl]at hx
       simp only[aC]at hx
       obtain⟨us,T,hω,h0,hl',g1,g2,g3,g4⟩:=hO.row (p:=.r c) hc gp (i:=0) (r:=Rs) rfl
       rw[h0]at hx
       refine⟨.agg ((us.drop ((ρ (.r c)).base+0*sz+0)).take n).toArray,?_,_,rfl,by rw[x06,x1I];omega,fun j d u k1 k2=>?_⟩
       ·have hld:=fa (P:=P) (w:=w') hty (a:=⟨(ρ (.r c)).blk,(ρ (.r c)).base+0*sz+0,none⟩) (vs:=us.drop ((ρ (.r c)).base+0*sz+0)) (fun j v hj=>by
         rw[dy]
         rw[x0v]at hj
         simp only[Nat.zero_mul,x1r]at hj
         simp[World.cell?,g1,hj]) (by simp;omega)
        simp only[Instr.loadAt,Instr.sureAddr,Sem.run_bind,Sem.run_pure,Result.andThen_ok,if_true]at hld
        unfold results
        rw[Sem.run_bind,x03]
        simp only[Sem.run_map]
        rw[hrv]
        have ea:a'.tmps.getD t undef=a'.eval (.tmp t):=rfl
        simp only[List.mapM_cons,List.mapM_nil,ea,hx,asAddr,Sem.run_bind,Sem.run_pure,Result.andThen_ok,hld]
        rfl
       ·have hj:j<n:=by
         have:=(x0d.1 k2).1
         simp only[x06]at this;omega
        rw[x0D hj,x0v]at k2
        obtain⟨v',k3,k4⟩:=g4 j d k1
        rw[show(ρ (.r c)).base+0*sz+0+j=(ρ (.r c)).base+0*sz+j by omega,k3]at k2
        cases k2
        exact k4
      obtain⟨v,hv,_⟩:=one' ρ ω hO
      have hU:=hs'.unpack (fun _ _ _=>rfl) htn hg hok (fun x hx=>by
       have:=x0f.1 hcn _ hx
       simp at this) (v:=v) (fun ρ ω hO=>by
       obtain⟨v',hv',h2⟩:=one' ρ ω hO
       rw[hv]at hv'
       cases hv'
       exact h2)
      obtain⟨ρ1,ω1,hO1⟩:=hU.own
      obtain⟨f1,hf1⟩:∃f1,f1=eff ((t,fZ t (.agg Rs))::(c,.any)::aS t (.agg Rs)) (fF t (.agg Rs)) (ac e):=⟨_,rfl⟩
      rw[<- hf1]at hU hO1
      have ht1:f1 t=.agx (bU t 1 Rs):=by rw[hf1];exact aP (by simp[fZ])
      have hval:=hO1.opd (x:=.t t) (y:=.tmp t) (by simp[ao,ht])
      simp only[vd]at hval
      have hev:(a'.put (some t) v).eval (.tmp t)=v:=by
       show(a'.put (some t) v).tmps.getD t undef=v
       have:=getElem?_put_same (a:=a') (t:=t) (v:=v) (by rw[hs'.size];exact htn)
       simp[x1z,this]
      rw[ht1,hev]at hval
      obtain⟨us,hv2,hrl⟩:=hval
      have hRs:∀j d,Rs[j]? = some d->∃u,us[j]? = some u/\(isV d=true\/∃sz' es',d=.own sz' es'):=fun j d hj=>by
       obtain⟨_,_,vs,hv3,hvl,hcell⟩:=one' ρ ω hO
       have hj':j<us.length:=by
        have:=hrl.1
        rw[nG]at this
        have:=(x0d.1 hj).1
        omega
       refine⟨_,x0e hj',?_⟩
       have hj2:j<vs.length:=by rw[hvl];exact(x0d.1 hj).1
       have:=hcell j d _ hj (x0e hj2)
       cases d<;>first|exact .inl rfl|exact .inr ⟨_,_,rfl⟩|(simp[cE,ae]at this;done)
      have hhand:mo f1 (bU t 1 Rs) Rs:=by
       have key:∀(l:List D) (i:Nat),(∀j d,l[j]? = some d->Rs[i+j]? = some d)->mo f1 (bU t (1+i) l) l:=by
        intro l
        induction l with
        | nil=>intro i _;trivial
        | cons d l ih =>
         intro i hl
         have h0:=hl 0 d rfl
         refine⟨?_,by
          have:=ih (i+1) (fun j d' hj=>by
           have:=hl (j+1) d' (by simpa using hj)
           rwa[show i+(j+1)=i+1+j by omega]at this)
          rwa[show 1+(i+1)=1+i+1 by omega]at this⟩
         obtain⟨u,_,hd|⟨sz',es',rfl⟩⟩:=hRs (i+0) d h0
         ·cases d<;>first|exact⟨rfl,rfl⟩|(simp[isV]at hd;done)
         ·refine⟨rfl,rfl,?_⟩
          have hm:(rt t (1+i),D.blk sz' es')∈aS t (.agg Rs):=pP (show Rs[i]? = _ by simpa using h0)
          rw[hf1]
          refine aP ?_
          have hct:(rt t (1+i)==t)=false:=by simp;unfold rt;omega
          have hcc:(rt t (1+i)==c)=false:=by
           have:=x0f.1 hcn _ hm
           simpa using this
          simp only[x0l,hct,hcc]
          exact yg (fun y hy=>(iq hm hy).symm) hm
       exact key Rs 0 (fun j d hj=>by rwa[x1a])
      have hnd:bG ((bU t 1 Rs).flatMap cX)=true:=by
       refine ji ?_
       have key:∀(l:List D) (i:Nat),(∀d∈l,isV d=true\/∃sz' es',d=.own sz' es')->((bU t i l).flatMap cX).Nodup/\∀x∈(bU t i l).flatMap cX,rt t i<=x:=by
        intro l
        induction l with
        | nil=>intro i _;exact⟨List.nodup_nil,by simp[bU]⟩
        | cons d l ih =>
         intro i hl
         obtain⟨g1,g2⟩:=ih (i+1) (fun d' hd'=>hl d' (by simp[hd']))
         have g3:∀x∈(bU t (i+1) l).flatMap cX,rt t i<x:=fun x hx=>by
          have:=g2 x hx
          unfold rt at this ⊢;omega
         simp only[bU,List.flatMap_cons]
         rcases hl d (by simp)with hd|⟨sz',es',rfl⟩
         ·have:cX (gU t i d)=[]:=by cases d<;>first|rfl|(simp[isV]at hd;done)
          rw[this,x1v]
          exact⟨g1,fun x hx=>Nat.le_of_lt (g3 x hx)⟩
         ·have:cX (gU t i (.own sz' es'))=[rt t i]:=rfl
          rw[this]
          refine⟨?_,fun x hx=>?_⟩
          ·rw[List.singleton_append,List.nodup_cons]
           exact⟨fun hx=>absurd (g3 _ hx) (by omega),g1⟩
          ·rcases x0n.1 hx with h|h
           ·simp at h;omega
           ·exact Nat.le_of_lt (g3 x h)
       exact(key Rs 1 (fun d hd=>by
        obtain⟨j,hj⟩:=List.getElem?_of_mem hd
        obtain⟨_,_,h⟩:=hRs j d hj
        exact h)).1
      obtain⟨ρ',ω',k1,k2,k3,k4⟩:=iR hO1 hhand hnd hrl
      exact⟨_,hv,_,M',ρ',ω',us,rfl,hbel,hs'.ext,hfr,hs'.holds,hv2,k1,k2,k3,k4⟩
     ·exact hr.elim
    ·obtain⟨hne,hall,hr⟩:=hr
     split at hr
     ·rename_i Rs
      have hrun:(results fn a'.tmps).run P w'=.ok (.tuple (nf.res.map fun r=>a'.tmps.getD r.1 undef).toArray) w':=by
       unfold results
       rw[Sem.run_bind,x03]
       have k1':((fn.results.toList.mapM fun
        | .tmp t=>pure (a'.tmps.getD t undef)
        | .cell x t=>do loadVar t (<- asAddr (a'.tmps.getD x undef)):Sem (List Value))).run P w'=.ok (nf.res.map fun r=>a'.tmps.getD r.1 undef) w':=vI (P:=P) (fun
        | .tmp t=>pure (a'.tmps.getD t undef)
        | .cell x t=>do loadVar t (<- asAddr (a'.tmps.getD x undef))) (fun _=>rfl) nf.res fn.results.toList h4 h5 (fun r hr=>(hall r hr).2)
       simp only[Sem.run_map]
       erw [k1']
       have:¬(nf.res.map fun r=>a'.tmps.getD r.1 undef).toArray.size=1:=by simpa using hne
       simp[Result.andThen,hne]
      obtain⟨hlen,hget⟩:=nF hr.1
      obtain⟨ρ',ω',k1,k2,k3,k4⟩:=iR hO (us:=nf.res.map fun r=>a'.tmps.getD r.1 undef) hr.1 hr.2 ⟨by simp,fun j d v e1 e2=>by
       rw[x0z,x0p]at e1 e2
       obtain⟨r1,g1,rfl⟩:=e1
       obtain⟨r2,g2,rfl⟩:=e2
       rw[g1]at g2;cases g2
       have hv:=val r1.1 (hall r1 (x0g g1)).1
       have hj:j<Rs.length:=by
        rw[<- hlen];simp;exact(x0d.1 g1).1
       have hp:=hget j (ac e r1.1) _ (by simp[g1]) (x0e hj)
       rwa[az (Aj hp)]at hv⟩
      exact⟨_,hrun,_,M',ρ',ω',_,rfl,hbel,hs'.ext,hfr,hs'.holds,rfl,k1,k2,k3,k4⟩
     ·exact hr.elim
   intro t a' w' hq
   cases t<;>simp only[QM]at hq
   ·obtain⟨e,M',q1,_,q2⟩:=hq
    exact fin a' w' ⟨e,M',q1,q2⟩
   ·obtain⟨e,M',q1,q2,_⟩:=hq
    exact q2.elim
   ·obtain⟨e,M',q1,_,q2⟩:=hq
    exact fin a' w' ⟨e,M',q1,q2⟩
  ·cases h7
 ·cases hk
theorem oq{F:Fid}{M:Mem}:∀(ds:List D) (vs:List Value),av F M ds vs->av F M (ds.map tg) vs
 | [],vs,x=>by simpa only[x02,av]using x
 | d::ds,vs,x=>by
  simp only[x0F,av]at x ⊢
  obtain⟨v,r,e,x1,x2⟩:=x
  refine⟨v,r,e,?_,oq ds r x2⟩
  unfold tg
  split
  ·exact x1
  ·simp only[ae]
theorem wI{F:Fid}{M:Mem}{d:D}{v:Value}(h:ae F M d v):ae F M (wH d) v:=by
 cases d
 case tup ds =>
  simp only[wH,ae]at h ⊢
  obtain⟨vs,e,r⟩:=h
  exact⟨vs,e,oq ds vs r⟩
 all_goals exact h
def cj(P:Program)(F:Fid)(g:Nat)(ds:List D)(d:D):List D->Prop
 | []=>True/\∀f,F g=some f->Bw P F f ds d
 | [.own sz es]=>True/\∀f,F g=some f->Bx P F f ds sz es
 | [.nilp]=>True/\∀f,F g=some f->By P F f ds d
 | [.nils]=>True/\∀f,F g=some f->Bv P F f ds d
 | [.own sz es',.nilp]=>True/\∀f,F g=some f->match ds with
  | .own sz0 es::ds'=>sz0=sz/\xK P F f sz es ds' es'
  | _=>False
 | [.own sz es',.nils]=>True/\∀f,F g=some f->match ds with
  | .own sz0 es::ds'=>sz0=sz/\GV P F f sz es ds' es'
  | _=>False
 | [.own sz es',.nils,.nils]=>True/\∀f,F g=some f->match ds with
  | .own sz0 es::ds'=>sz0=sz/\xJ P F f sz es ds' es'
  | _=>False
 | [.blk sz es',.nilp]=>True/\∀f,F g=some f->match ds with
  | .blk sz0 es::W=>sz0=sz/\ul P F f sz es W d es'
  | _=>False
 | [.blk sz1 es1',.blk sz2 es2',.nilp]=>True/\∀f,F g=some f->match ds with
  | .blk sz0 es1::.blk sz0' es2::W=>sz0=sz1/\sz0'=sz2/\BB P F f sz1 es1 sz2 es2 W d es1' es2'
  | _=>False
 | [.blk sz es',.nils]=>True/\∀f,F g=some f->match ds with
  | .blk sz0 es::W=>sz0=sz/\∀vals:Nat->Value,ul P { F with vals:=vals } f sz es W d es'
  | _=>False
 | [.blk sz es']=>True/\∀f,F g=some f->match ds with
  | .blk sz0 es::ds'=>sz0=sz/\Bz P F f sz es ds' d es'
  | _=>False
 | _=>False
theorem m4(hm:P.follows .mixedOrders=true){prog:Nat->Option ar}(hnamed:∀g f,F g=some f->oz P f=true)(hlaid:laidOutB F.P=true)(hP:P=F.P)(hall:∀g f nf,F g=some f->prog g=some nf->dZ P F f nf=true):bQ P F (cj P F)/\sC prog (cj P F):=by
 have hs:bQ P F (cj P F):=⟨fun g f ds d hg h=>h.2 f hg,fun g f ds sz es hg h=>h.2 f hg,fun g f sz es ds es' hg h=>(h.2 f hg).2,fun g f sz es ds es' hg h=>(h.2 f hg).2,fun g f sz es ds es' hg h=>(h.2 f hg).2,fun g f ds d hg h=>h.2 f hg,fun g f ds R hg h=>h.2 f hg,fun g f sz es ds d es' hg h=>(h.2 f hg).2,fun g f sz es W d es' hg h=>(h.2 f hg).2,fun g f sz1 es1 sz2 es2 W d es1' es2' hg h=>(h.2 f hg).2.2,fun g f sz es W d es' hg h=>(h.2 f hg).2,hnamed,hlaid,hP⟩
 refine⟨hs,fun g nf ds d hp hl hw=>⟨trivial,fun f hf=>Af hs hm (hall g f nf hf hp) hl hw⟩,fun g ds d h=>⟨trivial,fun f hf M w vs hh r=>?_⟩,fun g nf ds sz es hp hl hw=>⟨trivial,fun f hf=>wL hs hm (hall g f nf hf hp) hl hw⟩,fun g nf ds d hp hl hw=>⟨trivial,fun f hf=>wM hs hm (hall g f nf hf hp) hl hw⟩,fun g nf ds d sz es es' hp hl hw=>⟨trivial,fun f hf=>⟨rfl,wP hs hm (hall g f nf hf hp) hl hw⟩⟩,fun g nf W d sz es es' hp hl hw=>⟨trivial,fun f hf=>⟨rfl,pJ hs hm (hall g f nf hf hp) hl hw⟩⟩,fun g nf ds sz es es' hp hl hpu hsz hw=>⟨trivial,fun f hf=>⟨rfl,wO hs hm (hall g f nf hf hp) hl hpu hsz hw⟩⟩,fun g nf W d sz1 es1 es1' sz2 es2 es2' hp hl hw=>⟨trivial,fun f hf=>⟨rfl,rfl,wQ hs hm (hall g f nf hf hp) hl hw⟩⟩,fun g nf ds R hp hl hok hw=>⟨trivial,fun f hf=>wK hs hm (hall g f nf hf hp) hl hw⟩⟩
 exact(h.2 f hf M w vs hh r).mono fun e w' ⟨v,M',q1,q2,q3,q4,q5,q6⟩=>⟨v,M',q1,q2,q3,q4,q5,wI q6⟩
section
variable{vals:Nat->Value}
theorem gZ{x:Opd}{y:Operand}:ao { F with vals:=vals } x y=ao F x y:=by cases x<;>cases y<;>rfl
theorem oA{xs:List Opd}{ys:List Operand}:bY { F with vals:=vals } xs ys=bY F xs ys:=by
 unfold bY
 simp only[gZ]
theorem qg{x:Option Opd}{y:Option Operand}:jZ { F with vals:=vals } x y=jZ F x y:=by
 unfold jZ
 simp only[gZ]
theorem AD{n:NOp}{q:Op}:vq P { F with vals:=vals } n q=vq P F n q:=by
 unfold vq ux blsOk
 simp only[gZ,oA,qg]
 first|rfl|skip
theorem xc{n:NOp}{q:Op}:sc P { F with vals:=vals } n q=sc P F n q:=by
 unfold sc blsOk
 simp only[gZ,oA,qg,AD]
 first|rfl|skip
theorem xp{nt:Nat}{ns:List au}{ops:Array Oper}:oE P { F with vals:=vals } nt ns ops=oE P F nt ns ops:=by
 unfold oE rZ
 simp only[xc]
theorem dK{nt:Nat}:∀(nc:cL) (c:Code),cN P { F with vals:=vals } nt nc c=cN P F nt nc c
 | .skip,c=>by cases c<;>rfl
 | .reg dr hs k ns,c=>by cases c<;>first|rfl|simp only[cN,xp]
 | .seq x y,c=>by cases c<;>first|rfl|simp only[cN,dK x,dK y]
 | .cond b x y,c=>by cases c<;>first|rfl|simp only[cN,gZ,dK x,dK y]
 | .block i x,c=>by cases c<;>first|rfl|simp only[cN,dK x]
 | .loop x,c=>by cases c<;>first|rfl|simp only[cN,dK x]
 | .exit i,c=>by cases c<;>rfl
 | .ret,c=>by cases c<;>rfl
end
theorem wJ{vals:Nat->Value}{fi:Nat}{nf:ar}:dZ P { F with vals:=vals } fi nf=dZ P F fi nf:=by
 unfold dZ
 simp only[dK]
theorem vJ(hm:P.follows .mixedOrders=true){prog:Nat->Option ar}(hnamed:∀g f,F g=some f->oz P f=true)(hlaid:laidOutB F.P=true)(hP:P=F.P)(hall:∀g f nf,F g=some f->prog g=some nf->dZ P F f nf=true):bQ P F (cj P F)/\al prog (cj P F):=by
 obtain⟨h1,h2⟩:=m4 hm hnamed hlaid hP hall
 refine⟨h1,h2,fun g sz es W d es' h=>⟨trivial,fun f hf=>⟨rfl,fun vals=>?_⟩⟩⟩
 have h3:=h _ (m4 (F:={ F with vals:=vals }) hm hnamed hlaid hP (fun g f nf k1 k2=>(wJ (vals:=vals)).trans (hall g f nf k1 k2))).2
 exact(h3.2 f hf).2
end
end Go.Gv

namespace Go.Gv
variable[Drw]
open Go.RowKit
section
variable{P:Program}{F:Fid}{C:Nat->List D->D->List D->Prop}{nt:Nat}{S:Nat->Prop}{L:Ln}{w0:World}{M0:Mem}{f:Nat->D}{M:Mem}{a:Act}{w:World}{Q:Exit->Act->World->Prop}{ρ:Pa->Loc}{ω:Nat->Option Pa}
def CM:D->Prop
 | .any=>True
 | .nils=>True
 | .ref _ _ _=>True
 | .adr _ _ _=>True
 | .blk _ es=>∀r∈es,∀c∈r,Ha c=true
 | d=>bP d=true
structure lj where
 np:Nat
 nt:Nat
 res:List (Nat×Option (Nat×Bool))
 pre:cL
 post:cL
 s:Nat
 e:Nat
 g:Nat
 nc:Nat
def uI(nd:lj):Nat:=rt nd.e 15
def LX(nd:lj)(c:Nat)(x:D)(e:Env):Env:=(nd.s,.any)::([(nd.e,.adr (.r (uI nd)) 0 0),(uI nd,.blk 1 [[x]]),(c,.any)]++dG [(uI nd,true)] e)
def tP(rs:List (Nat×Option (Nat×Bool)))(d:D)(e:Env):Prop :=
 ef rs d (prune (rs.map (·.1)) e)/\∀p∈prune (rs.map (·.1)) e,CM p.2/\(p.1<10000->isB p.2=false)
def GZ(C:Nat->List D->D->List D->Prop)(nd:lj)(gf:ar)(ds:List D)(x d:D):Prop :=
 wpN C nd.pre (fun t e=>match t with
  | .nrm=>∃c y,ac e nd.e=.adr (.r c) 0 0/\ac e c=.blk 1 [[y]]/\c≠uI nd/\wpN C nd.post (fun t e'=>(match t with
   | .ext _=>False
   | _=>True)/\ac e' (uI nd)=.blk 1 [[x]]/\tP nd.res d e') (LX nd c y e)
  | _=>False) (params 0 ds)/\bP x=true/\1+nd.nc=gf.np/\wpN C gf.body (fun t e=>(match t with
   | .ext _=>False
   | _=>True)/\ef gf.res (.tup []) e) (params 0 (.ptr [x]::List.replicate nd.nc .any))
def kC(prog:Nat->Option ar)(da:Nat->Option lj)(C:Nat->List D->D->List D->Prop):Prop :=
 ∀g nd gf ds x d,da g=some nd->prog nd.g=some gf->ds.length=nd.np->GZ C nd gf ds x d->C g ds d [.nilp]
end
end Go.Gv
