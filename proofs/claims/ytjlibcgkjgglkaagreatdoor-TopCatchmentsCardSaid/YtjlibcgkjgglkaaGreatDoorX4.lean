/-
  Texts of the proof: GvI, GvJ, GvJ2.
-/
import Derived.Test.YtjlibcgkjgglkaaGreatDoorX3
import Derived.Orders
import Derived.Defers
set_option linter.all false
namespace Go.Gv
open Go.RowKit
def jd:Opd->List Nat
 | .t s=>[s]
 | .c _=>[]
def rH:Option (Nat×Bool)->List Nat
 | some (s,_)=>[s]
 | none=>[]
def rdS(n:ay):List Nat:=(ai n.op).flatMap jd++rH n.guard
def Ek:NOp->List Opd
 | .mov _=>[]
 | .nck _=>[]
 | .pick _ _ _=>[]
 | .bin _ _ _=>[]
 | .un _ _=>[]
 | .conv _ _=>[]
 | .fld _ _ _ _=>[]
 | .ext _ _=>[]
 | .fad _ _=>[]
 | .ld _ _ _=>[]
 | .ldQ _ _=>[]
 | .mk _ _=>[]
 | .bld _ _=>[]
 | .boxF _=>[]
 | .blsF _ _ _ _=>[]
 | .len _=>[]
 | .iadA _ _ _ _=>[]
 | o=>ai o
def ldN:NOp->List Opd
 | .ld _ _ x=>[x]
 | _=>[]
def rdR(f:Nat->D)(n:ay):List Nat:=((Ek n.op).flatMap fun x=>bP (vd f x))++((ldN n.op).flatMap fun x=>bA (vd f x))
def mnR(f:Nat->D)(n:ay):List Nat:=(ai n.op).flatMap fun x=>bP (vd f x)
def frR(f:Nat->D)(n:ay):List (Nat×Nat):=match n.op with
 | .ldQ o x=>match vd f x with
  | .adr (.r c) _ _=>[(c,o)]
  | _=>[]
 | _=>[]
def fwR(f:Nat->D)(n:ay):List (Nat×Nat):=match n.op with
 | .appQ o _ _ x _=>match vd f x with
  | .ref (.n c _ _) _ _=>[(c,o)]
  | _=>[]
 | _=>[]
abbrev Rds:=List Nat×List Nat×List (Nat×Nat)×List (Nat×Nat)
def gq(x:Rds):List Nat:=x.1.map (4 * ·)++x.2.1.map (4 * ·+1)++x.2.2.1.map (fun p=>4*(64*p.1+p.2%64)+2)++x.2.2.2.map (fun p=>4*(64*p.1+p.2%64)+3)
def rdN(f:Nat->D)(n:ay):Rds:=(rdS n++rdR f n,mnR f n,frR f n,fwR f n)
def fL(f:Nat->D)(n:ay):List Nat:=gq (rdN f n)
def wrK(ws:List (Nat×D))(ks:List (Nat×Bool)):List Nat:=(ws.map fun p=>4*p.1)++ks.map fun k=>4*k.1+1
def fy:D->Bool
 | .any=>true
 | _=>false
def chk(f:Nat->D)(n:ay):Bool:=((rdS n).all fun s=>!fy (f s))&&((rdR f n).all fun b=>isB (f b))&&((frR f n).all fun p=>!(n.dst==some p.1))&&(fwR f n).all fun p=>!(n.dst==some p.1)
def wOk(R:List Nat)(ws:List (Nat×D))(ks:List (Nat×Bool)):Bool :=
 (ks.all fun k=>(ws.map (·.1)).contains k.1)&&ws.all fun p=>(bP p.2).all fun b=>R.contains (4*b+1)||(ws.map (·.1)).contains b
def xb(q:Nat)(r0:List Nat):Bool:=r0.any fun z=>decide (z%4=3)&&decide (z/256=q/256)&&!decide (z/4%64=q/4%64)
def sP(x r0:List Nat)(r w:List Nat):Bool:=x.all fun k=>!r.contains k&&!w.contains k&&r.all fun q=>!(decide (q%4=2)&&decide (k=4*(q/256)))||xb q r0
def jM(hs:List Nat)(rw:List (List Nat×List Nat)):Bool :=
 rw.zipIdx.all fun p=>rw.zipIdx.all fun q=>!decide (p.2<q.2)||(hs.getD q.2 0).testBit p.2||(sP p.1.2 p.1.1 q.1.1 q.1.2&&sP q.1.2 q.1.1 p.1.1 p.1.2)
def rq:Option Nat->List Nat
 | some t=>[4*t]
 | none=>[]
def iN(C:Nat->List D->D->List D->Prop)(hs:List Nat)(K:Env->Prop):List ay->Env->List (List Nat×List Nat)->Prop
 | [],e,acc=>jM hs acc.reverse=true/\K e
 | o::os,e,acc=>chk (ab e) o=true/\match o.guard with
  | none=>aB C (ab e) o.dst (fun ws ks=>wOk (fL (ab e) o) ws ks=true/\iN C hs K os (ws++cC ks e) ((fL (ab e) o,wrK ws ks)::acc)) o.op
  | some (s,want)=>match ab e s with
   | .bool b=>(b=want->aB C (ab e) o.dst (fun ws ks=>wOk (fL (ab e) o) ws ks=true/\iN C hs K os (ws++cC ks e) ((fL (ab e) o,wrK ws ks)::acc)) o.op) /\
     (b=!want->gk e o.dst fun e'=>iN C hs K os e' ((fL (ab e) o,rq o.dst)::acc))
   | .tup []=>gk e o.dst fun e'=>iN C hs K os e' ((fL (ab e) o,rq o.dst)::acc)
   | _=>False
def dN(n:ay):Option (List (Nat×D)×List (Nat×Bool))->List (Nat×D)
 | some (ws,_)=>ws
 | none=>match n.dst with
  | some t=>[(t,.tup [])]
  | none=>[]
def eO:Option (List (Nat×D)×List (Nat×Bool))->List (Nat×Bool)
 | some (_,ks)=>ks
 | none=>[]
theorem Aq(n:ay)(x:Option (List (Nat×D)×List (Nat×Bool)))(f:Nat->D):oF n x f=eff (dN n x) (eO x) f:=by
 cases x with
 | some y=>rfl
 | none =>
  unfold oF dN eO
  cases n.dst with
  | some t=>rfl
  | none=>exact(ki f).symm
abbrev f6:=ay×Option (List (Nat×D)×List (Nat×Bool))×Rds
def Tr(C:Nat->List D->D->List D->Prop):List f6->(Nat->D)->(Nat->D)->Prop
 | [],f,f'=>f'=f
 | (n,x,rd)::ts,f,f'=>iP C n f x/\chk f n=true/\wOk (fL f n) (dN n x) (eO x)=true/\rd=rdN f n/\Tr C ts (eff (dN n x) (eO x) f) f'
section
variable{C:Nat->List D->D->List D->Prop}
theorem CT{hs:List Nat}{K:Env->Prop}:∀(ns:List ay) (e:Env) (acc:List (List Nat×List Nat)),iN C hs K ns e acc->∃(ts:List f6) (e':Env),ts.map (·.1)=ns/\Tr C ts (ab e) (ab e')/\jM hs (acc.reverse++ts.map fun t=>(gq t.2.2,wrK (dN t.1 t.2.1) (eO t.2.1)))=true/\K e'
 | [],e,acc,h=>⟨[],e,rfl,rfl,by simpa using h.1,h.2⟩
 | n::ns,e,acc,h=>by
  obtain⟨h0,h⟩:=h
  have fin:∀(x:Option (List (Nat×D)×List (Nat×Bool))) (e1:Env),iP C n (ab e) x->wOk (fL (ab e) n) (dN n x) (eO x)=true->ab e1=eff (dN n x) (eO x) (ab e)->iN C hs K ns e1 ((fL (ab e) n,wrK (dN n x) (eO x))::acc) ->
    ∃(ts:List f6) (e':Env),ts.map (·.1)=n::ns/\Tr C ts (ab e) (ab e')/\jM hs (acc.reverse++ts.map fun t=>(gq t.2.2,wrK (dN t.1 t.2.1) (eO t.2.1)))=true/\K e':=by
   intro x e1 h1 h2 h3 h4
   obtain⟨ts,e',g1,g2,g3,g4⟩:=CT ns e1 _ h4
   refine⟨(n,x,rdN (ab e) n)::ts,e',by simp[g1],⟨h1,h0,h2,rfl,by rw[<- h3];exact g2⟩,?_,g4⟩
   simpa[fL]using g3
  have run:(∀s b,n.guard=some (s,b)->ab e s=.bool b)->aB C (ab e) n.dst (fun ws ks=>wOk (fL (ab e) n) ws ks=true/\iN C hs K ns (ws++cC ks e) ((fL (ab e) n,wrK ws ks)::acc)) n.op ->
    ∃(ts:List f6) (e':Env),ts.map (·.1)=n::ns/\Tr C ts (ab e) (ab e')/\jM hs (acc.reverse++ts.map fun t=>(gq t.2.2,wrK (dN t.1 t.2.1) (eO t.2.1)))=true/\K e':=by
   intro hg h1
   obtain⟨ws,ks,⟨h2,h3⟩,h4⟩:=n8 h1
   exact fin (some (ws,ks)) _ ⟨hg,h4 _ ⟨rfl,rfl⟩⟩ h2 (fT ws ks e) h3
  have skp:∀s want,n.guard=some (s,want)->Skp want (ab e s)->gk e n.dst (fun e'=>iN C hs K ns e' ((fL (ab e) n,rq n.dst)::acc)) ->
    ∃(ts:List f6) (e':Env),ts.map (·.1)=n::ns/\Tr C ts (ab e) (ab e')/\jM hs (acc.reverse++ts.map fun t=>(gq t.2.2,wrK (dN t.1 t.2.1) (eO t.2.1)))=true/\K e':=by
   intro s want hg hb h1
   unfold gk at h1
   split at h1
   ·rename_i hd
    refine fin none e ⟨s,want,hg,hb⟩ (by simp[wOk,dN,eO,hd]) (by simp[dN,eO,hd,ki]) ?_
    simpa[dN,eO,wrK,hd,rq]using h1
   ·rename_i t hd
    refine fin none ((t,.tup [])::e) ⟨s,want,hg,hb⟩ (by simp[wOk,dN,eO,hd,bP,bA]) ?_ ?_
    ·have:=fT [(t,.tup [])] [] e
     simp only[cC,if_true]at this
     simpa[dN,eO,hd]using this
    ·simpa[dN,eO,wrK,hd,rq]using h1
  split at h
  ·rename_i hg
   exact run (fun s b e'=>(by rw[hg]at e';cases e')) h
  ·rename_i s want hg
   split at h
   ·rename_i b hb
    by_cases hbw:b=want
    ·subst hbw
     exact run (fun s' b' e'=>(by rw[hg]at e';cases e';exact hb)) (h.1 rfl)
    ·have hb':b=!want:=by cases b<;>cases want<;>simp_all
     have h1:=h.2 hb'
     rw[hb']at hb
     exact skp s want hg (.inl hb) h1
   ·rename_i hb
    exact skp s want hg (.inr hb) h
   ·exact h.elim
def aV(hs:List Nat)(ts:List f6)(f:Nat->D):Fam where
 n:=ts.length
 ws i:=match ts[i]? with
  | some t=>dN t.1 t.2.1
  | none=>[]
 ks i:=match ts[i]? with
  | some t=>eO t.2.1
  | none=>[]
 rd i:=match ts[i]? with
  | some t=>t.2.2.1
  | none=>[]
 mn i:=match ts[i]? with
  | some t=>t.2.2.2.1
  | none=>[]
 fr i:=match ts[i]? with
  | some t=>t.2.2.2.2.1
  | none=>[]
 bef j i:=(hs.getD j 0).testBit i
 f0:=f
theorem lC(hs:List Nat)(t:f6)(ts:List f6)(f:Nat->D):∀i,(aV hs (t::ts) f).St (i+1)=(aV hs ts (eff (dN t.1 t.2.1) (eO t.2.1) f)).St i
 | 0=>by simp[Fam.St,Fam.G,Fam.E,aV]
 | i+1=>by
  have ih:=lC hs t ts f i
  have e1:∀(A:Fam) (m:Nat),A.St (m+1)=A.E m (A.St m):=fun A m=>by simp[Fam.St,Fam.G]
  rw[e1,ih,e1]
  simp[Fam.E,aV]
theorem qQ(hs:List Nat):∀(ts:List f6) (f f':Nat->D),Tr C ts f f'->f'=(aV hs ts f).St ts.length/\∀(i:Nat) (t:f6),ts[i]? = some t->iP C t.1 ((aV hs ts f).St i) t.2.1/\chk ((aV hs ts f).St i) t.1=true/\wOk (gq t.2.2) (dN t.1 t.2.1) (eO t.2.1)=true/\t.2.2=rdN ((aV hs ts f).St i) t.1
 | [],f,f',h=>⟨h,fun i t h=>by simp at h⟩
 | (n,x,rd)::ts,f,f',h=>by
  obtain⟨h1,h2,h3,rfl,h4⟩:=h
  obtain⟨g1,g2⟩:=qQ hs ts _ f' h4
  refine⟨by rw[x0F,lC];exact g1,fun i t hi=>?_⟩
  cases i with
  | zero=>simp at hi;subst hi;exact⟨h1,h2,by simpa[fL]using h3,rfl⟩
  | succ i=>rw[lC];exact g2 i t (by simpa using hi)
theorem zY{f:Nat->D}{n:ay}{x:Option (List (Nat×D)×List (Nat×Bool))}{c:Nat}(h2:(n.dst==some c)=false)(hx:x=none\/∃d ks,x=some ((match n.dst with|some t=>[(t,d)]|none=>[]),ks)):c∉(dN n x).map (·.1):=by
 have h3:n.dst≠some c:=by simpa using h2
 rcases hx with rfl|⟨d,ks,rfl⟩
 ·simp only[dN]
  split
  ·rename_i t e
   rw[e]at h3
   simp only[x0t,x0I,x0B,x1e,or_false]
   exact fun e=>h3 (by rw[e])
  ·simp
 ·simp only[dN]
  split
  ·rename_i t e
   rw[e]at h3
   simp only[x0t,x0I,x0B,x1e,or_false]
   exact fun e=>h3 (by rw[e])
  ·simp
theorem Dq{f:Nat->D}{n:ay}{x:Option (List (Nat×D)×List (Nat×Bool))}(h:iP C n f x)(h2:chk f n=true){p:Nat×Nat}(hp:p∈frR f n):p.1∉(dN n x).map (·.1):=by
 have h3:(n.dst==some p.1)=false:=by
  simp only[chk,x0a,x0f]at h2
  simpa using h2.1.2 p hp
 refine zY (f:=f) h3 ?_
 cases x with
 | none=>exact .inl rfl
 | some y =>
  obtain⟨ws,ks⟩:=y
  right
  have h:=h.2
  unfold frR at hp
  split at hp
  ·rename_i q x0 heq
   rw[heq]at h
   simp only[aB]at h
   split at h
   ·obtain⟨_,h⟩:=h
    split at h
    ·obtain⟨r,_,d,_,h⟩:=h
     unfold df at h
     split at h
     ·rename_i t e
      obtain⟨rfl,rfl⟩:=h
      exact⟨_,_,by rw[e]⟩
     ·rename_i e
      obtain⟨rfl,rfl⟩:=h
      exact⟨.any,_,by rw[e]⟩
    ·exact h.elim
   ·exact h.elim
  ·cases hp
theorem vy{es:List (List D)}{sz i o m:Nat}{row:List D}(h:es[i]? = some row)(ho:o<row.length)(hm:o≠m):f4 m (.blk sz (bE es i o 1 [.any]))=f4 m (.blk sz es):=by
 simp only[f4,bE,h,x1B,x0h]
 apply List.ext_getElem?
 intro j
 rw[x0y,x0y,List.getElem?_set]
 split
 ·rename_i e
  subst e
  split
  ·rw[h]
   simp only[x1j,x0h]
   have hl:(row.take o).length=o:=by simp;omega
   rw[x0O]
   by_cases h1:m<o
   ·rw[x0v (by omega),x0A h1]
   ·rw[x0s (by omega),hl,x0s (by simp;omega),x0q]
    congr 1;simp only[x0F,List.length_nil];omega
  ·rename_i h1
   rw[x0N (by omega)]
 ·rfl
theorem Dp{f:Nat->D}{n:ay}{x:Option (List (Nat×D)×List (Nat×Bool))}(h:iP C n f x)(h2:chk f n=true){p:Nat×Nat}(hp:p∈fwR f n){m:Nat}(hm:p.2≠m):f4 m (eff (dN n x) (eO x) f p.1)=f4 m (f p.1):=by
 have h3:(n.dst==some p.1)=false:=by
  simp only[chk,x0a,x0f]at h2
  simpa using h2.2 p hp
 cases x with
 | none =>
  rw[cS (fU (zY (f:=f) h3 (.inl rfl)))]
  exact oU _ _ _
 | some y =>
  obtain⟨ws,ks⟩:=y
  have h:=h.2
  have h30:n.dst≠some p.1:=by simpa using h3
  unfold fwR at hp
  split at hp
  ·rename_i q sz by_ x0 y0 heq
   rw[heq]at h
   simp only[aB]at h
   split at h
   ·rename_i t hd
    split at h
    ·rename_i c i o' k n' ex
     rw[ex]at hp
     simp only[x0B,x1e,or_false]at hp
     subst hp
     simp only at hm h30 ⊢
     obtain⟨rfl,h⟩:=h
     obtain⟨rows,bs,⟨h4,h5,h⟩,_⟩:=dU h
     split at h
     ·rename_i sz0 es0 hf
      obtain⟨row0,h6,es,h7,h8,h9,h10,h11⟩:=h
      subst h10 h11
      have e1:(c==t)=false:=by simp only[beq_eq_false_iff_ne,ne_eq];exact fun e=>h30 (by rw[hd,e])
      have e2:(c==rt t 0)=false:=by simpa using h5
      simp only[dN]
      rw[aE (d:=.blk sz0 (bE es0 i o' 1 [.any])) (by simp[x0g,e1,e2]),hf]
      exact vy h6 (x0c.1 h7).1 hm
     ·exact h.elim
    ·exact h.elim
   ·exact h.elim
  ·cases hp
theorem Dn{hs:List Nat}{ts:List f6}{f f':Nat->D}(h:Tr C ts f f')(hi:jM hs (ts.map fun t=>(gq t.2.2,wrK (dN t.1 t.2.1) (eO t.2.1)))=true):(aV hs ts f).Ok:=by
 obtain⟨_,hs'⟩:=qQ hs ts f f' h
 have get:∀i,i<ts.length->∃t,ts[i]? = some t:=fun i hi=>⟨_,x0e hi⟩
 have e4:∀{x:Rds} {z:Nat},z∈gq x->(∃k∈x.1,z=4*k)\/(∃k∈x.2.1,z=4*k+1)\/(∃p∈x.2.2.1,z=4*(64*p.1+p.2%64)+2)\/∃p∈x.2.2.2,z=4*(64*p.1+p.2%64)+3:=by
  intro x z hz
  simp only[gq,x0n,x0p]at hz
  rcases hz with ((⟨k,h1,h2⟩|⟨k,h1,h2⟩)|⟨p,h1,h2⟩)|⟨p,h1,h2⟩
  ·exact .inl ⟨k,h1,h2.symm⟩
  ·exact .inr (.inl ⟨k,h1,h2.symm⟩)
  ·exact .inr (.inr (.inl ⟨p,h1,h2.symm⟩))
  ·exact .inr (.inr (.inr ⟨p,h1,h2.symm⟩))
 have e1:∀{x:Rds} {k:Nat},k∈x.1->4*k∈gq x:=fun{x k} hk=>by
  simp only[gq,x0n,x0p];exact .inl (.inl (.inl ⟨k,hk,rfl⟩))
 have e2:∀{x:Rds} {k:Nat},k∈x.2.1->4*k+1∈gq x:=fun{x k} hk=>by
  simp only[gq,x0n,x0p];exact .inl (.inl (.inr ⟨k,hk,rfl⟩))
 have e3:∀{x:Rds} {p:Nat×Nat},p∈x.2.2.1->4*(64*p.1+p.2%64)+2∈gq x:=fun{x p} hk=>by
  simp only[gq,x0n,x0p];exact .inl (.inr ⟨p,hk,rfl⟩)
 refine⟨fun i hn k hk=>?_,fun i hn p hp b all hb=>?_,fun i hn k hk b all hb=>?_,fun i hn p hp hk=>?_,fun i hn k hk=>?_,fun i j hij hn=>?_⟩
 ·obtain⟨t,ht⟩:=get i hn
  obtain⟨_,_,h3,_⟩:=hs' i t ht
  simp only[aV,ht]at hk
  simp only[Fam.W,aV,ht]
  simp only[wOk,x0a,x0f]at h3
  exact x0U.1 (h3.1 k hk)
 ·obtain⟨t,ht⟩:=get i hn
  obtain⟨_,_,h3,_⟩:=hs' i t ht
  simp only[aV,ht]at hp
  simp only[Fam.W,aV,ht]
  simp only[wOk,x0a,x0f,x0E]at h3
  rcases h3.2 p hp b (jV hb)with h4|h4
  ·left
   have h5:=x0U.1 h4
   rcases e4 h5 with ⟨x,_,h6⟩|⟨x,h7,h6⟩|⟨x,_,h6⟩|⟨x,_,h6⟩
   ·omega
   ·have:x=b:=by omega
    subst this;exact h7
   ·omega
   ·omega
  ·exact .inr (x0U.1 h4)
 ·obtain⟨t,ht⟩:=get i hn
  obtain⟨h1,h2,_,h4⟩:=hs' i t ht
  simp only[aV,ht]at hk ⊢
  rw[h4]at hk ⊢
  simp only[chk,x0a,x0f]at h2
  rcases x0n.1 hk with h5|h5
  ·simp only[rdS]at h5
   rcases x0n.1 h5 with h6|h6
   ·obtain⟨x,h7,h8⟩:=x1t.1 h6
    cases x with
    | t s =>
     simp only[jd,x1a]at h8
     subst h8
     refine x1t.2 ⟨_,h7,?_⟩
     exact jV hb
    | c d=>simp[jd]at h8
   ·-- the guard's slot
    have:(∃bb,(aV hs ts f).St i k=.bool bb)\/(aV hs ts f).St i k=.tup []:=by
     cases hg:t.1.guard with
     | none=>rw[hg]at h6;simp[rH]at h6
     | some q =>
      obtain⟨s,want⟩:=q
      rw[hg]at h6
      simp only[rH,x1a]at h6
      subst h6
      unfold iP at h1
      split at h1
      ·exact .inl ⟨want,h1.1 k want hg⟩
      ·obtain⟨s',b',h7,h8⟩:=h1
       rw[hg]at h7;cases h7
       exact h8.imp (fun h8=>⟨_,h8⟩) id
    simp only[aV]at this hb
    rcases this with ⟨bb,hbb⟩|hbb<;>rw[hbb]at hb<;>simp[cV,aO]at hb
  ·have h6:=h2.1.1.2 k h5
   simp only[aV]at h6 hb
   have h7:∀d:D,isB d=true->cV b all d=false:=fun d hd=>by cases d<;>first|rfl|(simp[isB]at hd)
   rw[h7 _ h6]at hb;cases hb
 ·-- what reads a column writes its slot alone
  obtain⟨t,ht⟩:=get i hn
  obtain⟨h1,h2,h3,h4⟩:=hs' i t ht
  simp only[aV,ht]at hp
  simp only[Fam.W,aV,ht]at hk
  rw[h4]at hp
  simp only[rdN]at hp
  exact Dq h1 h2 hp hk
 ·obtain⟨t,ht⟩:=get i hn
  obtain⟨h1,h2,_,h4⟩:=hs' i t ht
  simp only[aV,ht]at hk ⊢
  rw[h4]at hk
  simp only[chk,x0a,x0f]at h2
  rcases x0n.1 hk with h5|h5
  ·have:=h2.1.1.1 k h5
   intro e
   simp only[aV]at this
   rw[e]at this
   simp[fy]at this
  ·have:=h2.1.1.2 k h5
   intro e
   simp only[aV]at this
   rw[e]at this
   simp[isB]at this
 ·obtain⟨t,ht⟩:=get i (Nat.lt_trans hij hn)
  obtain⟨u,hu⟩:=get j hn
  simp only[jM,x0f]at hi
  have h1:=hi ((gq t.2.2,wrK (dN t.1 t.2.1) (eO t.2.1)),i) (List.mem_zipIdx_iff_getElem?.2 (by simp[ht])) ((gq u.2.2,wrK (dN u.1 u.2.1) (eO u.2.1)),j) (List.mem_zipIdx_iff_getElem?.2 (by simp[hu]))
  simp only[x0E,x0r,x0C,x0a]at h1
  rcases h1 with (h1|h1)|h1
  ·exact absurd hij h1
  ·exact .inl h1
  ·right
   simp only[sP,x0f,x0a,x0r]at h1
   have nm:∀{l:List Nat} {k:Nat},l.contains k=false->k∉l:=fun h hm=>by
    have:=x0U.2 hm
    rw[h]at this;cases this
   have one:∀(a b:f6) (x y:Nat),ts[x]? = some a->ts[y]? = some b->(∀k∈wrK (dN a.1 a.2.1) (eO a.2.1),((gq b.2.2).contains k=false/\(wrK (dN b.1 b.2.1) (eO b.2.1)).contains k=false)/\∀q∈gq b.2.2,(!(decide (q%4=2)&&decide (k=4*(q/256)))||xb q (gq a.2.2))=true)->(aV hs ts f).Apart x y:=by
    intro a b x y ha hb hab
    refine⟨fun k hk=>?_,fun k hk hm=>?_⟩
    ·have hk0:=hk
     simp only[Fam.W,aV,ha]at hk
     obtain⟨p,hp,rfl⟩:=x0p.1 hk
     obtain⟨⟨h2,h3⟩,h4⟩:=hab (4*p.1) (x0n.2 (.inl (x0p.2 ⟨p,hp,rfl⟩)))
     refine⟨fun hr=>nm h2 (e1 (by simp only[aV,hb]at hr;exact hr)),fun hw=>nm h3 (x0n.2 (.inl ?_)),fun m hm=>?_⟩
     ·simp only[Fam.W,aV,hb]at hw
      obtain⟨q,hq,e⟩:=x0p.1 hw
      exact x0p.2 ⟨q,hq,by rw[e]⟩
     ·simp only[aV,hb]at hm
      have h5:=h4 _ (e3 hm)
      have h6:(4*(64*p.1+m%64)+2)%4=2:=by omega
      have h7:(4*(64*p.1+m%64)+2)/256=p.1:=by omega
      have h8:(4*(64*p.1+m%64)+2)/4%64=m%64:=by omega
      simp only[h6,h7,decide_true,Bool.and_self,Bool.not_true,Bool.false_or,xb,h8,x0P,x0a,x0b,x0r,x0C]at h5
      obtain⟨z,hz,⟨hz3,hzc⟩,hzo⟩:=h5
      obtain⟨g1,g2,_,g4⟩:=hs' x a ha
      rcases e4 hz with ⟨_,_,h9⟩|⟨_,_,h9⟩|⟨_,_,h9⟩|⟨p',hp',h9⟩
      ·omega
      ·omega
      ·omega
      ·have e5:p'.1=p.1:=by omega
       have e6:p'.2%64≠m%64:=fun e=>hzo (by omega)
       rw[g4]at hp'
       simp only[rdN]at hp'
       have:=Dp g1 g2 hp' (m:=m) (fun e=>e6 (by rw[e]))
       unfold Fam.Pres
       rw[j4]
       unfold Fam.E
       simp only[aV,ha]at this ⊢
       rw[e5]at this
       exact this
    ·simp only[aV,ha]at hk
     obtain⟨⟨h2,_⟩,_⟩:=hab (4*k.1+1) (x0n.2 (.inr (x0p.2 ⟨k,hk,rfl⟩)))
     refine nm h2 (e2 ?_)
     simp only[aV,hb]at hm;exact hm
   exact⟨one t u i j ht hu h1.1,one u t j i hu ht h1.2⟩
end
def uH(ops:Array Oper)(H:Array Nat)(j:Nat):Nat:=match ops[j]? with
 | some o=>o.after.toList.foldl (fun s e=>if Region.binds .any e then s ||| 2^e.on ||| H.getD e.on 0 else s) 0
 | none=>0
def ux(ops:Array Oper)(j:Nat):Bool:=match ops[j]? with
 | some o=>o.after.toList.all fun e=>!Region.binds .any e||decide (e.on<j)
 | none=>true
theorem ny(H:Array Nat)(i:Nat):∀(l:List Edge) (s:Nat),(l.foldl (fun s e=>if Region.binds .any e then s ||| 2^e.on ||| H.getD e.on 0 else s) s).testBit i=true ->
  s.testBit i=true\/∃e∈l,Region.binds .any e=true/\(i=e.on\/(H.getD e.on 0).testBit i=true)
 | [],s,h=>.inl h
 | e::l,s,h=>by
  simp only[List.foldl_cons]at h
  rcases ny H i l _ h with h1|⟨e',h1,h2⟩
  ·split at h1
   ·rename_i hb
    simp only[Nat.testBit_or,x0E,Nat.testBit_two_pow,x0b]at h1
    rcases h1 with (h1|h1)|h1
    ·exact .inl h1
    ·exact .inr ⟨e,by simp,hb,.inl h1.symm⟩
    ·exact .inr ⟨e,by simp,hb,.inr h1⟩
   ·exact .inl h1
  ·exact .inr ⟨e',by simp[h1],h2⟩
theorem BT{ops:Array Oper}{H:Array Nat}{j i:Nat}(h:(uH ops H j).testBit i=true):∃o,ops[j]? = some o/\∃e∈o.after.toList,Region.binds .any e=true/\(i=e.on\/(H.getD e.on 0).testBit i=true):=by
 unfold uH at h
 split at h
 ·rename_i o ho
  rcases ny H i _ 0 h with h1|h1
  ·simp at h1
  ·exact⟨o,ho,h1⟩
 ·simp at h
def sZ(hs:List Nat)(ops:Array Oper):Bool:=(List.range ops.size).all fun j=>hs.getD j 0==uH ops hs.toArray j&&ux ops j
def left(n:Nat)(l:Nat->Bool):Nat:=((List.range n).filter fun i=>!l i).length
theorem o4{p q:Nat->Bool}{j:Nat}(hpq:∀i,q i=true->p i=true)(hp:p j=true)(hq:q j=false):∀(l:List Nat),j∈l->(l.filter q).length<(l.filter p).length
 | [],h=>by simp at h
 | i::l,h=>by
  have hle:(l.filter q).length<=(l.filter p).length:=by
   clear h
   induction l with
   | nil=>simp
   | cons x l ih =>
    simp only[List.filter_cons]
    cases hqx:q x with
    | true=>simp[hpq x hqx,ih]
    | false=>cases p x<;>simp<;>omega
  by_cases hij:i=j
  ·subst hij
   simp[hp,hq]
   omega
  ·have:=o4 hpq hp hq l (by simpa[Ne.symm hij]using h)
   simp only[List.filter_cons]
   cases hqx:q i with
   | true=>simp[hpq i hqx,this]
   | false=>cases p i<;>simp<;>omega
section
variable{P:Program}{F:Fid}{C:Nat->List D->D->List D->Prop}{nt:Nat}{S:Nat->Prop}{L:Ln}{w0:World}{M0:Mem}{f:Nat->D}{M:Mem}{a:Act}{w:World}{Q:Exit->Act->World->Prop}
def lst(listed:Array Bool):Nat->Bool:=fun i=>listed.getD i true
theorem jU{ops:Array Oper}{listed:Array Bool}{i:Nat}:i∈Region.ready .any ops listed↔i<ops.size/\lst listed i=false/\∃o,ops[i]? = some o/\∀e∈o.after,Region.binds .any e=true->listed.getD e.on false=true:=by
 simp only[Region.ready,List.mem_filter,x0V,x0a,x0r,lst]
 constructor
 ·rintro⟨h1,h2,h3⟩
  refine⟨h1,h2,ops[i],x08 h1,fun e he hb=>?_⟩
  rw[x08 h1]at h3
  simp only[x1j,x1B,Array.all_eq_true_iff_forall_mem,x0E,x0r]at h3
  rcases h3 e he with h4|h4
  ·rw[hb]at h4;cases h4
  ·exact h4
 ·rintro⟨h1,h2,o,h3,h4⟩
  refine⟨h1,h2,?_⟩
  rw[h3]
  simp only[x1j,x1B,Array.all_eq_true_iff_forall_mem,x0E,x0r]
  intro e he
  cases hb:Region.binds .any e with
  | false=>exact .inl rfl
  | true=>exact .inr (h4 e he hb)
theorem xO(hs:List Nat)(j:Nat):hs.toArray.getD j 0=hs.getD j 0:=by
 simp[x02,x1w]
theorem wb{f g:Nat->D}{n:ay}{dst:Option Nat}{K:List (Nat×D)->List (Nat×Bool)->Prop}(hv:∀x∈ai n.op,vd g x=vd f x)(hr:∀b∈rdR f n,g b=f b)(hc:∀p∈frR f n,f4 p.2 (g p.1)=f4 p.2 (f p.1))(h:aB C f dst K n.op):aB C g dst K n.op:=by
 obtain⟨d0,o,g0⟩:=n
 simp only at hv h ⊢
 have full:(∀x∈ai o,x∈Ek o)->aB C g dst K o:=fun hN=>tM hv (fun x hx b hb=>hr b (x0n.2 (.inl (x1t.2 ⟨x,hN x hx,jV hb⟩)))) h
 cases o with
 | mov x=>simp only[aB,res,hv x (by simp[ai])]at h ⊢;exact h
 | nck x=>simp only[aB,res,hv x (by simp[ai])]at h ⊢;exact h
 | un op x=>simp only[aB,res,hv x (by simp[ai])]at h ⊢;exact h
 | conv k x=>simp only[aB,res,hv x (by simp[ai])]at h ⊢;exact h
 | fld a b c x=>simp only[aB,res,hv x (by simp[ai])]at h ⊢;exact h
 | ext i x=>simp only[aB,res,hv x (by simp[ai])]at h ⊢;exact h
 | fad i x=>simp only[aB,res,hv x (by simp[ai])]at h ⊢;exact h
 | boxF x=>simp only[aB,res,hv x (by simp[ai])]at h ⊢;exact h
 | blsF sz len zs ps =>
  have e:∀p∈ps,vd g p.2=vd f p.2:=fun p hp=>hv _ (x0p.2 ⟨p,hp,rfl⟩)
  simp only[aB,res]at h ⊢
  rw[i6 e]
  exact⟨fun p hp=>by rw[e p hp];exact h.1 p hp,h.2⟩
 | len x=>simp only[aB,res,hv x (by simp[ai])]at h ⊢;exact h
 | pick c x y=>simp only[aB,res,hv c (by simp[ai]),hv x (by simp[ai]),hv y (by simp[ai])]at h ⊢;exact h
 | bin op x y=>simp only[aB,res,hv x (by simp[ai]),hv y (by simp[ai])]at h ⊢;exact h
 | iadA l s x i=>simp only[aB,res,hv x (by simp[ai]),hv i (by simp[ai])]at h ⊢;exact h
 | bld zs ps =>
  have e:∀p∈ps,vd g p.2.2=vd f p.2.2:=fun p hp=>hv _ (x0p.2 ⟨p,hp,rfl⟩)
  simp only[aB,res]at h ⊢
  obtain⟨h1,h2,h3⟩:=h
  have e2:(ps.all fun p=>isV (vd g p.2.2))=(ps.all fun p=>isV (vd f p.2.2)):=by
   rw[x0S,x0f,x0f]
   exact⟨fun h p hp=>by rw[<- e p hp];exact h p hp,fun h p hp=>by rw[e p hp];exact h p hp⟩
  have m1:(ps.map fun p=>(p.1,p.2.1,vd g p.2.2))=ps.map fun p=>(p.1,p.2.1,vd f p.2.2):=x0m fun p hp=>by rw[e p hp]
  have m2:(ps.map fun p=>(p.1,p.2.1,dY (vd g p.2.2)))=ps.map fun p=>(p.1,p.2.1,dY (vd f p.2.2)):=x0m fun p hp=>by rw[e p hp]
  rw[e2,m1,m2]
  exact⟨fun p hp=>by rw[e p hp];exact h1 p hp,h2,h3⟩
 | mk k xs =>
  have e:∀x∈xs,vd g x=vd f x:=fun x hx=>hv x hx
  simp only[aB,res]at h ⊢
  obtain⟨h1,h2,h3⟩:=h
  have e2:(xs.all fun x=>isV (vd g x))=(xs.all fun x=>isV (vd f x)):=by
   rw[x0S,x0f,x0f]
   exact⟨fun h p hp=>by rw[<- e p hp];exact h p hp,fun h p hp=>by rw[e p hp];exact h p hp⟩
  rw[e2,x0m e]
  exact⟨fun p hp=>by rw[e p hp];exact h1 p hp,h2,h3⟩
 | ldQ q x =>
  have e:=hv x (by simp[ai])
  simp only[aB,e]at h ⊢
  split at h
  ·rename_i c i off ex
   obtain⟨rfl,h⟩:=h
   split at h
   ·rename_i sz es hf
    obtain⟨r,h1,d,h2,h3⟩:=h
    have h4:=hc (c,off) (by simp[frR,ex])
    simp only[hf,f4]at h4
    refine⟨rfl,?_⟩
    split at h4
    ·rename_i sz' es' hg
     simp only[x0h]at h4
     have h5:=congrArg (fun l=>l[i]?) h4
     simp only[x0y,h1,x1j]at h5
     rw[x0i]at h5
     obtain⟨r',h6,h7⟩:=h5
     simp only[hg]
     exact⟨r',h6,d,by rw[h7];exact h2,h3⟩
    ·cases h4
   ·exact h.elim
  ·exact h.elim
 | ld n ag x =>
  have e:=hv x (by simp[ai])
  simp only[aB,res,e]at h ⊢
  split at h
  ·rename_i p i off ex
   rw[di (p:=p) (hr _ (x0n.2 (.inr (x1t.2 ⟨x,by simp[ldN],by rw[ex];simp[bA]⟩))))]
   exact h
  ·exact h
  ·exact h
  ·exact h
 | _=>exact full (fun x hx=>hx)
theorem vq(hC:bC P F C)(hL:NoL L){hs:List Nat}{ops:Array Oper}{ts:List f6}{f':Nat->D}(htr:Tr C ts f f')(hok:(aV hs ts f).Ok)(hlen:ts.length=ops.size)(hb:∀j,j<ops.size->hs.getD j 0=uH ops hs.toArray j)(hed:∀(j:Nat) (o:Oper),ops[j]? = some o->∀e∈o.after,Region.binds .any e=true->e.on<j)
  (hk:∀(j:Nat) (t:f6) (o:Oper),ts[j]? = some t->ops[j]? = some o->se P F nt ops t.1 o=true)
  (hQ:∀M a w,SR F nt S L w0 M0 f' M a w->Q .normal a w):∀(fuel:Nat) (listed:Array Bool) (M:Mem) (a:Act) (w:World),listed.size=ops.size->left ops.size (lst listed)<=fuel ->
   (∀j,j<ops.size->lst listed j=true->∀i,(hs.getD j 0).testBit i=true->i<ops.size/\lst listed i=true)->SR F nt S L w0 M0 ((aV hs ts f).G (lst listed) ts.length) M a w->wpAny P .any ops Q fuel listed a w:=by
 obtain⟨hf',hsp⟩:=qQ hs ts f f' htr
 have hall:∀(listed:Array Bool),(∀i,i<ops.size->lst listed i=true)->(aV hs ts f).G (lst listed) ts.length=f':=by
  intro listed h
  rw[hf']
  unfold Fam.St
  have:∀m,m<=ts.length->(aV hs ts f).G (lst listed) m=(aV hs ts f).G (fun _=>true) m:=by
   intro m
   induction m with
   | zero=>intro _;rfl
   | succ m ih =>
    intro hm
    simp only[Fam.G]
    rw[h m (by omega),ih (by omega)]
    rfl
  exact this _ (x0k _)
 intro fuel
 induction fuel with
 | zero =>
  intro listed M a w hs' hf hcl h
  have hal:∀i,i<ops.size->lst listed i=true:=by
   intro i hi
   cases hl:lst listed i with
   | true=>rfl
   | false =>
    have:i∈(List.range ops.size).filter fun i=>!lst listed i:=by simp[hi,hl]
    have:=List.length_pos_of_mem this
    unfold left at hf
    omega
  refine⟨?_,hQ M a w (by rw[<- hall listed hal];exact h)⟩
  rw[List.eq_nil_iff_forall_not_mem]
  intro i hi
  obtain⟨h1,h2,_⟩:=jU.1 hi
  rw[hal i h1]at h2
  cases h2
 | succ fuel ih =>
  intro listed M a w hs' hf hcl h
  refine⟨fun hr=>hQ M a w ?_,fun j hj=>?_⟩
  ·have hal:∀i,i<ops.size->lst listed i=true:=by
    intro i
    induction i using Nat.strongRecOn with
    | _ i ihi =>
     intro hi
     cases hl:lst listed i with
     | true=>rfl
     | false =>
      have:i∈Region.ready .any ops listed:=jU.2 ⟨hi,hl,ops[i],x08 hi,fun e he hb=>by
       have h1:=hed i _ (x08 hi) e he hb
       have h2:=ihi e.on h1 (by omega)
       unfold lst at h2
       rw[x02]at h2 ⊢
       rw[x08 (by omega)]at h2 ⊢
       simpa using h2⟩
      rw[hr]at this
      cases this
   rw[<- hall listed hal]
   exact h
  ·obtain⟨h1,h2,o,h3,h4⟩:=jU.1 hj
   obtain⟨t,ht⟩:∃t,ts[j]? = some t:=⟨ts[j]'(by omega),x0e (by omega)⟩
   have hanc:∀i,(hs.getD j 0).testBit i=true->i<ops.size/\lst listed i=true:=by
    intro i hi
    rw[hb j h1]at hi
    obtain⟨o',ho',e,he,hbd,h5⟩:=BT hi
    rw[h3]at ho'
    cases ho'
    have h6:=hed j o h3 e (by simpa using he) hbd
    have h7:=h4 e (by simpa using he) hbd
    have h8:lst listed e.on=true:=by
     unfold lst
     rw[x02]at h7 ⊢
     rw[x08 (by omega)]at h7 ⊢
     simpa using h7
    rcases h5 with rfl|h5
    ·exact⟨by omega,h8⟩
    ·rw[xO]at h5
     exact hcl e.on (by omega) h8 i h5
   have hshut:wL (aV hs ts f) (lst listed):=fun j' hj' hl' i _ hbf=>(hcl j' (by simpa[aV,hlen]using hj') hl' i hbf).2
   have hjn:j<(aV hs ts f).n:=by simp only[aV];omega
   have hreads:=hok.reads hshut hjn h2 (fun i _ hbf=>(hanc i hbf).2)
   have hcols:=hok.readsC hshut hjn h2 (fun i _ hbf=>(hanc i hbf).2)
   obtain⟨g1,g2,g3,g4⟩:=hsp j t ht
   have hrd:(aV hs ts f).rd j=t.2.2.1:=by simp[aV,ht]
   have hn:(aV hs ts f).n=ts.length:=rfl
   rw[hrd,hn,g4]at hreads
   have hfr:(aV hs ts f).fr j=frR ((aV hs ts f).St j) t.1:=by
    have:(aV hs ts f).fr j=t.2.2.2.2.1:=by simp[aV,ht]
    rw[this,g4];rfl
   rw[hfr,hn]at hcols
   have hstep:iP C t.1 ((aV hs ts f).G (lst listed) ts.length) t.2.1:=by
    have hv:∀x∈ai t.1.op,vd ((aV hs ts f).G (lst listed) ts.length) x=vd ((aV hs ts f).St j) x:=fun x hx=>by
     cases x with
     | t s=>exact hreads s (x0n.2 (.inl (x0n.2 (.inl (x1t.2 ⟨_,hx,by simp[jd]⟩)))))
     | c d=>rfl
    have ha:∀b∈rdR ((aV hs ts f).St j) t.1,(aV hs ts f).G (lst listed) ts.length b=(aV hs ts f).St j b:=fun b hb=>hreads b (x0n.2 (.inr hb))
    have hg:∀s b,t.1.guard=some (s,b)->(aV hs ts f).G (lst listed) ts.length s=(aV hs ts f).St j s:=fun s b e =>
     hreads s (x0n.2 (.inl (x0n.2 (.inr (by rw[e];simp[rH])))))
    unfold iP at g1 ⊢
    split at g1
    ·exact⟨fun s b e=>by rw[hg s b e];exact g1.1 s b e,wb hv ha hcols g1.2⟩
    ·obtain⟨s,b,e1,e2⟩:=g1
     exact⟨s,b,e1,by rw[hg s b e1];exact e2⟩
   have hlst:∀i,lst (listed.setIfInBounds j true) i=(if i=j then true else lst listed i):=by
    intro i
    unfold lst
    rw[x02,x02,x01]
    by_cases hij:i=j
    ·subst hij;simp[show i<listed.size from by omega]
    ·simp[hij,Ne.symm hij]
   have hlst':∀i,i≠j->lst (listed.setIfInBounds j true) i=lst listed i:=fun i hi=>by rw[hlst,if_neg hi]
   have hlstj:lst (listed.setIfInBounds j true) j=true:=by rw[hlst,if_pos rfl]
   have hmore:(aV hs ts f).G (lst (listed.setIfInBounds j true)) ts.length=oF t.1 t.2.1 ((aV hs ts f).G (lst listed) ts.length):=by
    rw[Aq]
    have:=hok.more hshut hjn h2 hlstj hlst'
    rw[hn]at this
    rw[this]
    simp[Fam.E,aV,ht]
   have hfin:∀M' a' w',SR F nt S L w0 M0 (oF t.1 t.2.1 ((aV hs ts f).G (lst listed) ts.length)) M' a' w'->wpAny P .any ops Q fuel (listed.setIfInBounds j true) a' w':=by
    intro M' a' w' h'
    refine ih _ M' a' w' (by simpa using hs') ?_ (fun j' hj' hl' i hi=>?_) (by rw[hmore];exact h')
    ·have:left ops.size (lst (listed.setIfInBounds j true))<left ops.size (lst listed):=by
      refine o4 (j:=j) (fun i hi=>?_) (by simp[h2]) (by simp[hlstj]) _ (by simpa using h1)
      by_cases hij:i=j
      ·subst hij;simp[h2]
      ·rw[hlst' i hij]at hi;exact hi
     omega
    ·by_cases hjj:j'=j
     ·subst hjj
      obtain⟨q1,q2⟩:=hanc i hi
      refine⟨q1,?_⟩
      rw[hlst];split
      ·rfl
      ·exact q2
     ·rw[hlst' j' hjj]at hl'
      obtain⟨q1,q2⟩:=hcl j' hj' hl' i hi
      refine⟨q1,?_⟩
      rw[hlst];split
      ·rfl
      ·exact q2
   have:=CS hC hL (hk j t o ht h3) h hstep (R:=wpAny P .any ops Q fuel (listed.setIfInBounds j true)) hfin (Q:=Q)
   unfold wpOp
   rw[h3]
   exact this
theorem sr(hC:bC P F C)(hL:NoL L)(hm:P.follows .mixedOrders=true){hs:List Nat}{ops:Array Oper}{ns:List ay}(hk:sq P F nt ns ops=true)(hdr:sZ hs ops=true){id:Nat}{K:Env->Prop}{e:Env}(h:SR F nt S L w0 M0 (ab e) M a w)(hr:iN C hs K ns e [])
  (hQ:∀e M a w,SR F nt S L w0 M0 (ab e) M a w->K e->Q .normal a w):(Code.region id ops true).wp P Q a w:=by
 simp only[sq,x0a,x0l,x0f]at hk
 obtain⟨ts,e',g1,g2,g3,g4⟩:=CT ns e [] hr
 have hlen:ts.length=ops.size:=by
  have:ts.length=ns.length:=by rw[<- g1];simp
  rw[this];simpa using hk.1
 have hok:=Dn g2 (by simpa using g3)
 simp only[sZ,x0f,x0V,x0a,x0l]at hdr
 refine wp_region_any hm (vq hC hL (hs:=hs) g2 hok hlen (fun j hj=>(hdr j hj).1) (fun j o ho e he hb=>?_) (fun j t o ht ho=>?_) (fun M a w hs=>hQ e' M a w hs g4) _ _ M a _ (by simp) ?_ ?_ ?_)
 ·obtain⟨hj,_⟩:=Array.getElem?_eq_some_iff.1 ho
  have:=(hdr j hj).2
  simp only[ux,ho,x0f,x0E,x0r,x0b]at this
  rcases this e (by simpa using he)with h5|h5
  ·rw[hb]at h5;cases h5
  ·exact h5
 ·refine hk.2 (t.1,o) ?_
  rw[x1z]
  refine⟨j,?_⟩
  rw[x1n]
  refine⟨?_,by simpa using ho⟩
  rw[<- g1]
  simp[ht]
 ·have:=List.length_filter_le (fun i=>!lst (Array.replicate ops.size false) i) (List.range ops.size)
  simpa[left]using this
 ·intro j hj hl
  simp[lst,hj]at hl
 ·have h0:∀m,m<=ts.length->(aV hs ts (ab e)).G (lst (Array.replicate ops.size false)) m=ab e:=by
   intro m
   induction m with
   | zero=>intro _;rfl
   | succ m ih =>
    intro hm
    simp only[Fam.G]
    rw[ih (by omega)]
    have:lst (Array.replicate ops.size false) m=false:=by simp[lst,show m<ops.size from by omega]
    rw[this];rfl
  rw[h0 _ (x0k _)]
  exact h.grow (Bel.drew _)
end
end Go.Gv

namespace Go.Gv
open Go.RowKit
inductive cd where
 | nrm
 | ext (id:Nat)
 | ret
inductive cv where
 | skip
 | reg (draw:Bool) (hs:List Nat) (keep:List Nat) (ops:List ay)
 | seq (a b:cv)
 | cond (c:Opd) (x y:cv)
 | block (id:Nat) (c:cv)
 | loop (c:cv)
 | exit (id:Nat)
 | ret
 deriving Inhabited
def rN(keep:List Nat)(e:Env):Env:=keep.map fun t=>(t,ab e t)
def mO(ks:Env):List Nat:=ks.flatMap fun p=>bP p.2
def vp(e:Env):List Nat->Env->Env
 | [],ks=>ks
 | r::rs,ks=>vp e rs (if (ks.map (·.1)).contains r then ks else ks++[(r,ab e r)])
def prune(keep:List Nat)(e:Env):Env:=vp e (mO (rN keep e)) (rN keep e)
def j5(e:Env):Env->Prop
 | []=>True
 | (t,d)::r=>ab e t=d/\j5 e r
def wpN(C:Nat->List D->D->List D->Prop):cv->(cd->Env->Prop)->Env->Prop
 | .skip,Q,e=>Q .nrm e
 | .reg dr hs keep ops,Q,e=>match dr with
  | false=>ik C (fun e'=>Q .nrm (prune keep e')) ops e
  | true=>iN C hs (fun e'=>Q .nrm (prune keep e')) ops e []
 | .seq x y,Q,e=>wpN C x (fun t e'=>match t with
  | .nrm=>wpN C y Q e'
  | t=>Q t e') e
 | .cond c x y,Q,e=>match vd (ab e) c with
  | .bool b=>(b=true->wpN C x Q e)/\(b=false->wpN C y Q e)
  | .bb=>wpN C x Q e/\wpN C y Q e
  | _=>False
 | .block id c,Q,e=>wpN C c (fun t e'=>match t with
  | .ext i=>if i=id then Q .nrm e' else Q (.ext i) e'
  | t=>Q t e') e
 | .loop c,Q,e=>∃(S:Type) (G:S->Env) (I:S->Prop) (m:S->Nat) (s0:S),I s0/\j5 e (G s0) /\
   ∀s,I s->wpN C c (fun t e'=>match t with
    | .nrm=>∃s',I s'/\m s'<m s/\j5 e' (G s')
    | t=>Q t e') (G s)
 | .exit id,Q,e=>Q (.ext id) e
 | .ret,Q,e=>Q .ret e
structure al where
 np:Nat
 nt:Nat
 res:List (Nat×Option (Nat×Bool))
 body:cv
 deriving Inhabited
def params:Nat->List D->Env
 | _,[]=>[]
 | k,d::ds=>(k,d)::params (k+1) ds
def kR(e:Env):Nat×Option (Nat×Bool)->D
 | (t,none)=>dp (ab e) (ab e t)
 | (t,some (n,ag))=>match ab e t with
  | .adr p i off=>match aQ (ab e) p with
   | some (_,es)=>pack ag n (((es[i]?.getD []).drop off).map bW)
   | none=>.any
  | _=>.any
def wa(e:Env):Nat×Option (Nat×Bool)->Prop
 | (t,none)=>t<10000/\bS (ab e) (ab e t)
 | (t,some (n,ag))=>t<10000/\match ab e t with
  | .adr p i off=>match aQ (ab e) p with
   | some (_,es)=>off+n<=(es[i]?.getD []).length
   | none=>False
  | _=>False
def dw(rs:List (Nat×Option (Nat×Bool)))(d:D)(e:Env):Prop :=
 (∀r∈rs,wa e r)/\match rs with
 | [r]=>kR e r=d
 | rs=>d=.tup (rs.map (kR e))
def jX(rs:List (Nat×Option (Nat×Bool)))(sz:Nat)(es:List (List D))(e:Env):Prop :=
 0<sz/\(∀r∈es,∀c∈r,bq c=true)/\match rs with
 | [(t,none)]=>t<10000/\match ab e t with
  | .ref (.r b) k n=>k=0/\n=es.length/\ab e b=.blk sz es
  | .nils=>es=[]
  | _=>False
 | _=>False
def n9(rs:List (Nat×Option (Nat×Bool)))(d:D)(e:Env):Prop :=
 dw rs d (prune (rs.map (·.1)) e)/\∀p∈prune (rs.map (·.1)) e,kB p.2/\(p.1<10000->isB p.2=false)
def fS(W:List D)(sz1:Nat)(es1:List (List D))(sz2:Nat)(es2:List (List D)):Env:=params 0 W++[(ap,.blk sz1 es1),(aN,.blk sz2 es2)]
def Es(rs:List (Nat×Option (Nat×Bool)))(sz:Nat)(es:List (List D))(e:Env):Prop :=
 0<sz/\(∀r∈es,∀c∈r,bq c=true)/\match rs with
 | [(t,none)]=>t<10000/\match ab e t with
  | .ref (.r b) k n=>match ab e b with
   | .blk sz' es'=>sz'=sz/\k+n<=es'.length/\(es'.drop k).take n=es
   | _=>False
  | .nils=>es=[]
  | _=>False
 | _=>False
def dR(f:Nat->D):D->D->Prop
 | .ref (.r b) k n,.own sz es=>k=0/\n=es.length/\f b=.blk sz es
 | .adr (.r b) i off,.blk sz es=>i=0/\off=0/\f b=.blk sz es
 | d,r=>isV d=true/\r=d
def kC(f:Nat->D):List D->List D->Prop
 | [],[]=>True
 | d::ds,r::rs=>dR f d r/\kC f ds rs
 | _,_=>False
def cB:D->List Nat
 | .ref (.r b) _ _=>[b]
 | .adr (.r b) _ _=>[b]
 | _=>[]
def tN(rs:List (Nat×Option (Nat×Bool)))(R:D)(e:Env):Prop:=match rs with
 | [(t,none)]=>t<10000/\match ab e t,R with
  | .agx ds,.agg Rs=>kC (ab e) ds Rs/\bD (ds.flatMap cB)=true
  | .ref p k n,.own sz es=>dR (ab e) (.ref p k n) (.own sz es)
  | .adr p k n,.blk sz es=>dR (ab e) (.adr p k n) (.blk sz es)
  | _,_=>False
 | [(t,some (n,true))]=>t<10000/\match ab e t,R with
  | .adr (.r c) i off,.agg Rs=>i=0/\off=0/\(∃sz,ab e c=.blk sz [Rs])/\Rs.length=n/\okR (.agg Rs)=true/\(aW t (.agg Rs)).all (fun p=>p.1 != c)=true
  | _,_=>False
 | rs=>rs.length≠1/\(∀r∈rs,r.1<10000/\r.2=none)/\match R with
  | .tup Rs=>kC (ab e) (rs.map fun r=>ab e r.1) Rs/\bD ((rs.map fun r=>ab e r.1).flatMap cB)=true
  | _=>False
def im(prog:Nat->Option al)(C:Nat->List D->D->List D->Prop):Prop :=
 (∀g nf ds d,prog g=some nf->ds.length=nf.np->wpN C nf.body (fun t e=>(match t with
  | .ext _=>False
  | _=>True)/\dw nf.res d e) (params 0 ds)->C g ds d [])/\(∀g ds d,C g ds d []->C g ds (tg d) []) /\
 (∀g nf ds sz es,prog g=some nf->ds.length=nf.np->wpN C nf.body (fun t e=>(match t with
  | .ext _=>False
  | _=>True)/\jX nf.res sz es e) (params 0 ds)->C g ds .any [.own sz es]) /\
 (∀g nf ds d,prog g=some nf->ds.length=nf.np->wpN C nf.body (fun t e=>(match t with
  | .ext _=>False
  | _=>True)/\n9 nf.res d e) (params 0 ds)->C g ds d [.nilp]) /\
 True /\
 (∀g nf W d sz es es',prog g=some nf->W.length=nf.np->wpN C nf.body (fun t e=>(match t with
  | .ext _=>False
  | _=>True)/\(0<es'.length/\ab e ap=.blk sz es')/\dw nf.res d ((ap,.any)::e)) (params 0 W++[(ap,.blk sz es)])->C g (.blk sz es::W) d [.blk sz es',.nilp]) /\
 True /\
 (∀g nf W d sz1 es1 es1' sz2 es2 es2',prog g=some nf->W.length=nf.np->wpN C nf.body (fun t e=>(match t with
  | .ext _=>False
  | _=>True)/\(0<es1'.length/\0<es2'.length/\ab e ap=.blk sz1 es1'/\ab e aN=.blk sz2 es2')/\dw nf.res d ((ap,.any)::(aN,.any)::e)) (fS W sz1 es1 sz2 es2)->C g (.blk sz1 es1::.blk sz2 es2::W) d [.blk sz1 es1',.blk sz2 es2',.nilp]) /\
 ∀g nf ds R,prog g=some nf->ds.length=nf.np->okR R=true->wpN C nf.body (fun t e=>(match t with
  | .ext _=>False
  | _=>True)/\tN nf.res R e) (params 0 ds)->C g ds R [.nils]
def av(prog:Nat->Option al)(C:Nat->List D->D->List D->Prop):Prop :=
 im prog C/\∀g sz es W d es',(∀C',im prog C'->C' g (.blk sz es::W) d [.blk sz es',.nilp])->C g (.blk sz es::W) d [.blk sz es',.nils]
def cj(P:Program)(F:Fid)(nt:Nat):cv->Code->Bool
 | .skip,.skip=>true
 | .reg dr hs _ ns,.region _ ops dr'=>dr==dr'&&sq P F nt ns ops&&(!dr||sZ hs ops)
 | .seq x y,.seq x' y'=>cj P F nt x x'&&cj P F nt y y'
 | .cond c x y,.cond c' x' y'=>am F c c'&&cj P F nt x x'&&cj P F nt y y'
 | .block i c,.block i' c'=>i==i'&&cj P F nt c c'
 | .loop c,.loop c'=>cj P F nt c c'
 | .exit i,.exit i'=>i==i'
 | .ret,.ret=>true
 | _,_=>false
def gW(P:Program):Nat×Option (Nat×Bool)->ResultVar->Bool
 | (t,none),.tmp t'=>t==t'
 | (t,some (n,ag)),.cell t' ty=>t==t'&&tyS P ty n ag
 | _,_=>false
def dg(P:Program)(F:Fid)(fi:Nat)(nf:al):Bool:=match P.funcs[fi]? with
 | some fn=>fn.ntmps==nf.nt&&fn.params.size+fn.nfree==nf.np&&decide (nf.np<=nf.nt)&&decide (nf.nt<=10000)&&nf.res.length==fn.results.toList.length&&((nf.res.zip fn.results.toList).all fun p=>gW P p.1 p.2) &&
  !(fn.name == "runtime.NumGoroutine") && match fn.body with
  | some c=>cj P F nf.nt nf.body c
  | none=>false
 | none=>false
section
variable{P:Program}{F:Fid}{C:Nat->List D->D->List D->Prop}{nt:Nat}{S:Nat->Prop}{L:Ln}{w0:World}{M0:Mem}{f:Nat->D}{M:Mem}{a:Act}{w:World}{Q:Exit->Act->World->Prop}{ρ:Pa->Loc}{ω:Nat->Option Pa}
theorem rS{e:Env}{t:Nat}{d:D}(h:ab e t=d)(hd:d≠.any):(t,d)∈e:=by
 induction e with
 | nil=>exact absurd h.symm hd
 | cons p e ih =>
  obtain⟨s,x⟩:=p
  simp only[ab]at h
  split at h
  ·rename_i e1;subst e1;subst h;simp
  ·simp[ih h]
theorem lL{e:Env}:∀{e':Env},(∀p∈e',ab e p.1=p.2)->∀t,ab e' t=.any\/ab e' t=ab e t
 | [],_,t=>.inl rfl
 | (s,d)::r,h,t=>by
  simp only[ab]
  by_cases hs:s=t
  ·subst hs
   rw[if_pos rfl]
   exact .inr (h (s,d) (by simp)).symm
  ·rw[if_neg hs]
   exact lL (fun p hp=>h p (by simp[hp])) t
theorem rb{e:Env}:∀(rs:List Nat) (ks:Env),(∀p∈ks,ab e p.1=p.2)->∀p∈vp e rs ks,ab e p.1=p.2
 | [],ks,h=>h
 | r::rs,ks,h=>by
  refine rb rs _ ?_
  split
  ·exact h
  ·intro p hp
   rcases x0n.1 hp with h1|h1
   ·exact h p h1
   ·simp at h1;subst h1;rfl
theorem SR.prune{e:Env}(h:SR F nt S L w0 M0 (ab e) M a w)(keep:List Nat):SR F nt S L w0 M0 (ab (prune keep e)) M a w :=
 h.weak (lL (rb _ _ (fun p hp=>by obtain⟨t,_,rfl⟩:=x0p.1 hp;rfl)))
theorem sI{e:Env}:∀{e':Env},j5 e e'->∀p∈e',ab e p.1=p.2
 | [],_,p,hp=>by cases hp
 | (s,d)::r,h,p,hp=>by
  rcases x0B.1 hp with rfl|hp
  ·exact h.1
  ·exact sI h.2 p hp
theorem SR.weakL{e e':Env}(h:SR F nt S L w0 M0 (ab e) M a w)(hw:j5 e e'):SR F nt S L w0 M0 (ab e') M a w:=h.weak (lL (sI hw))
def QM(F:Fid)(nt:Nat)(S:Nat->Prop)(L:Ln)(w0:World)(M0:Mem)(Q:cd->Env->Prop):Exit->Act->World->Prop
 | .normal,a,w=>∃e M,SR F nt S L w0 M0 (ab e) M a w/\Q .nrm e
 | .exit id,a,w=>∃e M,SR F nt S L w0 M0 (ab e) M a w/\Q (.ext id) e
 | .ret,a,w=>∃e M,SR F nt S L w0 M0 (ab e) M a w/\Q .ret e
 | _,_,_=>False
theorem bQ(hC:bC P F C)(hL:NoL L)(hm:P.follows .mixedOrders=true):∀(nc:cv) (c:Code),cj P F nt nc c=true->∀(Q:cd->Env->Prop) (e:Env) (M:Mem) (a:Act) (w:World),
  SR F nt S L w0 M0 (ab e) M a w->wpN C nc Q e->c.wp P (QM F nt S L w0 M0 Q) a w
 | .skip,c,hk,Q,e,M,a,w,h,hw=>by
  cases c<;>simp only[cj,x0j]at hk
  exact wp_skip ⟨e,M,h,hw⟩
 | .reg dr hs keep ns,c,hk,Q,e,M,a,w,h,hw=>by
  cases c<;>simp only[cj,x0j]at hk
  rename_i id ops dr'
  simp only[x0a,x0l,x0E,x0r]at hk
  obtain⟨⟨rfl,h1⟩,h2⟩:=hk
  have hQ:∀e M a w,SR F nt S L w0 M0 (ab e) M a w->Q .nrm (prune keep e)->QM F nt S L w0 M0 Q .normal a w:=fun e M a w hs hq=>⟨_,M,hs.prune keep,hq⟩
  cases dr with
  | false=>exact su hC hL h1 h hw hQ
  | true=>exact sr hC hL hm h1 (by simpa using h2) h hw hQ
 | .seq x y,c,hk,Q,e,M,a,w,h,hw=>by
  cases c<;>simp only[cj,x0j]at hk
  rename_i x' y'
  simp only[x0a]at hk
  refine wp_seq (wp_mono (bQ hC hL hm x x' hk.1 _ e M a w h hw) ?_)
  intro t a' w' hq
  cases t<;>simp only[QM,Exit.then]at hq ⊢
  ·obtain⟨e',M',h1,h2⟩:=hq
   exact bQ hC hL hm y y' hk.2 Q e' M' a' w' h1 h2
  all_goals exact hq
 | .cond c x y,c',hk,Q,e,M,a,w,h,hw=>by
  cases c'<;>simp only[cj,x0j]at hk
  rename_i c' x' y'
  simp only[x0a]at hk
  simp only[wpN]at hw
  split at hw
  ·rename_i b hb
   have h1:=h.opd hk.1.1 (by rw[hb];rfl)
   rw[hb]at h1
   simp only[ae]at h1
   cases b with
   | true=>exact wp_cond_true h1 (bQ hC hL hm x x' hk.1.2 Q e M a w h (hw.1 rfl))
   | false=>exact wp_cond_false h1 (bQ hC hL hm y y' hk.2 Q e M a w h (hw.2 rfl))
  ·rename_i hb
   have h1:=h.opd hk.1.1 (by rw[hb];rfl)
   rw[hb]at h1
   simp only[ae]at h1
   obtain⟨b,h1⟩:=h1
   cases b with
   | true=>exact wp_cond_true h1 (bQ hC hL hm x x' hk.1.2 Q e M a w h hw.1)
   | false=>exact wp_cond_false h1 (bQ hC hL hm y y' hk.2 Q e M a w h hw.2)
  ·exact hw.elim
 | .block i x,c,hk,Q,e,M,a,w,h,hw=>by
  cases c<;>simp only[cj,x0j]at hk
  rename_i i' x'
  simp only[x0a,x0l]at hk
  obtain⟨rfl,hk⟩:=hk
  refine wp_block (wp_mono (bQ hC hL hm x x' hk _ e M a w h hw) ?_)
  intro t a' w' hq
  cases t<;>simp only[QM,Exit.inBlock]at hq ⊢
  case exit j =>
   obtain⟨e',M',h1,h2⟩:=hq
   split at h2
   ·rename_i hj;rw[if_pos hj];exact⟨e',M',h1,h2⟩
   ·rename_i hj;rw[if_neg hj];exact⟨e',M',h1,h2⟩
  all_goals exact hq
 | .loop x,c,hk,Q,e,M,a,w,h,hw=>by
  cases c<;>simp only[cj,x0j]at hk
  rename_i x'
  obtain⟨ST,G,I,m,s0,h0,hw0,hround⟩:=hw
  let mE:Act->World->Nat->Prop:=fun a w n=>∃s M,I s/\SR F nt S L w0 M0 (ab (G s)) M a w/\m s=n
  have hmin:∀a w n,mE a w n->∃k,mE a w k/\∀k',mE a w k'->k<=k':=by
   intro a w n
   induction n using Nat.strongRecOn with
   | _ n ih =>
    intro hn
    by_cases hl:∃k,k<n/\mE a w k
    ·obtain⟨k,hk,hf⟩:=hl
     exact ih k hk hf
    ·exact⟨n,hn,fun k' hk'=>Nat.le_of_not_lt fun hlt=>hl ⟨k',hlt,hk'⟩⟩
  let mu:Act->World->Nat:=fun a w=>Classical.epsilon fun k=>mE a w k/\∀k',mE a w k'->k<=k'
  have hmu:∀a w n,mE a w n->mE a w (mu a w)/\∀k',mE a w k'->mu a w<=k':=fun a w n hn=>Classical.epsilon_spec (hmin a w n hn)
  refine wp_loop (fun a w=>∃n,mE a w n) mu ⟨_,s0,M,h0,h.weakL hw0,rfl⟩ ?_
  rintro a w ⟨n,hn⟩
  obtain⟨⟨s,M,hI,hs,hms⟩,_⟩:=hmu a w n hn
  refine wp_mono (bQ hC hL hm x x' hk _ (G s) M a w hs (hround s hI)) ?_
  intro t a' w' hq
  cases t<;>simp only[QM,Exit.then]at hq ⊢
  ·obtain⟨e',M',h1,s',h2,h3,h4⟩:=hq
   have hf:mE a' w' (m s'):=⟨s',M',h2,h1.weakL h4,rfl⟩
   exact⟨⟨_,hf⟩,Nat.lt_of_le_of_lt ((hmu a' w' _ hf).2 _ hf) (by omega)⟩
  all_goals exact hq
 | .exit i,c,hk,Q,e,M,a,w,h,hw=>by
  cases c<;>simp only[cj,x0j]at hk
  rename_i i'
  simp only[x0l]at hk
  subst hk
  exact wp_exit ⟨e,M,h,hw⟩
 | .ret,c,hk,Q,e,M,a,w,h,hw=>by
  cases c<;>simp only[cj,x0j]at hk
  exact wp_ret ⟨e,M,h,hw⟩
theorem f9:∀(ds:List D) (k t:Nat),ab (params k ds) t=if k<=t then(ds[t-k]?).getD .any else .any
 | [],k,t=>by simp[params,ab]
 | d::ds,k,t=>by
  simp only[params,ab]
  by_cases h:k=t
  ·subst h;simp
  ·rw[if_neg h,f9 ds (k+1) t]
   by_cases hk:k<=t
   ·rw[if_pos hk,if_pos (by omega)]
    rw[show t-k=(t-(k+1))+1 from by omega]
    simp
   ·rw[if_neg hk,if_neg (by omega)]
theorem hJ{ds:List D}{vs:List Value}(r:aA F M ds vs)(hh:∀p v,M p=some v->w.cell? p=some v)(hl:ds.length<=nt)(hnt:nt<=10000) :
  SR F nt (fun _=>False) .nil w M (ab (params 0 ds)) M { tmps:=vs.toArray++Array.replicate (nt-vs.toArray.size) undef,defers:=[] } w where
 hnt:=hnt
 size:=by have:=r.length;simp;omega
 defers:=rfl
 ch:=Ch.refl _ _
 holds:=hh
 ext:=Mem.le_refl _
 fresh p h1 h2:=absurd h1 h2
 own:=by
  have big:∀b,10000<=b->ab (params 0 ds) b=.any:=fun b hb=>by
   rw[f9]
   simp[x0N (show ds.length<=b by omega)]
  refine⟨fun _=>default,fun _=>none,⟨fun t _=>?_,fun b sz es hb e=>?_,fun b kt et ks vs hb e=>?_,fun k p e=>(by cases e),fun k p e=>(by cases e),fun p q e=>(by cases e),fun b l _ e=>(by cases e)⟩⟩
  ·by_cases ht:t<ds.length
   ·have hd:ab (params 0 ds) t=ds[t]:=by rw[f9];simp[ht]
    obtain⟨v,hv,rv⟩:=r.get (x0e ht)
    refine .inr ⟨v,?_,by rw[hd];exact aY.of_pure rv⟩
    have:t<vs.length:=by rw[r.length];exact ht
    simp only[Array.getElem?_append,List.size_toArray,this,if_true,x1A]
    exact hv
   ·exact .inl (by rw[f9];simp[ht])
  ·rw[big b hb]at e;cases e
  ·rw[big b hb]at e;cases e
theorem dx{e:Env}(h:SR F nt S L w0 M0 (ab e) M a w)(hO:Own F L (oB S w0) (ab e) M a w ρ ω)(g:ResultVar->Sem Value)(hg1:∀t,g (.tmp t)=pure (a.tmps.getD t undef))(hg2:∀x t,g (.cell x t)=(do loadVar t (<- asAddr (a.tmps.getD x undef)))) :
  ∀(rs:List (Nat×Option (Nat×Bool))) (rvs:List ResultVar),rs.length=rvs.length->(∀p∈rs.zip rvs,gW P p.1 p.2=true)->(∀r∈rs,wa e r) ->
  ∃vs:List Value,(rvs.mapM g).run P w=.ok vs w/\aA F (aT ω M w) (rs.map (kR e)) vs
 | [],[],_,_,_=>⟨[],rfl,by simp[aA]⟩
 | r::rs,rv::rvs,hl,hk,hv=>by
  obtain⟨vs,h1,h2⟩:=dx h hO g hg1 hg2 rs rvs (by simpa using hl) (fun p hp=>hk p (by simp[hp])) (fun r hr=>hv r (by simp[hr]))
  have hr:=hk (r,rv) (by simp)
  have hvr:=hv r (by simp)
  have one:∃v,(g rv).run P w=.ok v w/\ae F (aT ω M w) (kR e r) v:=by
   unfold gW at hr
   split at hr
   ·rename_i t t' e1 e2
    simp only[x0l]at hr
    subst hr
    simp only at e1
    subst e1
    simp only at e2
    rw[e2,hg1]
    refine⟨_,rfl,?_⟩
    simp only[wa]at hvr
    have:=hO.opd (x:=.t t) (y:=.tmp t) (by simp[am,hvr.1])
    simp only[vd]at this
    exact xp hO this hvr.2
   ·rename_i t n ag t' ty e1 e2
    simp only[x0a,x0l]at hr
    obtain⟨rfl,hty⟩:=hr
    simp only at e1
    subst e1
    simp only[wa]at hvr
    obtain⟨ht,hvr⟩:=hvr
    split at hvr
    ·rename_i p i off ex
     split at hvr
     ·rename_i sz es hg
      have hx:=hO.opd (x:=.t t) (y:=.tmp t) (by simp[am,ht])
      simp only[vd]at hx
      rw[ex,ar rfl]at hx
      simp only[au]at hx
      have hpos:0<n\/n=0:=by omega
      cases hi:es[i]? with
      | none =>
       rw[hi]at hvr
       simp at hvr
       obtain⟨rfl,rfl⟩:=hvr
       cases ag with
       | false=>have:=iH hty;omega
       | true =>
        refine⟨.agg #[],?_,?_⟩
        ·have:=dL (P:=P) (w:=w) hty (a:=⟨(ρ p).blk,(ρ p).base+i*(ρ p).sz+0,none⟩) (vs:=[]) (by simp) (by simp)
         simp only[Instr.loadAt,Instr.sureAddr,Sem.run_bind,Sem.run_pure,Result.andThen_ok]at this
         simp only at e2
         have ea:a.tmps.getD t undef=a.eval (.tmp t):=rfl
         rw[e2,hg2,ea,hx]
         simp only[asAddr,Sem.run_bind,Sem.run_pure,Result.andThen_ok,this]
         simp
        ·simp[kR,ex,hg,hi,pack,ae,aA]
      | some r =>
       rw[hi]at hvr
       simp only[x1B]at hvr
       obtain⟨us,T,hω,h0,hl,g1,g2,g3,g4⟩:=hO.row (co hO hg) hg hi
       rw[h0]at hx
       refine⟨if ag then .agg ((us.drop ((ρ p).base+i*sz+off)).take n).toArray else(us.drop ((ρ p).base+i*sz+off)).headD undef,?_,?_⟩
       ·have:=dL (P:=P) (w:=w) hty (a:=⟨(ρ p).blk,(ρ p).base+i*sz+off,none⟩) (vs:=us.drop ((ρ p).base+i*sz+off)) (fun j v hj=>by
         rw[cE]
         rw[x0q]at hj
         simp[World.cell?,g1,hj]) (by simp;omega)
        simp only[Instr.loadAt,Instr.sureAddr,Sem.run_bind,Sem.run_pure,Result.andThen_ok]at this
        simp only at e2
        have ea:a.tmps.getD t undef=a.eval (.tmp t):=rfl
        rw[e2,hg2,ea,hx]
        simp only[asAddr,Sem.run_bind,Sem.run_pure,Result.andThen_ok,this]
       ·simp only[kR,ex,hg,hi,x1B]
        have hrl:aA F (aT ω M w) ((r.drop off).map bW) ((us.drop ((ρ p).base+i*sz+off)).take (sz-off)):=aA.of_forall' (by simp;omega) (fun j d v e1 e3=>by
         rw[x0y,x0i]at e1
         obtain⟨d',e1,rfl⟩:=e1
         rw[x0q]at e1
         obtain⟨u,k1,k2⟩:=g4 _ _ e1
         rw[x0J]at e3
         split at e3
         ·rw[x0q,x0T]at e3
          rw[k1]at e3;cases e3
          exact lz hO k2
         ·cases e3)
        have hpk:=kL hrl ag n
        cases ag with
        | true =>
         simp only[if_true]at hpk ⊢
         rw[List.take_take,Nat.min_eq_left (by omega)]at hpk
         exact hpk
        | false =>
         have:=iH hty
         simp only[x0j,if_false]at hpk ⊢
         have e3:((us.drop ((ρ p).base+i*sz+off)).take (sz-off)).headD undef=(us.drop ((ρ p).base+i*sz+off)).headD undef:=by
          cases us.drop ((ρ p).base+i*sz+off) with
          | nil=>simp
          | cons x xs =>
           rw[show sz-off=(sz-off-1)+1 from by omega]
           simp
         rw[e3]at hpk
         exact hpk
     ·exact hvr.elim
    ·exact hvr.elim
   ·cases hr
  obtain⟨v,h3,h4⟩:=one
  refine⟨v::vs,by simp[List.mapM_cons,h3,h1],?_⟩
  simp only[x0t,aA]
  exact⟨v,vs,rfl,h4,h2⟩
theorem vK(hC:bC P F C)(hm:P.follows .mixedOrders=true){fi:Nat}{nf:al}(hk:dg P F fi nf=true){ds:List D}{d:D}(hl:ds.length=nf.np)
  (hw:wpN C nf.body (fun t e=>(match t with
   | .ext _=>False
   | _=>True)/\dw nf.res d e) (params 0 ds)):wG P F fi ds d:=by
 intro M w vs hh r
 unfold dg at hk
 split at hk
 ·rename_i fn hfn
  simp only[x0a,x0l,x0f,x0b,x0r]at hk
  obtain⟨⟨⟨⟨⟨⟨⟨h1,h2⟩,h3⟩,h3'⟩,h4⟩,h5⟩,h6⟩,h7⟩:=hk
  split at h7
  ·rename_i c hc
   have hs:=hJ (nt:=nf.nt) r hh (by omega) h3'
   have hwp:=bQ hC (fun _ _ _=>rfl) hm nf.body c h7 _ _ M _ w hs hw
   refine calls_of_wp hfn hc ?_
   rw[h1]
   refine wp_mono hwp ?_
   have fin:∀(a':Act) (w':World),(∃e M',SR F nf.nt (fun _=>False) .nil w M (ab e) M' a' w'/\dw nf.res d e)->a'.defers=[]/\∃v,(results fn a'.tmps).run P w'=.ok v w' /\
     (∃v' M',Ending.returned v=.returned v'/\Bel w w'/\M.le M'/\(∀p,M p=none->M' p≠none->w.heap.size<=p.block)/\(∀p v,M' p=some v->w'.cell? p=some v)/\ae F M' d v'):=by
    rintro a' w' ⟨e,M',hs',hr1,hr2⟩
    refine⟨hs'.defers,?_⟩
    obtain⟨ρ,ω,hO⟩:=hs'.own
    obtain⟨us,k1,k2⟩:=dx (P:=P) hs' hO (fun
     | .tmp t=>pure (a'.tmps.getD t undef)
     | .cell x t=>do loadVar t (<- asAddr (a'.tmps.getD x undef))) (fun _=>rfl) (fun _ _=>rfl) nf.res fn.results.toList h4 h5 hr1
    have hrun:(results fn a'.tmps).run P w'=.ok (if h:us.toArray.size=1 then us.toArray[0] else .tuple us.toArray) w':=by
     unfold results
     rw[Sem.run_bind,x0M]
     have k1':((fn.results.toList.mapM fun
      | .tmp t=>pure (a'.tmps.getD t undef)
      | .cell x t=>do loadVar t (<- asAddr (a'.tmps.getD x undef)):Sem (List Value))).run P w'=.ok us w':=k1
     simp only[Sem.run_map]
     erw [k1']
     rfl
    refine⟨_,hrun,_,aT ω M' w',rfl,hs'.ch.below (fun _ _ h=>h),Mem.le_trans hs'.ext (cc hO),fun p hp hq=>?_,a8 hs'.holds,?_⟩
    ·unfold aT at hq
     split at hq
     ·rename_i q hq'
      rcases hO.new _ _ hq' with h|h
      ·exact h.elim
      ·exact h
     ·exact(hs'.fresh p hp hq).elim False.elim id
    have hlen:=k2.length
    simp only[x1c]at hlen
    split at hr2
    ·rename_i r1 hres
     rw[hres]at k2 hlen
     simp only[x0t,x0I,aA]at k2
     obtain⟨v,r',rfl,k3,rfl⟩:=k2
     rw[<- hr2]
     simpa using k3
    ·rename_i hne
     have:¬us.toArray.size=1:=by
      intro h'
      have:nf.res.length=1:=by rw[<- hlen];simpa using h'
      match hq:nf.res,this with
      | [x],_=>exact hne x hq
     rw[dif_neg this,hr2]
     simp only[ae]
     exact⟨us,rfl,k2⟩
   intro t a' w' hq
   cases t<;>simp only[QM]at hq
   ·obtain⟨e,M',q1,_,q2⟩:=hq
    exact fin a' w' ⟨e,M',q1,q2⟩
   ·obtain⟨e,M',q1,q2,_⟩:=hq
    exact q2.elim
   ·obtain⟨e,M',q1,_,q2⟩:=hq
    exact fin a' w' ⟨e,M',q1,q2⟩
  ·cases h7
 ·cases hk
theorem tn(hC:bC P F C)(hm:P.follows .mixedOrders=true){fi:Nat}{nf:al}(hk:dg P F fi nf=true){ds:List D}{d:D}(hl:ds.length=nf.np)
  (hw:wpN C nf.body (fun t e=>(match t with
   | .ext _=>False
   | _=>True)/\n9 nf.res d e) (params 0 ds)):uj P F fi ds d:=by
 intro M w vs hh r
 unfold dg at hk
 split at hk
 ·rename_i fn hfn
  simp only[x0a,x0l,x0f,x0b,x0r]at hk
  obtain⟨⟨⟨⟨⟨⟨⟨h1,h2⟩,h3⟩,h3'⟩,h4⟩,h5⟩,h6⟩,h7⟩:=hk
  split at h7
  ·rename_i c hc
   have hs:=hJ (nt:=nf.nt) r hh (by omega) h3'
   have hwp:=bQ hC (fun _ _ _=>rfl) hm nf.body c h7 _ _ M _ w hs hw
   refine calls_of_wp hfn hc ?_
   rw[h1]
   refine wp_mono hwp ?_
   have fin:∀(a':Act) (w':World),(∃e M',SR F nf.nt (fun _=>False) .nil w M (ab e) M' a' w'/\n9 nf.res d e)->a'.defers=[]/\∃v,(results fn a'.tmps).run P w'=.ok v w' /\
     (∃v' M2,Ending.returned v=.returned v'/\Bel w w'/\(∀p,M2 p≠none->w.heap.size<=p.block)/\(∀p v,M2 p=some v->w'.cell? p=some v)/\ae F M2 d v'):=by
    rintro a' w' ⟨e0,M1,hs0,⟨hr1,hr2⟩,hfl⟩
    obtain⟨e,he⟩:∃e,e=prune (nf.res.map (·.1)) e0:=⟨_,rfl⟩
    rw[<- he]at hr1 hr2 hfl
    have hlk:∀t,ab e t=.any\/(t,ab e t)∈e:=fun t=>by
     by_cases h:ab e t=.any
     ·exact .inl h
     ·exact .inr (rS rfl h)
    have hs1:SR F nf.nt (fun _=>False) .nil w M (ab e) M1 a' w':=by rw[he];exact hs0.prune _
    have hs':=hs1.flat (fun t=>by
     rcases hlk t with h|h
     ·rw[h];trivial
     ·exact(hfl _ h).1) (fun t ht=>by
     rcases hlk t with h|h
     ·rw[h];rfl
     ·exact(hfl _ h).2 ht)
    refine⟨hs'.defers,?_⟩
    obtain⟨ρ,ω,hO⟩:=hs'.own
    obtain⟨us,k1,k2⟩:=dx (P:=P) hs' hO (fun
     | .tmp t=>pure (a'.tmps.getD t undef)
     | .cell x t=>do loadVar t (<- asAddr (a'.tmps.getD x undef))) (fun _=>rfl) (fun _ _=>rfl) nf.res fn.results.toList h4 h5 hr1
    have hrun:(results fn a'.tmps).run P w'=.ok (if h:us.toArray.size=1 then us.toArray[0] else .tuple us.toArray) w':=by
     unfold results
     rw[Sem.run_bind,x0M]
     have k1':((fn.results.toList.mapM fun
      | .tmp t=>pure (a'.tmps.getD t undef)
      | .cell x t=>do loadVar t (<- asAddr (a'.tmps.getD x undef)):Sem (List Value))).run P w'=.ok us w':=k1
     simp only[Sem.run_map]
     erw [k1']
     rfl
    refine⟨_,hrun,_,aT ω (fun _=>none) w',rfl,hs'.ch.below (fun _ _ h=>h),fun p hq=>?_,a8 hs'.holds,?_⟩
    ·unfold aT at hq
     split at hq
     ·rename_i q hq'
      rcases hO.new _ _ hq' with h|h
      ·exact h.elim
      ·exact h
     ·exact absurd rfl hq
    have hlen:=k2.length
    simp only[x1c]at hlen
    split at hr2
    ·rename_i r1 hres
     rw[hres]at k2 hlen
     simp only[x0t,x0I,aA]at k2
     obtain⟨v,r',rfl,k3,rfl⟩:=k2
     rw[<- hr2]
     simpa using k3
    ·rename_i hne
     have:¬us.toArray.size=1:=by
      intro h'
      have:nf.res.length=1:=by rw[<- hlen];simpa using h'
      match hq:nf.res,this with
      | [x],_=>exact hne x hq
     rw[dif_neg this,hr2]
     simp only[ae]
     exact⟨us,rfl,k2⟩
   intro t a' w' hq
   cases t<;>simp only[QM]at hq
   ·obtain⟨e,M',q1,_,q2⟩:=hq
    exact fin a' w' ⟨e,M',q1,q2⟩
   ·obtain⟨e,M',q1,q2,_⟩:=hq
    exact q2.elim
   ·obtain⟨e,M',q1,_,q2⟩:=hq
    exact fin a' w' ⟨e,M',q1,q2⟩
  ·cases h7
 ·cases hk
theorem tm(hC:bC P F C)(hm:P.follows .mixedOrders=true){fi:Nat}{nf:al}(hk:dg P F fi nf=true){ds:List D}{sz:Nat}{es:List (List D)}(hl:ds.length=nf.np)
  (hw:wpN C nf.body (fun t e=>(match t with
   | .ext _=>False
   | _=>True)/\jX nf.res sz es e) (params 0 ds)):wH P F fi ds sz es:=by
 intro M w vs hh r
 unfold dg at hk
 split at hk
 ·rename_i fn hfn
  simp only[x0a,x0l,x0f,x0b,x0r]at hk
  obtain⟨⟨⟨⟨⟨⟨⟨h1,h2⟩,h3⟩,h3'⟩,h4⟩,h5⟩,h6⟩,h7⟩:=hk
  split at h7
  ·rename_i c hc
   have hs:=hJ (nt:=nf.nt) r hh (by omega) h3'
   have hwp:=bQ hC (fun _ _ _=>rfl) hm nf.body c h7 _ _ M _ w hs hw
   refine calls_of_wp hfn hc ?_
   rw[h1]
   refine wp_mono hwp ?_
   have fin:∀(a':Act) (w':World),(∃e M',SR F nf.nt (fun _=>False) .nil w M (ab e) M' a' w'/\jX nf.res sz es e)->a'.defers=[]/\∃v,(results fn a'.tmps).run P w'=.ok v w' /\
     ((es=[]/\0<sz/\∃A:Option Addr,Ending.returned v=.returned (.slice A 0 0)/\Bel w w')\/∃(b o:Nat) (T:TypeId) (us:List Value) (cap:Nat),Ending.returned v=.returned (.slice (some ⟨b,o,none⟩) es.length cap)/\Bel w w'/\w.heap.size<=b /\
      w'.heap[b]? = some (.cells us.toArray T (0,0))/\es.length<=cap/\(o+cap*sz<=us.length/\cap<=9223372036854775807)/\(∀e∈es,e.length=sz) /\
      ∀i r off d,es[i]? = some r->r[off]? = some d->bq d=true/\∃u,us[o+i*sz+off]? = some u/\ae F M d u):=by
    rintro a' w' ⟨e,M',hs',hsz0,hflat,hr⟩
    refine⟨hs'.defers,?_⟩
    obtain⟨ρ,ω,hO⟩:=hs'.own
    split at hr
    ·rename_i t hres
     obtain⟨ht,hr⟩:=hr
     have hrun:(results fn a'.tmps).run P w'=.ok (a'.tmps.getD t undef) w':=by
      rw[hres]at h4 h5
      obtain⟨rv,hrv⟩:∃rv,fn.results.toList=[rv]:=by
       match hq:fn.results.toList,h4 with
       | [x],_=>exact⟨x,rfl⟩
      have hok:=h5 ((t,none),rv) (by rw[hrv];simp)
      unfold results
      rw[Sem.run_bind,x0M]
      simp only[Sem.run_map]
      rw[hrv]
      cases rv with
      | tmp t' =>
       simp only[gW,x0l]at hok
       subst hok
       rfl
      | cell t' ty=>simp[gW]at hok
     have hev:a'.tmps.getD t undef=a'.eval (.tmp t):=rfl
     have hx:=hO.opd (x:=.t t) (y:=.tmp t) (by simp[am,ht])
     simp only[vd]at hx
     split at hr
     ·rename_i b k n hlk
      obtain⟨rfl,rfl,hb⟩:=hr
      rw[hlk,ar rfl]at hx
      simp only[au]at hx
      have hrow:=hO.roots b sz es (hO.big hb) hb
      unfold bV at hrow
      refine⟨_,hrun,?_⟩
      rcases hx with ⟨h0,A,hv⟩|⟨cap,hv,hcap,hcl,hmc⟩
      ·exact .inl ⟨x0x h0,hsz0,A,by rw[hev,hv],hs'.ch.below (fun _ _ h=>h)⟩
      rcases hrow with hrow|⟨hω,hrows⟩
      ·obtain⟨v1,v2,v3,v4⟩:=hrow
       have hc0:cap=0:=by
        rw[v2,v3]at hcl
        simp only[x07]at hcl
        rcases x0R cap with h|h
        ·exact h
        ·have:=Nat.mul_pos h v4;omega
       subst hc0
       have hl0:es.length=0:=by rw[v1];rfl
       exact .inl ⟨v1,hsz0,_,by rw[hev,hv,hl0],hs'.ch.below (fun _ _ h=>h)⟩
      obtain⟨hsz,us,T,g1,g2,g3,g4,g5⟩:=hrows
      refine .inr ⟨(ρ (.r b)).blk,(ρ (.r b)).base,T,us,cap,?_,hs'.ch.below (fun _ _ h=>h),?_,g1,hcap,⟨?_,hmc⟩,g4,fun i r off d e1 e2=>?_⟩
      ·rw[hev,hv]
       simp
      ·rcases hO.new _ _ hω with h|h
       ·exact h.elim
       ·exact h
      ·rw[g2,<- hsz]
       simpa using hcl
      ·obtain⟨u,k1,k2⟩:=g5 i r off d e1 e2
       have hf1:=hflat r (x0d e1) d (x0d e2)
       rw[aU (d4 hf1)]at k2
       exact⟨hf1,u,k1,dz hf1 k2⟩
     ·rename_i hlk
      rw[hlk,ar rfl]at hx
      simp only[au,ae]at hx
      exact⟨_,hrun,.inl ⟨hr,hsz0,none,by rw[hev,hx],hs'.ch.below (fun _ _ h=>h)⟩⟩
     ·exact hr.elim
    ·exact hr.elim
   intro t a' w' hq
   cases t<;>simp only[QM]at hq
   ·obtain⟨e,M',q1,_,q2⟩:=hq
    exact fin a' w' ⟨e,M',q1,q2⟩
   ·obtain⟨e,M',q1,q2,_⟩:=hq
    exact q2.elim
   ·obtain⟨e,M',q1,_,q2⟩:=hq
    exact fin a' w' ⟨e,M',q1,q2⟩
  ·cases h7
 ·cases hk
theorem tC{sz:Nat}{es:List (List D)}{t:Nat}:∀{W:List D},W.length<=10000->ab (params 0 W++[(ap,.blk sz es)]) t=if t=ap then .blk sz es else(W[t]?).getD .any:=by
 intro W hl
 have key:∀(ds:List D) (k:Nat),k+ds.length<=10000->ab (params k ds++[(ap,.blk sz es)]) t=if t=ap then .blk sz es else if k<=t then(ds[t-k]?).getD .any else .any:=by
  intro ds
  induction ds with
  | nil =>
   intro k _
   simp only[params,x03,ab]
   by_cases h:ap=t
   ·rw[if_pos h,if_pos h.symm]
   ·rw[if_neg h,if_neg (Ne.symm h)];simp
  | cons d ds ih =>
   intro k hk
   simp only[x0F]at hk
   simp only[params,x05,ab]
   by_cases h:k=t
   ·subst h
    rw[if_pos rfl,if_neg (by unfold ap;omega)]
    simp
   ·rw[if_neg h,ih (k+1) (by omega)]
    by_cases h2:t=ap
    ·rw[if_pos h2,if_pos h2]
    ·rw[if_neg h2,if_neg h2]
     by_cases h3:k<=t
     ·rw[if_pos h3,if_pos (by omega),show t-k=(t-(k+1))+1 from by omega]
      simp
     ·rw[if_neg h3,if_neg (by omega)]
 rw[key W 0 (by omega)]
 simp
theorem sF{sz:Nat}{es:List (List D)}{W:List D}{vs:List Value}(hLd:L.ds=[])(hlen:vs.length=W.length)(r:∀(i:Nat) (d:D) (v:Value),W[i]? = some d->vs[i]? = some v->aY F M ρ d v)(hh:∀p v,M p=some v->w.cell? p=some v)(hl:W.length<=nt)(hnt:nt<=10000)
  (hroot:cy F M ω ρ w ap sz es) (hlt:∀k p,ω k=some p->k<w.heap.size) (hap:∀(p:Addr) (q:Pa),ω p.block=some q->M p=none) (hS:∀k p,ω k=some p->S k) (hLt:∀b l,L b=some l->b=ap/\l=ρ (.r ap)) :
  SR F nt S L w M (ab (params 0 W++[(ap,.blk sz es)])) M { tmps:=vs.toArray++Array.replicate (nt-vs.toArray.size) undef,defers:=[] } w where
 hnt:=hnt
 size:=by simp;omega
 defers:=hLd.symm
 ch:=Ch.refl _ _
 holds:=hh
 ext:=Mem.le_refl _
 fresh p h1 h2:=absurd h1 h2
 own:=by
  have lk:=fun t=>tC (sz:=sz) (es:=es) (W:=W) (t:=t) (by omega)
  have big:∀b,10000<=b->b≠ap->ab (params 0 W++[(ap,.blk sz es)]) b=.any:=fun b hb hne=>by
   rw[lk,if_neg hne]
   simp[x0N (show W.length<=b by omega)]
  refine⟨ρ,ω,⟨fun t ht=>?_,fun b sz' es' hb e=>?_,fun b kt et ks vs hb e=>?_,hlt,fun k p e=>.inl (hS k p e),hap,fun b l hb e _=>by obtain⟨rfl,rfl⟩:=hLt b l e;rfl⟩⟩
  ·unfold sN
   rw[lk,if_neg (by unfold ap;omega)]
   by_cases ht2:t<W.length
   ·have hv:t<vs.length:=by omega
    refine .inr ⟨vs[t],?_,by rw[x0e ht2];exact r t _ _ (x0e ht2) (x0e hv)⟩
    simp[Array.getElem?_append,hv]
   ·exact .inl (by rw[x0N (by omega)];rfl)
  ·by_cases e1:b=ap
   ·subst e1
    rw[lk,if_pos rfl]at e
    cases e
    exact hroot
   ·rw[big b hb e1]at e;cases e
  ·by_cases e1:b=ap
   ·subst e1
    rw[lk,if_pos rfl]at e
    cases e
   ·rw[big b hb e1]at e;cases e
theorem uV(t i:Nat)(hi:i<15):rt t i≠ap:=by unfold rt ap;omega
theorem tp(hC:bC P F C)(hm:P.follows .mixedOrders=true){fi:Nat}{nf:al}(hk:dg P F fi nf=true){W:List D}{d:D}{sz:Nat}{es es':List (List D)}(hl:W.length=nf.np)
  (hw:wpN C nf.body (fun t e=>(match t with
   | .ext _=>False
   | _=>True)/\(0<es'.length/\ab e ap=.blk sz es')/\dw nf.res d ((ap,.any)::e)) (params 0 W++[(ap,.blk sz es)])):qX P F fi sz es W d es':=by
 intro M w vs ρ0 ω0 hh hlen r hlent
 unfold dg at hk
 split at hk
 ·rename_i fn hfn
  simp only[x0a,x0l,x0f,x0b,x0r]at hk
  obtain⟨⟨⟨⟨⟨⟨⟨h1,h2⟩,h3⟩,h3'⟩,h4⟩,h5⟩,h6⟩,h7⟩:=hk
  split at h7
  ·rename_i c hc
   obtain⟨S,hS⟩:∃S:Nat->Prop,S=fun k=>∃p,ω0 k=some p:=⟨_,rfl⟩
   obtain⟨L,hL⟩:∃L:Ln,L=⟨fun b=>if b=ap then some (ρ0 (.r ap)) else none,[]⟩:=⟨_,rfl⟩
   have hs:=sF (nt:=nf.nt) (S:=S) (L:=L) (by rw[hL]) hlen r hh (by omega) h3' hlent.rows hlent.lt hlent.apart (fun k p e=>by rw[hS];exact⟨p,e⟩) (fun b l e=>by
    rw[hL]at e
    simp only at e
    split at e
    ·rename_i h;cases e;exact⟨h,rfl⟩
    ·cases e)
   have hwp:=bQ hC (fun t i hi=>by rw[hL];simp only[if_neg (uV t i hi)]) hm nf.body c h7 _ _ M _ w hs hw
   refine calls_of_wp hfn hc ?_
   rw[h1]
   refine wp_mono hwp ?_
   have fin:∀(a':Act) (w':World),(∃e M',SR F nf.nt S L w M (ab e) M' a' w'/\(0<es'.length/\ab e ap=.blk sz es')/\dw nf.res d ((ap,.any)::e))->a'.defers=[]/\∃v,(results fn a'.tmps).run P w'=.ok v w' /\
     (∃v' M' ρ' ω',Ending.returned v=.returned v'/\Ch (fun k=>∃p,ω0 k=some p) w w'/\M.le M'/\(∀p,M p=none->M' p≠none->(∃q,ω0 p.block=some q)\/w.heap.size<=p.block)/\(∀p v,M' p=some v->w'.cell? p=some v)/\ae F M' d v'/\ρ' (.r ap)=ρ0 (.r ap)/\oA F M' w' ρ' ω' ap sz es'/\∀k p,ω' k=some p->(∃q,ω0 k=some q)\/w.heap.size<=k):=by
    rintro a' w' ⟨e,M',hs',⟨hpos,hlk⟩,hr1,hr2⟩
    refine⟨hs'.defers.trans (by rw[hL]),?_⟩
    obtain⟨ρ,ω,hO⟩:=hs'.own
    have hbig:10000<=ap:=by unfold ap;omega
    have hfE:ab ((ap,.any)::e)=fbE (ab e) ap:=by
     funext t
     unfold fbE
     simp only[ab]
     by_cases h:t=ap
     ·rw[if_pos h,if_pos h.symm]
     ·rw[if_neg h,if_neg (Ne.symm h)]
    have hE:Own F L (oB S w) (ab ((ap,.any)::e)) M' a' w' ρ (dJ ω ap):=by
     rw[hfE];exact hO.erase hbig
    have hs2:SR F nf.nt S L w M (ab ((ap,.any)::e)) M' a' w':=⟨hs'.hnt,hs'.size,hs'.defers,hs'.ch,hs'.holds,hs'.ext,hs'.fresh,ρ,dJ ω ap,hE⟩
    obtain⟨us,k1,k2⟩:=dx (P:=P) hs2 hE (fun
     | .tmp t=>pure (a'.tmps.getD t undef)
     | .cell x t=>do loadVar t (<- asAddr (a'.tmps.getD x undef))) (fun _=>rfl) (fun _ _=>rfl) nf.res fn.results.toList h4 h5 hr1
    have hrun:(results fn a'.tmps).run P w'=.ok (if h:us.toArray.size=1 then us.toArray[0] else .tuple us.toArray) w':=by
     unfold results
     rw[Sem.run_bind,x0M]
     have k1':((fn.results.toList.mapM fun
      | .tmp t=>pure (a'.tmps.getD t undef)
      | .cell x t=>do loadVar t (<- asAddr (a'.tmps.getD x undef)):Sem (List Value))).run P w'=.ok us w':=k1
     simp only[Sem.run_map]
     erw [k1']
     rfl
    have hroot:=hO.roots ap sz es' hbig hlk
    have hρ:ρ (.r ap)=ρ0 (.r ap):=hO.lent ap _ hbig (by rw[hL];simp) (by rw[hlk];rfl)
    have hω:ω (ρ (.r ap)).blk=some (.r ap):=by
     rcases hroot with ⟨e0,_⟩|⟨hω,_⟩
     ·rw[e0]at hpos;simp at hpos
     ·exact hω
    have hle:M'.le (aT (dJ ω ap) M' w'):=cc hE
    have hnew:∀k p,ω k=some p->(∃q,ω0 k=some q)\/w.heap.size<=k:=fun k p e=>by
     have h8:=hO.new k p e
     rwa[hS]at h8
    refine⟨_,hrun,_,aT (dJ ω ap) M' w',ρ,cG ω ap,rfl,by rw[<- hS];exact hs'.ch,Mem.le_trans hs'.ext hle,fun p hp hq=>?_,a8 hs'.holds,?_,hρ,⟨nT hω rfl,cy.frame hroot hle (fun p hp=>⟨rfl,fun e=>⟨nT e hp,rfl⟩⟩),fun k p e=>hO.lt k p (cM e).1,fun k p e=>(cM e).2,fun p q e=>?_⟩,fun k p e=>hnew k p (cM e).1⟩
    ·unfold aT at hq
     split at hq
     ·rename_i q hq'
      exact hnew _ _ (dy hq').1
     ·have h8:=hs'.fresh p hp hq
      rwa[hS]at h8
    ·have hlen:=k2.length
     simp only[x1c]at hlen
     split at hr2
     ·rename_i r1 hres
      rw[hres]at k2 hlen
      simp only[x0t,x0I,aA]at k2
      obtain⟨v,r',rfl,k3,rfl⟩:=k2
      rw[<- hr2]
      simpa using k3
     ·rename_i hne
      have:¬us.toArray.size=1:=by
       intro h'
       have:nf.res.length=1:=by rw[<- hlen];simpa using h'
       match hq:nf.res,this with
       | [x],_=>exact hne x hq
      rw[dif_neg this,hr2]
      simp only[ae]
      exact⟨us,rfl,k2⟩
    ·obtain⟨e1,e2⟩:=cM e
     have e3:dJ ω ap p.block=none:=by simp only[dJ,e1,e2,if_true]
     unfold aT
     rw[e3]
     exact hO.apart p q e1
   intro t a' w' hq
   cases t<;>simp only[QM]at hq
   ·obtain⟨e,M',q1,_,q2⟩:=hq
    exact fin a' w' ⟨e,M',q1,q2⟩
   ·obtain⟨e,M',q1,q2,_⟩:=hq
    exact q2.elim
   ·obtain⟨e,M',q1,_,q2⟩:=hq
    exact fin a' w' ⟨e,M',q1,q2⟩
  ·cases h7
 ·cases hk
theorem tD{sz1 sz2:Nat}{es1 es2:List (List D)}{t:Nat}:∀{W:List D},W.length<=10000->ab (fS W sz1 es1 sz2 es2) t=if t=ap then .blk sz1 es1 else if t=aN then .blk sz2 es2 else(W[t]?).getD .any:=by
 intro W hl
 have key:∀(ds:List D) (k:Nat),k+ds.length<=10000->ab (params k ds++[(ap,.blk sz1 es1),(aN,.blk sz2 es2)]) t=if t=ap then .blk sz1 es1 else if t=aN then .blk sz2 es2 else if k<=t then(ds[t-k]?).getD .any else .any:=by
  intro ds
  induction ds with
  | nil =>
   intro k _
   simp only[params,x03,ab]
   by_cases h:ap=t
   ·rw[if_pos h,if_pos h.symm]
   ·rw[if_neg h,if_neg (Ne.symm h)]
    by_cases h':aN=t
    ·rw[if_pos h',if_pos h'.symm]
    ·rw[if_neg h',if_neg (Ne.symm h')];simp
  | cons d ds ih =>
   intro k hk
   simp only[x0F]at hk
   simp only[params,x05,ab]
   by_cases h:k=t
   ·subst h
    rw[if_pos rfl,if_neg (by unfold ap;omega),if_neg (by unfold aN;omega)]
    simp
   ·rw[if_neg h,ih (k+1) (by omega)]
    by_cases h2:t=ap
    ·rw[if_pos h2,if_pos h2]
    ·rw[if_neg h2,if_neg h2]
     by_cases h2':t=aN
     ·rw[if_pos h2',if_pos h2']
     ·rw[if_neg h2',if_neg h2']
      by_cases h3:k<=t
      ·rw[if_pos h3,if_pos (by omega),show t-k=(t-(k+1))+1 from by omega]
       simp
      ·rw[if_neg h3,if_neg (by omega)]
 unfold fS
 rw[key W 0 (by omega)]
 simp
theorem sG{sz1 sz2:Nat}{es1 es2:List (List D)}{W:List D}{vs:List Value}(hLd:L.ds=[])(hlen:vs.length=W.length)(r:∀(i:Nat) (d:D) (v:Value),W[i]? = some d->vs[i]? = some v->aY F M ρ d v)(hh:∀p v,M p=some v->w.cell? p=some v)(hl:W.length<=nt)(hnt:nt<=10000)
  (hlent:oN F M w ρ ω ap sz1 es1 aN sz2 es2) (hS:∀k p,ω k=some p->S k) (hLt:∀b l,L b=some l->(b=ap/\l=ρ (.r ap))\/(b=aN/\l=ρ (.r aN))) :
  SR F nt S L w M (ab (fS W sz1 es1 sz2 es2)) M { tmps:=vs.toArray++Array.replicate (nt-vs.toArray.size) undef,defers:=[] } w where
 hnt:=hnt
 size:=by simp;omega
 defers:=hLd.symm
 ch:=Ch.refl _ _
 holds:=hh
 ext:=Mem.le_refl _
 fresh p h1 h2:=absurd h1 h2
 own:=by
  have lk:=fun t=>tD (sz1:=sz1) (es1:=es1) (sz2:=sz2) (es2:=es2) (W:=W) (t:=t) (by omega)
  have big:∀b,10000<=b->b≠ap->b≠aN->ab (fS W sz1 es1 sz2 es2) b=.any:=fun b hb hne hne'=>by
   rw[lk,if_neg hne,if_neg hne']
   simp[x0N (show W.length<=b by omega)]
  refine⟨ρ,ω,⟨fun t ht=>?_,fun b sz' es' hb e=>?_,fun b kt et ks vs hb e=>?_,hlent.lt,fun k p e=>.inl (hS k p e),hlent.apart,fun b l hb e _=>by rcases hLt b l e with ⟨rfl,rfl⟩|⟨rfl,rfl⟩<;>rfl⟩⟩
  ·unfold sN
   rw[lk,if_neg (by unfold ap;omega),if_neg (by unfold aN;omega)]
   by_cases ht2:t<W.length
   ·have hv:t<vs.length:=by omega
    refine .inr ⟨vs[t],?_,by rw[x0e ht2];exact r t _ _ (x0e ht2) (x0e hv)⟩
    simp[Array.getElem?_append,hv]
   ·exact .inl (by rw[x0N (by omega)];rfl)
  ·by_cases e1:b=ap
   ·subst e1
    rw[lk,if_pos rfl]at e
    cases e
    exact hlent.rows1
   ·by_cases e2:b=aN
    ·subst e2
     rw[lk,if_neg e1,if_pos rfl]at e
     cases e
     exact hlent.rows2
    ·rw[big b hb e1 e2]at e;cases e
  ·by_cases e1:b=ap
   ·subst e1
    rw[lk,if_pos rfl]at e
    cases e
   ·by_cases e2:b=aN
    ·subst e2
     rw[lk,if_neg e1,if_pos rfl]at e
     cases e
    ·rw[big b hb e1 e2]at e;cases e
theorem yO(t i:Nat)(hi:i<15):rt t i≠aN:=by unfold rt aN;omega
def sf(ω:Nat->Option Pa)(b c:Nat):Nat->Option Pa:=fun k=>match ω k with
 | some p=>if p.root=b\/p.root=c then some p else none
 | none=>none
theorem kK{b c k:Nat}{p:Pa}(h:ω k=some p)(hp:p.root=b\/p.root=c):sf ω b c k=some p:=by
 simp only[sf,h,if_pos hp]
theorem iA{b c k:Nat}{p:Pa}(h:sf ω b c k=some p):ω k=some p/\(p.root=b\/p.root=c):=by
 unfold sf at h
 split at h
 ·rename_i q hq
  split at h
  ·cases h
   exact⟨hq,by assumption⟩
  ·cases h
 ·cases h
theorem tq(hC:bC P F C)(hm:P.follows .mixedOrders=true){fi:Nat}{nf:al}(hk:dg P F fi nf=true){W:List D}{d:D}{sz1 sz2:Nat}{es1 es1' es2 es2':List (List D)}(hl:W.length=nf.np)
  (hw:wpN C nf.body (fun t e=>(match t with
   | .ext _=>False
   | _=>True)/\(0<es1'.length/\0<es2'.length/\ab e ap=.blk sz1 es1'/\ab e aN=.blk sz2 es2')/\dw nf.res d ((ap,.any)::(aN,.any)::e)) (fS W sz1 es1 sz2 es2)):wK P F fi sz1 es1 sz2 es2 W d es1' es2':=by
 intro M w vs ρ0 ω0 hh hlen r hlent
 unfold dg at hk
 split at hk
 ·rename_i fn hfn
  simp only[x0a,x0l,x0f,x0b,x0r]at hk
  obtain⟨⟨⟨⟨⟨⟨⟨h1,h2⟩,h3⟩,h3'⟩,h4⟩,h5⟩,h6⟩,h7⟩:=hk
  split at h7
  ·rename_i c hc
   obtain⟨S,hS⟩:∃S:Nat->Prop,S=fun k=>∃p,ω0 k=some p:=⟨_,rfl⟩
   obtain⟨L,hL⟩:∃L:Ln,L=⟨fun b=>if b=ap then some (ρ0 (.r ap)) else if b=aN then some (ρ0 (.r aN)) else none,[]⟩:=⟨_,rfl⟩
   have hBC:aN≠ap:=by decide
   have hs:=sG (nt:=nf.nt) (S:=S) (L:=L) (by rw[hL]) hlen r hh (by omega) h3' hlent (fun k p e=>by rw[hS];exact⟨p,e⟩) (fun b l e=>by
    rw[hL]at e
    simp only at e
    split at e
    ·rename_i h;cases e;exact .inl ⟨h,rfl⟩
    ·split at e
     ·rename_i h;cases e;exact .inr ⟨h,rfl⟩
     ·cases e)
   have hwp:=bQ hC (fun t i hi=>by rw[hL];simp only[if_neg (uV t i hi),if_neg (yO t i hi)]) hm nf.body c h7 _ _ M _ w hs hw
   refine calls_of_wp hfn hc ?_
   rw[h1]
   refine wp_mono hwp ?_
   have fin:∀(a':Act) (w':World),(∃e M',SR F nf.nt S L w M (ab e) M' a' w'/\(0<es1'.length/\0<es2'.length/\ab e ap=.blk sz1 es1'/\ab e aN=.blk sz2 es2')/\dw nf.res d ((ap,.any)::(aN,.any)::e))->a'.defers=[]/\∃v,(results fn a'.tmps).run P w'=.ok v w' /\
     (∃v' M' ρ' ω',Ending.returned v=.returned v'/\Ch (fun k=>∃p,ω0 k=some p) w w'/\M.le M'/\(∀p,M p=none->M' p≠none->(∃q,ω0 p.block=some q)\/w.heap.size<=p.block)/\(∀p v,M' p=some v->w'.cell? p=some v)/\ae F M' d v'/\ρ' (.r ap)=ρ0 (.r ap)/\ρ' (.r aN)=ρ0 (.r aN)/\oN F M' w' ρ' ω' ap sz1 es1' aN sz2 es2'/\∀k p,ω' k=some p->(∃q,ω0 k=some q)\/w.heap.size<=k):=by
    rintro a' w' ⟨e,M',hs',⟨hpos1,hpos2,hlk1,hlk2⟩,hr1,hr2⟩
    refine⟨hs'.defers.trans (by rw[hL]),?_⟩
    obtain⟨ρ,ω,hO⟩:=hs'.own
    have hbig:10000<=ap:=by unfold ap;omega
    have hbigC:10000<=aN:=by unfold aN;omega
    have hfE:ab ((ap,.any)::(aN,.any)::e)=fbE (fbE (ab e) aN) ap:=by
     funext t
     unfold fbE
     simp only[ab]
     by_cases h:t=ap
     ·rw[if_pos h,if_pos h.symm]
     ·rw[if_neg h,if_neg (Ne.symm h)]
      by_cases h':t=aN
      ·rw[if_pos h',if_pos h'.symm]
      ·rw[if_neg h',if_neg (Ne.symm h')]
    have hE:Own F L (oB S w) (ab ((ap,.any)::(aN,.any)::e)) M' a' w' ρ (dJ (dJ ω aN) ap):=by
     rw[hfE];exact(hO.erase hbigC).erase hbig
    have hs2:SR F nf.nt S L w M (ab ((ap,.any)::(aN,.any)::e)) M' a' w':=⟨hs'.hnt,hs'.size,hs'.defers,hs'.ch,hs'.holds,hs'.ext,hs'.fresh,ρ,_,hE⟩
    obtain⟨us,k1,k2⟩:=dx (P:=P) hs2 hE (fun
     | .tmp t=>pure (a'.tmps.getD t undef)
     | .cell x t=>do loadVar t (<- asAddr (a'.tmps.getD x undef))) (fun _=>rfl) (fun _ _=>rfl) nf.res fn.results.toList h4 h5 hr1
    have hrun:(results fn a'.tmps).run P w'=.ok (if h:us.toArray.size=1 then us.toArray[0] else .tuple us.toArray) w':=by
     unfold results
     rw[Sem.run_bind,x0M]
     have k1':((fn.results.toList.mapM fun
      | .tmp t=>pure (a'.tmps.getD t undef)
      | .cell x t=>do loadVar t (<- asAddr (a'.tmps.getD x undef)):Sem (List Value))).run P w'=.ok us w':=k1
     simp only[Sem.run_map]
     erw [k1']
     rfl
    have hroot1:=hO.roots ap sz1 es1' hbig hlk1
    have hroot2:=hO.roots aN sz2 es2' hbigC hlk2
    have hρ1:ρ (.r ap)=ρ0 (.r ap):=hO.lent ap _ hbig (by rw[hL];simp) (by rw[hlk1];rfl)
    have hρ2:ρ (.r aN)=ρ0 (.r aN):=hO.lent aN _ hbigC (by rw[hL];simp[hBC]) (by rw[hlk2];rfl)
    have own:∀{b sz:Nat} {es:List (List D)},0<es.length->cy F M' ω ρ w' b sz es->ω (ρ (.r b)).blk=some (.r b):=fun{b sz es} hpos hroot=>by
     rcases hroot with ⟨e0,_⟩|⟨hω,_⟩
     ·rw[e0]at hpos;simp at hpos
     ·exact hω
    have hω1:=own hpos1 hroot1
    have hω2:=own hpos2 hroot2
    have hle:M'.le (aT (dJ (dJ ω aN) ap) M' w'):=cc hE
    have hnew:∀k p,ω k=some p->(∃q,ω0 k=some q)\/w.heap.size<=k:=fun k p e=>by
     have h8:=hO.new k p e
     rwa[hS]at h8
    refine⟨_,hrun,_,aT (dJ (dJ ω aN) ap) M' w',ρ,sf ω ap aN,rfl,by rw[<- hS];exact hs'.ch,Mem.le_trans hs'.ext hle,fun p hp hq=>?_,a8 hs'.holds,?_,hρ1,hρ2,⟨kK hω1 (.inl rfl),kK hω2 (.inr rfl),cy.frame hroot1 hle (fun p hp=>⟨rfl,fun e=>⟨kK e (.inl hp),rfl⟩⟩),cy.frame hroot2 hle (fun p hp=>⟨rfl,fun e=>⟨kK e (.inr hp),rfl⟩⟩),fun k p e=>hO.lt k p (iA e).1,fun k p e=>(iA e).2,fun p q e=>?_⟩,fun k p e=>hnew k p (iA e).1⟩
    ·unfold aT at hq
     split at hq
     ·rename_i q hq'
      exact hnew _ _ (dy (dy hq').1).1
     ·have h8:=hs'.fresh p hp hq
      rwa[hS]at h8
    ·have hlen:=k2.length
     simp only[x1c]at hlen
     split at hr2
     ·rename_i r1 hres
      rw[hres]at k2 hlen
      simp only[x0t,x0I,aA]at k2
      obtain⟨v,r',rfl,k3,rfl⟩:=k2
      rw[<- hr2]
      simpa using k3
     ·rename_i hne
      have:¬us.toArray.size=1:=by
       intro h'
       have:nf.res.length=1:=by rw[<- hlen];simpa using h'
       match hq:nf.res,this with
       | [x],_=>exact hne x hq
      rw[dif_neg this,hr2]
      simp only[ae]
      exact⟨us,rfl,k2⟩
    ·obtain⟨e1,e2⟩:=iA e
     have e3:dJ (dJ ω aN) ap p.block=none:=by
      by_cases h:q.root=aN
      ·simp only[dJ,e1,h,if_true]
      ·have h':=e2.resolve_right h
       have:dJ ω aN p.block=some q:=p6 e1 h
       simp only[dJ]at this ⊢
       simp only[this,h',if_true]
     unfold aT
     rw[e3]
     exact hO.apart p q e1
   intro t a' w' hq
   cases t<;>simp only[QM]at hq
   ·obtain⟨e,M',q1,_,q2⟩:=hq
    exact fin a' w' ⟨e,M',q1,q2⟩
   ·obtain⟨e,M',q1,q2,_⟩:=hq
    exact q2.elim
   ·obtain⟨e,M',q1,_,q2⟩:=hq
    exact fin a' w' ⟨e,M',q1,q2⟩
  ·cases h7
 ·cases hk
theorem lF{f:Nat->D}:∀{ds Rs:List D},kC f ds Rs->ds.length=Rs.length/\∀(j:Nat) (d r:D),ds[j]? = some d->Rs[j]? = some r->dR f d r
 | [],[],_=>⟨rfl,fun j d r h=>by simp at h⟩
 | [],_::_,h=>h.elim
 | _::_,[],h=>h.elim
 | d::ds,r::rs,h=>by
  obtain⟨h1,h2⟩:=lF h.2
  refine⟨by simp[h1],fun j d' r' e1 e2=>?_⟩
  cases j with
  | zero=>simp at e1 e2;subst e1 e2;exact h.1
  | succ j=>exact h2 j d' r' (by simpa using e1) (by simpa using e2)
theorem pa{t:Nat}:∀{ds:List D} {i j:Nat},(bZ t i ds)[j]? =(ds[j]?).map (fR t (i+j))
 | [],i,j=>by simp[bZ]
 | d::ds,i,j=>by
  cases j with
  | zero=>simp[bZ]
  | succ j =>
   simp only[bZ,x1D]
   rw[pa,show i+1+j=i+(j+1) by omega]
theorem lH{t:Nat}:∀{ds:List D} {i:Nat},(bZ t i ds).length=ds.length
 | [],i=>rfl
 | d::ds,i=>by simp[bZ,lH]
theorem nE{t b:Nat}{x:D}:∀{ds:List D} {i:Nat},(b,x)∈bT t i ds->∃j d,ds[j]? = some d/\(b,x)∈cF t (i+j) d
 | [],i,h=>by simp[bT]at h
 | d::ds,i,h=>by
  simp only[bT,x0n]at h
  rcases h with h|h
  ·exact⟨0,d,by simp,h⟩
  ·obtain⟨j,d',h1,h2⟩:=nE h
   exact⟨j+1,d',by simpa using h1,by rwa[show i+(j+1)=i+1+j by omega]⟩
theorem lI{t b:Nat}{x:D}:∀{ds:List D} {i j:Nat} {d:D},ds[j]? = some d->(b,x)∈cF t (i+j) d->(b,x)∈bT t i ds
 | [],i,j,d,h,_=>by simp at h
 | d0::ds,i,j,d,h,hx=>by
  simp only[bT,x0n]
  cases j with
  | zero=>simp at h;subst h;exact .inl hx
  | succ j=>exact .inr (lI (j:=j) (by simpa using h) (by rwa[show i+(j+1)=i+1+j by omega]at hx))
theorem kJ:∀{l:List Nat},bD l=true->l.Nodup
 | [],_=>List.nodup_nil
 | x::l,h=>by
  simp only[bD,x0a,x0r]at h
  refine x1N.2 ⟨fun hx=>?_,kJ h.2⟩
  have:=x0U.2 hx
  rw[h.1]at this;cases this
theorem iz:∀{l:List Nat},l.Nodup->bD l=true
 | [],_=>rfl
 | x::l,h=>by
  obtain⟨h1,h2⟩:=x1N.1 h
  simp only[bD,x0a,x0r]
  exact⟨by cases e:l.contains x;rfl;exact absurd (x0U.1 e) h1,iz h2⟩
def lT(b:Nat):Nat->List D->Option Nat
 | _,[]=>none
 | i,d::ds=>if (cB d).contains b then some i else lT b (i+1) ds
theorem mw{b:Nat}:∀{ds:List D} {i c:Nat},lT b i ds=some c->∃j d,c=i+j/\ds[j]? = some d/\b∈cB d
 | [],i,c,h=>by cases h
 | d::ds,i,c,h=>by
  unfold lT at h
  split at h
  ·rename_i e
   cases h
   exact⟨0,d,by simp,by simp,by simpa using e⟩
  ·obtain⟨j,d',h1,h2,h3⟩:=mw h
   exact⟨j+1,d',by omega,by simpa using h2,h3⟩
theorem pq{b:Nat}:∀{ds:List D} {i j:Nat} {d:D},bD (ds.flatMap cB)=true->ds[j]? = some d->b∈cB d->lT b i ds=some (i+j)
 | [],i,j,d,_,h,_=>by simp at h
 | d0::ds,i,j,d,hn,h,hb=>by
  have hnd:((d0::ds).flatMap cB).Nodup:=kJ hn
  rw[List.flatMap_cons,List.nodup_append]at hnd
  unfold lT
  cases j with
  | zero =>
   simp at h;subst h
   rw[if_pos (by simpa using hb)];rfl
  | succ j =>
   have h':ds[j]? = some d:=by simpa using h
   have hm:b∈ds.flatMap cB:=x1t.2 ⟨d,x0d h',hb⟩
   rw[if_neg (fun e=>hnd.2.2 b (by simpa using e) b hm rfl),pq (iz hnd.2.1) h' hb]
   congr 1;omega
theorem gQ{e:Nat->D}(hO:Own F .nil (fun k=>False\/w0.heap.size<=k) e M a w ρ ω){ds Rs:List D}{us:List Value}(hh:kC e ds Rs)(hn:bD (ds.flatMap cB)=true)(hus:cw F M ρ ds us) :
  ∃ρ' ω',cw F M ρ' (bZ 0 1 Rs) us/\(∀b sz es,(b,D.blk sz es)∈bT 0 1 Rs->cy F M ω' ρ' w b sz es)/\(∀k p,ω' k=some p->w0.heap.size<=k/\k<w.heap.size/\∃x,(p.root,x)∈bT 0 1 Rs)/\(∀(p:Addr) (q:Pa),ω' p.block=some q->M p=none):=by
 obtain⟨hlen,hget⟩:=lF hh
 obtain⟨nb,hnb⟩:∃nb:Nat->Nat,nb=fun c=>match ds[c-10001]? with
  | some d=>(cB d).headD c
  | none=>c:=⟨_,rfl⟩
 obtain⟨ρ',hρ'⟩:∃ρ':Pa->Loc,ρ'=fun p=>ρ (p.to (nb p.root)):=⟨_,rfl⟩
 obtain⟨ω',hω'⟩:∃ω':Nat->Option Pa,ω'=fun k=>match ω k with
  | some p=>match lT p.root 10001 ds with
   | some c=>some (p.to c)
   | none=>none
  | none=>none:=⟨_,rfl⟩
 have nbOf:∀j d b,ds[j]? = some d->cB d=[b]->nb (rt 0 (1+j))=b:=fun j d b h1 h2=>by
  have:rt 0 (1+j)-10001=j:=by unfold rt;omega
  rw[hnb];simp only[this,h1,h2];rfl
 have part:∀j d r,ds[j]? = some d->Rs[j]? = some r->∀b x,(b,x)∈cF 0 (1+j) r->∃c,cB d=[c]/\b=rt 0 (1+j)/\e c=x/\10000<=c:=by
  intro j d r h1 h2 b x hx
  have hp:=hget j d r h1 h2
  have big:∀{c sz es},e c=.blk sz es->10000<=c:=fun h=>hO.big h
  cases r<;>simp only[cF,x0B,x1e,or_false,Prod.mk.injEq]at hx
  case own sz es =>
   cases d<;>try (simp[dR,isV]at hp;done)
   rename_i p k n
   cases p with
   | r c=>exact⟨c,rfl,hx.1,by rw[hx.2];exact hp.2.2,big hp.2.2⟩
   | n c i o=>simp[dR,isV]at hp
  case blk sz es =>
   cases d<;>try (simp[dR,isV]at hp;done)
   rename_i p k n
   cases p with
   | r c=>exact⟨c,rfl,hx.1,by rw[hx.2];exact hp.2.2,big hp.2.2⟩
   | n c i o=>simp[dR,isV]at hp
 refine⟨ρ',ω',⟨by rw[lH,<- hlen];exact hus.1,fun j x v h1 h2=>?_⟩,fun b sz es hb=>?_,fun k p hk=>?_,fun p q hq=>?_⟩
 ·rw[pa,x0i]at h1
  obtain⟨r,hr,rfl⟩:=h1
  have hj:j<ds.length:=by rw[hlen];exact(x0c.1 hr).1
  have hd:=x0e hj
  have hv:=hus.2 j _ v hd h2
  have hp:=hget j _ r hd hr
  generalize ds[j]=d at hd hv hp
  have pure:isV d=true->r=d->au F M ρ' (fR 0 (1+j) r) v:=fun h3 h4=>by
   subst h4
   cases r<;>first|(simp[isV]at h3;done)|exact hv
  cases d with
  | ref p k n =>
   cases p with
   | r c =>
    cases r<;>try (simp[dR,isV]at hp;done)
    rename_i sz es
    obtain⟨rfl,rfl,h3⟩:=hp
    have e1:ρ' (.r (rt 0 (1+j)))=ρ (.r c):=by
     rw[hρ'];simp only[Pa.root,nbOf j _ c hd rfl,Pa.to]
    simp only[fR,au]at hv ⊢
    rw[e1];exact hv
   | n c i o=>cases r<;>simp[dR,isV]at hp
  | adr p k n =>
   cases p with
   | r c =>
    cases r<;>try (simp[dR,isV]at hp;done)
    rename_i sz es
    obtain⟨rfl,rfl,h3⟩:=hp
    have e1:ρ' (.r (rt 0 (1+j)))=ρ (.r c):=by
     rw[hρ'];simp only[Pa.root,nbOf j _ c hd rfl,Pa.to]
    simp only[fR,au]at hv ⊢
    rw[e1];exact hv
   | n c i o=>cases r<;>simp[dR,isV]at hp
  | _=>first|(simp[dR,isV]at hp;done)|(simp only[dR]at hp;exact pure hp.1 hp.2)
 ·obtain⟨j,r,hr,hx⟩:=nE hb
  have hj:j<ds.length:=by rw[hlen];exact(x0c.1 hr).1
  have hd:=x0e hj
  obtain⟨c,h1,rfl,h3,h4⟩:=part j _ r hd hr _ _ hx
  refine(hO.roots c sz es h4 h3).carry (Mem.le_refl _) (fun p hp=>⟨?_,fun hw=>⟨?_,rfl⟩⟩)
  ·rw[hρ'];simp only[Pa.to_root,nbOf j _ c hd h1]
   rw[Pa.to_to c _ p hp]
  ·rw[hω'];simp only[hw,hp]
   rw[pq hn hd (by rw[h1];simp)]
   simp only[x0h]
   congr 1
   unfold rt;omega
 ·rw[hω']at hk
  simp only at hk
  split at hk
  ·rename_i p' hp'
   split at hk
   ·rename_i c hc
    cases hk
    have hnew:=hO.new _ _ hp'
    refine⟨by rcases hnew with h|h;exact h.elim;exact h,hO.lt _ _ hp',?_⟩
    obtain⟨j,d,rfl,hd,hb⟩:=mw hc
    have hj:j<Rs.length:=by rw[<- hlen];exact(x0c.1 hd).1
    have hr:=x0e hj
    have hp:=hget j d _ hd hr
    have e1:10001+j=rt 0 (1+j):=by unfold rt;omega
    rw[Pa.to_root,e1]
    generalize Rs[j]=r at hr hp
    cases d<;>simp only[cB,x1e]at hb
    case ref p k n =>
     cases p with
     | r c =>
      cases r<;>try (simp[dR,isV]at hp;done)
      rename_i sz0 es0
      exact⟨.blk sz0 es0,lI hr (by simp[cF])⟩
     | n c i o=>simp[cB]at hb
    case adr p k n =>
     cases p with
     | r c =>
      cases r<;>try (simp[dR,isV]at hp;done)
      rename_i sz0 es0
      exact⟨.blk sz0 es0,lI hr (by simp[cF])⟩
     | n c i o=>simp[cB]at hb
   ·cases hk
  ·cases hk
 ·rw[hω']at hq
  simp only at hq
  split at hq
  ·rename_i p' hp'
   exact hO.apart p p' hp'
  ·cases hq
theorem vM{f:Nat->D}{d r:D}(h:dR f d r):isX d=false:=by
 cases d<;>first|rfl|(cases r<;>simp[dR,isV]at h)
theorem sx{P:Program}{a':Act}{w':World}(g:ResultVar->Sem Value)(hg1:∀t,g (.tmp t)=pure (a'.tmps.getD t undef)):∀(rs:List (Nat×Option (Nat×Bool))) (rvs:List ResultVar),rs.length=rvs.length->(∀p∈rs.zip rvs,gW P p.1 p.2=true)->(∀r∈rs,r.2=none) ->
  (rvs.mapM g).run P w'=.ok (rs.map fun r=>a'.tmps.getD r.1 undef) w'
 | [],[],_,_,_=>rfl
 | r::rs,rv::rvs,hl,hk,hn=>by
  have ih:=sx (P:=P) (w':=w') g hg1 rs rvs (by simpa using hl) (fun p hp=>hk p (by simp[hp])) (fun r hr=>hn r (by simp[hr]))
  have hr:=hk (r,rv) (by simp)
  have hn0:=hn r (by simp)
  obtain⟨t,o⟩:=r
  simp only at hn0
  subst hn0
  cases rv with
  | tmp t' =>
   simp only[gW,x0l]at hr
   subst hr
   simp[List.mapM_cons,hg1,ih]
  | cell t' ty=>simp[gW]at hr
theorem tj(hC:bC P F C)(hm:P.follows .mixedOrders=true){fi:Nat}{nf:al}(hk:dg P F fi nf=true){ds:List D}{R:D}(hl:ds.length=nf.np)
  (hw:wpN C nf.body (fun t e=>(match t with
   | .ext _=>False
   | _=>True)/\tN nf.res R e) (params 0 ds)):wF P F fi ds R:=by
 intro M w vs hh r
 unfold dg at hk
 split at hk
 ·rename_i fn hfn
  simp only[x0a,x0l,x0f,x0b,x0r]at hk
  obtain⟨⟨⟨⟨⟨⟨⟨h1,h2⟩,h3⟩,h3'⟩,h4⟩,h5⟩,h6⟩,h7⟩:=hk
  split at h7
  ·rename_i c hc
   have hs:=hJ (nt:=nf.nt) r hh (by omega) h3'
   have hwp:=bQ hC (fun _ _ _=>rfl) hm nf.body c h7 _ _ M _ w hs hw
   refine calls_of_wp hfn hc ?_
   rw[h1]
   refine wp_mono hwp ?_
   have fin:∀(a':Act) (w':World),(∃e M',SR F nf.nt (fun _=>False) .nil w M (ab e) M' a' w'/\tN nf.res R e)->a'.defers=[]/\∃v,(results fn a'.tmps).run P w'=.ok v w' /\
     (∃v' M' ρ ω us,Ending.returned v=.returned v'/\Bel w w'/\M.le M'/\(∀p,M p=none->M' p≠none->w.heap.size<=p.block)/\(∀p v,M' p=some v->w'.cell? p=some v) /\
      tX R us v'/\cw F M' ρ (bZ 0 1 (je R)) us/\(∀b sz es,(b,D.blk sz es)∈aW 0 R->cy F M' ω ρ w' b sz es)/\(∀k p,ω k=some p->w.heap.size<=k/\k<w'.heap.size/\∃x,(p.root,x)∈aW 0 R)/\(∀(p:Addr) (q:Pa),ω p.block=some q->M' p=none)):=by
    rintro a' w' ⟨e,M',hs',hr⟩
    refine⟨hs'.defers,?_⟩
    obtain⟨ρ,ω,hO⟩:=hs'.own
    have hbel:Bel w w':=hs'.ch.below (fun _ _ h=>h)
    have hfr:∀p,M p=none->M' p≠none->w.heap.size<=p.block:=fun p h1 h2=>(hs'.fresh p h1 h2).elim False.elim id
    have one:∀t,nf.res=[(t,none)]->(results fn a'.tmps).run P w'=.ok (a'.tmps.getD t undef) w':=fun t hres=>by
     rw[hres]at h4 h5
     obtain⟨rv,hrv⟩:∃rv,fn.results.toList=[rv]:=by
      match hq:fn.results.toList,h4 with
      | [x],_=>exact⟨x,rfl⟩
     have hok:=h5 ((t,none),rv) (by rw[hrv];simp)
     unfold results
     rw[Sem.run_bind,x0M]
     simp only[Sem.run_map]
     rw[hrv]
     cases rv with
     | tmp t' =>
      simp only[gW,x0l]at hok
      subst hok
      rfl
     | cell t' ty=>simp[gW]at hok
    have val:∀t,t<10000->aY F M' ρ (ab e t) (a'.tmps.getD t undef):=fun t ht=>by
     exact hO.opd (x:=.t t) (y:=.tmp t) (by simp[am,ht])
    unfold tN at hr
    split at hr
    ·rename_i t hres
     obtain⟨ht,hr⟩:=hr
     have hv:=val t ht
     split at hr
     ·rename_i ds' Rs hlk
      rw[hlk]at hv
      obtain⟨us,hv,hrl⟩:=hv
      obtain⟨ρ',ω',k1,k2,k3,k4⟩:=gQ hO hr.1 hr.2 hrl
      exact⟨_,one t hres,_,M',ρ',ω',us,rfl,hbel,hs'.ext,hfr,hs'.holds,hv,k1,k2,k3,k4⟩
     ·rename_i p k n sz es hlk
      rw[hlk,ar rfl]at hv
      have hn:bD ([D.ref p k n].flatMap cB)=true:=by cases p<;>simp[cB,bD]
      obtain⟨ρ',ω',k1,k2,k3,k4⟩:=gQ hO (ds:=[.ref p k n]) (Rs:=[.own sz es]) (us:=[a'.tmps.getD t undef]) ⟨hr,trivial⟩ hn ⟨rfl,fun j d v e1 e2=>by
       cases j with
       | zero=>simp only[x1i,x0h]at e1 e2;subst e1 e2;exact hv
       | succ j=>simp at e1⟩
      exact⟨_,one t hres,_,M',ρ',ω',_,rfl,hbel,hs'.ext,hfr,hs'.holds,rfl,k1,k2,k3,k4⟩
     ·rename_i p k n sz es hlk
      rw[hlk,ar rfl]at hv
      have hn:bD ([D.adr p k n].flatMap cB)=true:=by cases p<;>simp[cB,bD]
      obtain⟨ρ',ω',k1,k2,k3,k4⟩:=gQ hO (ds:=[.adr p k n]) (Rs:=[.blk sz es]) (us:=[a'.tmps.getD t undef]) ⟨hr,trivial⟩ hn ⟨rfl,fun j d v e1 e2=>by
       cases j with
       | zero=>simp only[x1i,x0h]at e1 e2;subst e1 e2;exact hv
       | succ j=>simp at e1⟩
      exact⟨_,one t hres,_,M',ρ',ω',_,rfl,hbel,hs'.ext,hfr,hs'.holds,rfl,k1,k2,k3,k4⟩
     ·exact hr.elim
    ·rename_i t n hres
     obtain⟨ht,hr⟩:=hr
     split at hr
     ·rename_i c i off Rs hlk
      obtain⟨rfl,rfl,⟨sz,hg⟩,hn,hok,hcn⟩:=hr
      have htn:t<nf.nt:=by
       rcases hO.slots t ht with h1|⟨v,h1,_⟩
       ·rw[hlk]at h1;cases h1
       ·have:=(Array.getElem?_eq_some_iff.1 h1).1
        have:=hs'.size
        omega
      obtain⟨ty,hrv,hty⟩:∃ty,fn.results.toList=[.cell t ty]/\tyS P ty n true=true:=by
       rw[hres]at h4 h5
       obtain⟨rv,hrv⟩:∃rv,fn.results.toList=[rv]:=by
        match hq:fn.results.toList,h4 with
        | [x],_=>exact⟨x,rfl⟩
       have hok:=h5 ((t,some (n,true)),rv) (by rw[hrv];simp)
       cases rv with
       | tmp t'=>simp[gW]at hok
       | cell t' ty =>
        simp only[gW,x0a,x0l]at hok
        obtain⟨rfl,hok⟩:=hok
        exact⟨ty,hrv,hok⟩
      have gp:aQ (ab e) (.r c)=some (sz,[Rs]):=by simp only[aQ,hg]
      have hc:10000<=c:=co hO gp
      have one':∀ρ ω,Own F .nil (fun k=>False\/w.heap.size<=k) (ab e) M' a' w' ρ ω->∃v,(results fn a'.tmps).run P w'=.ok v w'/\∃vs:List Value,v=.agg vs.toArray/\vs.length=Rs.length/\∀(j:Nat) (d:D) (u:Value),Rs[j]? = some d->vs[j]? = some u->bX F M' ω ρ w' c 0 j d u:=by
       intro ρ ω hO
       have hx:=hO.opd (x:=.t t) (y:=.tmp t) (by simp[am,ht])
       simp only[vd]at hx
       rw[hlk,ar rfl]at hx
       simp only[au]at hx
       obtain⟨us,T,hω,h0,hl',g1,g2,g3,g4⟩:=hO.row (p:=.r c) hc gp (i:=0) (r:=Rs) rfl
       rw[h0]at hx
       refine⟨.agg ((us.drop ((ρ (.r c)).base+0*sz+0)).take n).toArray,?_,_,rfl,by rw[x00,List.length_drop];omega,fun j d u k1 k2=>?_⟩
       ·have hld:=dL (P:=P) (w:=w') hty (a:=⟨(ρ (.r c)).blk,(ρ (.r c)).base+0*sz+0,none⟩) (vs:=us.drop ((ρ (.r c)).base+0*sz+0)) (fun j v hj=>by
         rw[cE]
         rw[x0q]at hj
         simp only[x0X,x0L]at hj
         simp[World.cell?,g1,hj]) (by simp;omega)
        simp only[Instr.loadAt,Instr.sureAddr,Sem.run_bind,Sem.run_pure,Result.andThen_ok,if_true]at hld
        unfold results
        rw[Sem.run_bind,x0M]
        simp only[Sem.run_map]
        rw[hrv]
        have ea:a'.tmps.getD t undef=a'.eval (.tmp t):=rfl
        simp only[List.mapM_cons,List.mapM_nil,ea,hx,asAddr,Sem.run_bind,Sem.run_pure,Result.andThen_ok,hld]
        rfl
       ·have hj:j<n:=by
         have:=(x0c.1 k2).1
         simp only[x00]at this;omega
        rw[x0A hj,x0q]at k2
        obtain⟨v',k3,k4⟩:=g4 j d k1
        rw[show(ρ (.r c)).base+0*sz+0+j=(ρ (.r c)).base+0*sz+j by omega,k3]at k2
        cases k2
        exact k4
      obtain⟨v,hv,_⟩:=one' ρ ω hO
      have hU:=hs'.unpack (fun _ _ _=>rfl) htn hg hok (fun x hx=>by
       have:=x0f.1 hcn _ hx
       simp at this) (v:=v) (fun ρ ω hO=>by
       obtain⟨v',hv',h2⟩:=one' ρ ω hO
       rw[hv]at hv'
       cases hv'
       exact h2)
      obtain⟨ρ1,ω1,hO1⟩:=hU.own
      obtain⟨f1,hf1⟩:∃f1,f1=eff ((t,fQ t (.agg Rs))::(c,.any)::aW t (.agg Rs)) (fx t (.agg Rs)) (ab e):=⟨_,rfl⟩
      rw[<- hf1]at hU hO1
      have ht1:f1 t=.agx (bZ t 1 Rs):=by rw[hf1];exact aE (by simp[fQ])
      have hval:=hO1.opd (x:=.t t) (y:=.tmp t) (by simp[am,ht])
      simp only[vd]at hval
      have hev:(a'.put (some t) v).eval (.tmp t)=v:=by
       show(a'.put (some t) v).tmps.getD t undef=v
       have:=getElem?_put_same (a:=a') (t:=t) (v:=v) (by rw[hs'.size];exact htn)
       simp[x02,this]
      rw[ht1,hev]at hval
      obtain⟨us,hv2,hrl⟩:=hval
      have hRs:∀j d,Rs[j]? = some d->∃u,us[j]? = some u/\(isV d=true\/∃sz' es',d=.own sz' es'):=fun j d hj=>by
       obtain⟨_,_,vs,hv3,hvl,hcell⟩:=one' ρ ω hO
       have hj':j<us.length:=by
        have:=hrl.1
        rw[lH]at this
        have:=(x0c.1 hj).1
        omega
       refine⟨_,x0e hj',?_⟩
       have hj2:j<vs.length:=by rw[hvl];exact(x0c.1 hj).1
       have:=hcell j d _ hj (x0e hj2)
       cases d<;>first|exact .inl rfl|exact .inr ⟨_,_,rfl⟩|(simp[bX,ae]at this;done)
      have hhand:kC f1 (bZ t 1 Rs) Rs:=by
       have key:∀(l:List D) (i:Nat),(∀j d,l[j]? = some d->Rs[i+j]? = some d)->kC f1 (bZ t (1+i) l) l:=by
        intro l
        induction l with
        | nil=>intro i _;trivial
        | cons d l ih =>
         intro i hl
         have h0:=hl 0 d rfl
         refine⟨?_,by
          have:=ih (i+1) (fun j d' hj=>by
           have:=hl (j+1) d' (by simpa using hj)
           rwa[show i+(j+1)=i+1+j by omega]at this)
          rwa[show 1+(i+1)=1+i+1 by omega]at this⟩
         obtain⟨u,_,hd|⟨sz',es',rfl⟩⟩:=hRs (i+0) d h0
         ·cases d<;>first|exact⟨rfl,rfl⟩|(simp[isV]at hd;done)
         ·refine⟨rfl,rfl,?_⟩
          have hm:(rt t (1+i),D.blk sz' es')∈aW t (.agg Rs):=nF (show Rs[i]? = _ by simpa using h0)
          rw[hf1]
          refine aE ?_
          have hct:(rt t (1+i)==t)=false:=by simp;unfold rt;omega
          have hcc:(rt t (1+i)==c)=false:=by
           have:=x0f.1 hcn _ hm
           simpa using this
          simp only[x0g,hct,hcc]
          exact uO (fun y hy=>(f7 hm hy).symm) hm
       exact key Rs 0 (fun j d hj=>by rwa[x07])
      have hnd:bD ((bZ t 1 Rs).flatMap cB)=true:=by
       refine iz ?_
       have key:∀(l:List D) (i:Nat),(∀d∈l,isV d=true\/∃sz' es',d=.own sz' es')->((bZ t i l).flatMap cB).Nodup/\∀x∈(bZ t i l).flatMap cB,rt t i<=x:=by
        intro l
        induction l with
        | nil=>intro i _;exact⟨List.nodup_nil,by simp[bZ]⟩
        | cons d l ih =>
         intro i hl
         obtain⟨g1,g2⟩:=ih (i+1) (fun d' hd'=>hl d' (by simp[hd']))
         have g3:∀x∈(bZ t (i+1) l).flatMap cB,rt t i<x:=fun x hx=>by
          have:=g2 x hx
          unfold rt at this ⊢;omega
         simp only[bZ,List.flatMap_cons]
         rcases hl d (by simp)with hd|⟨sz',es',rfl⟩
         ·have:cB (fR t i d)=[]:=by cases d<;>first|rfl|(simp[isV]at hd;done)
          rw[this,x03]
          exact⟨g1,fun x hx=>Nat.le_of_lt (g3 x hx)⟩
         ·have:cB (fR t i (.own sz' es'))=[rt t i]:=rfl
          rw[this]
          refine⟨?_,fun x hx=>?_⟩
          ·rw[List.singleton_append,x1N]
           exact⟨fun hx=>absurd (g3 _ hx) (by omega),g1⟩
          ·rcases x0n.1 hx with h|h
           ·simp at h;omega
           ·exact Nat.le_of_lt (g3 x h)
       exact(key Rs 1 (fun d hd=>by
        obtain⟨j,hj⟩:=List.getElem?_of_mem hd
        obtain⟨_,_,h⟩:=hRs j d hj
        exact h)).1
      obtain⟨ρ',ω',k1,k2,k3,k4⟩:=gQ hO1 hhand hnd hrl
      exact⟨_,hv,_,M',ρ',ω',us,rfl,hbel,hs'.ext,hfr,hs'.holds,hv2,k1,k2,k3,k4⟩
     ·exact hr.elim
    ·obtain⟨hne,hall,hr⟩:=hr
     split at hr
     ·rename_i Rs
      have hrun:(results fn a'.tmps).run P w'=.ok (.tuple (nf.res.map fun r=>a'.tmps.getD r.1 undef).toArray) w':=by
       unfold results
       rw[Sem.run_bind,x0M]
       have k1':((fn.results.toList.mapM fun
        | .tmp t=>pure (a'.tmps.getD t undef)
        | .cell x t=>do loadVar t (<- asAddr (a'.tmps.getD x undef)):Sem (List Value))).run P w'=.ok (nf.res.map fun r=>a'.tmps.getD r.1 undef) w':=sx (P:=P) (fun
        | .tmp t=>pure (a'.tmps.getD t undef)
        | .cell x t=>do loadVar t (<- asAddr (a'.tmps.getD x undef))) (fun _=>rfl) nf.res fn.results.toList h4 h5 (fun r hr=>(hall r hr).2)
       simp only[Sem.run_map]
       erw [k1']
       have:¬(nf.res.map fun r=>a'.tmps.getD r.1 undef).toArray.size=1:=by simpa using hne
       simp[Result.andThen,hne]
      obtain⟨hlen,hget⟩:=lF hr.1
      obtain⟨ρ',ω',k1,k2,k3,k4⟩:=gQ hO (us:=nf.res.map fun r=>a'.tmps.getD r.1 undef) hr.1 hr.2 ⟨by simp,fun j d v e1 e2=>by
       rw[x0y,x0i]at e1 e2
       obtain⟨r1,g1,rfl⟩:=e1
       obtain⟨r2,g2,rfl⟩:=e2
       rw[g1]at g2;cases g2
       have hv:=val r1.1 (hall r1 (x0d g1)).1
       have hj:j<Rs.length:=by
        rw[<- hlen];simp;exact(x0c.1 g1).1
       have hp:=hget j (ab e r1.1) _ (by simp[g1]) (x0e hj)
       rwa[ar (vM hp)]at hv⟩
      exact⟨_,hrun,_,M',ρ',ω',_,rfl,hbel,hs'.ext,hfr,hs'.holds,rfl,k1,k2,k3,k4⟩
     ·exact hr.elim
   intro t a' w' hq
   cases t<;>simp only[QM]at hq
   ·obtain⟨e,M',q1,_,q2⟩:=hq
    exact fin a' w' ⟨e,M',q1,q2⟩
   ·obtain⟨e,M',q1,q2,_⟩:=hq
    exact q2.elim
   ·obtain⟨e,M',q1,_,q2⟩:=hq
    exact fin a' w' ⟨e,M',q1,q2⟩
  ·cases h7
 ·cases hk
theorem mh{F:Fid}{M:Mem}:∀(ds:List D) (vs:List Value),aA F M ds vs->aA F M (ds.map qb) vs
 | [],vs,x=>by simpa only[x0I,aA]using x
 | d::ds,vs,x=>by
  simp only[x0t,aA]at x ⊢
  obtain⟨v,r,e,x1,x2⟩:=x
  refine⟨v,r,e,?_,mh ds r x2⟩
  unfold qb
  split
  ·exact x1
  ·simp only[ae]
theorem th{F:Fid}{M:Mem}{d:D}{v:Value}(h:ae F M d v):ae F M (tg d) v:=by
 cases d
 case tup ds =>
  simp only[tg,ae]at h ⊢
  obtain⟨vs,e,r⟩:=h
  exact⟨vs,e,mh ds vs r⟩
 all_goals exact h
def ee(P:Program)(F:Fid)(g:Nat)(ds:List D)(d:D):List D->Prop
 | []=>True/\∀f,F g=some f->wG P F f ds d
 | [.own sz es]=>True/\∀f,F g=some f->wH P F f ds sz es
 | [.nilp]=>True/\∀f,F g=some f->uj P F f ds d
 | [.nils]=>True/\∀f,F g=some f->wF P F f ds d
 | [.own sz es',.nilp]=>True/\∀f,F g=some f->match ds with
  | .own sz0 es::ds'=>sz0=sz/\wJ P F f sz es ds' es'
  | _=>False
 | [.own sz es',.nils]=>True/\∀f,F g=some f->match ds with
  | .own sz0 es::ds'=>sz0=sz/\BW P F f sz es ds' es'
  | _=>False
 | [.own sz es',.nils,.nils]=>True/\∀f,F g=some f->match ds with
  | .own sz0 es::ds'=>sz0=sz/\wI P F f sz es ds' es'
  | _=>False
 | [.blk sz es',.nilp]=>True/\∀f,F g=some f->match ds with
  | .blk sz0 es::W=>sz0=sz/\qX P F f sz es W d es'
  | _=>False
 | [.blk sz1 es1',.blk sz2 es2',.nilp]=>True/\∀f,F g=some f->match ds with
  | .blk sz0 es1::.blk sz0' es2::W=>sz0=sz1/\sz0'=sz2/\wK P F f sz1 es1 sz2 es2 W d es1' es2'
  | _=>False
 | [.blk sz es',.nils]=>True/\∀f,F g=some f->match ds with
  | .blk sz0 es::W=>sz0=sz/\∀vals:Nat->Value,qX P { F with vals:=vals } f sz es W d es'
  | _=>False
 | [.blk sz es']=>True/\∀f,F g=some f->match ds with
  | .blk sz0 es::ds'=>sz0=sz/\BX P F f sz es ds' d es'
  | _=>False
 | _=>False
theorem kY(hm:P.follows .mixedOrders=true){prog:Nat->Option al}(hnamed:∀g f,F g=some f->nQ P f=true)(hlaid:laidOutB F.P=true)(hP:P=F.P)(hall:∀g f nf,F g=some f->prog g=some nf->dg P F f nf=true):bC P F (ee P F)/\im prog (ee P F):=by
 have hs:bC P F (ee P F):=⟨fun g f ds d hg h=>h.2 f hg,fun g f ds sz es hg h=>h.2 f hg,fun g f sz es ds es' hg h=>(h.2 f hg).2,fun g f sz es ds es' hg h=>(h.2 f hg).2,fun g f sz es ds es' hg h=>(h.2 f hg).2,fun g f ds d hg h=>h.2 f hg,fun g f ds R hg h=>h.2 f hg,fun g f sz es ds d es' hg h=>(h.2 f hg).2,fun g f sz es W d es' hg h=>(h.2 f hg).2,fun g f sz1 es1 sz2 es2 W d es1' es2' hg h=>(h.2 f hg).2.2,fun g f sz es W d es' hg h=>(h.2 f hg).2,hnamed,hlaid,hP⟩
 refine⟨hs,fun g nf ds d hp hl hw=>⟨trivial,fun f hf=>vK hs hm (hall g f nf hf hp) hl hw⟩,fun g ds d h=>⟨trivial,fun f hf M w vs hh r=>?_⟩,fun g nf ds sz es hp hl hw=>⟨trivial,fun f hf=>tm hs hm (hall g f nf hf hp) hl hw⟩,fun g nf ds d hp hl hw=>⟨trivial,fun f hf=>tn hs hm (hall g f nf hf hp) hl hw⟩,trivial,fun g nf W d sz es es' hp hl hw=>⟨trivial,fun f hf=>⟨rfl,tp hs hm (hall g f nf hf hp) hl hw⟩⟩,trivial,fun g nf W d sz1 es1 es1' sz2 es2 es2' hp hl hw=>⟨trivial,fun f hf=>⟨rfl,rfl,tq hs hm (hall g f nf hf hp) hl hw⟩⟩,fun g nf ds R hp hl hok hw=>⟨trivial,fun f hf=>tj hs hm (hall g f nf hf hp) hl hw⟩⟩
 exact(h.2 f hf M w vs hh r).mono fun e w' ⟨v,M',q1,q2,q3,q4,q5,q6⟩=>⟨v,M',q1,q2,q3,q4,q5,th q6⟩
section
variable{vals:Nat->Value}
theorem tH{x:Opd}{y:Operand}:am { F with vals:=vals } x y=am F x y:=by cases x<;>cases y<;>rfl
theorem dc{nt:Nat}:∀(nc:cv) (c:Code),cj P { F with vals:=vals } nt nc c=cj P F nt nc c
 | .skip,c=>by cases c<;>rfl
 | .reg dr hs k ns,c=>by cases c<;>first|rfl|simp only[cj]
 | .seq x y,c=>by cases c<;>first|rfl|simp only[cj,dc x,dc y]
 | .cond b x y,c=>by cases c<;>first|rfl|simp only[cj,tH,dc x,dc y]
 | .block i x,c=>by cases c<;>first|rfl|simp only[cj,dc x]
 | .loop x,c=>by cases c<;>first|rfl|simp only[cj,dc x]
 | .exit i,c=>by cases c<;>rfl
 | .ret,c=>by cases c<;>rfl
end
theorem ti{vals:Nat->Value}{fi:Nat}{nf:al}:dg P { F with vals:=vals } fi nf=dg P F fi nf:=by
 unfold dg
 simp only[dc]
theorem sy(hm:P.follows .mixedOrders=true){prog:Nat->Option al}(hnamed:∀g f,F g=some f->nQ P f=true)(hlaid:laidOutB F.P=true)(hP:P=F.P)(hall:∀g f nf,F g=some f->prog g=some nf->dg P F f nf=true):bC P F (ee P F)/\av prog (ee P F):=by
 obtain⟨h1,h2⟩:=kY hm hnamed hlaid hP hall
 refine⟨h1,h2,fun g sz es W d es' h=>⟨trivial,fun f hf=>⟨rfl,fun vals=>?_⟩⟩⟩
 have h3:=h _ (kY (F:={ F with vals:=vals }) hm hnamed hlaid hP (fun g f nf k1 k2=>(ti (vals:=vals)).trans (hall g f nf k1 k2))).2
 exact(h3.2 f hf).2
end
end Go.Gv

namespace Go.Gv
open Go.RowKit
section
variable{P:Program}{F:Fid}{C:Nat->List D->D->List D->Prop}{nt:Nat}{S:Nat->Prop}{L:Ln}{w0:World}{M0:Mem}{f:Nat->D}{M:Mem}{a:Act}{w:World}{Q:Exit->Act->World->Prop}{ρ:Pa->Loc}{ω:Nat->Option Pa}
theorem SR.asgA(h:SR F nt S L w0 M0 f M a w){t b c sz k n:Nat}{es:List (List D)}{v:Value}(ht:t<nt)(hb0:10000<=b)(hL:L b=none)(hbc:b≠c)(hf:f c=.blk sz es)
  (hv:∀ρ ω,Own F L (fun k=>S k\/w0.heap.size<=k) f M a w ρ ω->au F M ρ (.adr (.r c) k n) v) :
  SR F nt S L w0 M0 (eff [(t,.adr (.r b) k n),(b,.blk sz es),(c,.any)] [(b,true)] f) M (a.put (some t) v) w where
 hnt:=h.hnt
 size:=by simp[Act.put,h.size]
 defers:=by simp[Act.put,h.defers]
 ch:=h.ch
 holds:=h.holds
 ext:=h.ext
 fresh:=h.fresh
 own:=by
  obtain⟨ρ,ω,ho⟩:=h.own
  have hc0:=ho.big hf
  have ht10:t<10000:=by have:=h.hnt;omega
  have lk:∀s,s≠t->s≠b->s≠c->[(t,D.adr (.r b) k n),(b,.blk sz es),(c,.any)].lookup s=none:=fun s h1 h2 h3=>by
   have e1:(s==t)=false:=by simpa using h1
   have e2:(s==b)=false:=by simpa using h2
   have e3:(s==c)=false:=by simpa using h3
   simp only[x0g,e1,e2,e3,x0w]
  have lkb:[(t,D.adr (.r b) k n),(b,.blk sz es),(c,.any)].lookup b=some (.blk sz es):=by
   have e1:(b==t)=false:=by simp;omega
   simp only[x0g,e1,beq_self_eq_true]
  have lkc:[(t,D.adr (.r b) k n),(b,.blk sz es),(c,.any)].lookup c=some .any:=by
   have e1:(c==t)=false:=by simp;omega
   have e2:(c==b)=false:=by simp;exact Ne.symm hbc
   simp only[x0g,e1,e2,beq_self_eq_true]
  have hinj:∀p p' q,piR b c p=some q->piR b c p'=some q->p=p':=by
   intro p p' q h1 h2
   cases p<;>cases p'<;>simp only[piR]at h1 h2<;>split at h1<;>split at h2<;>simp_all
   all_goals (obtain rfl:=h1;cases h2;try exact⟨rfl,rfl⟩)
  have nn:∀x:Nat,(none:Option Nat)≠some x:=fun x e=>by cases e
  refine⟨_,_,ho.move (b:=b) (nb:=none) (π:=piR b c) (ρb:=fun p=>match p with|.r _=>ρ (.r c)|.n _ i off=>ρ (.n c i off)) (ks:=[(b,true)]) hinj (fun p q hq=>?_) (fun k e=>(by cases e)) (x0k _) (fun p hp hne=>⟨(b,true),by simp,?_⟩) (Mem.le_refl _) ho.apart (fun s hs=>?_) (fun _ _ _ _ _=>rfl)
   (fun x hx hxb=>?_) (fun _ _=>.inl ⟨sz,es,aE lkb,?_⟩) (fun l' e _=>by rw[hL]at e;cases e)⟩
  ·right
   have:q.root=c:=by
    cases p<;>simp only[piR]at hq<;>split at hq<;>cases hq<;>rfl
   rw[this,aE lkc];rfl
  ·cases p with
   | r x=>simp only[Pa.root]at hp;simp[a7,hp]
   | n x i off=>simp only[Pa.root]at hp;simp[a7,hp]
  ·by_cases e:s=t
   ·subst e
    refine .inr (.inr ⟨v,getElem?_put_same (by rw[h.size];exact ht),?_⟩)
    rw[aE (d:=.adr (.r b) k n) (by simp),ar rfl]
    have h1:=hv ρ ω ho
    simp only[au]at h1 ⊢
    simp only[mvρ,Pa.root,if_true]
    exact h1
   ·left
    rcases bk (f:=f) (ks:=[(b,true)]) (lk s e (by omega) (by omega))with h2|h2
    ·exact .inl h2
    ·exact .inr ⟨h2.1,getElem?_put e,h2.2⟩
  ·by_cases e:x=c
   ·subst e;left;rw[aE lkc];rfl
   ·exact bj (lk x (by omega) hxb e)
  ·have h5:=ho.roots c sz es hc0 hf
   refine bV.into h5 (by simp[mvρ,Pa.root]) (fun e=>⟨dG (nn _) e (by simp[piR]) hinj,rfl⟩) (fun i r off d u hi hr hcell=>?_)
   cases d
   case own sz' es' =>
    obtain⟨g1,g2⟩:=hcell
    refine⟨?_,bV.into g2 (by simp[mvρ,Pa.root]) (fun e=>⟨dG (nn _) e (by simp[piR]) hinj,rfl⟩) (fun _ _ _ _ _ _ _ x=>x)⟩
    simp only[au]at g1 ⊢
    simp only[mvρ,Pa.root,if_true]
    exact g1
   all_goals exact hcell
def flatW:D->Prop
 | .any=>True
 | .nils=>True
 | .ref _ _ _=>True
 | .adr _ _ _=>True
 | .blk _ es=>∀r∈es,∀c∈r,uD c=true
 | d=>bq d=true
theorem vJ{d:D}{v:Value}{M':Mem}(hf:flatW d)(hn:d≠.any)(hb:isB d=false)(h:aY F M ρ d v):aY F M' ρ d v:=by
 cases d<;>simp only[flatW]at hf<;>first|exact h|(simp[bq]at hf;done)|(simp[isB]at hb;done)|(rw[ar rfl]at h ⊢;simp only[au]at h ⊢;exact dz hf h)|exact absurd rfl hn
theorem vF{b i off:Nat}{d:D}{v:Value}{M':Mem}(hf:uD d=true)(h:bX F M ω ρ w b i off d v):bX F M' ω ρ w b i off d v:=by
 by_cases ho:isO d=true
 ·cases d<;>simp only[isO]at ho<;>first|(cases ho;done)|skip
  rename_i sz es
  obtain⟨h1,h2⟩:=h
  simp only[uD,x0f]at hf
  refine⟨h1,?_⟩
  unfold bV at h2 ⊢
  rcases h2 with h2|⟨g0,g1,vs,T,g2,g3,g4,g5,g6⟩
  ·exact .inl h2
  ·refine .inr ⟨g0,g1,vs,T,g2,g3,g4,g5,fun i r off d e1 e2=>?_⟩
   obtain⟨v,k1,k2⟩:=g6 i r off d e1 e2
   exact⟨v,k1,dz (hf r (x0d e1) d (x0d e2)) k2⟩
 ·have ho':isO d=false:=by simpa using ho
  have hf1:bq d=true:=by cases d<;>first|exact hf|(simp[isO]at ho';done)
  rw[aU ho']at h ⊢
  exact dz hf1 h
theorem SR.flatW(h:SR F nt S L w0 M0 f M a w)(hf:∀t,flatW (f t))(hsl:∀t,t<10000->isB (f t)=false):SR F nt S L w0 (fun _=>none) f (fun _=>none) a w where
 hnt:=h.hnt
 size:=h.size
 defers:=h.defers
 ch:=h.ch
 holds p v e:=by cases e
 ext:=Mem.le_refl _
 fresh p _ e:=absurd rfl e
 own:=by
  obtain⟨ρ,ω,hO⟩:=h.own
  refine⟨ρ,ω,⟨fun t ht=>?_,fun b sz es hb e=>?_,fun b kt et ks vs hb e=>?_,hO.lt,hO.new,fun _ _ _=>rfl,hO.lent⟩⟩
  ·rcases hO.slots t ht with h1|⟨v,h1,h2⟩
   ·exact .inl h1
   ·by_cases e:f t=.any
    ·exact .inl e
    ·exact .inr ⟨v,h1,vJ (hf t) e (hsl t ht) h2⟩
  ·have h1:=hO.roots b sz es hb e
   have h2:=hf b
   rw[e]at h2
   simp only[Gv.flatW]at h2
   unfold cy bV at h1 ⊢
   rcases h1 with h1|⟨h1,h3,vs,T,g1,g2,g3,g4,g5⟩
   ·exact .inl h1
   ·refine .inr ⟨h1,h3,vs,T,g1,g2,g3,g4,fun i r off d e1 e2=>?_⟩
    obtain⟨v,k1,k2⟩:=g5 i r off d e1 e2
    exact⟨v,k1,vF (h2 r (x0d e1) d (x0d e2)) k2⟩
  ·have h2:=hf b
   rw[e]at h2
   simp[Gv.flatW,bq]at h2
theorem pT(hC:bC P F C)(hm:P.follows .mixedOrders=true){fi:Nat}{nf:al}(hk:dg P F fi nf=true){ds:List D}{d:D}(hl:ds.length=nf.np)
  (hw:wpN C nf.body (fun t e=>(match t with
   | .ext _=>False
   | _=>True)/\dw nf.res d e) (params 0 ds)) {M:Mem} {w:World} {vs:List Value} (hh:∀p v,M p=some v->w.cell? p=some v) (r:aA F M ds vs) (u:FrameMode) :
  CallsD P fi vs.toArray u w (fun e u' w'=>u'=u/\∃v,e=.returned v/\Bel w w'):=by
 unfold dg at hk
 split at hk
 ·rename_i fn hfn
  simp only[x0a,x0l,x0f,x0b,x0r]at hk
  obtain⟨⟨⟨⟨⟨⟨⟨h1,h2⟩,h3⟩,h3'⟩,h4⟩,h5⟩,h6⟩,h7⟩:=hk
  split at h7
  ·rename_i c hc
   have hs:=hJ (nt:=nf.nt) r hh (by omega) h3'
   have hwp:=bQ hC (fun _ _ _=>rfl) hm nf.body c h7 _ _ M _ w hs hw
   refine callsD_of_wp hfn hc ?_
   rw[h1]
   refine wp_mono hwp ?_
   have fin:∀(a':Act) (w':World),(∃e M',SR F nf.nt (fun _=>False) .nil w M (ab e) M' a' w'/\dw nf.res d e)->a'.defers=[]/\∃v,(results fn a'.tmps).run P w'=.ok v w'/\∃v',Ending.returned v=.returned v'/\Bel w w':=by
    rintro a' w' ⟨e,M',hs',hr1,hr2⟩
    refine⟨hs'.defers,?_⟩
    obtain⟨ρ,ω,hO⟩:=hs'.own
    obtain⟨us,k1,k2⟩:=dx (P:=P) hs' hO (fun
     | .tmp t=>pure (a'.tmps.getD t undef)
     | .cell x t=>do loadVar t (<- asAddr (a'.tmps.getD x undef))) (fun _=>rfl) (fun _ _=>rfl) nf.res fn.results.toList h4 h5 hr1
    have hrun:(results fn a'.tmps).run P w'=.ok (if h:us.toArray.size=1 then us.toArray[0] else .tuple us.toArray) w':=by
     unfold results
     rw[Sem.run_bind,x0M]
     have k1':((fn.results.toList.mapM fun
      | .tmp t=>pure (a'.tmps.getD t undef)
      | .cell x t=>do loadVar t (<- asAddr (a'.tmps.getD x undef)):Sem (List Value))).run P w'=.ok us w':=k1
     simp only[Sem.run_map]
     erw [k1']
     rfl
    exact⟨_,hrun,_,rfl,hs'.ch.below (fun _ _ h=>h)⟩
   intro t a' w' hq
   cases t<;>simp only[QM]at hq
   ·obtain⟨e,M',q1,_,q2⟩:=hq
    exact fin a' w' ⟨e,M',q1,q2⟩
   ·obtain⟨e,M',q1,q2,_⟩:=hq
    exact q2.elim
   ·obtain⟨e,M',q1,_,q2⟩:=hq
    exact fin a' w' ⟨e,M',q1,q2⟩
  ·cases h7
 ·cases hk
structure eL where
 np:Nat
 nt:Nat
 res:List (Nat×Option (Nat×Bool))
 pre:cv
 post:cv
 s:Nat
 e:Nat
 g:Nat
 nc:Nat
def Cg(F:Fid)(nd:eL)(ops:Array Oper):Bool:=match ops with
 | ⟨[o1,o2]⟩=>(match o1.op,o1.guard,o1.dst,o2.op,o2.guard,o2.dst with
  | .makeFunc (.func fj) first ys,none,some s,.defer { callee:=.value (.tmp s'),args:=as,argTypes:=_ },none,none=>first.isEmpty&&as.isEmpty&&s==nd.s&&s'==nd.s&&decide (nd.s<nd.nt)&&decide (nd.e<nd.nt)&&nd.s != nd.e&&F nd.g==some fj&&decide (ys.size=nd.nc+1)&&(match ys.toList with
   | y::_=>am F (.t nd.e) y
   | []=>false)
  | _,_,_,_,_,_=>false)
 | _=>false
def qc(P:Program)(F:Fid)(fi:Nat)(nd:eL):Bool:=match P.funcs[fi]? with
 | some fn=>fn.ntmps==nd.nt&&fn.params.size+fn.nfree==nd.np&&decide (nd.np<=nd.nt)&&decide (nd.nt<=10000)&&nd.res.length==fn.results.toList.length&&((nd.res.zip fn.results.toList).all fun p=>gW P p.1 p.2) &&
  match fn.body with
  | some (.seq c0 (.seq (.region _ ops false) c1))=>cj P F nd.nt nd.pre c0&&Cg F nd ops&&cj P F nd.nt nd.post c1
  | _=>false
 | none=>false
def cR(nd:eL):Nat:=rt nd.e 15
def xj(nd:eL)(c:Nat)(x:D)(e:Env):Env:=(nd.s,.any)::([(nd.e,.adr (.r (cR nd)) 0 0),(cR nd,.blk 1 [[x]]),(c,.any)]++cC [(cR nd,true)] e)
def mN(rs:List (Nat×Option (Nat×Bool)))(d:D)(e:Env):Prop :=
 dw rs d (prune (rs.map (·.1)) e)/\∀p∈prune (rs.map (·.1)) e,flatW p.2/\(p.1<10000->isB p.2=false)
def wP(C:Nat->List D->D->List D->Prop)(nd:eL)(gf:al)(ds:List D)(x d:D):Prop :=
 wpN C nd.pre (fun t e=>match t with
  | .nrm=>∃c y,ab e nd.e=.adr (.r c) 0 0/\ab e c=.blk 1 [[y]]/\c≠cR nd/\wpN C nd.post (fun t e'=>(match t with
   | .ext _=>False
   | _=>True)/\ab e' (cR nd)=.blk 1 [[x]]/\mN nd.res d e') (xj nd c y e)
  | _=>False) (params 0 ds)/\bq x=true/\1+nd.nc=gf.np/\wpN C gf.body (fun t e=>(match t with
   | .ext _=>False
   | _=>True)/\dw gf.res (.tup []) e) (params 0 (.ptr [x]::List.replicate nd.nc .any))
theorem yA{a:Act}{t:Nat}{v:Value}(h:a.tmps[t]? = some v):a.put (some t) v=a:=by
 have:a.tmps.setIfInBounds t v=a.tmps:=by
  apply Array.ext_getElem?
  intro i
  rw[x01]
  split
  ·rename_i e
   subst e
   rw[h]
   split
   ·rfl
   ·rename_i hn
    rw[Array.getElem?_eq_none (by omega)]at h
    cases h
  ·rfl
 simp only[Act.put,this]
theorem tk(hC:bC P F C)(hm:P.follows .mixedOrders=true){fi:Nat}{nd:eL}(hk:qc P F fi nd=true){fg:Nat}{gf:al}(hg:F nd.g=some fg)(hkg:dg P F fg gf=true){ds:List D}{x d:D}(hl:ds.length=nd.np)
  (hw:wP C nd gf ds x d):uj P F fi ds d:=by
 intro M w vs hh r
 obtain⟨hw1,hx1,hgl,hw2⟩:=hw
 unfold qc at hk
 split at hk
 case h_2=>cases hk
 rename_i fn hfn
 simp only[x0a,x0l,x0f,x0b,x0r]at hk
 obtain⟨⟨⟨⟨⟨⟨h1,h2⟩,h3⟩,h3'⟩,h4⟩,h5⟩,h7⟩:=hk
 split at h7
 case h_2=>cases h7
 rename_i c0 id ops c1 hc
 simp only[x0a]at h7
 obtain⟨⟨hpre,hdef⟩,hpost⟩:=h7
 have hs:=hJ (nt:=nd.nt) r hh (by omega) h3'
 refine calls_of_wp_defers hfn hc ?_
 rw[h1]
 refine wp_seq (wp_mono (bQ hC (fun _ _ _=>rfl) hm nd.pre c0 hpre _ _ M _ w hs hw1) ?_)
 intro t a1 w1 hq
 cases t<;>simp only[QM]at hq
 case exit=>obtain⟨e,M',_,q2⟩:=hq;exact q2.elim
 case ret=>obtain⟨e,M',_,q2⟩:=hq;exact q2.elim
 obtain⟨e,M1,q1,c,y,k1,k2,k3,k4⟩:=hq
 simp only[Exit.then]
 unfold Cg at hdef
 split at hdef
 case h_2=>cases hdef
 rename_i o1 o2
 split at hdef
 case h_2=>cases hdef
 rename_i fj first ys s s' as ts e1 e2 e3 e4 e5 e6
 simp only[x0a,x0l,x0b,bne_iff_ne,ne_eq]at hdef
 obtain⟨⟨⟨⟨⟨⟨⟨⟨⟨hf0,ha0⟩,rfl⟩,rfl⟩,hsn⟩,hen⟩,hse⟩,hgj⟩,hys⟩,hy0⟩:=hdef
 rw[hg]at hgj
 cases hgj
 have hf0':first=#[]:=by simpa using hf0
 have ha0':as=#[]:=by simpa using ha0
 have hbig:10000<=cR nd:=by unfold cR rt;omega
 obtain⟨v,hv⟩:∃v,a1.tmps[nd.e]? = some v:=⟨_,x08 (by rw[q1.size];exact hen)⟩
 have hval:∀{L:Ln} {New:Nat->Prop} {f:Nat->D} {a:Act} {w:World} {ρ:Pa->Loc} {ω:Nat->Option Pa} {b:Nat},Own F L New f M1 a w ρ ω->a.tmps[nd.e]? = some v->f nd.e=.adr (.r b) 0 0->au F M1 ρ (.adr (.r b) 0 0) v:=fun{L New f a w ρ ω b} hO e1 e2=>by
  rcases hO.slots nd.e (by omega)with h|⟨v',h,h'⟩
  ·rw[e2]at h;cases h
  ·rw[e1]at h
   cases h
   rw[e2,ar rfl]at h'
   exact h'
 have hA:=q1.asgA (t:=nd.e) (b:=cR nd) (c:=c) (k:=0) (n:=0) (v:=v) hen hbig rfl (Ne.symm k3) k2 (fun ρ ω hO=>hval hO hv k1)
 rw[yA hv]at hA
 obtain⟨caps,hcaps⟩:∃caps,caps=ys.toList.map a1.eval:=⟨_,rfl⟩
 have hB:=hA.put (t:=nd.s) hsn (d:=.any) (v:=.func (.func fg) #[] caps.toArray) (fun _ _ _=>by simp[aY,au,ae])
 have run1:(execOp a1.eval o1).run P w1=.ok (.value (.func (.func fg) #[] caps.toArray)) w1:=by
  simp only[execOp,e1,hf0',Instr.makeFunc,Sem.run_bind,Sem.run_pure,Result.andThen_ok]
  rw[show ys.map a1.eval=caps.toArray from by rw[hcaps];apply Array.ext';simp]
  simp
 obtain⟨a2,ha2⟩:∃a2,a2=a1.put (some nd.s) (.func (.func fg) #[] caps.toArray):=⟨_,rfl⟩
 rw[<- ha2]at hB
 have hev:a2.eval (.tmp nd.s)=.func (.func fg) #[] caps.toArray:=by
  show a2.tmps.getD nd.s undef=_
  have:=getElem?_put_same (a:=a1) (t:=nd.s) (v:=.func (.func fg) #[] caps.toArray) (by rw[q1.size];exact hsn)
  rw[ha2]
  simp[x02,this]
 obtain⟨d0,hd0⟩:∃d0:Deferred,d0={ target:=.fn (.func fg) caps.toArray,args:=#[] }:=⟨_,rfl⟩
 have run2:(execOp a2.eval o2).run P w1=.ok (.defer d0) w1:=by
  simp only[execOp,e4,resolve,hev,ha0',Deferred.ofValue,Sem.run_bind,Sem.run_pure,Result.andThen_ok]
  rw[hd0]
  simp
 have hdef0:a2.defers=[]:=hB.defers
 have hv2:a2.tmps[nd.e]? = some v:=by rw[ha2,getElem?_put (Ne.symm hse)];exact hv
 refine wp_seq (wp_region_list ?_)
 have list2:∀{Q':Exit->Act->World->Prop},Q' .normal { a2 with defers:=[d0] } w1->wpList P ⟨[o1,o2]⟩ Q' [o1,o2] a1 w1:=fun{Q'} hQ=>by
  rw[wpList,if_pos (by simp[Region.wanted,e2])]
  left
  unfold Oper.wp
  rw[run1,Oper.upon_value,e3,<- ha2,wpList,if_pos (by simp[Region.wanted,e5])]
  left
  unfold Oper.wp
  rw[run2,Oper.upon_defer,e6,wpList,hdef0]
  exact hQ
 refine list2 ?_
 simp only[Exit.then]
 obtain⟨ρ,ω,hO⟩:=hB.own
 have hlk:ab (xj nd c y e)=eff [(nd.s,.any)] [] (eff [(nd.e,.adr (.r (cR nd)) 0 0),(cR nd,.blk 1 [[y]]),(c,.any)] [(cR nd,true)] (ab e)):=by
  have e1:=fT [(nd.s,D.any)] [] ([(nd.e,.adr (.r (cR nd)) 0 0),(cR nd,.blk 1 [[y]]),(c,.any)]++cC [(cR nd,true)] e)
  rw[show cC [] ([(nd.e,D.adr (.r (cR nd)) 0 0),(cR nd,.blk 1 [[y]]),(c,.any)]++cC [(cR nd,true)] e)=[(nd.e,D.adr (.r (cR nd)) 0 0),(cR nd,.blk 1 [[y]]),(c,.any)]++cC [(cR nd,true)] e from if_pos rfl]at e1
  exact e1.trans (congrArg _ (fT _ _ _))
 rw[<- hlk]at hB hO
 obtain⟨L,hL⟩:∃L:Ln,L=⟨fun b=>if b=cR nd then some (ρ (.r (cR nd))) else none,[d0]⟩:=⟨_,rfl⟩
 have hC':SR F nd.nt (fun _=>False) L w M (ab (xj nd c y e)) M1 { a2 with defers:=[d0] } w1:=⟨hB.hnt,hB.size,by rw[hL],hB.ch,hB.holds,hB.ext,hB.fresh,ρ,ω,⟨hO.slots,hO.roots,hO.maps,hO.lt,hO.new,hO.apart,fun b l hb e _=>by
  rw[hL]at e
  simp only at e
  split at e
  ·rename_i h;cases e;rw[h]
  ·cases e⟩⟩
 have hNo:NoL L:=fun t i hi=>by
  rw[hL]
  simp only
  rw[if_neg]
  unfold cR rt
  omega
 have hee:ab (xj nd c y e) nd.e=.adr (.r (cR nd)) 0 0:=by
  rw[hlk]
  have n1:(nd.e==nd.s)=false:=by simpa using Ne.symm hse
  have n2:aG [] (D.adr (.r (cR nd)) 0 0)=false:=rfl
  have n3:eff [(nd.e,.adr (.r (cR nd)) 0 0),(cR nd,.blk 1 [[y]]),(c,.any)] [(cR nd,true)] (ab e) nd.e=.adr (.r (cR nd)) 0 0:=aE (by simp)
  unfold eff at n3 ⊢
  simp only[x0g,n1,x0w]
  simp only[x0g,x0w]at n3
  simp[aG]
 have hptr:=hval hO hv2 hee
 simp only[au]at hptr
 refine wp_mono (bQ hC hNo hm nd.post c1 hpost _ _ M1 _ w1 hC' k4) ?_
 have fin:∀(a':Act) (w':World),(∃e' M',SR F nd.nt (fun _=>False) L w M (ab e') M' a' w'/\ab e' (cR nd)=.blk 1 [[x]]/\mN nd.res d e') ->
   Leaves P fn a'.tmps (fun e0 w'=>∃v M2,e0=.returned v/\Bel w w'/\(∀p,M2 p≠none->w.heap.size<=p.block)/\(∀p v,M2 p=some v->w'.cell? p=some v)/\ae F M2 d v) a'.defers .returning w':=by
  rintro a' w' ⟨e0,M',hs',hbx,⟨hr1,hr2⟩,hfl⟩
  rw[hs'.defers,hL,hd0]
  obtain⟨ρ2,ω2,hO2⟩:=hs'.own
  have hρ:ρ2 (.r (cR nd))=ρ (.r (cR nd)):=hO2.lent (cR nd) _ hbig (by rw[hL];simp) (by rw[hbx];rfl)
  have hi:(invoke (.fn (.func fg) caps.toArray) #[]).run P w'=.ok (.enter fg caps.toArray) w':=by
   simp only[invoke]
   rw[bI (hC.body nd.g fg hg)]
   simp
  have hrep:aA F (aT ω2 (fun _=>none) w') (.ptr [x]::List.replicate nd.nc .any) caps:=by
   obtain⟨yl⟩:=ys
   cases yl with
   | nil=>cases hy0
   | cons y0 yr =>
    simp only[x0t]at hcaps
    rw[hcaps]
    have hy0':am F (.t nd.e) y0=true:=hy0
    have hy:y0=.tmp nd.e:=by
     cases y0<;>simp[am]at hy0'
     rw[hy0'.1]
    have hval0:a1.eval y0=v:=by
     rw[hy]
     show a1.tmps.getD nd.e undef=v
     simp[x02,hv]
    refine⟨_,_,rfl,?_,aA.of_forall' ?_ ?_⟩
    ·rw[hval0,hptr]
     rcases hO2.roots (cR nd) 1 [[x]] hbig hbx with ⟨g0,_⟩|⟨g0,g1,us,T,g2,g3,g4,g5,g6⟩
     ·cases g0
     ·obtain⟨u,g7,g8⟩:=g6 0 [x] 0 x rfl rfl
      have g8':bX F M' ω2 ρ2 w' (cR nd) 0 0 x u:=g8
      rw[aU (d4 hx1)]at g8'
      rw[hρ]at g0 g2 g7
      simp only[ae]
      refine⟨_,[u],rfl,⟨u,[],rfl,dz hx1 g8',rfl⟩,fun j v h=>?_⟩
      cases j with
      | succ j=>simp at h
      | zero =>
       simp at h
       subst h
       unfold aT
       simp only[cE,g0]
       simp only[x0X,x0L]at g7 ⊢
       simp[World.cell?,g2,g7]
    ·simp only[x1c,List.length_replicate]
     simp at hys
     omega
    ·intro j d v g1 g2
     have:d=.any:=by
      have:=x0d g1
      simp at this
      exact this.2
     subst this
     simp[ae]
  refine leaves_cons (by simp) hi ?_
  refine(pT hC hm hkg (by simp;omega) hw2 (a8 (by simp)) hrep .returning).mono ?_
  rintro e1 u' w'' ⟨rfl,v1,rfl,hb⟩
  show Leaves P fn a'.tmps _ [] .returning w''
  obtain⟨e,he⟩:∃e,e=prune (nd.res.map (·.1)) e0:=⟨_,rfl⟩
  rw[<- he]at hr1 hr2 hfl
  have hlk:∀t,ab e t=.any\/(t,ab e t)∈e:=fun t=>by
   by_cases h:ab e t=.any
   ·exact .inl h
   ·exact .inr (rS rfl h)
  have hs1:SR F nd.nt (fun _=>False) L w M (ab e) M' a' w':=by rw[he];exact hs'.prune _
  have hs2:=hs1.flatW (fun t=>by
   rcases hlk t with h|h
   ·rw[h];trivial
   ·exact(hfl _ h).1) (fun t ht=>by
   rcases hlk t with h|h
   ·rw[h];rfl
   ·exact(hfl _ h).2 ht)
  have hs3:=hs2.world hb (Mem.le_refl _) (fun p h1 h2=>absurd h1 h2) (fun p v h=>by cases h)
  obtain⟨ρ3,ω3,hO3⟩:=hs3.own
  obtain⟨us,k1,k2⟩:=dx (P:=P) hs3 hO3 (fun
   | .tmp t=>pure (a'.tmps.getD t undef)
   | .cell x t=>do loadVar t (<- asAddr (a'.tmps.getD x undef))) (fun _=>rfl) (fun _ _=>rfl) nd.res fn.results.toList h4 h5 hr1
  have hrun:(results fn a'.tmps).run P w''=.ok (if h:us.toArray.size=1 then us.toArray[0] else .tuple us.toArray) w'':=by
   unfold results
   rw[Sem.run_bind,x0M]
   have k1':((fn.results.toList.mapM fun
    | .tmp t=>pure (a'.tmps.getD t undef)
    | .cell x t=>do loadVar t (<- asAddr (a'.tmps.getD x undef)):Sem (List Value))).run P w''=.ok us w'':=k1
   simp only[Sem.run_map]
   erw [k1']
   rfl
  refine⟨_,hrun,_,aT ω3 (fun _=>none) w'',rfl,hs3.ch.below (fun _ _ h=>h),fun p hq=>?_,a8 hs3.holds,?_⟩
  ·unfold aT at hq
   split at hq
   ·rename_i q hq'
    rcases hO3.new _ _ hq' with h|h
    ·exact h.elim
    ·exact h
   ·exact absurd rfl hq
  have hlen:=k2.length
  simp only[x1c]at hlen
  split at hr2
  ·rename_i r1 hres
   rw[hres]at k2 hlen
   simp only[x0t,x0I,aA]at k2
   obtain⟨v,r',rfl,k3,rfl⟩:=k2
   rw[<- hr2]
   simpa using k3
  ·rename_i hne
   have:¬us.toArray.size=1:=by
    intro h'
    have:nd.res.length=1:=by rw[<- hlen];simpa using h'
    match hq:nd.res,this with
    | [x],_=>exact hne x hq
   rw[dif_neg this,hr2]
   simp only[ae]
   exact⟨us,rfl,k2⟩
 intro t a' w' hq
 cases t<;>simp only[QM]at hq
 ·obtain⟨e',M',q1,_,q2⟩:=hq
  exact fin a' w' ⟨e',M',q1,q2⟩
 ·obtain⟨e',M',q1,q2,_⟩:=hq
  exact q2.elim
 ·obtain⟨e',M',q1,_,q2⟩:=hq
  exact fin a' w' ⟨e',M',q1,q2⟩
def io(prog:Nat->Option al)(bH:Nat->Option eL)(C:Nat->List D->D->List D->Prop):Prop :=
 ∀g nd gf ds x d,bH g=some nd->prog nd.g=some gf->ds.length=nd.np->wP C nd gf ds x d->C g ds d [.nilp]
theorem qJ(hm:P.follows .mixedOrders=true){prog:Nat->Option al}{bH:Nat->Option eL}(hs:bC P F (ee P F))(hall:∀g f nf,F g=some f->prog g=some nf->dg P F f nf=true)
  (hallD:∀g f nd,F g=some f->bH g=some nd->qc P F f nd=true/\∃fg,F nd.g=some fg):io prog bH (ee P F):=fun g nd gf ds x d hp hg hl hw=>⟨trivial,fun f hf=>by
 obtain⟨h1,fg,h2⟩:=hallD g f nd hf hp
 exact tk hs hm h1 h2 (hall nd.g fg gf h2 hg) hl hw⟩
end
end Go.Gv
