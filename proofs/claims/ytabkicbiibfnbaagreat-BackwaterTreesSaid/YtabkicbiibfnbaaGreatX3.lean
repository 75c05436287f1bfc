/-
  Texts of the proof: GvF6, GvF7, GvF8, GvF9, GvF10, GvF11, GvF12, GvF13, GvF14, GvG, GvH, GvI0, GvI.
-/
import Derived.Test.YtabkicbiibfnbaaGreatX2
import Derived.Test.YtabkicbiibfnbaaGreatX1
import Derived.Orders
set_option linter.all false
namespace Go.Gv
open Go.RowKit
section
variable {P : Program} {F : Fid} {C : Nat -> List D -> D -> List D -> Prop} {nt : Nat} {S : Nat -> Prop} {L : Nat -> Option Loc} {w0 : World} {M0 : Mem} {f : Nat -> D} {M : Mem} {a : Act} {w w' : World} {o : Oper} {d : D} {Q : Exit -> Act -> World -> Prop} {ρ : Pa -> Loc} {ω : Nat -> Option Pa} {New : Nat -> Prop} {K : List (Nat × D) -> List (Nat × Bool) -> Prop}
theorem kL {t b : Nat} {d x : D} {q : Nat × D} (hq : isB q.2=true \/ q.2=.any) : eff [(t,d),(b,x)] [(b,true)] (eff [q] [] f)=eff [(t,d),(b,x),q] [(b,true)] f:=by
 funext s
 obtain ⟨c,y⟩:=q
 unfold eff
 by_cases e1 : s=t
 ·subst e1;simp
 ·have h1 : (s == t)=false:=by simpa using e1
  by_cases e2 : s=b
  ·subst e2;simp [x0l,h1]
  ·have h2 : (s == b)=false:=by simpa using e2
   by_cases e3 : s=c
   ·subst e3
    simp only [x0l,h1,h2,x0X,beq_self_eq_true]
    rcases hq with hq | hq
    ·rw [pa hq];rfl
    ·simp only at hq
     subst hq
     simp [aL,dz,aN]
   ·have h3 : (s == c)=false:=by simpa using e3
    simp only [x0l,h1,h2,h3,x0X,lS,x0k,if_false]
theorem oT (p : Pa) : (cU f p).1=p.root:=by
 cases p with
 | r c=>rfl
 | n c i o =>
  simp only [cU,Pa.root]
  split <;> rfl
theorem vk (p : Pa) : isB (cU f p).2=true \/ (cU f p).2=.any:=by
 cases p with
 | r c=>exact .inr rfl
 | n c i o =>
  simp only [cU]
  split
  ·exact .inl rfl
  ·exact .inr rfl
theorem xE {b i off sz : Nat} {es : List (List D)} (hg : a8 f (.n b i off)=some (sz,es)) : ∃ sz0 es0 row0,f b=.blk sz0 es0 /\ es0[i]? = some row0 /\ row0[off]? = some (.own sz es):=by
 simp only [a8] at hg
 split at hg
 ·rename_i sz' es' e
  split at hg
  ·rename_i sz2 r hr
   simp only [x0r,Prod.mk.injEq] at hg
   obtain ⟨rfl,rfl⟩:=hg
   cases hi : es'[i]? with
   | none=>rw [hi] at hr;simp at hr
   | some row =>
    rw [hi] at hr
    exact ⟨sz',es',row,e,hi,by simpa using hr⟩
  ·cases hg
 ·cases hg
theorem SR.leave (h : SR F nt S L w0 M0 f M a w) (ho : Own F L (fun k=>S k \/ w0.heap.size <= k) f M a w ρ ω) {p : Pa} {sz : Nat} {es : List (List D)} (hg : a8 f p=some (sz,es)) (hch : Ch S w0 w') (hsz : w.heap.size <= w'.heap.size) (hholds : ∀ p v,M p=some v -> w'.cell? p=some v)
  (hk : ∀ k q,ω k=some q -> q ≠ p -> w'.heap[k]? = w.heap[k]?) : SR F nt S L w0 M0 (eff [cU f p] [] f) M a w' where
 hnt:=h.hnt
 size:=h.size
 defers:=h.defers
 ch:=hch
 holds:=hholds
 ext:=h.ext
 fresh:=h.fresh
 own:=by
  have hp:=cd ho hg
  obtain ⟨sz0,es0,hf⟩:=(ho.get hp hg).2
  have hlk : ∀ s,s ≠ p.root -> [cU f p].lookup s=none:=fun s hs=>by
   have:=eL (b:=(cU f p).1) (d:=(cU f p).2) (s:=s) (by rw [oT];exact hs)
   exact this
  refine ⟨ρ,ω,ho.step (ks:=[]) (fun p hp=>absurd rfl hp) (Mem.le_refl _) hsz (fun t ht=>.inl ?_) (fun c hc=>?_) (fun k q e=>.inl ⟨q,e⟩) ho.apart (fun c l hc hl hB=>⟨rfl,?_⟩)⟩
  ·rcases bN (f:=f) (ks:=[]) (hlk t (by omega)) with h2 | h2
   ·exact .inl h2
   ·exact .inr ⟨h2.1,rfl,h2.2⟩
  ·by_cases e : c=p.root
   ·cases p with
    | r b =>
     left;left
     have e : c=b:=e
     subst e
     rw [aU (d:=.any) (by simp [cU])];rfl
    | n b i off =>
     have e : c=b:=e
     subst e
     right
     obtain ⟨sz1,es1,row0,hf1,hi0,ho0⟩:=xE hg
     have hf1' : f c=.blk sz0 es0:=hf
     rw [hf1'] at hf1
     cases hf1
     have hdd : cU f (.n c i off)=(c,.blk sz0 (br es0 i off 1 [.any])):=by simp only [cU,hf1']
     have hlt : off < row0.length:=(x0c.1 ho0).1
     refine .inl ⟨sz0,br es0 i off 1 [.any],aU (by rw [hdd];simp),?_⟩
     rcases ho.roots c sz0 es0 hc hf1' with ⟨e0,_⟩ | ⟨hω,h0,vs,T,h1,h2,h3,h4,h5⟩
     ·rw [e0] at hi0;simp at hi0
     ·refine .inr ⟨hω,h0,vs,T,(hk _ _ hω (by simp)).trans h1,h2,by rw [fp];exact h3,fJ h4 hi0 (by omega) rfl,fun i' r off' d hi hr=>?_⟩
      rcases jI hi0 (show off + 1 <= row0.length by omega) rfl hi hr with ⟨rfl,g1,g2,g3⟩ | ⟨g1,r0,g2,g3⟩
      ·have : off'=off:=by omega
       subst this
       simp at g3
       subst g3
       obtain ⟨v,k1,k2⟩:=h5 i' row0 off' _ hi0 ho0
       exact ⟨v,k1,by simp [cE,af]⟩
      ·obtain ⟨v,k1,k2⟩:=h5 i' r0 off' d g2 g3
       exact ⟨v,k1,cE.frame k2 (Mem.le_refl _) ⟨rfl,fun e=>⟨e,hk _ _ e (by
        intro h;cases h
        exact g1 ⟨rfl,by omega,by omega⟩)⟩⟩⟩
   ·left
    rcases bV (f:=f) (ks:=[]) (hlk c e) with h1 | h1
    ·exact .inl h1
    ·exact .inr ⟨h1,fun q hq=>⟨rfl,fun e'=>⟨e',hk _ _ e' (by rintro rfl;exact e hq.symm)⟩⟩⟩
  ·by_cases e : c=p.root
   ·rw [e,hf];rfl
   ·rcases bV (f:=f) (ks:=[]) (hlk c e) with h1 | h1
    ·rw [hB] at h1;cases h1
    ·rw [<- h1];exact hB
theorem SR.newRow0 (h : SR F nt S L w0 M0 f M a w) {sz : Nat} {es' : List (List D)} {v : Value} (hu : ∀ e ∈ es',e.length=sz /\ ∀ c ∈ e,bG c=true) (hb : Bel w w') (hn : gz F M w w' sz es' v) {t b' : Nat} (ht : t < nt) (hb0 : 10000 <= b') (hL : L b'=none) :
  SR F nt S L w0 M0 (eff [(t,.ref (.r b') 0 es'.length),(b',.blk sz es')] [(b',true)] f) M (a.put (some t) v) w':=by
 obtain ⟨B,o,T,us,cap,rfl,hB,hh,hcap,⟨hlen,hmc⟩,hrep⟩:=hn
 have hle : o + es'.length * sz <= us.length:=by
  have:=x0s sz hcap
  omega
 exact h.makeAt (t:=t) (b:=b') (B:=B) (o:=o) (bs:=[]) (es:=es') (sz:=sz) (src:=fun _ _=>none) (vs:=us) (T:=T) (d:=.ref (.r b') 0 es'.length) (v:=.slice (some ⟨B,o,none⟩) es'.length cap) ht hb0 hL hb hB hh hle (fun e he=>(hu e he).1)
  (fun i r off c hi hr=>by
   obtain ⟨u,k1,k2⟩:=hrep i r off c hi hr
   exact ⟨u,k1,.inl ⟨dR ((hu r (x0d hi)).2 c (x0d hr)),k2⟩⟩) (fun _ _ _ _ _ e=>(by cases e)) (fun _ _ _ e=>(by cases e))
  (fun ρ M e=>by
   rw [aA rfl]
   simp only [aC,e]
   exact .inr ⟨cap,by simp,hcap,by simpa using hlen,hmc⟩)
theorem ur {b : Option Nat} {v : Value} (h : isO d=false) : Dm F M w b d v ↔ af F M d v:=by
 cases d <;> first | exact Iff.rfl | (simp [isO] at h)
theorem tV (h : isV d=true) : isO d=false:=by
 cases d <;> first | rfl | (simp [isV] at h)
theorem gS (hO : Own F L New f M a w ρ ω) {p : Pa} {k n sz : Nat} {es : List (List D)} {v : Value} (hg : a8 f p=some (sz,es)) (hkn : k + n <= es.length) (hv : aC F M ρ (.ref p k n) v) (hfl : ∀ e ∈ (es.drop k).take n,∀ c ∈ e,isO c=false) :
  (∃ A,v=.slice A 0 0 /\ n=0) \/ ∃ (cap : Nat) (us : List Value) (T : TypeId),v=.slice (some ⟨(ρ p).blk,(ρ p).base + k * sz,none⟩) n cap /\ (n <= cap /\ cap <= 9223372036854775807) /\ (ρ p).base + k * sz + cap * sz <= (ρ p).len /\ ω (ρ p).blk=some p /\ (ρ p).sz=sz /\
   w.heap[(ρ p).blk]? = some (.cells us.toArray T (0,0)) /\ us.length=(ρ p).len /\ (∀ e ∈ es,e.length=sz) /\
   (∀ i r off d,((es.drop k).take n)[i]? = some r -> r[off]? = some d -> ∃ u,us[(ρ p).base + k * sz + i * sz + off]? = some u /\ af F M d u):=by
 have hp:=cd hO hg
 obtain ⟨hpath,_⟩:=hO.get hp hg
 simp only [aC] at hv
 rcases hv with ⟨h0,A,hv⟩ | ⟨cap,hv,hcap,hcl,hmc⟩
 ·exact .inl ⟨A,hv,h0⟩
 ·rcases hpath with ⟨e0,e1,e2,e3⟩ | ⟨hω,g0,us,T,g1,g2,g3,g4,g5⟩
  ·have hn0 : n=0:=by rw [e0] at hkn;simp at hkn;omega
   have hc0 : cap=0:=by
    rw [e1,e2] at hcl
    rcases x0V cap with h | h
    ·exact h
    ·have:=Nat.mul_pos (show 0 < k + cap by omega) e3;omega
   subst hc0
   exact .inl ⟨_,by rw [hv,hn0],hn0⟩
  ·have e1 : (k + cap) * sz=k * sz + cap * sz:=x0C _ _ _
   rw [g0,e1] at hcl
   refine .inr ⟨cap,us,T,by rw [hv,g0],⟨hcap,hmc⟩,by omega,hω,g0,g1,g2,g4,fun i r off d h1 h2=>?_⟩
   have hin : i < n:=by have:=(x0c.1 h1).1;simp at this;omega
   have hO':=hfl r (x0d h1) d (x0d h2)
   rw [x0D hin,x0w] at h1
   obtain ⟨u,k1,k2⟩:=g5 (k + i) r off d h1 h2
   refine ⟨u,?_,?_⟩
   ·rw [<- k1,x0C];congr 1;omega
   ·cases p with
    | r b =>
     have k2' : cE F M ω ρ w b (k + i) off d u:=k2
     rwa [bC hO'] at k2'
    | n b i' o'=>exact k2
theorem SR.fillN (h : SR F nt S L w0 M0 f M a w) (ho : Own F L (fun k=>S k \/ w0.heap.size <= k) f M a w ρ ω) {b sz0 i0 o0 sz : Nat} {es0 es es' : List (List D)} {row0 : List D} (hf : f b=.blk sz0 es0) (hi0 : es0[i0]? = some row0) (ho0 : row0[o0]? = some (.own sz es)) (hlen : es'.length=es.length)
  (hch : Ch S w0 w') (hsz : w.heap.size <= w'.heap.size) (hholds : ∀ p v,M p=some v -> w'.cell? p=some v) (hnew : cm ω ρ w' (.n b i0 o0) sz es' (fun _ _ d v=>af F M d v)) (hk : ∀ k q,ω k=some q -> q ≠ .n b i0 o0 -> w'.heap[k]? = w.heap[k]?) :
  SR F nt S L w0 M0 (eff [(b,.blk sz0 (br es0 i0 o0 1 [.own sz es']))] [] f) M a w' where
 hnt:=h.hnt
 size:=h.size
 defers:=h.defers
 ch:=hch
 holds:=hholds
 ext:=h.ext
 fresh:=h.fresh
 own:=⟨ρ,ω,ho.setN hf hi0 ho0 hlen hsz (Mem.le_refl _) ho.apart hnew hk⟩
theorem xg {dst : Option Nat} {b : Nat} {x : D} : (match dst with | some t=>eff [(t,D.tup [])] [] (eff [(b,x)] [] f) | none=>eff [(b,x)] [] f)=eff (mD dst++[(b,x)]) [] f:=by
 cases dst with
 | none=>rfl
 | some t =>
  funext s
  unfold eff
  by_cases q : s=t
  ·subst q
   simp [mD,x0l]
  ·have q1 : (s == t)=false:=by simpa using q
   simp only [mD,x1I,x1R,x0l,q1,x0X,aL,List.any_nil,x0k,if_false]
theorem wg {dst : Option Nat} (hC : ck P F C) (h : SR F nt S L w0 M0 f M a w) (hp : ∀ t,o.dst=some t -> t < nt) {g fi : Nat} {x : Opd} {xs : List Opd} {y : Operand} {ys : List Operand} {ts : Array TypeId} (ho : o.op=.call { callee:=.value (.func fi),args:=⟨y::ys⟩,argTypes:=ts }) (hx0 : ao F x y=true) (hx : cy F xs ys=true)
  (hg : F g=some fi) (hr : match vd f x with
  | .ref (.n b i o) k n=>k=0 /\ match f b with
   | .blk sz0 es0=>∃ row0,es0[i]? = some row0 /\ ∃ sz es,row0[o]? = some (.own sz es) /\ es.length=n /\ (∀ x ∈ xs,isV (vd f x)=true) /\ ∃ es' : List (List D),es'.length=es.length /\ (∀ e ∈ es',e.length=sz /\ ∀ c ∈ e,aK c=true) /\
     C g (.own sz es::xs.map (vd f)) .any [.own sz es',.nilp] /\ K (mD dst++[(b,.blk sz0 (br es0 i o 1 [.own sz es']))]) []
   | _=>False
  | _=>False) (hdst : dst=o.dst:=by rfl) : o.wp P a w (PostX F nt S L w0 M0 f K) Q:=by
 split at hr
 ·rename_i b i0 o0 k n hvx
  obtain ⟨rfl,hr⟩:=hr
  split at hr
  ·rename_i sz0 es0 hf
   obtain ⟨row0,hi0,sz,es,ho0,rfl,hxs,es',hl,hu,hc,hK⟩:=hr
   have hrun : (execOp a.eval o).run P w=(callFunc fi (a.eval y::ys.map a.eval).toArray).run P w:=by
    simp only [execOp,ho,resolve,Act.eval,Deferred.ofValue,Sem.run_bind,Sem.run_pure,Result.andThen_ok,invoke]
    congr 2
    rw [Array.append_empty,x1z]
    apply Array.ext'
    simp
    cases y <;> simp [Act.eval]
   obtain ⟨ρ,ω,hO⟩:=h.own
   have hb:=hO.big hf
   have hv:=hO.opd hx0
   rw [hvx,aA rfl] at hv
   have hgp : a8 f (.n b i0 o0)=some (sz,es):=by simp [a8,hf,hi0,ho0]
   have hpath : cm ω ρ w (.n b i0 o0) sz es (fun _ _ d v=>af F M d v):=(hO.get (p:=.n b i0 o0) hb hgp).1
   have hnoO : ∀ e ∈ (es.drop 0).take es.length,∀ c ∈ e,isO c=false:=by
    intro e he c hc'
    rw [List.drop_zero,x1d] at he
    rcases hpath with ⟨e0,_⟩ | ⟨_,_,vs,T,_,_,_,_,h5⟩
    ·rw [e0] at he;cases he
    ·obtain ⟨i,hi⟩:=x1k.1 he
     obtain ⟨j,hj⟩:=x1k.1 hc'
     obtain ⟨u,_,h6⟩:=h5 i e j c hi hj
     cases c <;> first | rfl | (simp [af] at h6)
   have hrep : aB F M (xs.map (vd f)) (ys.map a.eval):=by
    have h1:=hJ h hx (by rw [x0g];exact hxs)
    rwa [x0j (g:=vd f) fun x hx'=>by unfold dpv;exact (jA (hxs x hx')).1] at h1
   have hS:=hC.runsS g fi sz es _ es' hg hc M w _ h.holds hrep
   have fin : ∀ w',SR F nt S L w0 M0 (eff [(b,.blk sz0 (br es0 i0 o0 1 [.own sz es']))] [] f) M a w' -> PostX F nt S L w0 M0 f K (a.put o.dst (.tuple #[])) w':=fun w' hs=>by
    refine ⟨_,_,M,hK,?_⟩
    rw [<- xg,hdst]
    cases hd : o.dst with
    | none=>simpa [Act.put] using hs
    | some t=>exact hs.put (hp t hd) fun _ _ _=>by rw [aA rfl];simp [aC,af,aB]
   unfold Oper.wp
   rw [hrun,cF (hC.body g fi hg),Oper.upon_enter]
   rcases gS hO hgp (by omega) hv hnoO with ⟨A,hv,hn0⟩ | ⟨cap,us,T,hv,⟨hcap,hmc⟩,hcl,hω,g0,g1,g2,g4,g5⟩
   ·have e : es=[]:=x0M hn0
    have e' : es'=[]:=x0M (by rw [hl,e];rfl)
    rw [hv]
    refine (hS.1 e A).mono ?_
    rintro e0 w' ⟨rfl,hw⟩
    have h2:=h.grow hw
    refine fin w' (h.fillN hO hf hi0 ho0 hl h2.ch hw.size h2.holds ?_ (fun k q hk _=>hw.block k (hO.lt _ _ hk)))
    rw [e']
    rw [e] at hpath
    exact hpath.frame (ω':=ω) rfl (fun e'=>⟨e',hw.block _ (hO.lt _ _ e')⟩) (fun _ _ _ _ _ _ _ x=>x)
   ·rw [hv]
    simp only [List.drop_zero,x1d,x1A,x0W] at g5 hcl ⊢
    have hMb : ∀ p : Addr,p.block=(ρ (.n b i0 o0)).blk -> M p=none:=fun p hp=>hO.apart p (.n b i0 o0) (by rw [hp];exact hω)
    refine (hS.2 (ρ (.n b i0 o0)).blk (ρ (.n b i0 o0)).base T us cap hMb (hO.lt _ _ hω) g1 hcap (by rw [g2];exact hcl) g4 g5).mono ?_
    rintro e0 w' ⟨rfl,us',q1,q2,q3,q4⟩
    have hnew:=hO.new _ _ hω
    have hh : ∀ p v,M p=some v -> w'.cell? p=some v:=fun p v hp=>by
     have hne : p.block ≠ (ρ (.n b i0 o0)).blk:=fun e=>by rw [hMb p e] at hp;cases hp
     have h8:=h.holds p v hp
     rw [World.cell?_of_block (q4.block _ (World.block_lt_of_cell? w p h8) hne)]
     exact h8
    refine fin w' (h.fillN hO hf hi0 ho0 hl (h.ch.trans q4 (fun k hk e=>by rcases hnew with h7 | h7;rw [e];exact h7;omega)) q4.size hh (.inr ⟨hω,g0,us',T,q1,by rw [q2,g2],?_,fun e he=>(hu e he).1,fun i r off d h1 h2=>q3 i r off d h1 h2⟩) (fun k q hk hq=>q4.block k (hO.lt _ _ hk) (by rintro rfl;rw [hω] at hk;cases hk;exact hq rfl)))
    rw [hl]
    have:=x0s sz hcap
    omega
  ·exact hr.elim
 ·exact hr.elim
theorem wc (hC : ck P F C) (h : SR F nt S L w0 M0 f M a w) {t : Nat} (hd : o.dst=some t) (ht : t < nt) (hL : L (rt t 0)=none) {g fi : Nat} {x : Opd} {xs : List Opd} {y : Operand} {ys : List Operand} {ts : Array TypeId} (ho : o.op=.call { callee:=.value (.func fi),args:=⟨y::ys⟩,argTypes:=ts }) (hx0 : ao F x y=true) (hx : cy F xs ys=true)
  (hg : F g=some fi) (hr : match vd f x with
   | .ref p k n=>match a8 f p with
    | some (sz,es)=>k + n <= es.length /\ p.root ≠ rt t 0 /\ 0 < sz /\ (∀ e ∈ (es.drop k).take n,∀ c ∈ e,bG c=true) /\ (∀ x ∈ xs,mG f p.root x) /\ ∃ es' : List (List D),(∀ e ∈ es',e.length=sz /\ ∀ c ∈ e,bG c=true) /\
      C g (.own sz ((es.drop k).take n)::xs.map (lA f)) .any [.own sz es',.nils,.nils] /\ K [(t,.ref (.r (rt t 0)) 0 es'.length),(rt t 0,.blk sz es'),cU f p] [(rt t 0,true)]
    | none=>False
   | _=>False) : o.wp P a w (PostX F nt S L w0 M0 f K) Q:=by
 split at hr
 ·rename_i p k n hvx
  split at hr
  ·rename_i sz es hgp
   obtain ⟨hkn,hpt,hsz,hfl,harg,es',hu,hc,hK⟩:=hr
   have hrun : (execOp a.eval o).run P w=(callFunc fi (a.eval y::ys.map a.eval).toArray).run P w:=by
    simp only [execOp,ho,resolve,Act.eval,Deferred.ofValue,Sem.run_bind,Sem.run_pure,Result.andThen_ok,invoke]
    congr 2
    rw [Array.append_empty,x1z]
    apply Array.ext'
    simp
    cases y <;> simp [Act.eval]
   obtain ⟨ρ,ω,hO⟩:=h.own
   have hp:=cd hO hgp
   have hv:=hO.opd hx0
   rw [hvx,aA rfl] at hv
   have hargs : ∀ b : Option Nat,(∀ B,b=some B -> ω B=some p) -> mc F M w b (xs.map (lA f)) (ys.map a.eval):=by
    intro bo hbo
    have hx':=hx
    simp only [cy,x0a,x0n,x0g] at hx'
    refine ⟨by simpa using hx'.1,fun i d v h1 h2=>?_⟩
    rw [x0B,x0m] at h1 h2
    obtain ⟨x1,h1,rfl⟩:=h1
    obtain ⟨y1,h2,rfl⟩:=h2
    have hok : ao F x1 y1=true:=hx'.2 (x1,y1) (x1k.2 ⟨i,by rw [x1u];exact ⟨h1,h2⟩⟩)
    have hE:=harg x1 (x0d h1)
    have hV:=hO.opd hok
    have hP:=fun hh=>h.opd hok hh
    unfold mG at hE
    unfold lA
    revert hE hV hP
    generalize vd f x1=d1
    intro hE hV hP
    cases d1 <;> first | exact (ur (tV hE)).2 (hP hE) | skip
    rename_i q k1 n1
    cases q with
    | n c i o=>simp [isV] at hE
    | r c =>
     simp only at hE ⊢
     obtain ⟨rfl,hcb,hE⟩:=hE
     split at hE
     ·rename_i sz1 es1 hfc
      obtain ⟨rfl,hfl1⟩:=hE
      have hg1 : a8 f (.r c)=some (sz1,es1):=by simp [a8,hfc]
      have hq:=gS hO hg1 (by omega) hV (fun e he c hc=>by
       rw [List.drop_zero,x1d] at he
       exact dR (hfl1 e he c hc))
      show _ \/ _
      rcases hq with ⟨A,q1,q2⟩ | ⟨cap,us,T,q1,⟨q2,_⟩,q3,q4,q5,q6,q7,q8,q9⟩
      ·exact .inl ⟨x0M q2,A,q1⟩
      ·simp only [List.drop_zero,x1d,x1A,x0W] at q1 q3 q9
       refine .inr ⟨_,_,T,us,cap,q1,fun e=>?_,q6,q2,by rw [q7];exact q3,q9⟩
       have:=hbo _ e
       rw [q4] at this
       cases this
       exact hcb rfl
     ·exact hE.elim
   have hI:=hC.runsI g fi sz _ _ es' hg hc M w (ys.map a.eval) h.holds
   unfold Oper.wp
   rw [hrun,cF (hC.body g fi hg),Oper.upon_enter]
   have hWn : ((es.drop k).take n).length=n:=by simp;omega
   have hfst:=oT (f:=f) p
   have hsnd:=vk (f:=f) p
   rw [hd]
   rcases gS hO hgp hkn hv (fun e he c hc=>dR (hfl e he c hc)) with ⟨A,hv,hn0⟩ | ⟨cap,us,T,hv,⟨hcap,hmc⟩,hcl,hω,g0,g1,g2,g4,g5⟩
   ·have e : (es.drop k).take n=[]:=x0M (by omega)
    have h0:=h.leave hO hgp h.ch (x0p _) h.holds (fun _ _ _ _=>rfl)
    rw [hv]
    refine (hI.1 e A (hargs none (fun B e=>by cases e))).mono ?_
    rintro e0 w' ⟨v,rfl,hw,⟨e',A',rfl⟩ | hn⟩
    ·refine ⟨_,_,M,hK,?_⟩
     subst e'
     rw [<- kL hsnd]
     exact (h0.grow hw).nilA ht hL hsz A'
    ·refine ⟨_,_,M,hK,?_⟩
     rw [<- kL hsnd]
     exact h0.newRow0 hu hw hn ht (rt_big t 0) hL
   ·rw [hv]
    have hMb : ∀ q : Addr,q.block=(ρ p).blk -> M q=none:=fun q hq=>hO.apart q p (by rw [hq];exact hω)
    have hnew:=hO.new _ _ hω
    have hblt:=hO.lt _ _ hω
    have hrun2:=hI.2 (ρ p).blk ((ρ p).base + k * sz) T us cap (hargs (some (ρ p).blk) (fun B e=>by cases e;exact hω)) hMb hblt g1 (by rw [hWn];exact hcap) hmc (by rw [g2];exact hcl) (fun e he=>g4 e (x1r (x0K he))) g5
    rw [hWn] at hrun2
    refine hrun2.mono ?_
    have away : ∀ w' : World,Ch (fun k=>k=(ρ p).blk) w w' -> ∃ w2 : World,Bel w2 w' /\ w2.heap.size=w.heap.size /\ SR F nt S L w0 M0 (eff [cU f p] [] f) M a w2:=by
     intro w' q4
     obtain ⟨B0,hB0⟩ : ∃ B0,B0=(ρ p).blk:=⟨_,rfl⟩
     rw [<- hB0] at q4 hblt
     obtain ⟨ob,q1⟩ : ∃ ob,w'.heap[B0]? = some ob:=⟨_,x1e (x1N hblt q4.size)⟩
     obtain ⟨w2,hw2⟩ : ∃ w2 : World,w2={ w with heap:=w.heap.setIfInBounds B0 ob }:=⟨_,rfl⟩
     have y1 : ∀ k,k ≠ B0 -> w2.heap[k]? = w.heap[k]?:=fun k hk=>by
      rw [hw2];simp only [Array.getElem?_setIfInBounds];rw [if_neg (Ne.symm hk)]
     have y2 : w2.heap[B0]? = some ob:=by
      rw [hw2];simp only [Array.getElem?_setIfInBounds];simp [hblt]
     have y3 : w2.heap.size=w.heap.size:=by rw [hw2];simp
     have c2 : Ch (fun k=>k=B0) w w2:=⟨by rw [hw2],by rw [hw2],by rw [hw2],Nat.le_of_eq y3.symm,fun k _ hk=>y1 k hk,by rw [hw2];exact x0p _⟩
     have hb2 : Bel w2 w':=⟨by rw [q4.os,hw2],by rw [q4.tape,hw2],by rw [q4.output,hw2],by rw [y3];exact q4.size,fun k hk=>by
      by_cases e : k=B0
      ·subst e;rw [y2,q1]
      ·rw [y1 k e];exact q4.block k (by rw [<- y3];exact hk) e,by have:=q4.drawn;rw [hw2];exact this⟩
     have hch2 : Ch S w0 w2:=h.ch.trans c2 (fun k hk e=>by rw [e,hB0];rw [e,hB0] at hk;rcases hnew with h7 | h7;exact h7;omega)
     have hh2 : ∀ p v,M p=some v -> w2.cell? p=some v:=fun q v hq=>by
      have hne : q.block ≠ B0:=fun e=>by rw [hMb q (by rw [e,hB0])] at hq;cases hq
      rw [World.cell?_of_block (y1 _ hne)]
      exact h.holds q v hq
     exact ⟨w2,hb2,y3,h.leave (w':=w2) hO hgp hch2 (Nat.le_of_eq y3.symm) hh2 (fun k' q hk' hq=>y1 k' (by rintro rfl;rw [hB0,hω] at hk';cases hk';exact hq rfl))⟩
    rintro e0 w' ⟨v,rfl,q4,⟨e',A',rfl⟩ | ⟨o2,cap2,T2,us',rfl,q1,hl,hmc2,hcl2,q3⟩ | hn⟩
    ·obtain ⟨w2,hb2,_,h0⟩:=away w' q4
     refine ⟨_,_,M,hK,?_⟩
     subst e'
     rw [<- kL hsnd]
     exact (h0.grow hb2).nilA ht hL hsz A'
    ·have hchS : Ch S w0 w':=h.ch.trans q4 (fun k hk e=>by rcases hnew with h7 | h7;rw [e];exact h7;omega)
     have hh : ∀ p v,M p=some v -> w'.cell? p=some v:=fun q v hq=>by
      have hne : q.block ≠ (ρ p).blk:=fun e=>by rw [hMb q e] at hq;cases hq
      have h8:=h.holds q v hq
      rw [World.cell?_of_block (q4.block _ (World.block_lt_of_cell? w q h8) hne)]
      exact h8
     have ht10 : t < 10000:=x1N ht h.hnt
     have hrb : 10000 <= rt t 0:=rt_big t 0
     have hpr : p.root ≠ t:=by omega
     have hrt : rt t 0 ≠ t:=by omega
     obtain ⟨dq,hdq⟩ : ∃ dq,dq=cU f p:=⟨_,rfl⟩
     rw [<- hdq] at hfst hsnd
     have lk : ∀ s,s ≠ t -> s ≠ rt t 0 -> s ≠ p.root -> [(t,D.ref (.r (rt t 0)) 0 es'.length),(rt t 0,.blk sz es'),dq].lookup s=none:=fun s s1 s2 s3=>by
      have e1 : (s == t)=false:=by simpa using s1
      have e2 : (s == rt t 0)=false:=by simpa using s2
      obtain ⟨c,y⟩:=dq
      simp only at hfst
      have e3 : (s == c)=false:=by rw [hfst];simpa using s3
      simp only [x0l,e1,e2,e3,x0X]
     have lkp : [(t,D.ref (.r (rt t 0)) 0 es'.length),(rt t 0,.blk sz es'),dq].lookup p.root=some dq.2:=by
      have e1 : (p.root == t)=false:=by simpa using hpr
      have e2 : (p.root == rt t 0)=false:=by simpa using hpt
      obtain ⟨c,y⟩:=dq
      simp only at hfst
      subst hfst
      simp only [x0l,e1,e2,beq_self_eq_true]
     have key:=h.app_core hO (f':=eff [(t,.ref (.r (rt t 0)) 0 es'.length),(rt t 0,.blk sz es'),dq] [(rt t 0,true)] f) (w':=w') (t:=t) (b:=rt t 0) (sz:=sz) (n:=es'.length) (m:=0) (rows:=es') (rowsY:=[]) (src:=some (p,k)) (inp:=true) (c2:=none)
      (l:=⟨(ρ p).blk,o2,sz,us'.length⟩) (nb:=none) (v:=.slice (some ⟨(ρ p).blk,o2,none⟩) es'.length cap2) ht hL rfl rfl (by simpa [aO] using hpt) (by simp) (fun c e=>by cases e)
      (aU (by simp)) (by
       rw [x02]
       refine aU ?_
       have e1 : (rt t 0 == t)=false:=by simpa using hrt
       simp [x0l,e1])
      (fun s hs hst=>bN (lk s hst (by omega) (by omega)))
      (fun c hc hcb hcs _=>bV (lk c (by omega) hcb (by simpa [aO] using fun e : c=p.root=>hcs (by simp [aO,e]))))
      (fun c e=>by cases e)
      (fun c k' e=>by
       cases e
       have:=aU (f:=f) (ks:=[(rt t 0,true)]) lkp
       rw [hdq] at this ⊢
       exact this ▸ rfl)
      (fun c i o k' e=>by
       cases e
       obtain ⟨sz0,es0,row0,z1,z2,z3⟩:=xE hgp
       refine ⟨sz0,es0,z1,?_,row0,z2,(x0c.1 z3).1⟩
       have:=aU (f:=f) (ks:=[(rt t 0,true)]) lkp
       rw [hdq] at this
       simp only [cU,z1] at this
       rw [hdq]
       simp only [cU,z1]
       exact this)
      (fun k e=>by cases e) q4.size hchS hh
      (fun k' q hk' hq=>q4.block k' (hO.lt _ _ hk') (by rintro rfl;rw [hω] at hk';cases hk';exact hq rfl rfl))
      (by simp only [aC,if_true];exact .inr ⟨cap2,by simp,by simpa using hl,by simpa using hcl2,hmc2⟩)
      (.inr ⟨.inr ⟨rfl,p,k,rfl,hω,rfl⟩,rfl,us',T2,q1,rfl,(by
       have:=x0s sz hl
       simp only [x0W]
       omega),fun e he=>(hu e (by simpa using he)).1,fun i r off d h1 h2=>by
        obtain ⟨u,k1,k2⟩:=q3 i r off d h1 h2
        refine ⟨u,k1,?_⟩
        have hO':=dR ((hu r (x0d h1)).2 d (x0d h2))
        cases p with
        | r c=>show cE F M ω ρ w c _ off d u;rw [bC hO'];exact k2
        | n c i' o'=>exact ⟨hO',k2⟩,fun i r off d h1 _=>by simp at h1⟩)
     refine ⟨_,_,M,hK,?_⟩
     rw [hdq] at key
     exact key
    ·obtain ⟨w2,hb2,y3,h0⟩:=away w' q4
     have hn2 : gz F M w2 w' sz es' v:=by
      obtain ⟨B,o,T,us,cap,z1,z2,z3⟩:=hn
      exact ⟨B,o,T,us,cap,z1,by rw [y3];exact z2,z3⟩
     refine ⟨_,_,M,hK,?_⟩
     rw [<- kL hsnd]
     exact h0.newRow0 hu hb2 hn2 ht (rt_big t 0) hL
  ·exact hr.elim
 ·exact hr.elim
end
end Go.Gv

namespace Go.Gv
section
variable {P : Program} {F : Fid} {C : Nat -> List D -> D -> List D -> Prop} {nt : Nat} {S : Nat -> Prop} {L : Nat -> Option Loc} {w0 : World} {M0 : Mem} {f : Nat -> D} {M : Mem} {a : Act} {w : World} {o : Oper} {d : D} {Q : Exit -> Act -> World -> Prop} {ρ : Pa -> Loc} {ω : Nat -> Option Pa} {New : Nat -> Prop} {K : List (Nat × D) -> List (Nat × Bool) -> Prop}
def c9 (ω : Nat -> Option Pa) (c : Nat) : Nat -> Option Pa:=fun k=>match ω k with
 | some p=>if p.root=c then some p else none
 | none=>none
theorem cO {c k : Nat} {p : Pa} (h : c9 ω c k=some p) : ω k=some p /\ p.root=c:=by
 unfold c9 at h
 split at h
 ·rename_i q hq
  split at h
  ·cases h
   exact ⟨hq,by assumption⟩
  ·cases h
 ·cases h
theorem nI {c k : Nat} {p : Pa} (h : ω k=some p) (hp : p.root=c) : c9 ω c k=some p:=by
 simp only [c9,h,if_pos hp]
def fcE (f : Nat -> D) (c : Nat) : Nat -> D:=fun t=>if t=c then f t else .any
theorem Own.only (h : Own F L New f M a w ρ ω) {c : Nat} (hc : 10000 <= c) : Own F L New (fcE f c) M a w ρ (c9 ω c):=by
 have hne : ∀ {t : Nat},t ≠ c -> fcE f c t=.any:=fun {t} ht=>by simp only [fcE,if_neg ht]
 have hcc : fcE f c c=f c:=by simp [fcE]
 refine h.step (ks:=[]) (fun p hp=>absurd rfl hp) (Mem.le_refl _) (x0p _) (fun t ht=>.inl (.inl (hne (by omega)))) (fun b hb=>?_) (fun k p e=>.inl ⟨p,(cO e).1⟩) (fun p q e=>h.apart p q (cO e).1) (fun b l hb hl hB=>?_)
 ·by_cases e : b=c
  ·subst e
   exact .inl (.inr ⟨hcc,fun p hp=>⟨rfl,fun hw=>⟨nI hw hp,rfl⟩⟩⟩)
  ·exact .inl (.inl (by rw [hne e];rfl))
 ·by_cases e : b=c
  ·subst e
   rw [hcc] at hB
   exact ⟨rfl,hB⟩
  ·rw [hne e] at hB;cases hB
theorem oW {c : Nat} (_ : Nat) : a8 (fcE f c) (.r c)=a8 f (.r c):=by simp [a8,fcE]
theorem SR.frz (h : SR F nt S L w0 M0 f M a w) {t : Nat} (ht : t < nt) {c k n : Nat} (hc : 10000 <= c) {v : Value} (hv : ∀ ρ ω,Own F L (fun k=>S k \/ w0.heap.size <= k) f M a w ρ ω -> aC F M ρ (.ref (.r c) k n) v) (hk : aR f (.ref (.r c) k n)) :
  ∃ M',SR F nt S L w0 M0 (eff [(t,dp1 f (.ref (.r c) k n)),(c,.any)] [] f) M' (a.put (some t) v) w:=by
 obtain ⟨ρ,ω,hO⟩:=h.own
 have hnt:=h.hnt
 have hsz:=h.size
 have hO1:=hO.only hc
 have e1 : a8 (fcE f c) (.r c)=a8 f (.r c):=oW 0
 have hk1 : aR (fcE f c) (.ref (.r c) k n):=by simp only [aR,e1] at hk ⊢;exact hk
 have ed : dp1 (fcE f c) (.ref (.r c) k n)=dp1 f (.ref (.r c) k n):=by simp only [dp1,e1]
 have hr:=kJ hO1 (hv ρ ω hO) hk1
 rw [ed] at hr
 have hle : M.le (bJ (c9 ω c) M w):=cC hO1
 have hE:=hO.erase hc
 have hpure : isX (dp1 f (.ref (.r c) k n))=false /\ isB (dp1 f (.ref (.r c) k n))=false /\ ∀ ρ',aC F (bJ (c9 ω c) M w) ρ' (dp1 f (.ref (.r c) k n)) v:=by
  simp only [dp1] at hr ⊢
  split
  ·rename_i e
   rw [e] at hr
   exact ⟨rfl,rfl,fun _=>hr⟩
  ·rename_i e
   rw [e] at hr
   exact ⟨rfl,rfl,fun _=>hr⟩
 generalize dp1 f (.ref (.r c) k n)=x at *
 have hf' : ∀ s,eff [(t,x),(c,.any)] [] f s=if s=t then x else fbE f c s:=fun s=>by
  unfold eff fbE
  by_cases e : s=t
  ·subst e;simp
  ·have b1 : (s == t)=false:=by simpa using e
   by_cases e2 : s=c
   ·subst e2
    simp only [List.lookup,b1,beq_self_eq_true,if_neg e,if_true]
   ·have b2 : (s == c)=false:=by simpa using e2
    simp only [List.lookup,b1,b2,if_neg e,if_neg e2]
    simp [aL]
 refine ⟨bJ (c9 ω c) M w,⟨hnt,by simp [Act.put,hsz],by simp [Act.put,h.defers],h.ch,cq h.holds,Mem.le_trans h.ext hle,fun p h1 h2=>?_,ρ,j6 ω c,?_⟩⟩
 ·by_cases e : M p=none
  ·unfold bJ at h2
   split at h2
   ·rename_i q hq
    exact hO.new _ _ (cO hq).1
   ·exact absurd e h2
  ·exact h.fresh p h1 e
 ·refine hE.step (ks:=[]) (fun p hp=>absurd rfl hp) hle (x0p _) (fun s hs=>?_) (fun b hb=>?_) (fun k p e=>.inl ⟨p,e⟩) (fun p q e=>?_) (fun b l hb hl hB=>?_)
  ·rw [hf']
   by_cases e : s=t
   ·subst e
    rw [if_pos rfl]
    refine .inr (.inr ⟨v,by simp [Act.put,hsz,ht],?_⟩)
    rw [hf',if_pos rfl,aA hpure.1]
    exact hpure.2.2 ρ
   ·rw [if_neg e]
    refine .inl (.inr ⟨rfl,?_,by simp [aL]⟩)
    simp [Act.put,Array.getElem?_setIfInBounds,Ne.symm e]
  ·have : b ≠ t:=by omega
   rw [hf',if_neg this]
   exact .inl (.inr ⟨rfl,fun p hp=>⟨rfl,fun hw=>⟨hw,rfl⟩⟩⟩)
  ·obtain ⟨e2,e3⟩:=eJ e
   have e4 : c9 ω c p.block=none:=by
    simp only [c9,e2,if_neg e3]
   simp only [bJ,e4]
   exact hO.apart p q e2
  ·have : b ≠ t:=by omega
   rw [hf',if_neg this] at hB
   exact ⟨rfl,hB⟩
theorem uC (h : SR F nt S L w0 M0 f M a w) {t : Nat} (hd : o.dst=some t) (ht : t < nt) {x : Opd} {x' : Operand} (ho : o.op=.move x' \/ o.op=.assign x') (hx : ao F x x'=true)
  (hr : match vd f x with
   | .ref (.r c) k n=>aR f (.ref (.r c) k n) /\ K [(t,dp1 f (.ref (.r c) k n)),(c,.any)] []
   | d=>isS d=true /\ K [(t,d)] []) : o.wp P a w (PostX F nt S L w0 M0 f K) Q:=by
 have hrun : (execOp a.eval o).run P w=.ok (.value (a.eval x')) w:=by rcases ho with ho | ho <;> simp [execOp,ho]
 split at hr
 ·rename_i c k n ex
  have hc : 10000 <= c:=by
   obtain ⟨ρ,ω,hO⟩:=h.own
   have h1:=hr.1
   simp only [aR] at h1
   split at h1
   ·rename_i e;exact cd hO e
   ·exact h1.elim
  obtain ⟨M',hs⟩:=h.frz ht hc (v:=a.eval x') (fun ρ ω hO=>by have:=hO.opd hx;rwa [ex,aA rfl] at this) hr.1
  exact jv hrun (by rw [hd];exact ⟨_,_,M',hr.2,hs⟩)
 ·exact postX_val hd hrun hr.2 (h.put ht (fun ρ ω hO=>hO.opd hx))
end
end Go.Gv

namespace Go.Gv
section
variable {P : Program} {F : Fid} {C : Nat -> List D -> D -> List D -> Prop} {nt : Nat} {S : Nat -> Prop} {L : Nat -> Option Loc} {w0 : World} {M0 : Mem} {f : Nat -> D} {M : Mem} {a : Act} {w : World} {o : Oper} {d : D} {Q : Exit -> Act -> World -> Prop} {ρ : Pa -> Loc} {ω : Nat -> Option Pa} {New : Nat -> Prop} {K : List (Nat × D) -> List (Nat × Bool) -> Prop}
def nq : D -> Prop
 | .any=>True
 | .nils=>True
 | .ref _ _ _=>True
 | .blk _ es=>∀ r ∈ es,∀ c ∈ r,bG c=true
 | d=>bG d=true
theorem vt {d : D} {v : Value} {M' : Mem} (hf : nq d) (hn : d ≠ .any) (hb : isB d=false) (h : bA F M ρ d v) : bA F M' ρ d v:=by
 cases d <;> simp only [nq] at hf <;> first | exact h | (simp [bG] at hf;done) | (simp [isB] at hb;done) | (rw [aA rfl] at h ⊢;simp only [aC] at h ⊢;exact gR hf h) | exact absurd rfl hn
theorem SR.flat (h : SR F nt S L w0 M0 f M a w) (hf : ∀ t,nq (f t)) (hsl : ∀ t,t < 10000 -> isB (f t)=false) : SR F nt S L w0 (fun _=>none) f (fun _=>none) a w where
 hnt:=h.hnt
 size:=h.size
 defers:=h.defers
 ch:=h.ch
 holds p v e:=by cases e
 ext:=Mem.le_refl _
 fresh p _ e:=absurd rfl e
 own:=by
  obtain ⟨ρ,ω,hO⟩:=h.own
  refine ⟨ρ,ω,⟨fun t ht=>?_,fun b sz es hb e=>?_,fun b kt et ks vs hb e=>?_,hO.lt,hO.new,fun _ _ _=>rfl,hO.lent⟩⟩
  ·rcases hO.slots t ht with h1 | ⟨v,h1,h2⟩
   ·exact .inl h1
   ·by_cases e : f t=.any
    ·exact .inl e
    ·exact .inr ⟨v,h1,vt (hf t) e (hsl t ht) h2⟩
  ·have h1:=hO.roots b sz es hb e
   have h2:=hf b
   rw [e] at h2
   simp only [nq] at h2
   unfold dy cm at h1 ⊢
   rcases h1 with h1 | ⟨h1,h3,vs,T,g1,g2,g3,g4,g5⟩
   ·exact .inl h1
   ·refine .inr ⟨h1,h3,vs,T,g1,g2,g3,g4,fun i r off d e1 e2=>?_⟩
    obtain ⟨v,k1,k2⟩:=g5 i r off d e1 e2
    have hf1:=h2 r (x0d e1) d (x0d e2)
    have k3 : cE F M ω ρ w b i off d v:=k2
    rw [bC (dR hf1)] at k3
    refine ⟨v,k1,?_⟩
    show cE F (fun _=>none) ω ρ w b i off d v
    rw [bC (dR hf1)]
    exact gR hf1 k3
  ·have h2:=hf b
   rw [e] at h2
   simp [nq,bG] at h2
end
end Go.Gv

namespace Go.Gv
open Go.RowKit
section
variable {P : Program} {F : Fid} {C : Nat -> List D -> D -> List D -> Prop} {nt : Nat} {S : Nat -> Prop} {L : Nat -> Option Loc} {w0 : World} {M0 : Mem} {f : Nat -> D} {M M' : Mem} {a : Act} {w w' : World} {o : Oper} {d : D} {Q : Exit -> Act -> World -> Prop} {ρ ρ' : Pa -> Loc} {ω ω' : Nat -> Option Pa} {New : Nat -> Prop} {K : List (Nat × D) -> List (Nat × Bool) -> Prop}
def Pa.to (c : Nat) : Pa -> Pa
 | .r _=>.r c
 | .n _ i o=>.n c i o
theorem Pa.to_root (c : Nat) (p : Pa) : (p.to c).root=c:=by cases p <;> rfl
theorem Pa.to_to (b c : Nat) (p : Pa) (h : p.root=b) : (p.to c).to b=p:=by cases p <;> simp only [Pa.root] at h <;> subst h <;> rfl
theorem dy.carry {b c sz : Nat} {es : List (List D)} (h : dy F M ω ρ w b sz es) (hM : M.le M') (hs : ∀ p : Pa,p.root=b -> ρ' (p.to c)=ρ p /\ (ω (ρ p).blk=some p -> ω' (ρ p).blk=some (p.to c) /\ w'.heap[(ρ p).blk]? = w.heap[(ρ p).blk]?)) : dy F M' ω' ρ' w' c sz es:=by
 have path : ∀ (p : Pa) (sz : Nat) (es : List (List D)) (R R' : Nat -> Nat -> D -> Value -> Prop),p.root=b -> cm ω ρ w p sz es R -> (∀ i r off d v,es[i]? = some r -> r[off]? = some d -> R i off d v -> R' i off d v) -> cm ω' ρ' w' (p.to c) sz es R':=by
  intro p sz es R R' hp h hR
  obtain ⟨e1,e2⟩:=hs p hp
  unfold cm at h ⊢
  rw [e1]
  rcases h with h | ⟨h1,h2⟩
  ·exact .inl h
  ·obtain ⟨g1,g2⟩:=e2 h1
   exact .inr ⟨g1,h2.frame g2 hR⟩
 unfold dy at h ⊢
 refine path (.r b) sz es _ _ rfl h (fun i r off d v k1 k2 hr=>?_)
 cases d
 case own sz2 es2 =>
  obtain ⟨h1,h2⟩:=hr
  refine ⟨?_,path (.n b i off) sz2 es2 _ _ rfl h2 (fun _ _ _ d v _ _ hr=>af.mono hM d v hr)⟩
  have:=(hs (.n b i off) rfl).1
  simp only [aC,Pa.to] at h1 this ⊢
  rw [this]
  exact h1
 all_goals exact af.mono hM _ _ hr
theorem SR.lend (h : SR F nt S L w0 M0 f M a w) (hO : Own F L (fun k=>S k \/ w0.heap.size <= k) f M a w ρ ω) {b sz : Nat} {es es' : List (List D)} (hf : f b=.blk sz es) (hb : 10000 <= b) (hω : ω (ρ (.r b)).blk=some (.r b)) {ρ1 : Pa -> Loc} {ω1 : Nat -> Option Pa}
  (hρ1 : ∀ p : Pa,p.root=b -> ρ1 (p.to aI)=ρ p) (hω1 : ∀ k q,ω1 k=some q ↔ ∃ p : Pa,ω k=some p /\ p.root=b /\ q=p.to aI)
  (hch : Ch (fun k=>∃ p,ω1 k=some p) w w') (hM : M.le M') (hfr : ∀ p,M p=none -> M' p ≠ none -> (∃ q,ω1 p.block=some q) \/ w.heap.size <= p.block) (hh : ∀ p v,M' p=some v -> w'.cell? p=some v)
  (hρ' : ρ' (.r aI)=ρ1 (.r aI)) (hl : wz F M' w' ρ' ω' aI sz es') (hnew : ∀ k p,ω' k=some p -> (∃ q,ω1 k=some q) \/ w.heap.size <= k)
  {dst : Option Nat} (ht : ∀ t,dst=some t -> t < nt) {v : Value} (hv : af F M' d v) :
  SR F nt S L w0 M0 (eff (kx dst d++[(b,.blk sz es')]) [(b,false)] f) M' (a.put dst v) w':=by
 have hS1 : ∀ k q,ω1 k=some q -> ∃ p,ω k=some p /\ p.root=b:=fun k q e=>by
  obtain ⟨p,h1,h2,_⟩:=(hω1 k q).1 e
  exact ⟨p,h1,h2⟩
 have other : ∀ k p,ω k=some p -> p.root ≠ b -> (∀ q,ω1 k ≠ some q) /\ ω' k=none /\ w'.heap[k]? = w.heap[k]?:=fun k p e hp=>by
  have h1 : ∀ q,ω1 k ≠ some q:=fun q e1=>by
   obtain ⟨p',h1,h2⟩:=hS1 k q e1
   rw [e] at h1;cases h1;exact hp h2
  refine ⟨h1,?_,hch.block k (hO.lt _ _ e) (fun ⟨q,e1⟩=>h1 q e1)⟩
  cases e2 : ω' k with
  | none=>rfl
  | some q =>
   rcases hnew k q e2 with ⟨q,e1⟩ | h2
   ·exact absurd e1 (h1 q)
   ·have:=hO.lt _ _ e;omega
 obtain ⟨ρ2,hρ2⟩ : ∃ ρ2 : Pa -> Loc,ρ2=fun p=>if p.root=b then ρ' (p.to aI) else ρ p:=⟨_,rfl⟩
 obtain ⟨ω2,hω2⟩ : ∃ ω2 : Nat -> Option Pa,ω2=fun k=>match ω' k with
  | some q=>some (q.to b)
  | none=>match ω k with
   | some p=>if p.root=b then none else some p
   | none=>none:=⟨_,rfl⟩
 have r1 : ∀ p : Pa,p.root=b -> ρ2 p=ρ' (p.to aI):=fun p hp=>by rw [hρ2];simp only [if_pos hp]
 have r2 : ∀ p : Pa,p.root ≠ b -> ρ2 p=ρ p:=fun p hp=>by rw [hρ2];simp only [if_neg hp]
 have o1 : ∀ k q,ω' k=some q -> ω2 k=some (q.to b):=fun k q e=>by rw [hω2];simp only [e]
 have o2 : ∀ k p,ω k=some p -> p.root ≠ b -> ω2 k=some p:=fun k p e hp=>by rw [hω2];simp only [(other k p e hp).2.1,e,if_neg hp]
 have o3 : ∀ k p,ω2 k=some p -> (∃ q,ω' k=some q /\ p=q.to b) \/ (ω k=some p /\ p.root ≠ b):=fun k p e=>by
  rw [hω2] at e
  simp only at e
  cases e1 : ω' k with
  | some q=>rw [e1] at e;cases e;exact .inl ⟨q,rfl,rfl⟩
  | none =>
   rw [e1] at e
   simp only at e
   cases e2 : ω k with
   | none=>rw [e2] at e;cases e
   | some p' =>
    rw [e2] at e
    simp only at e
    split at e
    ·cases e
    ·cases e;exact .inr ⟨rfl,by assumption⟩
 have hrb : ρ2 (.r b)=ρ (.r b):=by
  rw [r1 (.r b) rfl]
  show ρ' (.r aI)=_
  rw [hρ',<- hρ1 (.r b) rfl]
  rfl
 have hfb : eff (kx dst d++[(b,.blk sz es')]) [(b,false)] f b=.blk sz es':=aU (by
  cases dst with
  | none=>simp [kx]
  | some t =>
   have : (b == t)=false:=by have:=ht t rfl;have:=h.hnt;simp;omega
   simp [kx,x0l,this])
 have lk : ∀ s,s ≠ b -> dst ≠ some s -> (kx dst d++[(b,D.blk sz es')]).lookup s=none:=fun s h1 h2=>by
  have e1 : (s == b)=false:=by simpa using h1
  cases dst with
  | none=>simp only [kx,x1R,x0l,e1,x0X]
  | some t =>
   have e2 : (s == t)=false:=by simp;rintro rfl;exact h2 rfl
   simp only [kx,x1I,x1R,x0l,e1,e2,x0X]
 have hsize : (a.put dst v).tmps.size=nt:=by cases dst <;> simp [Act.put,h.size]
 refine ⟨h.hnt,hsize,by cases dst <;> simp [Act.put,h.defers],h.ch.trans hch (fun k hk ⟨q,e⟩=>?_),hh,Mem.le_trans h.ext hM,fun p h1 h2=>?_,ρ2,ω2,?_⟩
 ·obtain ⟨p,e1,_⟩:=hS1 k q e
  rcases hO.new _ _ e1 with h3 | h3
  ·exact h3
  ·omega
 ·by_cases e : M p=none
  ·rcases hfr p e h2 with ⟨q,e1⟩ | h3
   ·obtain ⟨p',e2,_⟩:=hS1 _ q e1
    exact hO.new _ _ e2
   ·exact .inr (x1h h.ch.size h3)
  ·exact h.fresh p h1 e
 ·refine hO.step (ks:=[(b,false)]) (fun p hp=>?_) hM hch.size (fun s hs=>?_) (fun c hc=>?_) (fun k p e=>?_) (fun p q e=>?_) (fun c l hc hl' hB=>?_)
  ·refine ⟨(b,false),by simp,?_⟩
   by_cases e : p.root=b
   ·cases p with
    | r x =>
     simp only [Pa.root] at e
     subst e
     exact absurd hrb hp
    | n x i off =>
     simp only [Pa.root] at e
     subst e
     simp [ce]
   ·exact absurd (r2 p e) hp
  ·by_cases e : dst=some s
   ·right
    have hst:=ht s e
    subst e
    have e1 : eff (kx (some s) d++[(b,.blk sz es')]) [(b,false)] f s=d:=aU (by simp [kx])
    refine .inr ⟨v,getElem?_put_same (by rw [h.size];exact hst),?_⟩
    rw [e1]
    exact bA.of_pure hv
   ·left
    rcases bN (f:=f) (ks:=[(b,false)]) (lk s (by omega) e) with h1 | h1
    ·exact .inl h1
    ·refine .inr ⟨h1.1,?_,h1.2⟩
     cases dst with
     | none=>rfl
     | some t=>exact getElem?_put (fun x=>e (by rw [x]))
  ·by_cases e : c=b
   ·subst e
    right
    refine .inl ⟨sz,es',hfb,hl.rows.carry (Mem.le_refl _) (fun p hp=>?_)⟩
    have e1 : ρ2 (p.to c)=ρ' p:=by rw [r1 _ (Pa.to_root _ _),Pa.to_to aI c p hp]
    exact ⟨e1,fun e2=>⟨o1 _ _ e2,rfl⟩⟩
   ·left
    rcases bV (f:=f) (ks:=[(b,false)]) (lk c e (fun x=>by have:=ht c x;have:=h.hnt;omega)) with h1 | h1
    ·exact .inl h1
    ·refine .inr ⟨h1,fun p hp=>?_⟩
     have hpb : p.root ≠ b:=by rw [hp];exact e
     exact ⟨r2 p hpb,fun hw=>⟨o2 _ _ hw hpb,(other _ _ hw hpb).2.2⟩⟩
  ·rcases o3 k p e with ⟨q,e1,_⟩ | ⟨e1,_⟩
   ·rcases hnew k q e1 with ⟨q',e2⟩ | h2
    ·obtain ⟨p',e3,_⟩:=hS1 k q' e2
     exact .inl ⟨p',e3⟩
    ·exact .inr ⟨hl.lt k q e1,.inr (x1h h.ch.size h2)⟩
   ·exact .inl ⟨p,e1⟩
  ·rcases o3 _ q e with ⟨q',e1,_⟩ | ⟨e1,e2⟩
   ·exact hl.apart p q' e1
   ·have h1:=hO.apart p q e1
    cases e3 : M' p with
    | none=>rfl
    | some u =>
     rcases hfr p h1 (by rw [e3];simp) with ⟨q',e4⟩ | h4
     ·exact absurd e4 ((other _ _ e1 e2).1 q')
     ·have:=hO.lt _ _ e1;omega
  ·by_cases e : c=b
   ·subst e
    exact ⟨hrb,by rw [hf];rfl⟩
   ·have hcb : (Pa.r c).root ≠ b:=e
    refine ⟨r2 _ hcb,?_⟩
    rcases bV (f:=f) (ks:=[(b,false)]) (lk c e (fun x=>by have:=ht c x;have:=h.hnt;omega)) with h1 | h1
    ·rw [hB] at h1;cases h1
    ·rw [<- h1];exact hB
theorem we (hC : ck P F C) (h : SR F nt S L w0 M0 f M a w) (hp : ∀ t,o.dst=some t -> t < nt) {g fi : Nat} {x : Opd} {xs : List Opd} {y : Operand} {ys : List Operand} {ts : Array TypeId} (ho : o.op=.call { callee:=.value (.func fi),args:=⟨y::ys⟩,argTypes:=ts }) (hx0 : ao F x y=true) (hx : cy F xs ys=true)
  (hg : F g=some fi) (hr : match vd f x with
  | .adr (.r b) i off=>i=0 /\ off=0 /\ match f b with
   | .blk sz es=>0 < es.length /\ (∀ x ∈ xs,isV (vd f x)=true) /\ ∃ d,∃ es' : List (List D),0 < es'.length /\ C g (.blk sz es::xs.map (vd f)) d [.blk sz es'] /\ K (kx o.dst d++[(b,.blk sz es')]) [(b,false)]
   | _=>False
  | _=>False) : o.wp P a w (PostX F nt S L w0 M0 f K) Q:=by
 split at hr
 ·rename_i b i off hvx
  obtain ⟨rfl,rfl,hr⟩:=hr
  split at hr
  ·rename_i sz es hf
   obtain ⟨hpos,hxs,d,es',hpos',hc,hK⟩:=hr
   have hrun : (execOp a.eval o).run P w=(callFunc fi (a.eval y::ys.map a.eval).toArray).run P w:=by
    simp only [execOp,ho,resolve,Act.eval,Deferred.ofValue,Sem.run_bind,Sem.run_pure,Result.andThen_ok,invoke]
    congr 2
    rw [Array.append_empty,x1z]
    apply Array.ext'
    simp
    cases y <;> simp [Act.eval]
   obtain ⟨ρ,ω,hO⟩:=h.own
   have hb:=hO.big hf
   have hv:=hO.opd hx0
   rw [hvx,aA rfl] at hv
   simp only [aC,x1A,x0W] at hv
   have hroot:=hO.roots b sz es hb hf
   have hω : ω (ρ (.r b)).blk=some (.r b):=by
    rcases hroot with ⟨e0,_⟩ | ⟨hω,_⟩
    ·rw [e0] at hpos;simp at hpos
    ·exact hω
   have hrep : aB F M (xs.map (vd f)) (ys.map a.eval):=by
    have h1:=hJ h hx (by rw [x0g];exact hxs)
    rwa [x0j (g:=vd f) fun x hx'=>by unfold dpv;exact (jA (hxs x hx')).1] at h1
   obtain ⟨ρ1,hρ1⟩ : ∃ ρ1 : Pa -> Loc,ρ1=fun p=>ρ (p.to b):=⟨_,rfl⟩
   obtain ⟨ω1,hω1⟩ : ∃ ω1 : Nat -> Option Pa,ω1=fun k=>match ω k with
    | some p=>if p.root=b then some (p.to aI) else none
    | none=>none:=⟨_,rfl⟩
   have w1 : ∀ k q,ω1 k=some q ↔ ∃ p : Pa,ω k=some p /\ p.root=b /\ q=p.to aI:=fun k q=>by
    rw [hω1]
    simp only
    constructor
    ·intro e
     split at e
     ·rename_i p hp
      split at e
      ·cases e;exact ⟨p,hp,by assumption,rfl⟩
      ·cases e
     ·cases e
    ·rintro ⟨p,e1,e2,rfl⟩
     simp only [e1,if_pos e2]
   have p1 : ∀ p : Pa,p.root=b -> ρ1 (p.to aI)=ρ p:=fun p hp=>by
    rw [hρ1]
    simp only
    rw [Pa.to_to b aI p hp]
   have lent : wz F M w ρ1 ω1 aI sz es:=by
    refine ⟨(w1 _ _).2 ⟨.r b,?_,rfl,rfl⟩,dy.carry hroot (Mem.le_refl _) (fun p hp=>⟨p1 p hp,fun e=>⟨(w1 _ _).2 ⟨p,e,hp,rfl⟩,rfl⟩⟩),fun k p e=>?_,fun k p e=>?_,fun p q e=>?_⟩
    ·have:=p1 (.r b) rfl
     simp only [Pa.to] at this
     rw [this];exact hω
    ·obtain ⟨p',e1,_⟩:=(w1 _ _).1 e
     exact hO.lt _ _ e1
    ·obtain ⟨p',_,_,rfl⟩:=(w1 _ _).1 e
     exact Pa.to_root _ _
    ·obtain ⟨p',e1,_⟩:=(w1 _ _).1 e
     exact hO.apart p p' e1
   have hL:=hC.runsL g fi sz es _ d es' hg hc M w _ ρ1 ω1 h.holds hrep lent
   have e1 : ρ1 (.r aI)=ρ (.r b):=p1 (.r b) rfl
   rw [e1,<- hv] at hL
   unfold Oper.wp
   rw [hrun,cF (hC.body g fi hg),Oper.upon_enter]
   refine hL.mono ?_
   rintro e0 w' ⟨v,M',ρ',ω',rfl,q1,q2,q3,q4,q5,q6,q7,q8⟩
   exact ⟨_,_,M',hK,h.lend hO hf hb hω p1 w1 q1 q2 q3 q4 (by rw [q6,e1]) q7 q8 hp q5⟩
  ·exact hr.elim
 ·exact hr.elim
end
end Go.Gv

namespace Go.Gv
open Go.RowKit
section
variable {P : Program} {F : Fid} {C : Nat -> List D -> D -> List D -> Prop} {nt : Nat} {S : Nat -> Prop} {L : Nat -> Option Loc} {w0 : World} {M0 : Mem} {f : Nat -> D} {M M' : Mem} {a : Act} {w w' : World} {o : Oper} {d : D} {Q : Exit -> Act -> World -> Prop} {ρ ρ' : Pa -> Loc} {ω ω' : Nat -> Option Pa} {New : Nat -> Prop} {K : List (Nat × D) -> List (Nat × Bool) -> Prop}
theorem mq (p : Pa) : ce p.root true p=true:=by cases p <;> simp [ce,Pa.root]
theorem j7 {t i b : Nat} {x d : D} (h : (b,x) ∈ cG t i d) : b=rt t i /\ ∃ sz es,x=.blk sz es /\ ∀ t',(rt t' i,x) ∈ cG t' i d:=by
 cases d <;> simp only [cG,x0N,x1s,or_false,Prod.mk.injEq] at h
 all_goals exact ⟨h.1,_,_,h.2,fun t'=>by rw [h.2];simp [cG]⟩
theorem j8 {t b : Nat} {x : D} : ∀ {ds : List D} {i : Nat},(b,x) ∈ bO t i ds -> ∃ j,i <= j /\ j < i + ds.length /\ b=rt t j /\ ∃ sz es,x=.blk sz es /\ ∀ t',(rt t' j,x) ∈ bO t' i ds
 | [],_,h=>by simp [bO] at h
 | d::ds,i,h=>by
  simp only [bO,x0o] at h
  rcases h with h | h
  ·obtain ⟨e,sz,es,e2,h2⟩:=j7 h
   exact ⟨i,x0p _,by simp,e,sz,es,e2,fun t'=>by simp only [bO,x0o];exact .inl (h2 t')⟩
  ·obtain ⟨j,h1,h2,e,sz,es,e2,h3⟩:=j8 h
   exact ⟨j,by omega,by simp;omega,e,sz,es,e2,fun t'=>by simp only [bO,x0o];exact .inr (h3 t')⟩
theorem gi {t b : Nat} {x y : D} : ∀ {ds : List D} {i : Nat},(b,x) ∈ bO t i ds -> (b,y) ∈ bO t i ds -> x=y
 | [],_,h,_=>by simp [bO] at h
 | d::ds,i,h,h'=>by
  simp only [bO,x0o] at h h'
  have far : ∀ {z : D},(b,z) ∈ bO t (i + 1) ds -> b ≠ rt t i:=fun hz e=>by
   obtain ⟨j,h1,_,e2,_⟩:=j8 hz
   rw [e] at e2
   unfold rt at e2
   omega
  rcases h with h | h <;> rcases h' with h' | h'
  ·cases d <;> simp only [cG,x0N,x1s,or_false,Prod.mk.injEq] at h h'
   all_goals rw [h.2,h'.2]
  ·exact absurd (j7 h).1 (far h')
  ·exact absurd (j7 h').1 (far h)
  ·exact gi h h'
theorem tW {b : Nat} {x : D} : ∀ {l : List (Nat × D)},(∀ y,(b,y) ∈ l -> y=x) -> (b,x) ∈ l -> l.lookup b=some x
 | [],_,h=>by simp at h
 | (c,y)::l,hu,h=>by
  by_cases e : b=c
  ·subst e
   rw [hu y (by simp)]
   simp
  ·have e1 : (b == c)=false:=by simpa using e
   simp only [x0l,e1]
   refine tW (fun y hy=>hu y (by simp [hy])) ?_
   rcases x0N.1 h with h | h
   ·cases h;exact absurd rfl e
   ·exact h
theorem sZ {b : Nat} : ∀ {l : List (Nat × D)},(∀ y,(b,y) ∉ l) -> l.lookup b=none
 | [],_=>rfl
 | (c,y)::l,h=>by
  have e : b ≠ c:=fun e=>h y (by simp [e])
  have e1 : (b == c)=false:=by simpa using e
  simp only [x0l,e1]
  exact sZ fun y hy=>h y (by simp [hy])
theorem vx {t i : Nat} {d : D} {v : Value} (h : aC F M ρ (fW 0 i d) v) (he : ∀ x,(rt 0 i,x) ∈ cG 0 i d -> ρ' (.r (rt t i))=ρ (.r (rt 0 i))) (hp : ∀ p k n,d ≠ .ref p k n) (hp2 : ∀ p k n,d ≠ .adr p k n) (hp3 : ∀ b,d ≠ .mrf b) : aC F M ρ' (fW t i d) v:=by
 cases d
 case own sz es =>
  have e:=he (.blk sz es) (by simp [cG])
  simp only [fW,aC] at h ⊢
  rw [e];exact h
 case blk sz es =>
  have e:=he (.blk sz es) (by simp [cG])
  simp only [fW,aC] at h ⊢
  rw [e];exact h
 case ref p k n=>exact absurd rfl (hp p k n)
 case adr p k n=>exact absurd rfl (hp2 p k n)
 case mrf b=>exact absurd rfl (hp3 b)
 all_goals exact h
theorem jC {t : Nat} : ∀ {ds : List D} {i : Nat} {vs : List Value},cK F M ρ (bT 0 i ds) vs -> (∀ j x,(rt 0 j,x) ∈ bO 0 i ds -> ρ' (.r (rt t j))=ρ (.r (rt 0 j))) -> (∀ d ∈ ds,xZ d=true) -> cK F M ρ' (bT t i ds) vs
 | [],i,vs,h,_,_=>⟨by simpa [bT] using h.1,fun j d v h1=>by simp [bT] at h1⟩
 | d::ds,i,[],h,_,_=>by have:=h.1;simp [bT] at this
 | d::ds,i,v::vs,h,he,hk=>by
  have hd:=hk d (by simp)
  have ih:=jC (t:=t) (ds:=ds) (i:=i + 1) (vs:=vs) ⟨by have:=h.1;simpa [bT] using this,fun j d' v' h1 h2=>h.2 (j + 1) d' v' (by simpa [bT] using h1) (by simpa using h2)⟩ (fun j x hx=>he j x (by simp only [bO,x0o];exact .inr hx)) (fun d' hd'=>hk d' (by simp [hd']))
  refine ⟨by have:=ih.1;simp [bT,this],fun j d' v' h1 h2=>?_⟩
  cases j with
  | zero =>
   simp only [bT,x09,x0r] at h1 h2
   subst h1 h2
   exact vx (h.2 0 _ _ (by simp [bT]) rfl) (fun x hx=>he i x (by simp only [bO,x0o];exact .inl hx)) (fun p k n e=>by rw [e] at hd;cases hd) (fun p k n e=>by rw [e] at hd;cases hd) (fun b e=>by rw [e] at hd;cases hd)
  | succ j=>exact ih.2 j d' v' (by simpa [bT] using h1) (by simpa using h2)
theorem gU {t b : Nat} {x R : D} (hok : okR R=true) (h : (b,x) ∈ aY t R) : ∃ j,1 <= j /\ j <= 14 /\ b=rt t j /\ ∃ sz es,x=.blk sz es /\ ∀ t',(rt t' j,x) ∈ aY t' R:=by
 obtain ⟨j,h1,h2,h3,h4⟩:=j8 h
 refine ⟨j,h1,?_,h3,h4⟩
 have : (ji R).length <= 14:=by
  cases R <;> simp only [okR,x0a,x0b,x0k] at hok <;> first | exact hok.1 | simp [ji]
 omega
theorem vK {R : D} (hok : okR R=true) : ∀ d ∈ ji R,xZ d=true:=by
 cases R <;> simp only [okR,x0a,x0k,x0g] at hok <;> first | exact hok.2 | (intro d hd;simp only [ji,x0N,x1s,or_false] at hd;subst hd;rfl)
theorem wb (hC : ck P F C) (h : SR F nt S L w0 M0 f M a w) (hL : ∀ t i,i < 15 -> L (rt t i)=none) {t : Nat} (hd : o.dst=some t) (ht : t < nt) {g fi : Nat} {xs : List Opd} {ys : Array Operand} {ts : Array TypeId} (ho : o.op=.call { callee:=.value (.func fi),args:=ys,argTypes:=ts }) (hx : cy F xs ys.toList=true)
  (hg : F g=some fi) (hr : (∀ x ∈ xs,isV (vd f x)=true) /\ ∃ R,okR R=true /\ C g (xs.map (vd f)) R [.nils] /\ K ((t,fz t R)::aY t R) (fj t R)) : o.wp P a w (PostX F nt S L w0 M0 f K) Q:=by
 obtain ⟨hxs,R,hok,hc,hK⟩:=hr
 have hrun : (execOp a.eval o).run P w=(callFunc fi (ys.toList.map a.eval).toArray).run P w:=by
  simp only [execOp,ho,resolve,Act.eval,Deferred.ofValue,Sem.run_bind,Sem.run_pure,Result.andThen_ok,invoke]
  congr 2
  rw [Array.append_empty,x1z]
  apply Array.ext'
  simp
 have hrep : aB F M (xs.map (vd f)) (ys.toList.map a.eval):=by
  have h1:=hJ h hx (by rw [x0g];exact hxs)
  rwa [x0j (g:=vd f) fun x hx'=>by unfold dpv;exact (jA (hxs x hx')).1] at h1
 obtain ⟨ρ,ω,hO⟩:=h.own
 have ht10 : t < 10000:=x1N ht h.hnt
 unfold Oper.wp
 rw [hrun,cF (hC.body g fi hg),Oper.upon_enter]
 refine (hC.runsA g fi _ R hg hc M w _ h.holds hrep).mono ?_
 rintro e w' ⟨v,M',ρ',ω',us,rfl,hb,hM,hfr,hh,hsh,hrl,hroot,hω',hap'⟩
 rw [hd]
 refine ⟨_,_,M',hK,?_⟩
 have mem : ∀ b,((aY t R).any fun q=>q.1 == b)=true ↔ ∃ x,(b,x) ∈ aY t R:=fun b=>by
  simp only [x0E,x0n]
  constructor
  ·rintro ⟨⟨c,x⟩,h1,rfl⟩;exact ⟨x,h1⟩
  ·rintro ⟨x,h1⟩;exact ⟨(b,x),h1,rfl⟩
 obtain ⟨ρ2,hρ2⟩ : ∃ ρ2 : Pa -> Loc,ρ2=fun p=>if ((aY t R).any fun q=>q.1 == p.root)=true then ρ' (p.to (p.root - 16 * t)) else ρ p:=⟨_,rfl⟩
 obtain ⟨ω2,hω2⟩ : ∃ ω2 : Nat -> Option Pa,ω2=fun k=>match ω' k with
  | some q=>some (q.to (q.root + 16 * t))
  | none=>match ω k with
   | some p=>if ((aY t R).any fun q=>q.1 == p.root)=true then none else some p
   | none=>none:=⟨_,rfl⟩
 have r1 : ∀ p : Pa,(∃ x,(p.root,x) ∈ aY t R) -> ρ2 p=ρ' (p.to (p.root - 16 * t)):=fun p hp=>by rw [hρ2];simp only [(mem _).2 hp,if_true]
 have r2 : ∀ p : Pa,¬ (∃ x,(p.root,x) ∈ aY t R) -> ρ2 p=ρ p:=fun p hp=>by
  rw [hρ2]
  have : ¬ ((aY t R).any fun q=>q.1 == p.root)=true:=fun e=>hp ((mem _).1 e)
  simp only [if_neg this]
 have o1 : ∀ k q,ω' k=some q -> ω2 k=some (q.to (q.root + 16 * t)):=fun k q e=>by rw [hω2];simp only [e]
 have oldnew : ∀ k p q,ω k=some p -> ω' k ≠ some q:=fun k p q e e'=>by
  have:=hO.lt k p e
  have:=(hω' k q e').1
  omega
 have o2 : ∀ k p,ω k=some p -> ¬ (∃ x,(p.root,x) ∈ aY t R) -> ω2 k=some p:=fun k p e hp=>by
  have e1 : ω' k=none:=by
   cases e2 : ω' k with
   | none=>rfl
   | some q=>exact absurd e2 (oldnew k p q e)
  have : ¬ ((aY t R).any fun q=>q.1 == p.root)=true:=fun e=>hp ((mem _).1 e)
  rw [hω2];simp only [e1,e,if_neg this]
 have o3 : ∀ k p,ω2 k=some p -> (∃ q,ω' k=some q) \/ ω k=some p:=fun k p e=>by
  rw [hω2] at e
  simp only at e
  cases e1 : ω' k with
  | some q=>exact .inl ⟨q,rfl⟩
  | none =>
   rw [e1] at e
   simp only at e
   cases e2 : ω k with
   | none=>rw [e2] at e;cases e
   | some p' =>
    rw [e2] at e
    simp only at e
    split at e
    ·cases e
    ·cases e;exact .inr rfl
 have hshift : ∀ j x,(rt 0 j,x) ∈ aY 0 R -> ρ2 (.r (rt t j))=ρ' (.r (rt 0 j)):=fun j x hx=>by
  obtain ⟨j',h1,h2,h3,sz,es,h4,h5⟩:=gU hok hx
  have ej : j=j':=by unfold rt at h3;omega
  subst ej
  rw [r1 (.r (rt t j)) ⟨x,h5 t⟩]
  show ρ' (.r (rt t j - 16 * t))=_
  have : rt t j - 16 * t=rt 0 j:=by unfold rt;omega
  rw [this]
 have lkn : ∀ s,s ≠ t -> ¬ (∃ x,(s,x) ∈ aY t R) -> ((t,fz t R)::aY t R).lookup s=none:=fun s h1 h2=>by
  have e1 : (s == t)=false:=by simpa using h1
  simp only [x0l,e1]
  exact sZ fun y hy=>h2 ⟨y,hy⟩
 have small : ∀ s,s < 10000 -> ¬ (∃ x,(s,x) ∈ aY t R):=fun s hs ⟨x,hx⟩=>by
  obtain ⟨j,_,_,h3,_⟩:=gU hok hx
  unfold rt at h3;omega
 refine ⟨h.hnt,by simp [Act.put,h.size],by simp [Act.put,h.defers],h.ch.trans (Ch.of_below hb (fun _=>False)) (fun _ _ e=>e.elim),hh,Mem.le_trans h.ext hM,fun p h1 h2=>?_,ρ2,ω2,hO.step (ks:=fj t R) (fun p hp=>?_) hM hb.size (fun s hs=>?_) (fun c hc=>?_) (fun k p e=>?_) (fun p q e=>?_) (fun c l hc hl hB=>?_)⟩
 ·by_cases e : M p=none
  ·exact .inr (x1h h.ch.size (hfr p e h2))
  ·exact h.fresh p h1 e
 ·by_cases e : ∃ x,(p.root,x) ∈ aY t R
  ·obtain ⟨x,hx⟩:=e
   exact ⟨(p.root,true),x0u.2 ⟨_,hx,rfl⟩,mq p⟩
  ·exact absurd (r2 p e) hp
 ·by_cases e : s=t
  ·right
   subst e
   have e1 : eff ((s,fz s R)::aY s R) (fj s R) f s=fz s R:=aU (by simp)
   refine .inr ⟨v,getElem?_put_same (by rw [h.size];exact ht),?_⟩
   rw [e1]
   have hp:=vK hok
   cases R <;> simp only [okR,x0k] at hok
   case agg ds=>exact ⟨us,hsh,jC hrl (fun j x hx=>hshift j x hx) hp⟩
   case tup ds=>exact ⟨us,hsh,jC hrl (fun j x hx=>hshift j x hx) hp⟩
   all_goals
    have h3:=jC (t:=s) hrl (fun j x hx=>hshift j x hx) hp
    simp only [tu] at hsh
    subst hsh
    have h4:=h3.2 0 _ v rfl rfl
    exact h4
  ·left
   rcases bN (f:=f) (ks:=fj t R) (lkn s e (small s hs)) with h1 | h1
   ·exact .inl h1
   ·exact .inr ⟨h1.1,getElem?_put e,h1.2⟩
 ·by_cases e : ∃ x,(c,x) ∈ aY t R
  ·obtain ⟨x,hx⟩:=e
   obtain ⟨j,h1,h2,h3,sz,es,rfl,h5⟩:=gU hok hx
   right
   have hct : (c == t)=false:=by simp;omega
   have hlk : ((t,fz t R)::aY t R).lookup c=some (.blk sz es):=by
    simp only [x0l,hct]
    exact tW (fun y hy=>(gi hx hy).symm) hx
   have ec : c - 16 * t=rt 0 j:=by rw [h3];unfold rt;omega
   have ec2 : rt 0 j + 16 * t=c:=by rw [h3];unfold rt;omega
   refine .inl ⟨sz,es,aU hlk,(hroot (rt 0 j) sz es (h5 0)).carry (Mem.le_refl _) (fun p hp=>?_)⟩
   refine ⟨?_,fun e2=>⟨?_,rfl⟩⟩
   ·rw [r1 _ ⟨_,by rw [Pa.to_root];exact hx⟩,Pa.to_root,ec,Pa.to_to (rt 0 j) c p hp]
   ·rw [o1 _ _ e2,hp,ec2]
  ·left
   rcases bV (f:=f) (ks:=fj t R) (lkn c (by omega) e) with h1 | h1
   ·exact .inl h1
   ·refine .inr ⟨h1,fun p hp=>?_⟩
    have hpe : ¬ (∃ x,(p.root,x) ∈ aY t R):=by rw [hp];exact e
    exact ⟨r2 p hpe,fun hw=>⟨o2 _ _ hw hpe,hb.block _ (hO.lt _ _ hw)⟩⟩
 ·rcases o3 k p e with ⟨q,e1⟩ | e1
  ·exact .inr ⟨(hω' k q e1).2.1,.inr (x1h h.ch.size (hω' k q e1).1)⟩
  ·exact .inl ⟨p,e1⟩
 ·rcases o3 _ q e with ⟨q',e1⟩ | e1
  ·exact hap' p q' e1
  ·cases e3 : M' p with
   | none=>rfl
   | some u =>
    have h1:=hfr p (hO.apart p q e1) (by rw [e3];simp)
    have:=hO.lt _ _ e1
    omega
 ·by_cases e : ∃ x,(c,x) ∈ aY t R
  ·obtain ⟨x,hx⟩:=e
   obtain ⟨j,h1,h2,h3,_⟩:=gU hok hx
   rw [h3,hL t j (by omega)] at hl;cases hl
  ·have hpe : ¬ (∃ x,((Pa.r c).root,x) ∈ aY t R):=e
   refine ⟨r2 _ hpe,?_⟩
   rcases bV (f:=f) (ks:=fj t R) (lkn c (by omega) e) with h1 | h1
   ·rw [hB] at h1;cases h1
   ·rw [<- h1];exact hB
end
end Go.Gv

namespace Go.Gv
section
variable {P : Program} {F : Fid} {C : Nat -> List D -> D -> List D -> Prop} {nt : Nat} {S : Nat -> Prop} {L : Nat -> Option Loc} {w0 : World} {M0 : Mem} {f : Nat -> D} {M : Mem} {a : Act} {w : World} {o : Oper} {d : D} {Q : Exit -> Act -> World -> Prop} {ρ : Pa -> Loc} {ω : Nat -> Option Pa} {New : Nat -> Prop} {K : List (Nat × D) -> List (Nat × Bool) -> Prop}
end
end Go.Gv
namespace Go.Gv
section
variable {P : Program} {F : Fid} {C : Nat -> List D -> D -> List D -> Prop} {nt : Nat} {S : Nat -> Prop} {L : Nat -> Option Loc} {w0 : World} {M0 : Mem} {f : Nat -> D} {M : Mem} {a : Act} {w : World} {o : Oper} {d : D} {Q : Exit -> Act -> World -> Prop} {ρ : Pa -> Loc} {ω : Nat -> Option Pa} {New : Nat -> Prop} {K : List (Nat × D) -> List (Nat × Bool) -> Prop}
theorem nv {t : Nat} : ∀ {ds : List D} {i j : Nat},(bT t i ds)[j]? = (ds[j]?).map (fW t (i + j))
 | [],i,j=>by simp [bT]
 | d::ds,i,j=>by
  cases j with
  | zero=>simp [bT]
  | succ j =>
   simp only [bT,List.getElem?_cons_succ]
   rw [nv,show i + 1 + j=i + (j + 1) by omega]
theorem nw {t : Nat} : ∀ {ds : List D} {i : Nat},(bT t i ds).length=ds.length
 | [],i=>rfl
 | d::ds,i=>by simp [bT,nw]
theorem mj {t b : Nat} {x : D} : ∀ {ds : List D} {i : Nat},(b,x) ∈ bO t i ds -> ∃ j d,ds[j]? = some d /\ (b,x) ∈ cG t (i + j) d
 | [],i,h=>by simp [bO] at h
 | d::ds,i,h=>by
  simp only [bO,x0o] at h
  rcases h with h | h
  ·exact ⟨0,d,by simp,h⟩
  ·obtain ⟨j,d',h1,h2⟩:=mj h
   exact ⟨j + 1,d',by simpa using h1,by rwa [show i + (j + 1)=i + 1 + j by omega]⟩
theorem ml {t b : Nat} {x : D} : ∀ {ds : List D} {i j : Nat} {d : D},ds[j]? = some d -> (b,x) ∈ cG t (i + j) d -> (b,x) ∈ bO t i ds
 | [],i,j,d,h,_=>by simp at h
 | d0::ds,i,j,d,h,hx=>by
  simp only [bO,x0o]
  cases j with
  | zero=>simp at h;subst h;exact .inl hx
  | succ j=>exact .inr (ml (j:=j) (by simpa using h) (by rwa [show i + (j + 1)=i + 1 + j by omega] at hx))
theorem ny {t j sz : Nat} {ds : List D} {es : List (List D)} (h : ds[j]? = some (.own sz es)) : (rt t (1 + j),D.blk sz es) ∈ bO t 1 ds:=ml h (by simp [cG])
theorem SR.unpack (h : SR F nt S L w0 M0 f M a w) (hL : ∀ t i,i < 15 -> L (rt t i)=none) {t : Nat} (ht : t < nt) {c sz : Nat} {row : List D} (hg : f c=.blk sz [row]) (hok : okR (.agg row)=true) (hcn : ∀ x,(c,x) ∉ aY t (.agg row)) {v : Value}
  (hv : ∀ ρ ω,Own F L (fun k=>S k \/ w0.heap.size <= k) f M a w ρ ω -> ∃ vs : List Value,v=.agg vs.toArray /\ vs.length=row.length /\ ∀ (j : Nat) (d : D) (u : Value),row[j]? = some d -> vs[j]? = some u -> cE F M ω ρ w c 0 j d u) :
  SR F nt S L w0 M0 (eff ((t,fz t (.agg row))::(c,.any)::aY t (.agg row)) (fj t (.agg row)) f) M (a.put (some t) v) w:=by
 obtain ⟨ρ,ω,hO⟩:=h.own
 obtain ⟨vs,hv1,hv2,hv3⟩:=hv ρ ω hO
 have hc10 : 10000 <= c:=hO.big hg
 have ht10 : t < 10000:=x1N ht h.hnt
 have hct0 : c ≠ t:=by omega
 obtain ⟨R,hR⟩ : ∃ R,R=D.agg row:=⟨_,rfl⟩
 rw [<- hR] at hok hcn ⊢
 have mem : ∀ b,((aY t R).any fun q=>q.1 == b)=true ↔ ∃ x,(b,x) ∈ aY t R:=fun b=>by
  simp only [x0E,x0n]
  constructor
  ·rintro ⟨⟨c,x⟩,h1,rfl⟩;exact ⟨x,h1⟩
  ·rintro ⟨x,h1⟩;exact ⟨(b,x),h1,rfl⟩
 have inR : ∀ j sz es,row[j]? = some (.own sz es) -> (rt t (1 + j),D.blk sz es) ∈ aY t R:=fun j sz es hj=>by
  rw [hR];exact ny hj
 have ofR : ∀ b x,(b,x) ∈ aY t R -> ∃ j sz es,b=rt t (1 + j) /\ row[j]? = some (.own sz es) /\ x=.blk sz es:=fun b x hx=>by
  rw [hR] at hx
  obtain ⟨j,d,hj,hd⟩:=mj hx
  have hj' : j < vs.length:=by rw [hv2];exact (x0c.1 hj).1
  have hcell:=hv3 j d _ hj (x0e hj')
  cases d <;> simp only [cG,x0N,x1s,or_false,Prod.mk.injEq] at hd
  case own sz es=>exact ⟨j,sz,es,hd.1,hj,hd.2⟩
  case blk sz es=>simp [cE,af] at hcell
 obtain ⟨ρ2,hρ2⟩ : ∃ ρ2 : Pa -> Loc,ρ2=fun p=>match p with
  | .r b=>if ((aY t R).any fun q=>q.1 == b)=true then ρ (.n c 0 (b - rt t 1)) else ρ p
  | .n _ _ _=>ρ p:=⟨_,rfl⟩
 obtain ⟨ω2,hω2⟩ : ∃ ω2 : Nat -> Option Pa,ω2=fun k=>match ω k with
  | some p=>if p.root=c then (match p with
    | .n _ i o=>if i=0 /\ ((aY t R).any fun q=>q.1 == rt t (1 + o))=true then some (.r (rt t (1 + o))) else none
    | .r _=>none) else if ((aY t R).any fun q=>q.1 == p.root)=true then none else some p
  | none=>none:=⟨_,rfl⟩
 have r1 : ∀ j x,(rt t (1 + j),x) ∈ aY t R -> ρ2 (.r (rt t (1 + j)))=ρ (.n c 0 j):=fun j x hx=>by
  rw [hρ2];simp only [(mem _).2 ⟨x,hx⟩,if_true]
  have : rt t (1 + j) - rt t 1=j:=by unfold rt;omega
  rw [this]
 have r2 : ∀ p : Pa,¬ (∃ x,(p.root,x) ∈ aY t R) -> ρ2 p=ρ p:=fun p hp=>by
  rw [hρ2]
  cases p with
  | r b =>
   have : ¬ ((aY t R).any fun q=>q.1 == b)=true:=fun e=>hp ((mem _).1 e)
   simp only [if_neg this]
  | n b i o=>rfl
 have o1 : ∀ k j x,ω k=some (.n c 0 j) -> (rt t (1 + j),x) ∈ aY t R -> ω2 k=some (.r (rt t (1 + j))):=fun k j x e hx=>by
  rw [hω2];simp only [e,Pa.root,if_true,(mem _).2 ⟨x,hx⟩,and_self]
 have o2 : ∀ k p,ω k=some p -> p.root ≠ c -> ¬ (∃ x,(p.root,x) ∈ aY t R) -> ω2 k=some p:=fun k p e hpc hp=>by
  have : ¬ ((aY t R).any fun q=>q.1 == p.root)=true:=fun e=>hp ((mem _).1 e)
  rw [hω2];simp only [e,if_neg hpc,if_neg this]
 have o3 : ∀ k p,ω2 k=some p -> ∃ q,ω k=some q:=fun k p e=>by
  rw [hω2] at e
  simp only at e
  cases e1 : ω k with
  | some q=>exact ⟨q,rfl⟩
  | none=>rw [e1] at e;cases e
 have lkn : ∀ s,s ≠ t -> s ≠ c -> ¬ (∃ x,(s,x) ∈ aY t R) -> ((t,fz t R)::(c,D.any)::aY t R).lookup s=none:=fun s h1 h2 h3=>by
  have e1 : (s == t)=false:=by simpa using h1
  have e2 : (s == c)=false:=by simpa using h2
  simp only [x0l,e1,e2]
  exact sZ fun y hy=>h3 ⟨y,hy⟩
 have small : ∀ s,s < 10000 -> ¬ (∃ x,(s,x) ∈ aY t R):=fun s hs ⟨x,hx⟩=>by
  obtain ⟨j,_,_,h3,_⟩:=ofR s x hx
  unfold rt at h3;omega
 refine ⟨h.hnt,by simp [Act.put,h.size],by simp [Act.put,h.defers],h.ch,h.holds,h.ext,h.fresh,ρ2,ω2,hO.step (ks:=fj t R) (fun p hp=>?_) (Mem.le_refl _) (x0p _) (fun s hs=>?_) (fun b hb=>?_) (fun k p e=>.inl (o3 k p e)) (fun p q e=>?_) (fun b l hb hl hB=>?_)⟩
 ·by_cases e : ∃ x,(p.root,x) ∈ aY t R
  ·obtain ⟨x,hx⟩:=e
   exact ⟨(p.root,true),x0u.2 ⟨_,hx,rfl⟩,mq p⟩
  ·exact absurd (r2 p e) hp
 ·by_cases e : s=t
  ·right
   subst e
   have e1 : eff ((s,fz s R)::(c,D.any)::aY s R) (fj s R) f s=fz s R:=aU (by simp)
   refine .inr ⟨v,getElem?_put_same (by rw [h.size];exact ht),?_⟩
   rw [e1,hR]
   refine ⟨vs,hv1,by rw [nw];exact hv2.symm,fun j d u h1 h2=>?_⟩
   rw [nv,x0m] at h1
   obtain ⟨d',h1,rfl⟩:=h1
   have hcell:=hv3 j d' u h1 h2
   cases d'
   case own sz' es' =>
    simp only [fW,aC]
    rw [r1 j _ (inR j _ _ h1)]
    exact hcell.1
   all_goals first | exact aC.of_pure hcell | (simp [cE,af] at hcell;done)
  ·left
   rcases bN (f:=f) (ks:=fj t R) (lkn s e (by omega) (small s hs)) with h1 | h1
   ·exact .inl h1
   ·exact .inr ⟨h1.1,getElem?_put e,h1.2⟩
 ·by_cases e : ∃ x,(b,x) ∈ aY t R
  ·obtain ⟨x,hx⟩:=e
   obtain ⟨j,sz',es',h3,h4,rfl⟩:=ofR b x hx
   right
   have hct : (b == t)=false:=by simp;omega
   have hbc : b ≠ c:=fun e=>hcn _ (e ▸ hx)
   have hct2 : (b == c)=false:=by simpa using hbc
   have hlk : ((t,fz t R)::(c,D.any)::aY t R).lookup b=some (.blk sz' es'):=by
    simp only [x0l,hct,hct2]
    exact tW (fun y hy=>(gi hx hy).symm) hx
   refine .inl ⟨sz',es',aU hlk,?_⟩
   have hj' : j < vs.length:=by rw [hv2];exact (x0c.1 h4).1
   have hcell:=hv3 j _ _ h4 (x0e hj')
   subst h3
   have e1:=r1 j _ hx
   unfold dy cm
   rw [e1]
   rcases hcell.2 with h5 | ⟨h5,h6,us,T,g1,g2,g3,g4,g5⟩
   ·exact .inl h5
   ·refine .inr ⟨o1 _ j _ h5 hx,h6,us,T,g1,g2,g3,g4,fun i r off d k1 k2=>?_⟩
    obtain ⟨u,k3,k4⟩:=g5 i r off d k1 k2
    refine ⟨u,k3,?_⟩
    cases d
    case own=>simp [af] at k4
    all_goals exact k4
  ·by_cases ebc : b=c
   ·subst ebc
    refine .inl (.inl ?_)
    have hct : (b == t)=false:=by simp;omega
    rw [aU (d:=.any) (by simp [x0l,hct])]
    rfl
   ·left
    rcases bV (f:=f) (ks:=fj t R) (lkn b (by omega) ebc e) with h1 | h1
    ·exact .inl h1
    ·refine .inr ⟨h1,fun p hp=>?_⟩
     have hpe : ¬ (∃ x,(p.root,x) ∈ aY t R):=by rw [hp];exact e
     exact ⟨r2 p hpe,fun hw=>⟨o2 _ _ hw (by rw [hp];exact ebc) hpe,rfl⟩⟩
 ·obtain ⟨q',e1⟩:=o3 _ q e
  exact hO.apart p q' e1
 ·by_cases e : ∃ x,(b,x) ∈ aY t R
  ·obtain ⟨x,hx⟩:=e
   obtain ⟨j,h1,h2,h3,_⟩:=gU hok hx
   rw [h3,hL t j (by omega)] at hl;cases hl
  ·have hct : (b == t)=false:=by simp;omega
   by_cases ebc : b=c
   ·subst ebc
    rw [aU (d:=.any) (by simp [x0l,hct])] at hB;cases hB
   ·refine ⟨r2 _ e,?_⟩
    rcases bV (f:=f) (ks:=fj t R) (lkn b (by omega) ebc e) with h1 | h1
    ·rw [hB] at h1;cases h1
    ·rw [<- h1];exact hB
end
end Go.Gv

namespace Go.Gv
section
variable {P : Program} {F : Fid} {C : Nat -> List D -> D -> List D -> Prop} {nt : Nat} {S : Nat -> Prop} {L : Nat -> Option Loc} {w0 : World} {M0 : Mem} {f : Nat -> D} {M : Mem} {a : Act} {w : World} {o : Oper} {d : D} {Q : Exit -> Act -> World -> Prop} {ρ : Pa -> Loc} {ω : Nat -> Option Pa} {New : Nat -> Prop} {K : List (Nat × D) -> List (Nat × Bool) -> Prop}
theorem w9 {es rs : List (List D)} {k : Nat} (h : k + rs.length <= es.length) : (iY es k rs).length=es.length:=by
 simp only [iY,x0T,x07,x1J];omega
theorem w8 {es rs : List (List D)} {k i : Nat} (h : k + rs.length <= es.length) : (iY es k rs)[i]? = if k <= i /\ i < k + rs.length then rs[i - k]? else es[i]?:=by
 unfold iY
 have hl : (es.take k).length=k:=by simp;omega
 by_cases h1 : i < k
 ·rw [if_neg (by omega),x1V,x0y (by omega),x0D h1]
 ·by_cases h2 : i < k + rs.length
  ·rw [if_pos (by omega),x1V,x0z (by omega),hl,x0y (by omega)]
  ·rw [if_neg (by omega),x0z (by rw [x0T,hl];omega),x0T,hl,x0w]
   congr 1;omega
theorem xa {es rs : List (List D)} {k : Nat} {e : List D} (he : e ∈ iY es k rs) : e ∈ rs \/ e ∈ es:=by
 unfold iY at he
 rcases x0o.1 he with he | he
 ·rcases x0o.1 he with he | he
  ·exact .inr (x0K he)
  ·exact .inl he
 ·exact .inr (x1r he)
def oS (P : Program) (t sz : Nat) : Bool:=match P.underlying t with
 | some (.slice e)=>(match P.info? e with
  | some i=>i.size == sz
  | none=>false)
 | _=>false
theorem yM {T T2 sz : Nat} {ty : TypeId} (hk : oS P T sz=true) {g o n m cap cap2 : Nat} {ad : Addr} {cur news : List Value} {T0 : TypeId} (hg : w.heap[g]? = some (.cells cur.toArray T0 (0,0))) (hl : o + min m n * sz <= cur.length)
  (hnl : news.length=m * sz) (hnews : ∀ j u,news[j]? = some u -> w.cell? (ad.add j)=some u) (hone : ∀ u ∈ news,u.oneCell'=true) :
  ∃ w',(Builtin.copy_ #[T,T2] ty #[.slice (some ⟨g,o,none⟩) n cap,.slice (some ad) m cap2]).run P w=.ok (.int .i64 (min m n : Nat)) w' /\ w'.heap[g]? = some (.cells (cur.take o++news.take (min m n * sz)++cur.drop (o + min m n * sz)).toArray T0 (0,0)) /\ Ch (fun k=>k=g) w w':=by
 unfold oS at hk
 split at hk
 ·rename_i e hu
  split at hk
  ·rename_i i hi
   have hsz : i.size=sz:=by simpa using hk
   have hle : min m n * sz <= m * sz:=x0s _ (Nat.min_le_left _ _)
   have hnl2 : (news.take (min m n * sz)).length=min m n * sz:=by rw [x07];omega
   obtain ⟨w',e1,e2,e3,e4,e5,e6,e7,e8⟩:=dG (P:=P) g T0 o (news.take (min m n * sz)) 0 cur w hg (by rw [hnl2];omega) (fun v hv=>hone v (x0K hv))
   refine ⟨w',?_,by rw [e2];simp only [x0W,hnl2],⟨e5,e6,e7,by omega,fun k _ hk=>e3 k hk,by omega⟩⟩
   have hld:=run_loadCells_list (P:=P) w ad (news.take (min m n * sz)) (fun j v hj=>hnews j v (by rw [x00] at hj;split at hj;exact hj;cases hj))
   rw [hnl2] at hld
   have hmn : Nat.min m n=min m n:=rfl
   simp [Builtin.copy_,run_underlying hu,sizeOf,typeInfo,hi,Builtin.lenOf,Builtin.firstCells,hsz,hmn,hld,e1,goInt]
  ·cases hk
 ·cases hk
theorem vZ {T T2 sz : Nat} {ty : TypeId} (hk : oS P T sz=true) (A : Option Addr) (cap : Nat) (ad : Addr) (m cap2 : Nat) : (Builtin.copy_ #[T,T2] ty #[.slice A 0 cap,.slice (some ad) m cap2]).run P w=.ok (.int .i64 0) w:=by
 unfold oS at hk
 split at hk
 ·rename_i e hu
  split at hk
  ·rename_i i hi
   have hmn : Nat.min m 0=0:=Nat.min_zero m
   cases A <;> simp [Builtin.copy_,run_underlying hu,sizeOf,typeInfo,hi,Builtin.lenOf,Builtin.firstCells,hmn,loadCells,loadCellsFrom,storeCells,goInt]
  ·cases hk
 ·cases hk
theorem BL (h : SR F nt S L w0 M0 f M a w) {t : Nat} (hd : o.dst=some t) (ht : t < nt) {sz : Nat} {x y : Opd} {x' y' : Operand} {T T2 : TypeId} (ho : o.op=.call { callee:=.builtin .copy,args:=#[x',y'],argTypes:=#[T,T2] }) (hx : ao F x x'=true) (hy : ao F y y'=true) (hk : oS P T sz=true)
  (hr : fA f false (vd f y) sz fun rows bs=>bs=[] /\ 0 < rows.length /\ match vd f x with
   | .ref (.r b) k n=>(n=0 -> K [(t,.int .i64 0)] []) /\ (0 < n -> match f b with
    | .blk sz' es=>sz'=sz /\ k + n <= es.length /\ (∀ e ∈ es,∀ c ∈ e,aK c=true) /\ (∀ e ∈ rows,∀ c ∈ e,aK c=true) /\ K [(t,.int .i64 (min rows.length n : Nat)),(b,.blk sz (iY es k (rows.take n)))] []
    | _=>False)
   | _=>False) : o.wp P a w (PostX F nt S L w0 M0 f K) Q:=by
 obtain ⟨ρ,ω,hO⟩:=h.own
 obtain ⟨rows,bs,c2,⟨hbs0,hrl,hr⟩,hbs,_,huY,A2,m,cap2,news,ey,hm,hnl,hA2,hone,hY⟩:=nZ h hO hy hr
 have hc2 : c2=none:=by
  rw [hbs0] at hbs
  cases c2 with
  | none=>rfl
  | some c=>simp at hbs
 subst hc2
 have hv:=hO.opd hx
 split at hr
 ·rename_i b k n hvx
  rw [hvx,aA rfl] at hv
  obtain ⟨ad0,hA0,_⟩:=hA2 (by omega)
  rcases x0V n with hn | hn
  ·have hK:=hr.1 hn
   subst hn
   have hv0 : ∃ A cap,a.eval x'=.slice A 0 cap:=by
    simp only [aC] at hv
    rcases hv with ⟨_,A,e⟩ | ⟨cap,e,_⟩
    ·exact ⟨A,0,e⟩
    ·exact ⟨_,cap,e⟩
   obtain ⟨A,cap,hv0⟩:=hv0
   refine postX_val hd (v:=.int .i64 0) (w':=w) ?_ hK (h.put ht (fun ρ ω _=>by rw [aA rfl];simp only [aC,af]))
   subst hA0
   have e1:=vZ (P:=P) (w:=w) (T2:=T2) (ty:=o.type) hk A cap ad0 m cap2
   simp only [execOp,ho,resolve,invoke,builtin,List.map_toArray,x0J,x01,Sem.run_bind,Sem.run_pure,Result.andThen_ok,hv0,ey,e1]
  have hr:=hr.2 hn
  split at hr
  ·rename_i sz' es hf
   obtain ⟨rfl,hkn,hes1,hrow1,hK⟩:=hr
   have hb:=hO.big hf
   have hgp : a8 f (.r b)=some (sz',es):=by simp [a8,hf]
   obtain ⟨ad,rfl,hnews⟩:=hA2 (by omega)
   rcases gS hO hgp hkn hv (fun e he c hc=>cW (hes1 e (x1r (x0K he)) c hc)) with ⟨A,hv,hn0⟩ | ⟨cap,us,T0,hv,⟨hcap,hmc⟩,hcl,hω,g0,g1,g2,g4,g5⟩
   ·omega
   ·have hrows : ky w (ρ (.r b)) sz' es (fun i off d v=>cE F M ω ρ w b i off d v):=by
     rcases hO.roots b sz' es hb hf with ⟨e0,_⟩ | ⟨_,hr⟩
     ·rw [e0] at hkn;simp at hkn;omega
     ·exact hr
    obtain ⟨q0,us0,T1,q1,q2,q3,q4,q5⟩:=id hrows
    rw [g1] at q1
    simp only [x0r,Obj.cells.injEq,and_true] at q1
    obtain ⟨q1,rfl⟩:=q1
    obtain rfl : us=us0:=by simpa using congrArg Array.toList q1
    have hle : k * sz' + n * sz' <= es.length * sz':=by rw [<- x0C];exact x0s _ hkn
    have hmn : min m n * sz' <= n * sz':=x0s _ (Nat.min_le_right _ _)
    obtain ⟨w',e1,e2,e3⟩:=yM (P:=P) (w:=w) (T2:=T2) (ty:=o.type) hk (m:=m) (n:=n) (cap:=cap) (cap2:=cap2) (o:=(ρ (.r b)).base + k * sz') g1 (by rw [g2];omega) hnl hnews hone
    have hmin : (rows.take n).length=min m n:=by rw [x07,hm,Nat.min_comm]
    have hfit : k + (rows.take n).length <= es.length:=by rw [hmin];omega
    have hml : min m n * sz' <= m * sz':=x0s _ (Nat.min_le_left _ _)
    have hN : (news.take (min m n * sz')).length=min m n * sz':=by rw [x07];omega
    have hfill:=h.fill hO hf hω hrows (es':=iY es k (rows.take n)) (us:=us.take ((ρ (.r b)).base + k * sz')++news.take (min m n * sz')++us.drop ((ρ (.r b)).base + k * sz' + min m n * sz')) (w':=w') (Nat.le_of_eq (w9 hfit)) (fun e he=>by
     rcases xa he with he | he
     ·have he:=x0K he
      exact ⟨huY e he,hrow1 e he⟩
     ·exact ⟨g4 e he,hes1 e he⟩) e3 e2 (by simp only [x0T,x07,x1J] at hN ⊢;omega) (fun i r off d h1 h2=>by
     have hget:=fun x=>cP (vs:=us) (us:=news.take (min m n * sz')) (q:=(ρ (.r b)).base + k * sz') (n:=min m n * sz') (x:=x) hN (by omega)
     rw [w8 hfit,hmin] at h1
     split at h1
     ·rename_i hi
      have hil : i - k < (rows.take n).length:=by rw [hmin];omega
      have hin : i - k < n:=by rw [hmin] at hil;omega
      rw [x0D hin] at h1
      obtain ⟨u,k1,k2⟩:=hY (i - k) r off d h1 h2
      have hof : off < sz':=by rw [<- huY r (x0d h1)];exact (x0c.1 h2).1
      have h3:=fx (sz:=sz') (show i - k < min m n by omega) hof
      have h4 : (i - k) * sz' + k * sz'=i * sz':=by rw [<- x0C];congr 1;omega
      refine ⟨u,?_,k2.2⟩
      rw [hget,if_pos (by omega),show (ρ (.r b)).base + i * sz' + off - ((ρ (.r b)).base + k * sz')=(i - k) * sz' + off by omega,x0D h3]
      exact k1
     ·rename_i hi
      obtain ⟨u,k1,k2⟩:=q5 i r off d h1 h2
      have hof : off < sz':=by rw [<- g4 r (x0d h1)];exact (x0c.1 h2).1
      rw [bC (cW (hes1 r (x0d h1) d (x0d h2)))] at k2
      refine ⟨u,?_,k2⟩
      have h5 : ¬ ((ρ (.r b)).base + k * sz' <= (ρ (.r b)).base + i * sz' + off /\ (ρ (.r b)).base + i * sz' + off < (ρ (.r b)).base + k * sz' + min m n * sz'):=by
       rintro ⟨h6,h7⟩
       rcases x1i i k with h8 | h8
       ·have:=fx (sz:=sz') h8 hof;omega
       ·have h9 : (k + min m n) * sz' <= i * sz':=x0s _ (by omega)
        rw [x0C] at h9;omega
      rw [hget,if_neg h5]
      exact k1)
    obtain ⟨_,_,_,_,hs⟩:=hfill
    have hs2:=hs.put (t:=t) (d:=.int .i64 (min rows.length n : Nat)) (v:=.int .i64 (min m n : Nat)) ht (fun _ _ _=>by rw [aA rfl,hm];simp only [aC,af])
    refine jv (v:=.int .i64 (min m n : Nat)) (w':=w') ?_ ?_
    ·simp only [execOp,ho,resolve,invoke,builtin,List.map_toArray,x0J,x01,Sem.run_bind,Sem.run_pure,Result.andThen_ok,hv,ey,e1]
    ·rw [hd]
     refine ⟨_,_,M,hK,?_⟩
     have : eff [(t,D.int .i64 (min rows.length n : Nat)),(b,D.blk sz' (iY es k (rows.take n)))] [] f=eff [(t,.int .i64 (min rows.length n : Nat))] [] (eff [(b,.blk sz' (iY es k (rows.take n)))] [] f):=by
      funext s
      unfold eff
      by_cases h1 : s=t
      ·subst h1;simp
      ·have e1 : (s == t)=false:=by simpa using h1
       simp only [x0l,e1,x0X,aL,List.any_nil,x0k,if_false]
     rw [this]
     exact hs2
  ·exact hr.elim
 ·exact hr.elim
end
end Go.Gv

namespace Go.Gv
section
variable {P : Program} {F : Fid} {C : Nat -> List D -> D -> List D -> Prop} {nt : Nat} {S : Nat -> Prop} {L : Nat -> Option Loc} {w0 : World} {M0 : Mem} {f : Nat -> D} {M : Mem} {a : Act} {w : World} {o : Oper} {d : D} {Q : Exit -> Act -> World -> Prop} {ρ : Pa -> Loc} {ω : Nat -> Option Pa} {New : Nat -> Prop} {K : List (Nat × D) -> List (Nat × Bool) -> Prop}
theorem wX {d : D} (h : aK d=true) : aS d=d:=by cases d <;> first | rfl | (simp [aK] at h)
theorem SR.frzA (h : SR F nt S L w0 M0 f M a w) {t : Nat} (ht : t < 10000) {c sz : Nat} {row : List D} (hft : f t=.adr (.r c) 0 0) (hfc : f c=.blk sz [row]) (hrow : ∀ d ∈ row,aK d=true) :
  ∃ M',SR F nt S L w0 M0 (eff [(t,.ptr row),(c,.any)] [] f) M' a w:=by
 obtain ⟨ρ,ω,hO⟩:=h.own
 have gp : a8 f (.r c)=some (sz,[row]):=by simp only [a8,hfc]
 have hc : 10000 <= c:=cd hO gp
 have hO1:=hO.only hc
 have e1 : a8 (fcE f c) (.r c)=a8 f (.r c):=oW 0
 obtain ⟨v,hv1,hv2⟩ : ∃ v,a.tmps[t]? = some v /\ bA F M ρ (f t) v:=by
  rcases hO.slots t ht with g | g
  ·rw [hft] at g;cases g
  ·exact g
 rw [hft,aA rfl] at hv2
 have hr:=kJ hO1 hv2 (by simp only [aR,e1,gp])
 have ed : dp1 (fcE f c) (.adr (.r c) 0 0)=.ptr row:=by
  simp only [dp1,e1,gp,x09,x1y,List.drop_zero]
  congr 1
  conv=>rhs;rw [<- List.map_id row]
  exact x0j fun d hd=>wX (hrow d hd)
 rw [ed] at hr
 have hle : M.le (bJ (c9 ω c) M w):=cC hO1
 have hE:=hO.erase hc
 have hf' : ∀ s,eff [(t,.ptr row),(c,.any)] [] f s=if s=t then .ptr row else fbE f c s:=fun s=>by
  unfold eff fbE
  by_cases e : s=t
  ·subst e;simp
  ·have b1 : (s == t)=false:=by simpa using e
   by_cases e2 : s=c
   ·subst e2
    simp only [List.lookup,b1,beq_self_eq_true,if_neg e,if_true]
   ·have b2 : (s == c)=false:=by simpa using e2
    simp only [List.lookup,b1,b2,if_neg e,if_neg e2]
    simp [aL]
 refine ⟨bJ (c9 ω c) M w,⟨h.hnt,h.size,h.defers,h.ch,cq h.holds,Mem.le_trans h.ext hle,fun p h1 h2=>?_,ρ,j6 ω c,?_⟩⟩
 ·by_cases e : M p=none
  ·unfold bJ at h2
   split at h2
   ·rename_i q hq
    exact hO.new _ _ (cO hq).1
   ·exact absurd e h2
  ·exact h.fresh p h1 e
 ·refine hE.step (ks:=[]) (fun p hp=>absurd rfl hp) hle (x0p _) (fun s hs=>?_) (fun b hb=>?_) (fun k p e=>.inl ⟨p,e⟩) (fun p q e=>?_) (fun b l hb hl hB=>?_)
  ·rw [hf']
   by_cases e : s=t
   ·subst e
    rw [if_pos rfl]
    refine .inr (.inr ⟨v,hv1,?_⟩)
    rw [hf',if_pos rfl,aA rfl]
    exact hr
   ·rw [if_neg e]
    exact .inl (.inr ⟨rfl,rfl,by simp [aL]⟩)
  ·have : b ≠ t:=by omega
   rw [hf',if_neg this]
   exact .inl (.inr ⟨rfl,fun p hp=>⟨rfl,fun hw=>⟨hw,rfl⟩⟩⟩)
  ·obtain ⟨e2,e3⟩:=eJ e
   have e4 : c9 ω c p.block=none:=by
    simp only [c9,e2,if_neg e3]
   simp only [bJ,e4]
   exact hO.apart p q e2
  ·have : b ≠ t:=by omega
   rw [hf',if_neg this] at hB
   exact ⟨rfl,hB⟩
theorem BS (h : SR F nt S L w0 M0 f M a w) {x y : Opd} {x' y' : Operand} {t : TypeId} (ho : o.op=.store t x' y') (hx : ao F x x'=true) (hy : ao F y y'=true) (hk : iP P t 1=true)
  (hr : aJ C f o.dst K (.stP x y)) : o.wp P a w (PostX F nt S L w0 M0 f K) Q:=by
 simp only [aJ] at hr
 obtain ⟨hd,hr⟩:=hr
 split at hr
 ·rename_i s
  obtain ⟨hs,hr⟩:=hr
  split at hr
  ·rename_i c i0 o0 hfs
   obtain ⟨rfl,rfl,hr⟩:=hr
   split at hr
   ·rename_i sz row hfc
    obtain ⟨hrow,hr⟩:=hr
    split at hr
    ·rename_i b i1 o1 i off ex
     obtain ⟨hbc,hr⟩:=hr
     split at hr
     ·rename_i sz0 es0 hb
      obtain ⟨row0,h1,sz1,es,h2,r,h3,h4,hK⟩:=hr
      obtain ⟨ρ,ω,hO⟩:=h.own
      have hc : 10000 <= c:=cd hO (show a8 f (.r c)=some (sz,[row]) by simp only [a8,hfc])
      have hb0 : 10000 <= b:=cd hO (show a8 f (.r b)=some (sz0,es0) by simp only [a8,hb])
      obtain ⟨M',h'⟩:=h.frzA hs hfs hfc hrow
      have look1 : eff [(s,.ptr row),(c,.any)] [] f s=.ptr row:=by simp [eff]
      have lookb : eff [(s,.ptr row),(c,.any)] [] f b=f b:=by
       have b1 : (b == s)=false:=by simp;omega
       have b2 : (b == c)=false:=by simpa using hbc
       simp [eff,List.lookup,b1,b2,aL]
      have lookx : vd (eff [(s,.ptr row),(c,.any)] [] f) x=.adr (.n b i1 o1) i off:=by
       cases x with
       | c d=>exact ex
       | t q =>
        simp only [vd] at ex ⊢
        have q1 : q ≠ s:=fun e=>by rw [e,hfs] at ex;cases ex
        have q2 : q ≠ c:=fun e=>by rw [e,hfc] at ex;cases ex
        have b1 : (q == s)=false:=by simpa using q1
        have b2 : (q == c)=false:=by simpa using q2
        simp [eff,List.lookup,b1,b2,aL,ex]
      refine Oper.wp_mono ?_ (y7 (C:=C) (K:=fun ws ks=>ws=[(b,.blk sz0 (br es0 i1 o1 1 [.own sz1 (br es i off 1 [.ptr row])]))] /\ ks=[]) (n:=1) (ns:=[]) h' hd ho hx hy hk ?_)
      ·rintro a' w' ⟨ws,ks,M2,⟨rfl,rfl⟩,h2⟩
       refine ⟨_,_,M2,hK,?_⟩
       have e : eff [(b,.blk sz0 (br es0 i1 o1 1 [.own sz1 (br es i off 1 [.ptr row])]))] [] (eff [(s,.ptr row),(c,.any)] [] f)=eff [(b,.blk sz0 (br es0 i1 o1 1 [.own sz1 (br es i off 1 [.ptr row])])),(s,.ptr row),(c,.any)] [] f:=by
        funext q
        unfold eff
        simp only [List.lookup]
        cases e1 : q == b <;> simp [aL]
       rw [<- e]
       exact h2
      ·have look2 : vd (eff [(s,.ptr row),(c,.any)] [] f) (.t s)=.ptr row:=look1
       simp only [aJ,look2,lookx,fD,df,eu,if_true,true_or,true_and]
       refine ⟨rfl,rfl,?_⟩
       refine ⟨by simp [aK],?_⟩
       rw [lookb,hb]
       exact ⟨row0,h1,sz1,es,h2,r,h3,h4,rfl,trivial⟩
     ·exact hr.elim
    ·exact hr.elim
   ·exact hr.elim
  ·exact hr.elim
 ·exact hr.elim
end
end Go.Gv

namespace Go.Gv
section
variable {P : Program} {F : Fid} {C : Nat -> List D -> D -> List D -> Prop} {nt : Nat} {S : Nat -> Prop} {L : Nat -> Option Loc} {w0 : World} {M0 : Mem} {f : Nat -> D} {M : Mem} {a : Act} {w : World} {o : Oper} {Q : Exit -> Act -> World -> Prop} {K : List (Nat × D) -> List (Nat × Bool) -> Prop}
theorem SR.frzX (h : SR F nt S L w0 M0 f M a w) {t : Nat} (ht : t < 10000) {c sz : Nat} {row ds : List D} {vs : List Value} (hft : f t=.adr (.r c) 0 0) (hfc : f c=.blk sz [row])
  (hrep : ∀ ρ ω,Own F L (fun k=>S k \/ w0.heap.size <= k) f M a w ρ ω -> cK F M ρ ds vs)
  (hcells : ∀ ρ ω,Own F L (fun k=>S k \/ w0.heap.size <= k) f M a w ρ ω -> ∃ (us : List Value) (T : TypeId),w.heap[(ρ (.r c)).blk]? = some (.cells us.toArray T (0,0)) /\ ∀ j v,vs[j]? = some v -> us[(ρ (.r c)).base + j]? = some v) :
  ∃ M',SR F nt S L w0 M0 (eff [(t,.ptx ds),(c,.any)] [] f) M' a w:=by
 obtain ⟨ρ,ω,hO⟩:=h.own
 have gp : a8 f (.r c)=some (sz,[row]):=by simp only [a8,hfc]
 have hc : 10000 <= c:=cd hO gp
 have hO1:=hO.only hc
 obtain ⟨v,hv1,hv2⟩ : ∃ v,a.tmps[t]? = some v /\ bA F M ρ (f t) v:=by
  rcases hO.slots t ht with g | g
  ·rw [hft] at g;cases g
  ·exact g
 rw [hft,aA rfl] at hv2
 simp only [aC,x1A,x0W] at hv2
 have hω : ω (ρ (.r c)).blk=some (.r c):=by
  rcases hO.roots c sz [row] hc hfc with ⟨e0,_⟩ | ⟨h1,_⟩
  ·cases e0
  ·exact h1
 have hω1 : c9 ω c (ρ (.r c)).blk=some (.r c):=by simp [c9,hω,Pa.root]
 have hle : M.le (bJ (c9 ω c) M w):=cC hO1
 have hr : bA F (bJ (c9 ω c) M w) ρ (.ptx ds) v:=by
  obtain ⟨us,T,h1,h2⟩:=hcells ρ ω hO
  have hL:=hrep ρ ω hO
  refine ⟨_,vs,hv2,⟨hL.1,fun i d v e1 e2=>(hL.2 i d v e1 e2).mono hle⟩,fun j u hj=>?_⟩
  have:=iR (M:=M) (ω:=c9 ω c) (o:=(ρ (.r c)).base) hω1 h1
  refine this j u ?_
  rw [x0w]
  exact h2 j u hj
 have hE:=hO.erase hc
 have hf' : ∀ s,eff [(t,.ptx ds),(c,.any)] [] f s=if s=t then .ptx ds else fbE f c s:=fun s=>by
  unfold eff fbE
  by_cases e : s=t
  ·subst e;simp
  ·have b1 : (s == t)=false:=by simpa using e
   by_cases e2 : s=c
   ·subst e2
    simp only [List.lookup,b1,beq_self_eq_true,if_neg e,if_true]
   ·have b2 : (s == c)=false:=by simpa using e2
    simp only [List.lookup,b1,b2,if_neg e,if_neg e2]
    simp [aL]
 refine ⟨bJ (c9 ω c) M w,⟨h.hnt,h.size,h.defers,h.ch,cq h.holds,Mem.le_trans h.ext hle,fun p h1 h2=>?_,ρ,j6 ω c,?_⟩⟩
 ·by_cases e : M p=none
  ·unfold bJ at h2
   split at h2
   ·rename_i q hq
    exact hO.new _ _ (cO hq).1
   ·exact absurd e h2
  ·exact h.fresh p h1 e
 ·refine hE.step (ks:=[]) (fun p hp=>absurd rfl hp) hle (x0p _) (fun s hs=>?_) (fun b hb=>?_) (fun k p e=>.inl ⟨p,e⟩) (fun p q e=>?_) (fun b l hb hl hB=>?_)
  ·rw [hf']
   by_cases e : s=t
   ·subst e
    rw [if_pos rfl]
    refine .inr (.inr ⟨v,hv1,?_⟩)
    rw [hf',if_pos rfl]
    exact hr
   ·rw [if_neg e]
    exact .inl (.inr ⟨rfl,rfl,by simp [aL]⟩)
  ·have : b ≠ t:=by omega
   rw [hf',if_neg this]
   exact .inl (.inr ⟨rfl,fun p hp=>⟨rfl,fun hw=>⟨hw,rfl⟩⟩⟩)
  ·obtain ⟨e2,e3⟩:=eJ e
   have e4 : c9 ω c p.block=none:=by
    simp only [c9,e2,if_neg e3]
   simp only [bJ,e4]
   exact hO.apart p q e2
  ·have : b ≠ t:=by omega
   rw [hf',if_neg this] at hB
   exact ⟨rfl,hB⟩
theorem nO {M : Mem} {ρ : Pa -> Loc} {d : D} {ds : List D} {v : Value} (h : mA d=some ds) (hr : bA F M ρ d v) (h1 : ds.all qT=true) : cK F M ρ ds v.cells.toList /\ ∀ u ∈ v.cells.toList,u.oneCell'=true:=by
 have one : ∀ {x : D} {u : Value},qT x=true -> aC F M ρ x u -> u.oneCell'=true:=fun {x u} hx hu=>by
  cases x
  case ref p k n =>
   simp only [aC] at hu
   rcases hu with ⟨_,A,rfl⟩ | ⟨cap,rfl,_⟩ <;> rfl
  case adr p i off =>
   simp only [aC] at hu
   subst hu
   rfl
  all_goals first
   | (simp [qT,aK] at hx;done)
   | exact oneCell_of hu (by simpa [qT] using hx)
 cases d
 case agx xs =>
  simp only [mA,x0r] at h
  subst h
  obtain ⟨vs,rfl,hL⟩:=hr
  refine ⟨by simpa [Value.cells] using hL,fun u hu=>?_⟩
  have hu' : u ∈ vs:=by simpa [Value.cells] using hu
  obtain ⟨j,hj,e⟩:=x0A.1 hu'
  have hj' : j < xs.length:=by rw [hL.1];exact hj
  exact one (x0g.1 h1 _ (x0h hj')) (hL.2 j _ u (x0e hj') (by rw [<- e];exact x0e hj))
 case adr p i off =>
  simp only [mA,x0r] at h
  subst h
  rw [aA rfl] at hr
  have hv : v.cells.toList=[v]:=by
   simp only [aC] at hr
   subst hr
   rfl
  rw [hv]
  refine ⟨⟨rfl,fun j d u e1 e2=>?_⟩,fun u hu=>?_⟩
  ·cases j with
   | zero=>simp at e1 e2;subst e1;subst e2;exact hr
   | succ j=>simp at e1
  ·simp at hu
   subst hu
   exact one rfl hr
 all_goals cases h
theorem BR (h : SR F nt S L w0 M0 f M a w) {n : Nat} {x y : Opd} {x' y' : Operand} {t : TypeId} (ho : o.op=.store t x' y') (hx : ao F x x'=true) (hy : ao F y y'=true) (hk : iP P t n=true)
  (hr : aJ C f o.dst K (.stF n x y)) : o.wp P a w (PostX F nt S L w0 M0 f K) Q:=by
 simp only [aJ] at hr
 obtain ⟨hd,hr⟩:=hr
 split at hr
 ·rename_i s
  obtain ⟨hs,hr⟩:=hr
  split at hr
  ·rename_i c i0 o0 hfs
   obtain ⟨rfl,rfl,hr⟩:=hr
   split at hr
   ·rename_i sz row hfc
    obtain ⟨hrow,ds,hds,hdl,hd1,hK⟩:=hr
    obtain ⟨ρ,ω,hO⟩:=h.own
    have hc : 10000 <= c:=cd hO (show a8 f (.r c)=some (sz,[row]) by simp only [a8,hfc])
    have hxv:=hO.opd hx
    have hyv:=hO.opd hy
    obtain ⟨hL,hone⟩:=nO hds hyv hd1
    have hus : (a.eval y').cells.toList.length=n:=by rw [<- hL.1,hdl]
    have hus' : (a.eval y').cells.size=n:=by simpa using hus
    simp only [vd] at hxv
    rw [hfs,aA rfl] at hxv
    simp only [aC] at hxv
    obtain ⟨vs,T,hω,h0,hl,g1,g2,g3,g4⟩:=hO.row (p:=.r c) hc (show a8 f (.r c)=some (sz,[row]) by simp [a8,hfc]) (i:=0) rfl
    rw [h0] at hxv
    obtain ⟨w',k1,k2,k3,k4,k5,k6,k7⟩:=jo (P:=P) (off:=(ρ (.r c)).base + 0 * sz + 0) hk g1 hus' (by omega) hone
    have hst:=h.store hO (b:=c) (i:=0) (off:=0) (n:=n) (cs:=List.replicate n .any) (bs:=[]) (src:=fun _=>none) (ks:=[]) hfc rfl (by omega) (by simp) hus (l8 g1 k2 k3 k4 k5 k6 k7)
     (fun j c u e1 e2=>.inl (by
      have : c=.any:=by
       rw [List.getElem?_replicate] at e1
       split at e1
       ·simpa using e1.symm
       ·cases e1
      subst this
      exact ⟨rfl,by simp [af]⟩)) (fun j j' c e=>by cases e) (fun j c e=>by cases e) (by simp) (fun e=>by
      rw [x0E] at e
      obtain ⟨x,hx,e⟩:=e
      rw [List.eq_of_mem_replicate hx] at e
      cases e)
    have look1 : eff ((c,.blk sz (br [row] 0 0 n (List.replicate n .any)))::cl []) [] f s=f s:=by
     have b1 : (s == c)=false:=by simp;omega
     simp [eff,cl,List.lookup,b1,aL]
    have lookc : eff ((c,.blk sz (br [row] 0 0 n (List.replicate n .any)))::cl []) [] f c=.blk sz (br [row] 0 0 n (List.replicate n .any)):=by
     simp [eff,cl]
    obtain ⟨row1,hrow1⟩ : ∃ row1,br [row] 0 0 n (List.replicate n .any)=[row1]:=by simp [br]
    have hyok : vd (eff ((c,.blk sz (br [row] 0 0 n (List.replicate n .any)))::cl []) [] f) y=vd f y:=by
     cases y with
     | c d=>rfl
     | t q =>
      simp only [vd]
      have q2 : q ≠ c:=fun e=>by
       subst e
       simp only [vd,hfc,mA] at hds
       cases hds
      have b2 : (q == c)=false:=by simpa using q2
      simp [eff,cl,List.lookup,b2,aL]
    have hrun : (execOp a.eval o).run P w=.ok .skip w':=by
     simp only [execOp,ho,hxv,Sem.run_bind,k1,Result.andThen_ok,Sem.run_pure]
    obtain ⟨M',h'⟩:=hst.frzX (t:=s) hs (c:=c) (sz:=sz) (row:=row1) (ds:=ds) (vs:=(a.eval y').cells.toList) (by rw [look1,hfs]) (by rw [lookc,hrow1])
     (fun ρ' ω' hO'=>(nO hds (by rw [<- hyok];exact hO'.opd hy) hd1).1)
     (fun ρ' ω' hO'=>by
      have e1:=hO'.opd hx
      simp only [vd] at e1
      rw [look1,hfs,aA rfl] at e1
      simp only [aC,x1A,x0W] at e1
      rw [hxv] at e1
      simp only [x1A,x0W,Value.pointer.injEq,x0r,Addr.mk.injEq] at e1
      refine ⟨_,T,by rw [<- e1.1];exact k2,fun j v hj=>?_⟩
      rw [<- e1.2.1]
      simp only [x1A,x0W]
      have hj' : j < n:=by rw [<- hus];exact (x0c.1 hj).1
      have hb : (ρ (.r c)).base <= vs.length:=by omega
      rw [x1V,x0z (by simp;omega),x0y (by simp;omega)]
      rw [<- hj]
      congr 1
      simp;omega)
    refine ox hrun ?_
    rw [hd]
    refine ⟨_,_,M',hK,?_⟩
    have e : eff [(s,.ptx ds),(c,.any)] [] (eff ((c,.blk sz (br [row] 0 0 n (List.replicate n .any)))::cl []) [] f)=eff [(s,.ptx ds),(c,.any)] [] f:=by
     funext q
     unfold eff
     simp only [List.lookup,cl,x01]
     cases e1 : q == s <;> cases e2 : q == c <;> simp [aL]
    rw [e] at h'
    simpa [Act.put] using h'
   ·exact hr.elim
  ·exact hr.elim
 ·exact hr.elim
end
end Go.Gv

namespace Go.Gv
open Go.RowKit
abbrev Env:=List (Nat × D)
def ae : Env -> Nat -> D
 | [],_=>.any
 | (s,d)::r,t=>if s=t then d else ae r t
def dU (ks : List (Nat × Bool)) (e : Env) : Env:=if ks=[] then e else e.map fun p=>(p.1,if aL ks p.2 then .any else p.2)
theorem xP (ws : List (Nat × D)) (e : Env) (t : Nat) : ae (ws++e) t=match ws.lookup t with
  | some d=>d
  | none=>ae e t:=by
 induction ws with
 | nil=>rfl
 | cons p ws ih =>
  obtain ⟨s,d⟩:=p
  simp only [x1I,ae,x0l]
  by_cases h : s=t
  ·subst h;simp
  ·have h1 : (t == s)=false:=by simp;exact fun e=>h e.symm
   rw [if_neg h,h1]
   exact ih
theorem vz (ks : List (Nat × Bool)) : ∀ (e : Env) (t : Nat),ae (dU ks e) t=if aL ks (ae e t) then .any else ae e t:=by
 intro e t
 unfold dU
 by_cases hk : ks=[]
 ·subst hk;simp [lS]
 ·rw [if_neg hk]
  induction e with
  | nil =>
   show D.any=if aL ks D.any=true then D.any else D.any
   by_cases hm : aL ks D.any=true
   ·rw [if_pos hm]
   ·rw [if_neg hm]
  | cons p e ih =>
   obtain ⟨s,d⟩:=p
   by_cases h : s=t
   ·simp [ae,h]
   ·have h1 : ae ((s,d)::e) t=ae e t:=by simp [ae,h]
    rw [h1,<- ih]
    simp [ae,h]
theorem je (ws : List (Nat × D)) (ks : List (Nat × Bool)) (e : Env) : ae (ws++dU ks e)=eff ws ks (ae e):=by
 funext t
 rw [xP]
 unfold eff
 cases List.lookup t ws with
 | some d=>rfl
 | none=>exact vz ks e t
def ig (e : Env) (dst : Option Nat) (K : Env -> Prop) : Prop :=
 match dst with
 | none=>K e
 | some t=>K ((t,.tup [])::e)
def sn (C : Nat -> List D -> D -> List D -> Prop) (dst : Option Nat) (K : Env -> Prop) (e : Env) (op : NOp) : Prop:=aJ C (ae e) dst (fun ws ks=>K (ws++dU ks e)) op
def iQ (C : Nat -> List D -> D -> List D -> Prop) (K : Env -> Prop) : List az -> Env -> Prop
 | [],e=>K e
 | o::os,e=>match o.guard with
  | none=>sn C o.dst (iQ C K os) e o.op
  | some (s,want)=>match ae e s with
   | .bool b=>(b=want -> sn C o.dst (iQ C K os) ((s,.bool want)::e) o.op) /\ (b=!want -> ig ((s,.bool !want)::e) o.dst (iQ C K os))
   | .tup []=>ig e o.dst (iQ C K os)
   | _=>False
section
variable {P : Program} {F : Fid} {C : Nat -> List D -> D -> List D -> Prop} {nt : Nat} {S : Nat -> Prop} {L : Nat -> Option Loc} {w0 : World} {M0 : Mem} {f : Nat -> D} {M : Mem} {a : Act} {w : World} {o : Oper} {d : D} {Q : Exit -> Act -> World -> Prop} {ρ : Pa -> Loc} {ω : Nat -> Option Pa} {New : Nat -> Prop} {K : List (Nat × D) -> List (Nat × Bool) -> Prop}
def x4 (P : Program) (F : Fid) : NOp -> Op -> Bool
 | .asg x,.move y=>ao F x y
 | .asg x,.assign y=>ao F x y
 | .frz x,.move y=>ao F x y
 | .frz x,.assign y=>ao F x y
 | .ldQ _ x,.load t x'=>tyS P t 1 false && ao F x x'
 | .appQ _ sz by_ x y,.call { callee:=.builtin .append,args:=⟨[x',y']⟩,argTypes:=⟨[t,t']⟩ }=>t == t' && tE P t sz by_ && ao F x x' && ao F y y'
 | .cpy sz x y,.call { callee:=.builtin .copy,args:=⟨[x',y']⟩,argTypes:=⟨[t,_]⟩ }=>oS P t sz && ao F x x' && ao F y y'
 | .stP x y,.store t x' y'=>iP P t 1 && ao F x x' && ao F y y'
 | .stF n x y,.store t x' y'=>iP P t n && ao F x x' && ao F y y'
 | .nilo _,.move y=>ao F (.c .nils) y
 | .nilo _,.assign y=>ao F (.c .nils) y
 | .box _ x,.box _ x'=>ao F x x'
 | .alc zs,.alloc t=>zeroOk P t zs
 | .bls sz len zs _ ps,.buildSlice t len' ps'=>len == len' && blsOk P F t sz len zs ps ps'.toList
 | .mks sz by_ zs n c,.makeSlice t n' c'=>mksOk P t sz by_ zs && ao F n n' && ao F c c'
 | .call g xs _,.call { callee:=.value (.func fi),args:=ys,argTypes:=_ }=>F g == some fi && cy F xs ys.toList
 | .callF g xs,.call { callee:=.value (.func fi),args:=ys,argTypes:=_ }=>F g == some fi && cy F xs ys.toList
 | .callN g x xs,.call { callee:=.value (.func fi),args:=⟨y::ys⟩,argTypes:=_ }=>F g == some fi && ao F x y && cy F xs ys
 | .callE g x xs,.call { callee:=.value (.func fi),args:=⟨y::ys⟩,argTypes:=_ }=>F g == some fi && ao F x y && cy F xs ys
 | .callA g xs,.call { callee:=.value (.func fi),args:=ys,argTypes:=_ }=>F g == some fi && cy F xs ys.toList
 | .callL g x xs,.call { callee:=.value (.func fi),args:=⟨y::ys⟩,argTypes:=_ }=>F g == some fi && ao F x y && cy F xs ys
 | .callv x xs,.call { callee:=.value x',args:=ys,argTypes:=_ }=>ao F x x' && cy F xs ys.toList
 | .st n _ x v,.store t x' v'=>iP P t n && ao F x x' && ao F v v'
 | .app sz by_ _ x y,.call { callee:=.builtin .append,args:=⟨[x',y']⟩,argTypes:=⟨[t,t']⟩ }=>t == t' && tE P t sz by_ && ao F x x' && ao F y y'
 | .mkm _ _,.makeMap _ none=>true
 | .mpu sh kt et z m x v,.mapUpdate t m' x' v'=>mapOk F t kt et sh z && ao F m m' && ao F x x' && ao F v v'
 | .dead,_=>true
 | p,q=>x3 P F p q
theorem m7 {t : Option Nat} (hK : dC t K d) : ∀ a' w',b8 F nt S L w0 M0 f t d a' w' -> PostX F nt S L w0 M0 f K a' w':=by
 rintro a' w' ⟨M',h⟩
 cases t with
 | none=>exact ⟨[],[],M',hK,by rw [mO];exact h⟩
 | some t=>exact ⟨_,_,M',hK,h⟩
theorem x5 (hl : laidOutB F.P=true) (hP : P=F.P) (h : SR F nt S L w0 M0 f M a w) {n : NOp} {q : Op} (hp : bW nt f o.dst) (ho : o.op=q) (hk : x3 P F n q=true) (hr : res f (·=d) n) : o.wp P a w (b8 F nt S L w0 M0 f o.dst d) Q:=by
 unfold x3 at hk
 split at hk <;> (try simp only [x0a,x0n] at hk)
 ·exact uD h hp (.inl ho) hk hr
 ·exact uD h hp (.inr ho) hk hr
 ·exact BP h hp ho hk hr
 ·exact y6 h hp ho hk.1.1 hk.1.2 hk.2 hr
 ·obtain ⟨⟨rfl,h1⟩,h2⟩:=hk;exact BJ h hp ho h1 h2 hr
 ·obtain ⟨rfl,h1⟩:=hk;exact E2 h hp ho h1 hr
 ·exact yW h hp ho hk.2 hk.1 hr
 ·exact yZ h hp ho hk.1.2 hk.2 hk.1.1 hr
 ·exact y4 h hp ho hk.1.2 hk.2 hk.1.1 hr
 ·obtain ⟨rfl,h1⟩:=hk;exact BM h hp ho h1 hr
 ·exact BN h hp ho hk.2 hk.1 hr
 ·exact yY h hp ho hk.1.2 hk.2 hk.1.1 hr
 ·exact yX h hp ho hk.1.2 hk.2 hk.1.1 hr
 ·exact EY h hp ho hk.2 hk.1 hr
 ·exact snd_boxF h hp ho hk hr
 ·obtain ⟨rfl,h1⟩:=hk;exact yU h hp ho h1 hr
 ·obtain ⟨rfl,h1⟩:=hk;exact yV h hp ho h1 hr
 ·exact BK h hp ho hk hr
 ·exact BO h hp ho hk.2 hk.1 hr
 ·exact y5 h hp ho hk.2 hk.1 hr
 ·exact EZ h hp ho hk.1.2 hk.2 hk.1.1 hr
 ·exact BQ h hp ho hk.1.1.2 hk.1.2 hk.2 hk.1.1.1 hr
 ·exact E0 h hp ho hk.1 hk.2 hr
 ·exact E1 h hp ho hk.1 hk.2 hr
 ·obtain ⟨⟨⟨rfl,h1⟩,h2⟩,h3⟩:=hk;exact BI h hp ho h2 h3 h1 hr
 ·exact wa h hp ho hk.1.1.1 hk.1.1.2 hk.1.2 hk.2 hr
 ·exact wi h hp ho hk.1.1.1 hk.1.1.2 hk.1.2 hk.2 hr
 ·obtain ⟨⟨⟨rfl,h1⟩,h2⟩,h3⟩:=hk;exact snd_mpl hl h hp ho h2 h3 h1 hP hr
 ·cases hk
theorem wQ {t q sz by_ : Nat} {x y : Opd} (h : aJ C f (some t) K (.appQ q sz by_ x y)) : aJ C f (some t) K (.app sz by_ false x y):=by
 simp only [aJ] at h ⊢
 split at h
 ·rename_i c i o' k n ex
  obtain ⟨rfl,h⟩:=h
  obtain ⟨rows,bs,⟨h1,h2,h⟩,hg⟩:=dN h
  refine hg _ ?_
  subst h1
  simp only [ex]
  split at h
  ·rename_i sz0 es0 hf
   obtain ⟨row0,h3,es,h4,h5,h6,h7⟩:=h
   refine ⟨rfl,h2,rfl,?_⟩
   first | (rw [hf]) | skip
   exact ⟨row0,h3,es,h4,h5,h6,h7⟩
  ·exact h.elim
 ·exact h.elim
theorem D9 {dst : Option Nat} {q : Nat} {x : Opd} (h : aJ C f dst K (.ldQ q x)) : aJ C f dst K (.ld 1 false x):=by
 simp only [aJ,res] at h ⊢
 split at h
 ·rename_i c i off ex
  obtain ⟨rfl,h⟩:=h
  split at h
  ·rename_i sz es hf
   obtain ⟨r,h1,d,h2,h3⟩:=h
   have hl:=(x0c.1 h2).1
   have gp : a8 f (.r c)=some (sz,es):=by simp only [a8,hf]
   simp only [ex,gp]
   refine ⟨r,h1,by omega,?_⟩
   have : (r.drop off).headD .any=d:=by
    rw [List.headD_eq_head?_getD,List.head?_drop,h2];rfl
   rw [this]
   exact h3
  ·exact h.elim
 ·exact h.elim
theorem sy {dst : Option Nat} {xs : List Opd} {g : Nat} (h0 : ∀ x ∈ xs,isV (vd f x)=true) (hc : C g (xs.map (vd f)) d []) (hK : dC dst K d) : (∀ x ∈ xs,bY f (vd f x)) /\ ∃ d,C g (xs.map (dpv f)) d [] /\ (isF d=true \/ (xs.all fun x=>isV (vd f x))=true) /\ dC dst K d:=by
 have e : xs.map (dpv f)=xs.map (vd f):=x0j fun x hx=>(jA (h0 x hx)).1
 exact ⟨fun x hx=>(jA (h0 x hx)).2,d,by rw [e];exact hc,.inr (x0g.2 h0),hK⟩
def NoL (L : Nat -> Option Loc) : Prop:=∀ t i,i < 15 -> L (rt t i)=none
theorem EK (hC : ck P F C) (hL : NoL L) (h : SR F nt S L w0 M0 f M a w) {n : NOp} {q : Op} (hd : ∀ t,o.dst=some t -> t < nt) (ho : o.op=q) (hk : x4 P F n q=true) (hr : aJ C f o.dst K n) : o.wp P a w (PostX F nt S L w0 M0 f K) Q:=by
 have hp : bW nt f o.dst:=by
  unfold bW
  split
  ·trivial
  ·rename_i t e;exact hd t e
 unfold x4 at hk
 have dst : ∀ {n : NOp},aJ C f none K n -> (∀ x,n ≠ .asg x) -> (∀ x,n ≠ .nilo x) -> True:=fun _ _ _=>trivial
 split at hk <;> (try simp only [x0a,x0n] at hk)
 ·cases hdst : o.dst with
  | none=>rw [hdst] at hr;exact hr.elim
  | some t=>rw [hdst] at hr;exact uB h hdst (hd t hdst) (hL t 0 (by decide)) (.inl ho) hk hr
 ·cases hdst : o.dst with
  | none=>rw [hdst] at hr;exact hr.elim
  | some t=>rw [hdst] at hr;exact uB h hdst (hd t hdst) (hL t 0 (by decide)) (.inr ho) hk hr
 ·simp only [aJ] at hr
  cases hdst : o.dst with
  | none=>rw [hdst] at hr;exact hr.elim
  | some t=>rw [hdst] at hr;exact uC h hdst (hd t hdst) (.inl ho) hk hr
 ·simp only [aJ] at hr
  cases hdst : o.dst with
  | none=>rw [hdst] at hr;exact hr.elim
  | some t=>rw [hdst] at hr;exact uC h hdst (hd t hdst) (.inr ho) hk hr
 ·have hr' : res f (dC o.dst K) (.ld 1 false _):=D9 hr
  obtain ⟨d,h1,h2⟩:=qm hr'
  exact Oper.wp_mono (m7 h1) (x5 (n:=.ld 1 false _) hC.laid hC.prog h hp ho (by simp only [x3,x0a];exact hk) (h2 _ rfl))
 ·obtain ⟨⟨⟨rfl,h1⟩,h2⟩,h3⟩:=hk
  cases hdst : o.dst with
  | none=>rw [hdst] at hr;exact hr.elim
  | some t=>rw [hdst] at hr;exact uA h hdst (hd t hdst) (hL t 0 (by decide)) ho rfl h2 h3 h1 (wQ hr)
 ·simp only [aJ] at hr
  cases hdst : o.dst with
  | none=>rw [hdst] at hr;exact hr.elim
  | some t=>rw [hdst] at hr;exact BL h hdst (hd t hdst) ho hk.1.2 hk.2 hk.1.1 hr
 ·exact BS h ho hk.1.2 hk.2 hk.1.1 hr
 ·exact BR h ho hk.1.2 hk.2 hk.1.1 hr
 ·cases hdst : o.dst with
  | none=>rw [hdst] at hr;exact hr.elim
  | some t=>rw [hdst] at hr;exact sc h hdst (hd t hdst) (hL t 0 (by decide)) (.inl ho) hk hr
 ·cases hdst : o.dst with
  | none=>rw [hdst] at hr;exact hr.elim
  | some t=>rw [hdst] at hr;exact sc h hdst (hd t hdst) (hL t 0 (by decide)) (.inr ho) hk hr
 ·cases hdst : o.dst with
  | none=>rw [hdst] at hr;exact hr.elim
  | some t=>rw [hdst] at hr;exact snd_box h hdst (hd t hdst) (hL t 0 (by decide)) ho hk hr
 ·cases hdst : o.dst with
  | none=>rw [hdst] at hr;exact hr.elim
  | some t=>rw [hdst] at hr;exact snd_alc h hdst (hd t hdst) (hL t 0 (by decide)) ho hk hr
 ·obtain ⟨rfl,hk⟩:=hk
  cases hdst : o.dst with
  | none=>rw [hdst] at hr;exact hr.elim
  | some t=>rw [hdst] at hr;exact snd_bls h hdst (hd t hdst) (hL t 0 (by decide)) ho hk hr
 ·cases hdst : o.dst with
  | none=>rw [hdst] at hr;exact hr.elim
  | some t=>rw [hdst] at hr;exact snd_mks h hdst (hd t hdst) (hL t 0 (by decide)) ho hk.1.2 hk.2 hk.1.1 hr
 ·exact sb hC h hp ho hk.2 hk.1 hr
 ·simp only [aJ] at hr
  cases hdst : o.dst with
  | none=>rw [hdst] at hr;exact hr.2.elim
  | some t=>rw [hdst] at hr;exact wd hC h hdst (hd t hdst) (hL t 0 (by decide)) ho hk.2 hk.1 hr
 ·simp only [aJ] at hr
  exact wg hC h hd ho hk.1.2 hk.2 hk.1.1 hr
 ·simp only [aJ] at hr
  cases hdst : o.dst with
  | none=>rw [hdst] at hr;exact hr.elim
  | some t=>rw [hdst] at hr;exact wc hC h hdst (hd t hdst) (hL t 0 (by decide)) ho hk.1.2 hk.2 hk.1.1 hr
 ·simp only [aJ] at hr
  obtain ⟨h0,hr⟩:=hr
  rcases hr with ⟨d,hc,hK⟩ | hr
  ·exact sb hC h hp ho hk.2 hk.1 (sy h0 hc hK)
  ·cases hdst : o.dst with
   | none=>rw [hdst] at hr;exact hr.elim
   | some t=>rw [hdst] at hr;exact wb hC h hL hdst (hd t hdst) ho hk.2 hk.1 ⟨h0,hr⟩
 ·simp only [aJ] at hr
  exact we hC h hd ho hk.1.2 hk.2 hk.1.1 hr
 ·exact wh hC h hp ho hk.1 hk.2 hr
 ·have hdst : o.dst=none:=hr.1
  exact y7 h hdst ho hk.1.2 hk.2 hk.1.1 (by rw [hdst] at hr;exact hr)
 ·obtain ⟨⟨⟨rfl,h1⟩,h2⟩,h3⟩:=hk
  cases hdst : o.dst with
  | none=>rw [hdst] at hr;exact hr.elim
  | some t=>rw [hdst] at hr;exact uA h hdst (hd t hdst) (hL t 0 (by decide)) ho rfl h2 h3 h1 hr
 ·cases hdst : o.dst with
  | none=>rw [hdst] at hr;exact hr.elim
  | some t=>rw [hdst] at hr;exact snd_mkm h hdst (hd t hdst) (hL t 0 (by decide)) ho hr
 ·have hdst : o.dst=none:=hr.1
  exact snd_mpu hC.laid h hdst ho hk.1.1.2 hk.1.2 hk.2 hk.1.1.1 hC.prog (by rw [hdst] at hr;exact hr)
 ·exact hr.elim
 ·have hr' : res f (dC o.dst K) n:=by
   clear dst
   cases n <;> first | exact hr | (simp [x3] at hk)
  obtain ⟨d,h1,h2⟩:=qm hr'
  exact Oper.wp_mono (m7 h1) (x5 hC.laid hC.prog h hp ho hk (h2 _ rfl))
def CH (nt : Nat) : Option Nat -> Bool
 | none=>true
 | some t=>decide (t < nt)
def pY (ops : Array Oper) : Option (Nat × Bool) -> Option (Nat × Bool) -> Bool
 | none,none=>true
 | some (j,b),some (s,b')=>b == b' && decide (s < 10000) && (match ops[j]? with
  | some o=>o.dst == some s
  | none=>false)
 | _,_=>false
def rA (P : Program) (F : Fid) (nt : Nat) (ops : Array Oper) (n : az) (o : Oper) : Bool :=
 n.dst == o.dst && CH nt n.dst && pY ops o.guard n.guard && x4 P F n.op o.op
theorem tA {ops : Array Oper} {tmps : Array Value} {j s : Nat} {b : Bool} {o : Oper} (h1 : ops[j]? = some o) (h2 : o.dst=some s) (h3 : tmps[s]? = some (.bool b)) : yielded ops tmps j=some b:=by
 simp [yielded,h1,h2,h3]
theorem sr {ops : Array Oper} {tmps : Array Value} {j s : Nat} {o : Oper} (h1 : ops[j]? = some o) (h2 : o.dst=some s) {vs : Array Value} (h3 : tmps[s]? = some (.tuple vs)) : yielded ops tmps j=none:=by
 simp [yielded,h1,h2,h3]
def Skp (want : Bool) (d : D) : Prop:=d=.bool (!want) \/ d=.tup []
theorem zM {ops : Array Oper} {n : az} {o : Oper} (h : pY ops o.guard n.guard=true) {f : Nat -> D} {M : Mem} {a : Act} {w : World} (hs : SR F nt S L w0 M0 f M a w) :
  (n.guard=none -> Region.wanted o (yielded ops a.tmps)=true) /\
  (∀ s want b,n.guard=some (s,want) -> f s=.bool b -> Region.wanted o (yielded ops a.tmps)=(b == want)) /\
  (∀ s want,n.guard=some (s,want) -> f s=.tup [] -> Region.wanted o (yielded ops a.tmps)=false):=by
 unfold pY at h
 split at h
 ·rename_i e1 e2
  exact ⟨fun _=>by simp [Region.wanted,e1],fun s want b e3=>(by rw [e2] at e3;cases e3),fun s want e3=>(by rw [e2] at e3;cases e3)⟩
 ·rename_i j b s b' e1 e2
  simp only [x0a,x0n,x0b] at h
  obtain ⟨⟨rfl,hs10⟩,h⟩:=h
  split at h
  ·rename_i o' ho'
   simp only [x0n] at h
   obtain ⟨ρ,ω,hO⟩:=hs.own
   refine ⟨fun e3=>(by rw [e2] at e3;cases e3),fun s1 want b1 e3 e4=>?_,fun s1 want e3 e4=>?_⟩
   ·rw [e2] at e3
    cases e3
    rcases hO.slots s hs10 with h5 | ⟨v,h5,h6⟩
    ·rw [e4] at h5;cases h5
    ·rw [e4] at h6
     simp only [bA,aC,af] at h6
     subst h6
     simp [Region.wanted,e1,tA ho' h h5]
   ·rw [e2] at e3
    cases e3
    rcases hO.slots s hs10 with h5 | ⟨v,h5,h6⟩
    ·rw [e4] at h5;cases h5
    ·rw [e4] at h6
     simp only [bA,aC,af] at h6
     obtain ⟨vs,rfl,_⟩:=h6
     simp [Region.wanted,e1,sr ho' h h5]
  ·cases h
 ·cases h
theorem qE {e : Env} {s : Nat} {b : Bool} (h : ae e s=.bool b) : ae ((s,.bool b)::e)=ae e:=by
 funext t
 simp only [ae]
 by_cases ht : s=t
 ·subst ht;rw [if_pos rfl,h]
 ·rw [if_neg ht]
def iS (C : Nat -> List D -> D -> List D -> Prop) (n : az) (f : Nat -> D) (x : Option (List (Nat × D) × List (Nat × Bool))) : Prop :=
 match x with
 | some (ws,ks)=>(∀ s b,n.guard=some (s,b) -> f s=.bool b) /\ aJ C f n.dst (fun ws' ks'=>ws'=ws /\ ks'=ks) n.op
 | none=>∃ s b,n.guard=some (s,b) /\ Skp b (f s)
def oC (n : az) : Option (List (Nat × D) × List (Nat × Bool)) -> (Nat -> D) -> (Nat -> D)
 | some (ws,ks)=>eff ws ks
 | none=>match n.dst with
  | some t=>eff [(t,.tup [])] []
  | none=>fun f=>f
theorem Df (hC : ck P F C) (hL : NoL L) {ops : Array Oper} {n : az} (hk : rA P F nt ops n o=true) (h : SR F nt S L w0 M0 f M a w) {x : Option (List (Nat × D) × List (Nat × Bool))} (hr : iS C n f x) {R : Act -> World -> Prop}
  (hR : ∀ M' a' w',SR F nt S L w0 M0 (oC n x f) M' a' w' -> R a' w') :
  if Region.wanted o (yielded ops a.tmps) then o.wp P a w R Q \/ (o.asks P a w /\ LetsOut Q) else R (a.put o.dst undef) w:=by
 unfold rA at hk
 simp only [x0a,x0n] at hk
 obtain ⟨⟨⟨hd,hdo⟩,hgu⟩,hop⟩:=hk
 have hw:=zM hgu h
 have hdst : ∀ t,o.dst=some t -> t < nt:=fun t e=>by
  rw [<- hd] at e
  rw [e] at hdo
  simpa [CH] using hdo
 cases x with
 | some y =>
  obtain ⟨ws,ks⟩:=y
  obtain ⟨h1,h2⟩:=hr
  have hwant : Region.wanted o (yielded ops a.tmps)=true:=by
   cases hg : n.guard with
   | none=>exact hw.1 hg
   | some p=>obtain ⟨s,b⟩:=p;rw [hw.2.1 s b b hg (h1 s b hg)];simp
  rw [hwant,if_pos rfl]
  left
  rw [hd] at h2
  refine Oper.wp_mono ?_ (EK hC hL h hdst rfl hop h2)
  rintro a' w' ⟨ws',ks',M',⟨rfl,rfl⟩,h'⟩
  exact hR M' a' w' h'
 | none =>
  obtain ⟨s,b,h1,h2⟩:=hr
  have hno : Region.wanted o (yielded ops a.tmps)=false:=by
   rcases h2 with h2 | h2
   ·rw [hw.2.1 s b (!b) h1 h2];cases b <;> rfl
   ·exact hw.2.2 s b h1 h2
  rw [hno,if_neg Bool.false_ne_true]
  refine hR M _ w ?_
  unfold oC
  rw [hd]
  cases hdd : o.dst with
  | none=>exact h
  | some t=>exact h.put (hdst t hdd) (fun _ _ _=>by simp [bA,aC,af,aB,undef])
theorem wv {K : Env -> Prop} {n : az} {ns : List az} {e : Env} (h : iQ C K (n::ns) e) : ∃ x e',iS C n (ae e) x /\ ae e'=oC n x (ae e) /\ iQ C K ns e':=by
 have run : ∀ e1,ae e1=ae e -> (∀ s b,n.guard=some (s,b) -> ae e s=.bool b) -> sn C n.dst (iQ C K ns) e1 n.op -> ∃ x e',iS C n (ae e) x /\ ae e'=oC n x (ae e) /\ iQ C K ns e':=by
  intro e1 he hg h1
  unfold sn at h1
  obtain ⟨ws,ks,h2,h3⟩:=nX h1
  rw [he] at h3
  exact ⟨some (ws,ks),_,⟨hg,h3 _ ⟨rfl,rfl⟩⟩,by rw [je,he];rfl,h2⟩
 rw [iQ] at h
 split at h
 ·rename_i hg
  exact run e rfl (fun s b e'=>(by rw [hg] at e';cases e')) h
 ·rename_i s want hg
  split at h
  ·rename_i b hb
   by_cases hbw : b=want
   ·subst hbw
    exact run _ (qE hb) (fun s' b' e'=>(by rw [hg] at e';cases e';exact hb)) (h.1 rfl)
   ·have hb' : b=!want:=by cases b <;> cases want <;> simp_all
    have h1:=h.2 hb'
    rw [hb'] at hb
    have he:=qE hb
    refine ⟨none,?_⟩
    unfold ig at h1
    unfold oC
    split at h1
    ·rename_i hd
     exact ⟨_,⟨s,want,hg,.inl hb⟩,by rw [hd];exact he,h1⟩
    ·rename_i t hd
     refine ⟨_,⟨s,want,hg,.inl hb⟩,?_,h1⟩
     rw [hd]
     have:=je [(t,.tup [])] [] ((s,.bool !want)::e)
     simp only [dU,if_true] at this
     rw [he] at this
     exact this
  ·rename_i hb
   refine ⟨none,?_⟩
   unfold ig at h
   unfold oC
   split at h
   ·rename_i hd
    exact ⟨_,⟨s,want,hg,.inr hb⟩,by rw [hd],h⟩
   ·rename_i t hd
    refine ⟨_,⟨s,want,hg,.inr hb⟩,?_,h⟩
    rw [hd]
    have:=je [(t,.tup [])] [] e
    simp only [dU,if_true] at this
    exact this
  ·exact h.elim
theorem ww (hC : ck P F C) (hL : NoL L) {ops : Array Oper} {K : Env -> Prop} (hQ : ∀ e M a w,SR F nt S L w0 M0 (ae e) M a w -> K e -> Q .normal a w) (ns : List az) : ∀ (os : List Oper),ns.length=os.length -> (∀ p ∈ ns.zip os,rA P F nt ops p.1 p.2=true) ->
  ∀ (e : Env) (M : Mem) (a : Act) (w : World),SR F nt S L w0 M0 (ae e) M a w -> iQ C K ns e -> wpList P ops Q os a w:=by
 induction ns with
 | nil =>
  intro os hl _ e M a w h hr
  cases os with
  | nil=>exact hQ e M a w h hr
  | cons o os=>simp at hl
 | cons n ns ih =>
  intro os hl hk e M a w h hr
  cases os with
  | nil=>simp at hl
  | cons o os =>
   obtain ⟨x,e',h1,h2,h3⟩:=wv hr
   rw [wpList]
   exact Df hC hL (hk (n,o) (by simp)) h h1 (fun M' a' w' h'=>ih os (by simpa using hl) (fun p hp=>hk p (by simp [hp])) e' M' a' w' (by rw [h2];exact h') h3)
def rO (P : Program) (F : Fid) (nt : Nat) (ns : List az) (ops : Array Oper) : Bool:=ns.length == ops.toList.length && (ns.zip ops.toList).all fun p=>rA P F nt ops p.1 p.2
theorem rQ (hC : ck P F C) (hL : NoL L) {ops : Array Oper} {ns : List az} (hk : rO P F nt ns ops=true) {id : Nat} {K : Env -> Prop} {e : Env} (h : SR F nt S L w0 M0 (ae e) M a w) (hr : iQ C K ns e) (hQ : ∀ e M a w,SR F nt S L w0 M0 (ae e) M a w -> K e -> Q .normal a w) :
  (Code.region id ops false).wp P Q a w:=by
 simp only [rO,x0a,x0n,x0g] at hk
 exact wp_region_list (ww hC hL hQ ns ops.toList hk.1 hk.2 e M a w h hr)
end
end Go.Gv

namespace Go.Gv
open Go.RowKit
def rC : Option Opd -> List Opd
 | some x=>[x]
 | none=>[]
def aj : NOp -> List Opd
 | .mov x=>[x]
 | .asg x=>[x]
 | .frz x=>[x]
 | .stP x y=>[x,y]
 | .stF _ x y=>[x,y]
 | .ldQ _ x=>[x]
 | .appQ _ _ _ x y=>[x,y]
 | .cpy _ x y=>[x,y]
 | .nilo _=>[]
 | .nck x=>[x]
 | .boxF x=>[x]
 | .blsF _ _ _ ps=>ps.map fun p=>p.2
 | .blsX _ _ _ ps=>ps.map fun p=>p.2
 | .pick c a b=>[c,a,b]
 | .bin _ x y=>[x,y]
 | .beq _ _ x y=>[x,y]
 | .un _ x=>[x]
 | .conv _ x=>[x]
 | .idxA _ _ _ x i=>[x,i]
 | .idxS x i=>[x,i]
 | .ext _ x=>[x]
 | .fad _ x=>[x]
 | .iadS _ x i=>[x,i]
 | .iadA _ _ x i=>[x,i]
 | .ld _ _ x=>[x]
 | .box _ x=>[x]
 | .alc _=>[]
 | .mkm _ _=>[]
 | .mpl _ _ _ _ _ m x=>[m,x]
 | .mpu _ _ _ _ m x v=>[m,x,v]
 | .bld _ ps=>ps.map fun p=>p.2.2
 | .bls _ _ _ _ ps=>ps.map fun p=>p.2
 | .mks _ _ _ n c=>[n,c]
 | .len x=>[x]
 | .lens x=>[x]
 | .call _ xs _=>xs
 | .callv x xs=>x::xs
 | .callF _ xs=>xs
 | .callN _ x xs=>x::xs
 | .callE _ x xs=>x::xs
 | .callL _ x xs=>x::xs
 | .callA _ xs=>xs
 | .mk _ xs=>xs
 | .slc _ x lo hi=>x::(rC lo++rC hi)
 | .mn x y=>[x,y]
 | .mx x y=>[x,y]
 | .add64 x y c=>[x,y,c]
 | .sub64 x y c=>[x,y,c]
 | .st _ _ a v=>[a,v]
 | .app _ _ _ x y=>[x,y]
 | .dead=>[]
section
variable {C : Nat -> List D -> D -> List D -> Prop} {f g : Nat -> D}
def eD (f g : Nat -> D) (d : D) : Prop:=∀ b,dz b true d=true -> g b=f b
theorem iz (p : Pa) : ce p.root true p=true:=by cases p <;> simp [ce,Pa.root]
theorem cV {p : Pa} (h : g p.root=f p.root) : a8 g p=a8 f p:=by
 cases p <;> simp only [a8,Pa.root] at h ⊢ <;> rw [h]
theorem eD.ref {p : Pa} {k n : Nat} (h : eD f g (.ref p k n)) : g p.root=f p.root:=h _ (by simp only [dz,aN];exact iz p)
theorem eD.adr {p : Pa} {i o : Nat} (h : eD f g (.adr p i o)) : g p.root=f p.root:=h _ (by simp only [dz,aN];exact iz p)
theorem eD.mrf {b : Nat} (h : eD f g (.mrf b)) : g b=f b:=h _ (by simp [dz,aN])
theorem eG {d : D} (h : ∀ b,aN b true d=true -> g b=f b) : dp1 g d=dp1 f d /\ (aR g d ↔ aR f d):=by
 cases d <;> try exact ⟨rfl,Iff.rfl⟩
 case ref p k n =>
  have e:=cV (p:=p) (h _ (by simp only [aN];exact iz p))
  simp only [dp1,aR,e,and_self]
 case adr p i off =>
  have e:=cV (p:=p) (h _ (by simp only [aN];exact iz p))
  simp only [dp1,aR,e,and_self]
theorem fO {b : Nat} {ds : List D} {d : D} (h : d ∈ ds) (hm : aN b true d=true) : ds.any (aN b true)=true:=x0E.2 ⟨d,h,hm⟩
theorem xb {d : D} (h : isX d=false) (ha : eD f g d) : dp g d=dp f d /\ (bY g d ↔ bY f d):=by
 have e : ∀ f : Nat -> D,dp f d=dp1 f d /\ (bY f d ↔ aR f d) /\ ∀ b,dz b true d=aN b true d:=fun f=>by
  cases d <;> first | exact ⟨rfl,Iff.rfl,fun _=>rfl⟩ | (simp [isX] at h)
 obtain ⟨e1,e2,e3⟩:=e f
 obtain ⟨g1,g2,_⟩:=e g
 obtain ⟨h1,h2⟩:=eG (f:=f) (g:=g) (d:=d) (fun b hb=>ha b (by rw [e3];exact hb))
 exact ⟨by rw [g1,e1,h1],by rw [g2,e2];exact h2⟩
theorem nh {d : D} (h : eD f g d) : dp g d=dp f d /\ (bY g d ↔ bY f d):=by
 cases d
 case agx ds =>
  have e : ∀ d ∈ ds,dp1 g d=dp1 f d /\ (aR g d ↔ aR f d):=fun d hd=>eG fun b hb=>h b (fO hd hb)
  simp only [dp,bY]
  exact ⟨by rw [x0j fun d hd=>(e d hd).1],⟨fun x d hd=>(e d hd).2.1 (x d hd),fun x d hd=>(e d hd).2.2 (x d hd)⟩⟩
 case tpx ds =>
  have e : ∀ d ∈ ds,dp1 g d=dp1 f d /\ (aR g d ↔ aR f d):=fun d hd=>eG fun b hb=>h b (fO hd hb)
  simp only [dp,bY]
  exact ⟨by rw [x0j fun d hd=>(e d hd).1],⟨fun x d hd=>(e d hd).2.1 (x d hd),fun x d hd=>(e d hd).2.2 (x d hd)⟩⟩
 case ptx ds =>
  have e : ∀ d ∈ ds,dp1 g d=dp1 f d /\ (aR g d ↔ aR f d):=fun d hd=>eG fun b hb=>h b (fO hd hb)
  simp only [dp,bY]
  exact ⟨by rw [x0j fun d hd=>(e d hd).1],⟨fun x d hd=>(e d hd).2.1 (x d hd),fun x d hd=>(e d hd).2.2 (x d hd)⟩⟩
 case rfx n sz ds=>exact ⟨rfl,Iff.rfl⟩
 case fnx k ds =>
  have e : ∀ d ∈ ds,dp1 g d=dp1 f d /\ (aR g d ↔ aR f d):=fun d hd=>eG fun b hb=>h b (fO hd hb)
  simp only [dp,bY]
  exact ⟨by rw [x0j fun d hd=>(e d hd).1],⟨fun x d hd=>(e d hd).2.1 (x d hd),fun x d hd=>(e d hd).2.2 (x d hd)⟩⟩
 all_goals
  exact xb rfl h
theorem md {d : D} {K : D -> List Nat -> Prop} (h : ∀ b,aN b true d=true -> g b=f b) (hr : df f d K) : df g d K:=by
 unfold df at hr ⊢
 split at hr
 ·rename_i b k n
  rw [h b (by simp [aN,ce])]
  exact hr
 ·exact hr
theorem me : ∀ {ds : List D} {K : List D -> List Nat -> Prop},(∀ d ∈ ds,∀ b,aN b true d=true -> g b=f b) -> iT f ds K -> iT g ds K
 | [],K,_,hr=>hr
 | d::ds,K,h,hr=>by
  obtain ⟨c,bs,h1,h2⟩:=ly hr
  obtain ⟨cs,bs',h3,h4⟩:=lz h1
  refine md (h d (by simp)) (h2 _ (me (fun d hd=>h d (by simp [hd])) (h4 _ h3)))
theorem jX {d : D} {ns : List Nat} {K : List D -> List Nat -> Prop} (h : eD f g d) (hr : fD f d ns K) : fD g d ns K:=by
 unfold fD at hr ⊢
 split at hr
 ·exact hr
 ·exact ⟨hr.1,me (fun d hd b hb=>h b (fO hd hb)) hr.2⟩
 ·rename_i hne1 hne2
  refine ⟨hr.1,md (fun b hb=>h b ?_) hr.2⟩
  cases d <;> first | exact hb | (exact absurd rfl (hne2 _)) | (simp [aN] at hb)
theorem kX {sz : Nat} {ns : List Nat} : ∀ {ps : List (Nat × Opd)} {es : List (List D)} {bs : List Nat} {K : List (List D) -> List Nat -> Prop},(∀ p ∈ ps,vd g p.2=vd f p.2 /\ eD f g (vd f p.2)) -> fw f sz ns ps es bs K -> fw g sz ns ps es bs K
 | [],es,bs,K,_,hr=>hr
 | (i,x)::ps,es,bs,K,h,hr=>by
  obtain ⟨h0,hr⟩:=hr
  obtain ⟨e1,e2⟩:=h (i,x) (by simp)
  obtain ⟨cs,b1,⟨h1,h1'⟩,h2⟩:=iU hr
  refine ⟨h0,?_⟩
  simp only at e1 e2
  rw [e1]
  exact jX e2 (h2 _ ⟨h1,kX (fun p hp=>h p (by simp [hp])) h1'⟩)
theorem jm {mv : Bool} {d : D} {sz : Nat} {K : List (List D) -> List Nat -> Prop} (h : eD f g d) (hr : fA f mv d sz K) : fA g mv d sz K:=by
 unfold fA at hr ⊢
 split at hr
 ·exact hr
 ·exact hr
 ·rename_i p k n
  cases mv with
  | true =>
   obtain ⟨h0,hr⟩:=hr
   refine ⟨h0,?_⟩
   cases p with
   | r b=>simp only at hr ⊢;rw [show g b=f b from h.ref];exact hr
   | n b i o=>exact hr
  | false=>simp only at hr ⊢;rw [cV h.ref];exact hr
 ·exact hr
theorem dL {x : Option Opd} {n : Nat} {K : Nat -> Prop} (h : ∀ y ∈ rC x,vd g y=vd f y) (hr : eA f x n K) : eA g x n K:=by
 unfold eA at hr ⊢
 split at hr
 ·exact hr
 ·rename_i y
  rw [h y (by simp [rC])]
  exact hr
theorem i7 : ∀ {ps : List (Nat × Opd)} {es : List (List D)},(∀ p ∈ ps,vd g p.2=vd f p.2) -> gQ g ps es=gQ f ps es
 | [],_,_=>rfl
 | p::ps,es,h=>by
  simp only [gQ]
  rw [h p (by simp)]
  exact i7 fun q hq=>h q (by simp [hq])
theorem kE {sz len : Nat} {zs : List D} {ps : List (Nat × Opd)} (h : ∀ p ∈ ps,vd g p.2=vd f p.2) : jZ g sz len zs ps=jZ f sz len zs ps:=by
 unfold jZ
 rw [x0j (fun p hp=>by rw [h p hp])]
theorem vW {o : NOp} {K : D -> Prop} (hv : ∀ x ∈ aj o,vd g x=vd f x) (ha : ∀ x ∈ aj o,eD f g (vd f x)) (hr : res f K o) : res g K o:=by
 cases o with
 | ld n ag x =>
  have e:=hv x (by simp [aj]);have a:=ha x (by simp [aj])
  simp only [res,e] at hr ⊢
  split at hr
  ·rename_i ex;rw [ex] at a;rw [cV a.adr];exact hr
  ·exact hr
  ·exact hr
  ·exact hr
 | iadS sz x i =>
  have e:=hv x (by simp [aj]);have a:=ha x (by simp [aj]);have e2:=hv i (by simp [aj])
  simp only [res,e,e2] at hr ⊢
  split at hr
  ·exact hr
  ·exact hr
  ·rename_i ex _;rw [ex] at a;rw [cV a.ref];exact hr
  ·exact hr
 | slc sz x lo hi =>
  have e:=hv x (by simp [aj]);have a:=ha x (by simp [aj])
  have hlo : ∀ y ∈ rC lo,vd g y=vd f y:=fun y hy=>hv y (by simp [aj,hy])
  have hhi : ∀ y ∈ rC hi,vd g y=vd f y:=fun y hy=>hv y (by simp [aj,hy])
  simp only [res,e] at hr ⊢
  split at hr
  ·exact ⟨hr.1,dL hhi (jY hr.2 fun m h=>dL hlo h)⟩
  ·exact dL hhi (jY hr fun m h=>dL hlo h)
  ·rename_i ex
   rw [ex] at a;rw [cV a.ref]
   split at hr
   ·exact ⟨hr.1,dL hhi (jY hr.2 fun m h=>dL hlo h)⟩
   ·exact hr
  ·exact hr
 | bld zs ps =>
  have e : ∀ p ∈ ps,vd g p.2.2=vd f p.2.2:=fun p hp=>hv _ (x0u.2 ⟨p,hp,rfl⟩)
  simp only [res] at hr ⊢
  obtain ⟨h1,h2,h3⟩:=hr
  have e2 : (ps.all fun p=>isV (vd g p.2.2))=(ps.all fun p=>isV (vd f p.2.2)):=by
   rw [x0x,x0g,x0g]
   exact ⟨fun h p hp=>by rw [<- e p hp];exact h p hp,fun h p hp=>by rw [e p hp];exact h p hp⟩
  have m1 : (ps.map fun p=>(p.1,p.2.1,vd g p.2.2))=ps.map fun p=>(p.1,p.2.1,vd f p.2.2):=x0j fun p hp=>by rw [e p hp]
  have m2 : (ps.map fun p=>(p.1,p.2.1,cf (vd g p.2.2)))=ps.map fun p=>(p.1,p.2.1,cf (vd f p.2.2)):=x0j fun p hp=>by rw [e p hp]
  rw [e2,m1,m2]
  exact ⟨fun p hp=>by rw [e p hp];exact h1 p hp,h2,h3⟩
 | mk k xs =>
  have e : ∀ x ∈ xs,vd g x=vd f x:=fun x hx=>hv x hx
  simp only [res] at hr ⊢
  obtain ⟨h1,h2,h3⟩:=hr
  have e2 : (xs.all fun x=>isV (vd g x))=(xs.all fun x=>isV (vd f x)):=by
   rw [x0x,x0g,x0g]
   exact ⟨fun h p hp=>by rw [<- e p hp];exact h p hp,fun h p hp=>by rw [e p hp];exact h p hp⟩
  rw [e2,x0j e]
  exact ⟨fun p hp=>by rw [e p hp];exact h1 p hp,h2,h3⟩
 | pick c x y=>simp only [res,hv c (by simp [aj]),hv x (by simp [aj]),hv y (by simp [aj])] at hr ⊢;exact hr
 | add64 x y c=>simp only [res,hv c (by simp [aj]),hv x (by simp [aj]),hv y (by simp [aj])] at hr ⊢;exact hr
 | sub64 x y c=>simp only [res,hv c (by simp [aj]),hv x (by simp [aj]),hv y (by simp [aj])] at hr ⊢;exact hr
 | bin op x y=>simp only [res,hv x (by simp [aj]),hv y (by simp [aj])] at hr ⊢;exact hr
 | beq op ks x y=>simp only [res,hv x (by simp [aj]),hv y (by simp [aj])] at hr ⊢;exact hr
 | idxA l s g x i=>simp only [res,hv x (by simp [aj]),hv i (by simp [aj])] at hr ⊢;exact hr
 | idxS x i=>simp only [res,hv x (by simp [aj]),hv i (by simp [aj])] at hr ⊢;exact hr
 | iadA l s x i=>simp only [res,hv x (by simp [aj]),hv i (by simp [aj])] at hr ⊢;exact hr
 | mn x y=>simp only [res,hv x (by simp [aj]),hv y (by simp [aj])] at hr ⊢;exact hr
 | mx x y=>simp only [res,hv x (by simp [aj]),hv y (by simp [aj])] at hr ⊢;exact hr
 | mov x=>simp only [res,hv x (by simp [aj])] at hr ⊢;exact hr
 | nck x=>simp only [res,hv x (by simp [aj])] at hr ⊢;exact hr
 | un op x=>simp only [res,hv x (by simp [aj])] at hr ⊢;exact hr
 | conv k x=>simp only [res,hv x (by simp [aj])] at hr ⊢;exact hr
 | ext i x=>simp only [res,hv x (by simp [aj])] at hr ⊢;exact hr
 | fad i x=>simp only [res,hv x (by simp [aj])] at hr ⊢;exact hr
 | len x=>simp only [res,hv x (by simp [aj])] at hr ⊢;exact hr
 | boxF x=>simp only [res,hv x (by simp [aj])] at hr ⊢;exact hr
 | blsF sz len zs ps =>
  have e : ∀ p ∈ ps,vd g p.2=vd f p.2:=fun p hp=>hv _ (x0u.2 ⟨p,hp,rfl⟩)
  simp only [res] at hr ⊢
  rw [i7 e]
  exact ⟨fun p hp=>by rw [e p hp];exact hr.1 p hp,hr.2⟩
 | blsX sz len zs ps =>
  have e : ∀ p ∈ ps,vd g p.2=vd f p.2:=fun p hp=>hv _ (x0u.2 ⟨p,hp,rfl⟩)
  simp only [res] at hr ⊢
  rw [kE e]
  exact ⟨hr.1,fun p hp=>by rw [e p hp];exact hr.2.1 p hp,hr.2.2⟩
 | lens x=>simp only [res,hv x (by simp [aj])] at hr ⊢;exact hr
 | mpl sh kt et ok z m x =>
  have e:=hv m (by simp [aj]);have a:=ha m (by simp [aj]);have e2:=hv x (by simp [aj])
  simp only [res,e,e2] at hr ⊢
  split at hr
  ·rename_i b ex
   rw [ex] at a
   rw [a.mrf]
   exact hr
  ·exact hr
 | _=>simp only [res] at hr
theorem tp {o : NOp} {dst : Option Nat} {K : List (Nat × D) -> List (Nat × Bool) -> Prop} (hv : ∀ x ∈ aj o,vd g x=vd f x) (ha : ∀ x ∈ aj o,eD f g (vd f x)) (hr : aJ C f dst K o) : aJ C g dst K o:=by
 cases o with
 | frz x =>
  have e:=hv x (by simp [aj]);have a:=ha x (by simp [aj])
  cases dst with
  | none=>exact hr
  | some t =>
   simp only [aJ,e] at hr ⊢
   split at hr
   ·rename_i c k n ex
    rw [ex] at a
    have hl:=eG (d:=.ref (.r c) k n) (f:=f) (g:=g) (fun b hb=>a b (by simp only [dz];exact hb))
    rw [hl.1]
    exact ⟨hl.2.2 hr.1,hr.2⟩
   ·exact hr
 | asg x =>
  have e:=hv x (by simp [aj]);have a:=ha x (by simp [aj])
  cases dst with
  | none=>exact hr
  | some t =>
   simp only [aJ,e] at hr ⊢
   split at hr
   ·rename_i c k n ex
    rw [ex] at a
    rw [show g c=f c from a.ref]
    exact hr
   ·exact hr
 | ldQ q x =>
  have e:=hv x (by simp [aj]);have a:=ha x (by simp [aj])
  simp only [aJ,e] at hr ⊢
  split at hr
  ·rename_i c i off ex
   rw [ex] at a
   rw [show g c=f c from a.adr]
   exact hr
  ·exact hr
 | appQ q sz by_ x y =>
  have e:=hv x (by simp [aj]);have a:=ha x (by simp [aj]);have e2:=hv y (by simp [aj]);have a2:=ha y (by simp [aj])
  cases dst with
  | none=>exact hr
  | some t =>
   simp only [aJ,e,e2] at hr ⊢
   split at hr
   ·rename_i c i o k n ex
    rw [ex] at a
    obtain ⟨h0,hr⟩:=hr
    obtain ⟨rows,bs,⟨h1,h1',h2⟩,h3⟩:=dN hr
    refine ⟨h0,jm a2 (h3 _ ⟨h1,h1',?_⟩)⟩
    rw [show g c=f c from a.ref]
    exact h2
   ·exact hr
 | cpy sz x y =>
  have e:=hv x (by simp [aj]);have a:=ha x (by simp [aj]);have e2:=hv y (by simp [aj]);have a2:=ha y (by simp [aj])
  cases dst with
  | none=>exact hr
  | some t =>
   simp only [aJ,e,e2] at hr ⊢
   obtain ⟨rows,bs,⟨h1,h1',h2⟩,h3⟩:=dN hr
   refine jm a2 (h3 _ ⟨h1,h1',?_⟩)
   split at h2
   ·rename_i c k n ex;rw [ex] at a;rw [show g c=f c from a.ref];exact h2
   ·exact h2
 | stF n x y =>
  have e:=hv x (by simp [aj]);have a:=ha x (by simp [aj]);have e2:=hv y (by simp [aj])
  simp only [aJ,e2] at hr ⊢
  refine ⟨hr.1,?_⟩
  have hr:=hr.2
  split at hr
  ·rename_i s
   simp only [vd] at e a
   rw [e]
   refine ⟨hr.1,?_⟩
   have hr:=hr.2
   split at hr
   ·rename_i c i0 o0 ex
    rw [ex] at a
    rw [show g c=f c from a.adr]
    exact hr
   ·exact hr
  ·exact hr
 | stP x y =>
  have e:=hv x (by simp [aj]);have a:=ha x (by simp [aj]);have e2:=hv y (by simp [aj]);have a2:=ha y (by simp [aj])
  simp only [aJ,e] at hr ⊢
  refine ⟨hr.1,?_⟩
  have hr:=hr.2
  split at hr
  ·rename_i s
   simp only [vd] at e2 a2
   rw [e2]
   refine ⟨hr.1,?_⟩
   have hr:=hr.2
   split at hr
   ·rename_i c i0 o0 ex
    rw [ex] at a2
    rw [show g c=f c from a2.adr]
    refine ⟨hr.1,hr.2.1,?_⟩
    have hr:=hr.2.2
    split at hr
    ·refine ⟨hr.1,?_⟩
     have hr:=hr.2
     split at hr
     ·rename_i b i1 o1 i off ex2
      rw [ex2] at a
      rw [show g b=f b from a.adr]
      exact hr
     ·exact hr
    ·exact hr
   ·exact hr
  ·exact hr
 | nilo sz=>exact hr
 | alc zs=>exact hr
 | mkm kt et=>exact hr
 | mpu sh kt et z m x v =>
  have e:=hv m (by simp [aj]);have a:=ha m (by simp [aj]);have e2:=hv x (by simp [aj]);have e3:=hv v (by simp [aj])
  simp only [aJ,e,e2,e3] at hr ⊢
  refine ⟨hr.1,?_⟩
  have hr:=hr.2
  split at hr
  ·rename_i b ex
   rw [ex] at a
   rw [a.mrf]
   exact hr
  ·exact hr
 | box ns x =>
  have e:=hv x (by simp [aj]);have a:=ha x (by simp [aj])
  cases dst with
  | none=>exact hr
  | some t=>simp only [aJ,e] at hr ⊢;exact jX a hr
 | bls sz len zs ns ps =>
  cases dst with
  | none=>exact hr
  | some t=>simp only [aJ] at hr ⊢;exact kX (fun p hp=>⟨hv _ (x0u.2 ⟨p,hp,rfl⟩),ha _ (x0u.2 ⟨p,hp,rfl⟩)⟩) hr
 | mks sz by_ zs n c =>
  have e:=hv n (by simp [aj]);have e2:=hv c (by simp [aj])
  cases dst with
  | none=>exact hr
  | some t=>simp only [aJ,e,e2] at hr ⊢;exact hr
 | st n ns x v =>
  have e:=hv x (by simp [aj]);have a:=ha x (by simp [aj]);have e2:=hv v (by simp [aj]);have a2:=ha v (by simp [aj])
  simp only [aJ,e,e2] at hr ⊢
  obtain ⟨h0,hr⟩:=hr
  refine ⟨h0,?_⟩
  obtain ⟨cs,bs,⟨h1,h2⟩,h3⟩:=iU hr
  refine jX a2 (h3 _ ⟨h1,?_⟩)
  split at h2
  ·rename_i b i off ex;rw [ex] at a;rw [show g b=f b from a.adr];exact h2
  ·rename_i b i0 o0 i off ex;rw [ex] at a;rw [show g b=f b from a.adr];exact h2
  ·exact h2
 | app sz by_ mv x y =>
  have e:=hv x (by simp [aj]);have a:=ha x (by simp [aj]);have e2:=hv y (by simp [aj]);have a2:=ha y (by simp [aj])
  cases dst with
  | none=>exact hr
  | some t =>
   simp only [aJ,e,e2] at hr ⊢
   obtain ⟨rows,bs,⟨h1,h2⟩,h3⟩:=dN hr
   refine jm a2 (h3 _ ⟨h1,?_⟩)
   split at h2
   ·exact h2
   ·rename_i c k n ex;rw [ex] at a;rw [show g c=f c from a.ref];exact h2
   ·rename_i c i o k n ex;rw [ex] at a;rw [show g c=f c from a.ref];exact h2
   ·exact h2
 | call k xs ms =>
  simp only [aJ] at hr ⊢
  obtain ⟨h0,d,h1,h2,h3⟩:=hr
  have e : ∀ x ∈ xs,dpv g x=dpv f x /\ (bY g (vd g x) ↔ bY f (vd f x)):=fun x hx=>by
   have:=nh (ha x hx)
   unfold dpv
   rw [hv x hx]
   exact this
  refine ⟨fun x hx=>(e x hx).2.2 (h0 x hx),d,by rw [x0j fun x hx=>(e x hx).1];exact h1,h2.imp id (fun h=>?_),h3⟩
  rw [x0g] at h ⊢
  exact fun x hx=>by rw [hv x hx];exact h x hx
 | callF k xs =>
  have e : ∀ x ∈ xs,dpv g x=dpv f x /\ (bY g (vd g x) ↔ bY f (vd f x)):=fun x hx=>by
   have:=nh (ha x hx)
   unfold dpv
   rw [hv x hx]
   exact this
  simp only [aJ] at hr ⊢
  rw [x0j fun x hx=>(e x hx).1]
  exact ⟨fun x hx=>(e x hx).2.2 (hr.1 x hx),hr.2⟩
 | callN k x0 xs =>
  have e0:=hv x0 (by simp [aj]);have a0:=ha x0 (by simp [aj])
  have e : ∀ x ∈ xs,vd g x=vd f x:=fun x hx=>hv x (by simp [aj,hx])
  simp only [aJ,e0] at hr ⊢
  split at hr
  ·rename_i b i o k n hvx
   rw [hvx] at a0
   have hb : g b=f b:=a0.ref
   rw [hb,x0j e]
   obtain ⟨h1,hr⟩:=hr
   refine ⟨h1,?_⟩
   split at hr
   ·obtain ⟨row0,h2,sz,es,h3,h4,h5,h6⟩:=hr
    exact ⟨row0,h2,sz,es,h3,h4,fun x hx=>by rw [e x hx];exact h5 x hx,h6⟩
   ·exact hr.elim
  ·exact hr.elim
 | callA k xs =>
  have e : ∀ x ∈ xs,vd g x=vd f x:=fun x hx=>hv x (by simp [aj,hx])
  simp only [aJ] at hr ⊢
  rw [x0j e]
  exact ⟨fun x hx=>by rw [e x hx];exact hr.1 x hx,hr.2⟩
 | callL k x0 xs =>
  have e0:=hv x0 (by simp [aj]);have a0:=ha x0 (by simp [aj])
  have e : ∀ x ∈ xs,vd g x=vd f x:=fun x hx=>hv x (by simp [aj,hx])
  simp only [aJ,e0] at hr ⊢
  split at hr
  ·rename_i b i o hvx
   rw [hvx] at a0
   have hb : g b=f b:=a0.adr
   rw [hb,x0j e]
   obtain ⟨h1,h2,hr⟩:=hr
   refine ⟨h1,h2,?_⟩
   split at hr
   ·exact ⟨hr.1,fun x hx=>by rw [e x hx];exact hr.2.1 x hx,hr.2.2⟩
   ·exact hr.elim
  ·exact hr.elim
 | callE k x0 xs =>
  have e0:=hv x0 (by simp [aj]);have a0:=ha x0 (by simp [aj])
  have e : ∀ x ∈ xs,lA g x=lA f x /\ ∀ b,mG g b x ↔ mG f b x:=fun x hx=>by
   have h1:=hv x (by simp [aj,hx])
   have h2:=ha x (by simp [aj,hx])
   unfold lA mG
   rw [h1]
   revert h2
   generalize vd f x=d
   intro h2
   cases d <;> first | exact ⟨rfl,fun _=>Iff.rfl⟩ | skip
   rename_i p k n
   cases p with
   | r c =>
    have hb : g c=f c:=h2.ref
    exact ⟨by simp only [hb],fun _=>by simp only [hb]⟩
   | n c i o=>exact ⟨rfl,fun _=>Iff.rfl⟩
  simp only [aJ,e0] at hr ⊢
  split at hr
  ·split at hr
   ·rename_i p k n hvx
    rw [hvx] at a0
    have hb : g p.root=f p.root:=a0.ref
    have hd : cU g p=cU f p:=by
     cases p with
     | r c=>rfl
     | n c i o=>simp only [cU];rw [show g c=f c from hb]
    simp only [cV hb,hd]
    rw [x0j fun x hx=>(e x hx).1]
    split at hr
    ·obtain ⟨h1,h2,h3,h4,h5,h6⟩:=hr
     exact ⟨h1,h2,h3,h4,fun x hx=>((e x hx).2 _).2 (h5 x hx),h6⟩
    ·exact hr.elim
   ·exact hr.elim
  ·exact hr.elim
 | callv x0 xs =>
  have e0:=hv x0 (by simp [aj]);have a0:=ha x0 (by simp [aj])
  have e : ∀ x ∈ xs,dpv g x=dpv f x /\ (bY g (vd g x) ↔ bY f (vd f x)):=fun x hx=>by
   have:=nh (ha x (by simp [aj,hx]))
   unfold dpv
   rw [hv x (by simp [aj,hx])]
   exact this
  simp only [aJ,e0] at hr ⊢
  split at hr
  ·obtain ⟨h0,d,h1,h2,h3⟩:=hr
   refine ⟨fun x hx=>(e x hx).2.2 (h0 x hx),d,by rw [x0j fun x hx=>(e x hx).1];exact h1,h2.imp id (fun h=>?_),h3⟩
   rw [x0g] at h ⊢
   exact fun x hx=>by rw [hv x (by simp [aj,hx])];exact h x hx
  ·rename_i k cs ex
   rw [ex] at a0
   obtain ⟨h0,h0',d,h1,h2,h3⟩:=hr
   have ec : ∀ c ∈ cs,dp1 g c=dp1 f c /\ (aR g c ↔ aR f c):=fun c hc=>eG fun b hb=>a0 b (fO hc hb)
   exact ⟨fun x hx=>(e x hx).2.2 (h0 x hx),fun c hc=>(ec c hc).2.2 (h0' c hc),d,by rw [x0j fun x hx=>(e x hx).1,x0j fun c hc=>(ec c hc).1];exact h1,h2,h3⟩
  ·exact hr
 | _=>(simp only [aJ] at hr ⊢;exact vW hv ha hr)
end
end Go.Gv

namespace Go.Gv
open Go.RowKit
def aM : D -> List Nat
 | .ref p _ _=>[p.root]
 | .adr p _ _=>[p.root]
 | .mrf b=>[b]
 | _=>[]
def bH : D -> List Nat
 | .agx ds=>ds.flatMap aM
 | .tpx ds=>ds.flatMap aM
 | .ptx ds=>ds.flatMap aM
 | .rfx _ _ ds=>ds.flatMap aM
 | .fnx _ ds=>ds.flatMap aM
 | d=>aM d
theorem rp {b : Nat} {all : Bool} {p : Pa} (h : ce b all p=true) : b=p.root:=by
 cases p <;> simp [ce,Pa.root] at h ⊢ <;> simp_all
theorem mo {b : Nat} {all : Bool} {d : D} (h : aN b all d=true) : b ∈ aM d:=by
 cases d <;> simp only [aN,x0k] at h
 case ref p k n=>simp [aM,rp h]
 case adr p i o=>simp [aM,rp h]
 case mrf c=>simp at h;simp [aM,h.2]
theorem ke {b : Nat} {all : Bool} {d : D} (h : dz b all d=true) : b ∈ bH d:=by
 have part : ∀ ds : List D,ds.any (aN b all)=true -> b ∈ ds.flatMap aM:=fun ds h=>by
  obtain ⟨d,h1,h2⟩:=x0E.1 h
  exact List.mem_flatMap.2 ⟨d,h1,mo h2⟩
 cases d
 case agx ds=>exact part ds h
 case tpx ds=>exact part ds h
 case ptx ds=>exact part ds h
 case rfx n sz ds=>exact part ds h
 case fnx g ds=>exact part ds h
 all_goals (simp only [dz] at h;simp only [bH];exact mo h)
theorem lR (ks : List (Nat × Bool)) : aL ks .any=false:=by
 simp [aL,dz,aN]
theorem nF {ks : List (Nat × Bool)} {d : D} (h : aL ks d=true) : ∃ k ∈ ks,dz k.1 k.2 d=true:=by
 simpa [aL] using h
theorem ix {ws : List (Nat × D)} {k : Nat} {d : D} (h : ws.lookup k=some d) : (k,d) ∈ ws:=by
 induction ws with
 | nil=>cases h
 | cons p ws ih =>
  obtain ⟨s,x⟩:=p
  rw [x0l] at h
  cases e : k == s with
  | true=>rw [e] at h;simp at e h;subst e;subst h;simp
  | false=>rw [e] at h;simp [ih h]
theorem re {ws : List (Nat × D)} {k : Nat} (h : ws.lookup k=none) : k ∉ ws.map (·.1):=by
 induction ws with
 | nil=>simp
 | cons p ws ih =>
  obtain ⟨s,x⟩:=p
  rw [x0l] at h
  cases e : k == s with
  | true=>rw [e] at h;cases h
  | false=>rw [e] at h;simp at e;simp only [x0J,x0N,not_or];exact ⟨e,ih h⟩
theorem fY {ws : List (Nat × D)} {k : Nat} (h : k ∉ ws.map (·.1)) : ws.lookup k=none:=by
 refine rf fun d hd=>h (x0u.2 ⟨_,hd,rfl⟩)
structure Fam where
 n : Nat
 ws : Nat -> List (Nat × D)
 ks : Nat -> List (Nat × Bool)
 rd : Nat -> List Nat
 mn : Nat -> List Nat
 fr : Nat -> List (Nat × Nat)
 bef : Nat -> Nat -> Bool
 f0 : Nat -> D
def Fam.W (A : Fam) (i : Nat) : List Nat:=(A.ws i).map (·.1)
def Fam.E (A : Fam) (i : Nat) : (Nat -> D) -> (Nat -> D):=eff (A.ws i) (A.ks i)
def Fam.G (A : Fam) (l : Nat -> Bool) : Nat -> (Nat -> D)
 | 0=>A.f0
 | m + 1=>if l m then A.E m (A.G l m) else A.G l m
def Fam.St (A : Fam) (m : Nat) : Nat -> D:=A.G (fun _=>true) m
def gd (m : Nat) : D -> Option (List (Option D))
 | .blk _ es=>some (es.map fun r=>r[m]?)
 | _=>none
def Fam.Pres (A : Fam) (i k m : Nat) : Prop:=gd m (A.St (i + 1) k)=gd m (A.St i k)
def Fam.Apart (A : Fam) (i j : Nat) : Prop:=(∀ k ∈ A.W i,k ∉ A.rd j /\ k ∉ A.W j /\ ∀ m,(k,m) ∈ A.fr j -> A.Pres i k m) /\ ∀ k ∈ A.ks i,k.1 ∉ A.mn j
def Fam.Ind (A : Fam) (i j : Nat) : Prop:=A.Apart i j /\ A.Apart j i
structure Fam.Ok (A : Fam) : Prop where
 kills : ∀ i,i < A.n -> ∀ k ∈ A.ks i,k.1 ∈ A.W i
 vals : ∀ i,i < A.n -> ∀ p ∈ A.ws i,∀ b all,dz b all p.2=true -> b ∈ A.mn i \/ b ∈ A.W i
 closed : ∀ i,i < A.n -> ∀ k ∈ A.rd i,∀ b all,dz b all (A.St i k)=true -> b ∈ A.mn i
 fine : ∀ i,i < A.n -> ∀ p ∈ A.fr i,p.1 ∉ A.W i
 known : ∀ i,i < A.n -> ∀ k ∈ A.rd i,A.St i k ≠ .any
 pairs : ∀ i j,i < j -> j < A.n -> A.bef j i=true \/ A.Ind i j
section
variable {A : Fam}
theorem ff {ws : List (Nat × D)} {ks : List (Nat × Bool)} {f : Nat -> D} {k : Nat} {d : D} (h : ws.lookup k=some d) : eff ws ks f k=d:=aU h
theorem cQ {ws : List (Nat × D)} {ks : List (Nat × Bool)} {f : Nat -> D} {k : Nat} (h : ws.lookup k=none) : eff ws ks f k=if aL ks (f k) then .any else f k:=by
 unfold eff;rw [h]
theorem Fam.Ok.noKill (h : A.Ok) {i j : Nat} (hi : i < A.n) (hj : j < A.n) (hI : A.Apart j i) {p : Nat × D} (hp : p ∈ A.ws i) : aL (A.ks j) p.2=false:=by
 cases hm : aL (A.ks j) p.2 with
 | false=>rfl
 | true =>
  obtain ⟨k,h1,h2⟩:=nF hm
  have h3:=h.kills j hj k h1
  have h5:=(hI.1 _ h3).2.1
  have h4:=hI.2 k h1
  rcases h.vals i hi p hp _ _ h2 with h6 | h6
  ·exact absurd h6 h4
  ·exact absurd h6 h5
theorem Fam.Ok.comm (h : A.Ok) {i j : Nat} (hi : i < A.n) (hj : j < A.n) (hI : A.Ind i j) (f : Nat -> D) : A.E i (A.E j f)=A.E j (A.E i f):=by
 funext k
 unfold Fam.E
 cases h1 : (A.ws i).lookup k with
 | some d =>
  have hk : k ∈ A.W i:=x0u.2 ⟨_,ix h1,rfl⟩
  have h2 : (A.ws j).lookup k=none:=fY (hI.1.1 k hk).2.1
  have h3:=h.noKill hi hj hI.2 (ix h1)
  rw [ff h1,cQ h2,ff h1]
  simp only at h3
  rw [h3];rfl
 | none =>
  cases h2 : (A.ws j).lookup k with
  | some d =>
   have h3:=h.noKill hj hi hI.1 (ix h2)
   rw [cQ h1,ff h2,ff h2]
   simp only at h3
   rw [h3];rfl
  | none =>
   rw [cQ h1,cQ h2,cQ h2,cQ h1]
   cases e1 : aL (A.ks i) (f k) <;> cases e2 : aL (A.ks j) (f k) <;> simp [e1,e2,lR]
def wJ (A : Fam) (l : Nat -> Bool) : Prop:=∀ j,j < A.n -> l j=true -> ∀ i,i < j -> A.bef j i=true -> l i=true
open Classical in
noncomputable def cY (A : Fam) (l : Nat -> Bool) (m : Nat) (d : D) : D:=if ∃ u,u < m /\ l u=false /\ aL (A.ks u) d=true then .any else d
theorem oY (l : Nat -> Bool) (m : Nat) : cY A l m .any=.any:=by
 unfold cY;split <;> rfl
theorem C9 (h : A.Ok) {l : Nat -> Bool} (hs : wJ A l) : ∀ m,m <= A.n -> ∀ k,(∀ u,u < m -> l u=false -> k ∉ A.W u) -> A.St m k=cY A l m (A.G l m k)
 | 0,_,k,_=>by
  unfold cY
  rw [if_neg (by rintro ⟨u,hu,_⟩;omega)]
  rfl
 | m + 1,hm,k,hk=>by
  have ih:=C9 h hs m (by omega) k (fun u hu=>hk u (by omega))
  have e1 : A.St (m + 1) k=A.E m (A.St m) k:=by simp [Fam.St,Fam.G]
  rw [e1]
  cases hl : l m with
  | true =>
   have e2 : A.G l (m + 1) k=A.E m (A.G l m) k:=by simp [Fam.G,hl]
   rw [e2]
   unfold Fam.E
   cases h1 : (A.ws m).lookup k with
   | some d =>
    rw [ff h1,ff h1]
    unfold cY
    rw [if_neg]
    rintro ⟨u,hu,hlu,hmu⟩
    have hum : u < m:=by
     rcases x1i u m with h | h
     ·exact h
     ·have : u=m:=by omega
      subst this;rw [hl] at hlu;cases hlu
    rcases h.pairs u m hum (by omega) with h2 | h2
    ·rw [hs m (by omega) hl u hum h2] at hlu;cases hlu
    ·have:=h.noKill (i:=m) (j:=u) (by omega) (by omega) h2.1 (ix h1)
     simp only at this
     rw [this] at hmu;cases hmu
   | none =>
    rw [cQ h1,cQ h1,ih]
    have same : ∀ d,cY A l (m + 1) d=cY A l m d:=fun d=>by
     unfold cY
     congr 1
     refine propext ⟨fun ⟨u,h3,h4,h5⟩=>⟨u,?_,h4,h5⟩,fun ⟨u,h3,h4,h5⟩=>⟨u,by omega,h4,h5⟩⟩
     rcases x1i u m with h | h
     ·exact h
     ·have : u=m:=by omega
      subst this;rw [hl] at h4;cases h4
    rw [same]
    generalize A.G l m k=g
    by_cases hc : ∃ u,u < m /\ l u=false /\ aL (A.ks u) g=true
    ·have e3 : cY A l m g=.any:=by unfold cY;rw [if_pos hc]
     rw [e3,lR]
     cases hg : aL (A.ks m) g with
     | true=>simp only [if_true];rw [oY];rfl
     | false=>simp only [x0k,if_false];rw [e3]
    ·have e3 : cY A l m g=g:=by unfold cY;rw [if_neg hc]
     rw [e3]
     cases hg : aL (A.ks m) g with
     | true=>simp only [if_true];rw [oY]
     | false=>simp only [x0k,if_false];rw [e3]
  | false =>
   have e2 : A.G l (m + 1) k=A.G l m k:=by simp [Fam.G,hl]
   rw [e2]
   unfold Fam.E
   rw [cQ (fY (hk m (by omega) hl)),ih]
   generalize A.G l m k=g
   by_cases hc : ∃ u,u < m /\ l u=false /\ aL (A.ks u) g=true
   ·have e3 : cY A l m g=.any:=by unfold cY;rw [if_pos hc]
    have e4 : cY A l (m + 1) g=.any:=by
     unfold cY
     obtain ⟨u,h1,h2⟩:=hc
     rw [if_pos ⟨u,by omega,h2⟩]
    rw [e3,e4,lR];rfl
   ·have e3 : cY A l m g=g:=by unfold cY;rw [if_neg hc]
    rw [e3]
    cases hg : aL (A.ks m) g with
    | true =>
     have e4 : cY A l (m + 1) g=.any:=by unfold cY;exact if_pos ⟨m,by omega,hl,hg⟩
     rw [e4];rfl
    | false =>
     have e4 : cY A l (m + 1) g=g:=by
      unfold cY
      refine if_neg ?_
      rintro ⟨u,h1,h2,h3⟩
      rcases x1i u m with h | h
      ·exact hc ⟨u,h,h2,h3⟩
      ·have : u=m:=by omega
       subst this;rw [hg] at h3;cases h3
     rw [e4];rfl
theorem Fam.Ok.reads (h : A.Ok) {l : Nat -> Bool} (hs : wJ A l) {j : Nat} (hj : j < A.n) (hlj : l j=false) (hb : ∀ i,i < j -> A.bef j i=true -> l i=true) : ∀ k ∈ A.rd j,A.G l A.n k=A.St j k:=by
 intro k hk
 have h1 : A.G l j k=A.St j k:=by
  have h2:=C9 h hs j (by omega) k (fun u hu hlu=>by
   rcases h.pairs u j hu hj with h3 | h3
   ·rw [hb u hu h3] at hlu;cases hlu
   ·exact fun h4=>(h3.1.1 k h4).1 hk)
  have h3:=h.known j hj k hk
  rw [h2] at h3 ⊢
  unfold cY at h3 ⊢
  split at h3
  ·exact absurd rfl h3
  ·rename_i hc;rw [if_neg hc]
 have h2 : ∀ m,j <= m -> m <= A.n -> A.G l m k=A.St j k:=by
  intro m
  induction m with
  | zero=>intro h3 _;have : j=0:=(by omega);subst this;exact h1
  | succ m ih =>
   intro h3 h4
   rcases x1i m j with h5 | h5
   ·have : j=m + 1:=by omega
    rw [<- this];exact h1
   ·have ihm:=ih h5 (by omega)
    cases hl : l m with
    | false=>simp [Fam.G,hl,ihm]
    | true =>
     have hjm : j < m:=by
      rcases x1i j m with h | h
      ·exact h
      ·have : j=m:=by omega
       subst this;rw [hl] at hlj;cases hlj
     rcases h.pairs j m hjm (by omega) with h6 | h6
     ·rw [hs m (by omega) hl j hjm h6] at hlj;cases hlj
     ·have h7 : (A.ws m).lookup k=none:=fY (fun h8=>(h6.2.1 k h8).1 hk)
      have h8 : aL (A.ks m) (A.St j k)=false:=by
       cases hm : aL (A.ks m) (A.St j k) with
       | false=>rfl
       | true =>
        obtain ⟨q,h9,h10⟩:=nF hm
        exact absurd (h.closed j hj k hk _ _ h10) (h6.2.2 q h9)
      simp only [Fam.G,hl,if_true,Fam.E]
      rw [cQ h7,ihm,h8];rfl
 exact h2 A.n (by omega) (x0p _)
theorem oQ (m : Nat) (ks : List (Nat × Bool)) (d : D) : gd m (if aL ks d then .any else d)=gd m d:=by
 cases d
 case blk sz es=>rw [pa rfl];rfl
 all_goals (split <;> rfl)
theorem jy (A : Fam) (f g : Nat -> D) (i k m : Nat) (h : k ∉ A.W i) : gd m (A.E i f k)=gd m (f k):=by
 unfold Fam.E
 rw [cQ (fY h),oQ]
theorem oR (A : Fam) (f g : Nat -> D) (i k : Nat) (h : k ∈ A.W i) : A.E i f k=A.E i g k:=by
 unfold Fam.E
 cases h1 : (A.ws i).lookup k with
 | none=>exact absurd h (re h1)
 | some d=>rw [ff h1,ff h1]
theorem kz (A : Fam) (m : Nat) : A.St (m + 1)=A.E m (A.St m):=by simp [Fam.St,Fam.G]
theorem Fam.Ok.readsC (h : A.Ok) {l : Nat -> Bool} (hs : wJ A l) {j : Nat} (hj : j < A.n) (hlj : l j=false) (hb : ∀ i,i < j -> A.bef j i=true -> l i=true) : ∀ p ∈ A.fr j,gd p.2 (A.G l A.n p.1)=gd p.2 (A.St j p.1):=by
 rintro ⟨k,c⟩ hk
 simp only
 have hkj:=h.fine j hj _ hk
 simp only at hkj
 have low : ∀ m,m <= j -> gd c (A.G l m k)=gd c (A.St m k):=by
  intro m
  induction m with
  | zero=>intro _;rfl
  | succ m ih =>
   intro hm
   have ihm:=ih (by omega)
   rw [kz]
   by_cases hw : k ∈ A.W m
   ·cases hl : l m with
    | true =>
     simp only [Fam.G,hl,if_true]
     rw [oR A _ (A.St m) m k hw]
    | false =>
     simp only [Fam.G,hl,x0k,if_false]
     rcases h.pairs m j (by omega) hj with h1 | h1
     ·rw [hb m (by omega) h1] at hl;cases hl
     ·have h2:=(h1.1.1 k hw).2.2 c hk
      unfold Fam.Pres at h2
      rw [kz] at h2
      rw [h2,ihm]
   ·rw [jy A _ (A.St m) m k c hw]
    cases hl : l m with
    | true =>
     simp only [Fam.G,hl,if_true]
     rw [jy A _ (A.St m) m k c hw,ihm]
    | false=>simp only [Fam.G,hl,x0k,if_false];exact ihm
 have run : ∀ m,j <= m -> m <= A.n -> (∀ u,j < u -> u < m -> k ∈ A.W u -> A.Pres u k c) -> gd c (A.St m k)=gd c (A.St j k):=by
  intro m
  induction m with
  | zero=>intro h1 _ _;have : j=0:=(by omega);subst this;rfl
  | succ m ih =>
   intro h1 h2 h3
   rcases x1i m j with h4 | h4
   ·have : j=m + 1:=by omega
    rw [<- this]
   ·have ihm:=ih h4 (by omega) (fun u h5 h6 h7=>h3 u h5 (by omega) h7)
    by_cases hw : k ∈ A.W m
    ·have hjm : j < m:=by
      rcases x1i j m with h | h
      ·exact h
      ·have : j=m:=by omega
       subst this;exact absurd hw hkj
     have:=h3 m hjm (by omega) hw
     unfold Fam.Pres at this
     rw [this,ihm]
    ·rw [kz,jy A _ (A.St m) m k c hw,ihm]
 have high : ∀ m,j <= m -> m <= A.n -> gd c (A.G l m k)=gd c (A.St j k):=by
  intro m
  induction m with
  | zero=>intro h1 _;have : j=0:=(by omega);subst this;exact low 0 (x0p _)
  | succ m ih =>
   intro h1 h2
   rcases x1i m j with h4 | h4
   ·have : j=m + 1:=by omega
    rw [<- this];exact low j (x0p _)
   ·have ihm:=ih h4 (by omega)
    cases hl : l m with
    | false=>simp only [Fam.G,hl,x0k,if_false];exact ihm
    | true =>
     simp only [Fam.G,hl,if_true]
     by_cases hw : k ∈ A.W m
     ·have hjm : j < m:=by
       rcases x1i j m with h | h
       ·exact h
       ·have : j=m:=by omega
        subst this;rw [hl] at hlj;cases hlj
      have pres : ∀ u,j < u -> u < A.n -> k ∈ A.W u -> l u=true -> A.Pres u k c:=fun u h5 h6 h7 h8=>by
       rcases h.pairs j u h5 h6 with h9 | h9
       ·rw [hs u h6 h8 j h5 h9] at hlj;cases hlj
       ·exact (h9.2.1 k h7).2.2 c hk
      have h5:=run m h4 (by omega) (fun u h5 h6 h7=>pres u h5 (by omega) h7 (by
       rcases h.pairs u m h6 (by omega) with h9 | h9
       ·exact hs m (by omega) hl u h6 h9
       ·exact absurd hw (h9.1.1 k h7).2.1))
      have h6:=pres m hjm (by omega) hw hl
      unfold Fam.Pres at h6
      rw [oR A _ (A.St m) m k hw,<- kz,h6,h5]
     ·rw [jy A _ (A.St m) m k c hw,ihm]
 exact high A.n (by omega) (x0p _)
theorem Fam.Ok.more (h : A.Ok) {l l' : Nat -> Bool} (hs : wJ A l) {j : Nat} (hj : j < A.n) (hlj : l j=false) (hj' : l' j=true) (hl' : ∀ i,i ≠ j -> l' i=l i) : A.G l' A.n=A.E j (A.G l A.n):=by
 have low : ∀ m,m <= j -> A.G l' m=A.G l m:=by
  intro m
  induction m with
  | zero=>intro _;rfl
  | succ m ih =>
   intro hm
   simp only [Fam.G]
   rw [ih (by omega),hl' m (by omega)]
 have high : ∀ m,j < m -> m <= A.n -> A.G l' m=A.E j (A.G l m):=by
  intro m
  induction m with
  | zero=>intro h1;omega
  | succ m ih =>
   intro h1 h2
   rcases x1i j m with h3 | h3
   ·have ihm:=ih h3 (by omega)
    simp only [Fam.G]
    rw [hl' m (by omega),ihm]
    cases hl : l m with
    | false=>rfl
    | true =>
     simp only [if_true]
     rcases h.pairs j m h3 (by omega) with h4 | h4
     ·rw [hs m (by omega) hl j h3 h4] at hlj;cases hlj
     ·exact (h.comm hj (by omega) h4 _).symm
   ·have : m=j:=by omega
    subst this
    simp only [Fam.G]
    rw [hj',hlj,low m (x0p _)]
    rfl
 exact high A.n hj (x0p _)
end
end Go.Gv

namespace Go.Gv
open Go.RowKit
def jh : Opd -> List Nat
 | .t s=>[s]
 | .c _=>[]
def qN : Option (Nat × Bool) -> List Nat
 | some (s,_)=>[s]
 | none=>[]
def rdS (n : az) : List Nat:=(aj n.op).flatMap jh++qN n.guard
def EL : NOp -> List Opd
 | .mov _=>[]
 | .nck _=>[]
 | .pick _ _ _=>[]
 | .bin _ _ _=>[]
 | .un _ _=>[]
 | .conv _ _=>[]
 | .ext _ _=>[]
 | .fad _ _=>[]
 | .ld _ _ _=>[]
 | .ldQ _ _=>[]
 | .mk _ _=>[]
 | .bld _ _=>[]
 | .boxF _=>[]
 | .blsF _ _ _ _=>[]
 | .blsX _ _ _ _=>[]
 | .len _=>[]
 | .iadA _ _ _ _=>[]
 | o=>aj o
def ldN : NOp -> List Opd
 | .ld _ _ x=>[x]
 | _=>[]
def rdR (f : Nat -> D) (n : az) : List Nat:=((EL n.op).flatMap fun x=>bH (vd f x))++((ldN n.op).flatMap fun x=>aM (vd f x))
def mnR (f : Nat -> D) (n : az) : List Nat:=(aj n.op).flatMap fun x=>bH (vd f x)
def frR (f : Nat -> D) (n : az) : List (Nat × Nat):=match n.op with
 | .ldQ o x=>match vd f x with
  | .adr (.r c) _ _=>[(c,o)]
  | _=>[]
 | _=>[]
def fwR (f : Nat -> D) (n : az) : List (Nat × Nat):=match n.op with
 | .appQ o _ _ x _=>match vd f x with
  | .ref (.n c _ _) _ _=>[(c,o)]
  | _=>[]
 | _=>[]
abbrev Rds:=List Nat × List Nat × List (Nat × Nat) × List (Nat × Nat)
def gC (x : Rds) : List Nat:=x.1.map (4 * ·)++x.2.1.map (4 * · + 1)++x.2.2.1.map (fun p=>4 * (64 * p.1 + p.2 % 64) + 2)++x.2.2.2.map (fun p=>4 * (64 * p.1 + p.2 % 64) + 3)
def rdN (f : Nat -> D) (n : az) : Rds:=(rdS n++rdR f n,mnR f n,frR f n,fwR f n)
def i5 (f : Nat -> D) (n : az) : List Nat:=gC (rdN f n)
def wrK (ws : List (Nat × D)) (ks : List (Nat × Bool)) : List Nat:=(ws.map fun p=>4 * p.1)++ks.map fun k=>4 * k.1 + 1
def cM : D -> Bool
 | .any=>true
 | _=>false
def chk (f : Nat -> D) (n : az) : Bool:=((rdS n).all fun s=>!cM (f s)) && ((rdR f n).all fun b=>isB (f b)) && ((frR f n).all fun p=>!(n.dst == some p.1)) && (fwR f n).all fun p=>!(n.dst == some p.1)
def wOk (R : List Nat) (ws : List (Nat × D)) (ks : List (Nat × Bool)) : Bool :=
 (ks.all fun k=>(ws.map (·.1)).contains k.1) && ws.all fun p=>(bH p.2).all fun b=>R.contains (4 * b + 1) || (ws.map (·.1)).contains b
def w7 (q : Nat) (r0 : List Nat) : Bool:=r0.any fun z=>decide (z % 4=3) && decide (z / 256=q / 256) && !decide (z / 4 % 64=q / 4 % 64)
def sw (x r0 : List Nat) (r w : List Nat) : Bool:=x.all fun k=>!r.contains k && !w.contains k && r.all fun q=>!(decide (q % 4=2) && decide (k=4 * (q / 256))) || w7 q r0
def kO (hs : List Nat) (rw : List (List Nat × List Nat)) : Bool :=
 rw.zipIdx.all fun p=>rw.zipIdx.all fun q=>!decide (p.2 < q.2) || (hs.getD q.2 0).testBit p.2 || (sw p.1.2 p.1.1 q.1.1 q.1.2 && sw q.1.2 q.1.1 p.1.1 p.1.2)
def vn : Option Nat -> List Nat
 | some t=>[4 * t]
 | none=>[]
def jT (C : Nat -> List D -> D -> List D -> Prop) (hs : List Nat) (K : Env -> Prop) : List az -> Env -> List (List Nat × List Nat) -> Prop
 | [],e,acc=>kO hs acc.reverse=true /\ K e
 | o::os,e,acc=>chk (ae e) o=true /\ match o.guard with
  | none=>aJ C (ae e) o.dst (fun ws ks=>wOk (i5 (ae e) o) ws ks=true /\ jT C hs K os (ws++dU ks e) ((i5 (ae e) o,wrK ws ks)::acc)) o.op
  | some (s,want)=>match ae e s with
   | .bool b=>(b=want -> aJ C (ae e) o.dst (fun ws ks=>wOk (i5 (ae e) o) ws ks=true /\ jT C hs K os (ws++dU ks e) ((i5 (ae e) o,wrK ws ks)::acc)) o.op) /\
     (b=!want -> ig e o.dst fun e'=>jT C hs K os e' ((i5 (ae e) o,vn o.dst)::acc))
   | .tup []=>ig e o.dst fun e'=>jT C hs K os e' ((i5 (ae e) o,vn o.dst)::acc)
   | _=>False
def dI (n : az) : Option (List (Nat × D) × List (Nat × Bool)) -> List (Nat × D)
 | some (ws,_)=>ws
 | none=>match n.dst with
  | some t=>[(t,.tup [])]
  | none=>[]
def fk : Option (List (Nat × D) × List (Nat × Bool)) -> List (Nat × Bool)
 | some (_,ks)=>ks
 | none=>[]
theorem AA (n : az) (x : Option (List (Nat × D) × List (Nat × Bool))) (f : Nat -> D) : oC n x f=eff (dI n x) (fk x) f:=by
 cases x with
 | some y=>rfl
 | none =>
  unfold oC dI fk
  cases n.dst with
  | some t=>rfl
  | none=>exact (mO f).symm
abbrev gg:=az × Option (List (Nat × D) × List (Nat × Bool)) × Rds
def Tr (C : Nat -> List D -> D -> List D -> Prop) : List gg -> (Nat -> D) -> (Nat -> D) -> Prop
 | [],f,f'=>f'=f
 | (n,x,rd)::ts,f,f'=>iS C n f x /\ chk f n=true /\ wOk (i5 f n) (dI n x) (fk x)=true /\ rd=rdN f n /\ Tr C ts (eff (dI n x) (fk x) f) f'
section
variable {C : Nat -> List D -> D -> List D -> Prop}
theorem Di {hs : List Nat} {K : Env -> Prop} : ∀ (ns : List az) (e : Env) (acc : List (List Nat × List Nat)),jT C hs K ns e acc -> ∃ (ts : List gg) (e' : Env),ts.map (·.1)=ns /\ Tr C ts (ae e) (ae e') /\ kO hs (acc.reverse++ts.map fun t=>(gC t.2.2,wrK (dI t.1 t.2.1) (fk t.2.1)))=true /\ K e'
 | [],e,acc,h=>⟨[],e,rfl,rfl,by simpa using h.1,h.2⟩
 | n::ns,e,acc,h=>by
  obtain ⟨h0,h⟩:=h
  have fin : ∀ (x : Option (List (Nat × D) × List (Nat × Bool))) (e1 : Env),iS C n (ae e) x -> wOk (i5 (ae e) n) (dI n x) (fk x)=true -> ae e1=eff (dI n x) (fk x) (ae e) -> jT C hs K ns e1 ((i5 (ae e) n,wrK (dI n x) (fk x))::acc) ->
    ∃ (ts : List gg) (e' : Env),ts.map (·.1)=n::ns /\ Tr C ts (ae e) (ae e') /\ kO hs (acc.reverse++ts.map fun t=>(gC t.2.2,wrK (dI t.1 t.2.1) (fk t.2.1)))=true /\ K e':=by
   intro x e1 h1 h2 h3 h4
   obtain ⟨ts,e',g1,g2,g3,g4⟩:=Di ns e1 _ h4
   refine ⟨(n,x,rdN (ae e) n)::ts,e',by simp [g1],⟨h1,h0,h2,rfl,by rw [<- h3];exact g2⟩,?_,g4⟩
   simpa [i5] using g3
  have run : (∀ s b,n.guard=some (s,b) -> ae e s=.bool b) -> aJ C (ae e) n.dst (fun ws ks=>wOk (i5 (ae e) n) ws ks=true /\ jT C hs K ns (ws++dU ks e) ((i5 (ae e) n,wrK ws ks)::acc)) n.op ->
    ∃ (ts : List gg) (e' : Env),ts.map (·.1)=n::ns /\ Tr C ts (ae e) (ae e') /\ kO hs (acc.reverse++ts.map fun t=>(gC t.2.2,wrK (dI t.1 t.2.1) (fk t.2.1)))=true /\ K e':=by
   intro hg h1
   obtain ⟨ws,ks,⟨h2,h3⟩,h4⟩:=nX h1
   exact fin (some (ws,ks)) _ ⟨hg,h4 _ ⟨rfl,rfl⟩⟩ h2 (je ws ks e) h3
  have skp : ∀ s want,n.guard=some (s,want) -> Skp want (ae e s) -> ig e n.dst (fun e'=>jT C hs K ns e' ((i5 (ae e) n,vn n.dst)::acc)) ->
    ∃ (ts : List gg) (e' : Env),ts.map (·.1)=n::ns /\ Tr C ts (ae e) (ae e') /\ kO hs (acc.reverse++ts.map fun t=>(gC t.2.2,wrK (dI t.1 t.2.1) (fk t.2.1)))=true /\ K e':=by
   intro s want hg hb h1
   unfold ig at h1
   split at h1
   ·rename_i hd
    refine fin none e ⟨s,want,hg,hb⟩ (by simp [wOk,dI,fk,hd]) (by simp [dI,fk,hd,mO]) ?_
    simpa [dI,fk,wrK,hd,vn] using h1
   ·rename_i t hd
    refine fin none ((t,.tup [])::e) ⟨s,want,hg,hb⟩ (by simp [wOk,dI,fk,hd,bH,aM]) ?_ ?_
    ·have:=je [(t,.tup [])] [] e
     simp only [dU,if_true] at this
     simpa [dI,fk,hd] using this
    ·simpa [dI,fk,wrK,hd,vn] using h1
  split at h
  ·rename_i hg
   exact run (fun s b e'=>(by rw [hg] at e';cases e')) h
  ·rename_i s want hg
   split at h
   ·rename_i b hb
    by_cases hbw : b=want
    ·subst hbw
     exact run (fun s' b' e'=>(by rw [hg] at e';cases e';exact hb)) (h.1 rfl)
    ·have hb' : b=!want:=by cases b <;> cases want <;> simp_all
     have h1:=h.2 hb'
     rw [hb'] at hb
     exact skp s want hg (.inl hb) h1
   ·rename_i hb
    exact skp s want hg (.inr hb) h
   ·exact h.elim
def aV (hs : List Nat) (ts : List gg) (f : Nat -> D) : Fam where
 n:=ts.length
 ws i:=match ts[i]? with
  | some t=>dI t.1 t.2.1
  | none=>[]
 ks i:=match ts[i]? with
  | some t=>fk t.2.1
  | none=>[]
 rd i:=match ts[i]? with
  | some t=>t.2.2.1
  | none=>[]
 mn i:=match ts[i]? with
  | some t=>t.2.2.2.1
  | none=>[]
 fr i:=match ts[i]? with
  | some t=>t.2.2.2.2.1
  | none=>[]
 bef j i:=(hs.getD j 0).testBit i
 f0:=f
theorem lG (hs : List Nat) (t : gg) (ts : List gg) (f : Nat -> D) : ∀ i,(aV hs (t::ts) f).St (i + 1)=(aV hs ts (eff (dI t.1 t.2.1) (fk t.2.1) f)).St i
 | 0=>by simp [Fam.St,Fam.G,Fam.E,aV]
 | i + 1=>by
  have ih:=lG hs t ts f i
  have e1 : ∀ (A : Fam) (m : Nat),A.St (m + 1)=A.E m (A.St m):=fun A m=>by simp [Fam.St,Fam.G]
  rw [e1,ih,e1]
  simp [Fam.E,aV]
theorem qr (hs : List Nat) : ∀ (ts : List gg) (f f' : Nat -> D),Tr C ts f f' -> f'=(aV hs ts f).St ts.length /\ ∀ (i : Nat) (t : gg),ts[i]? = some t -> iS C t.1 ((aV hs ts f).St i) t.2.1 /\ chk ((aV hs ts f).St i) t.1=true /\ wOk (gC t.2.2) (dI t.1 t.2.1) (fk t.2.1)=true /\ t.2.2=rdN ((aV hs ts f).St i) t.1
 | [],f,f',h=>⟨h,fun i t h=>by simp at h⟩
 | (n,x,rd)::ts,f,f',h=>by
  obtain ⟨h1,h2,h3,rfl,h4⟩:=h
  obtain ⟨g1,g2⟩:=qr hs ts _ f' h4
  refine ⟨by rw [x1q,lG];exact g1,fun i t hi=>?_⟩
  cases i with
  | zero=>simp at hi;subst hi;exact ⟨h1,h2,by simpa [i5] using h3,rfl⟩
  | succ i=>rw [lG];exact g2 i t (by simpa using hi)
theorem zS {f : Nat -> D} {n : az} {x : Option (List (Nat × D) × List (Nat × Bool))} {c : Nat} (h2 : (n.dst == some c)=false) (hx : x=none \/ ∃ d ks,x=some ((match n.dst with | some t=>[(t,d)] | none=>[]),ks)) : c ∉ (dI n x).map (·.1):=by
 have h3 : n.dst ≠ some c:=by simpa using h2
 rcases hx with rfl | ⟨d,ks,rfl⟩
 ·simp only [dI]
  split
  ·rename_i t e
   rw [e] at h3
   simp only [x0J,x01,x0N,x1s,or_false]
   exact fun e=>h3 (by rw [e])
  ·simp
 ·simp only [dI]
  split
  ·rename_i t e
   rw [e] at h3
   simp only [x0J,x01,x0N,x1s,or_false]
   exact fun e=>h3 (by rw [e])
  ·simp
theorem DU {f : Nat -> D} {n : az} {x : Option (List (Nat × D) × List (Nat × Bool))} (h : iS C n f x) (h2 : chk f n=true) {p : Nat × Nat} (hp : p ∈ frR f n) : p.1 ∉ (dI n x).map (·.1):=by
 have h3 : (n.dst == some p.1)=false:=by
  simp only [chk,x0a,x0g] at h2
  simpa using h2.1.2 p hp
 refine zS (f:=f) h3 ?_
 cases x with
 | none=>exact .inl rfl
 | some y =>
  obtain ⟨ws,ks⟩:=y
  right
  have h:=h.2
  unfold frR at hp
  split at hp
  ·rename_i q x0 heq
   rw [heq] at h
   simp only [aJ] at h
   split at h
   ·obtain ⟨_,h⟩:=h
    split at h
    ·obtain ⟨r,_,d,_,h⟩:=h
     unfold dC at h
     split at h
     ·rename_i t e
      obtain ⟨rfl,rfl⟩:=h
      exact ⟨_,_,by rw [e]⟩
     ·rename_i e
      obtain ⟨rfl,rfl⟩:=h
      exact ⟨.any,_,by rw [e]⟩
    ·exact h.elim
   ·exact h.elim
  ·cases hp
theorem vi {es : List (List D)} {sz i o m : Nat} {row : List D} (h : es[i]? = some row) (ho : o < row.length) (hm : o ≠ m) : gd m (.blk sz (br es i o 1 [.any]))=gd m (.blk sz es):=by
 simp only [gd,br,h,x1y,x0r]
 apply List.ext_getElem?
 intro j
 rw [x0B,x0B,List.getElem?_set]
 split
 ·rename_i e
  subst e
  split
  ·rw [h]
   simp only [x1m,x0r]
   have hl : (row.take o).length=o:=by simp;omega
   rw [x1V]
   by_cases h1 : m < o
   ·rw [x0y (by omega),x0D h1]
   ·rw [x0z (by omega),hl,x0z (by simp;omega),x0w]
    congr 1;simp only [x1q,List.length_nil];omega
  ·rename_i h1
   rw [x1j (by omega)]
 ·rfl
theorem DT {f : Nat -> D} {n : az} {x : Option (List (Nat × D) × List (Nat × Bool))} (h : iS C n f x) (h2 : chk f n=true) {p : Nat × Nat} (hp : p ∈ fwR f n) {m : Nat} (hm : p.2 ≠ m) : gd m (eff (dI n x) (fk x) f p.1)=gd m (f p.1):=by
 have h3 : (n.dst == some p.1)=false:=by
  simp only [chk,x0a,x0g] at h2
  simpa using h2.2 p hp
 cases x with
 | none =>
  rw [cQ (fY (zS (f:=f) h3 (.inl rfl)))]
  exact oQ _ _ _
 | some y =>
  obtain ⟨ws,ks⟩:=y
  have h:=h.2
  have h30 : n.dst ≠ some p.1:=by simpa using h3
  unfold fwR at hp
  split at hp
  ·rename_i q sz by_ x0 y0 heq
   rw [heq] at h
   simp only [aJ] at h
   split at h
   ·rename_i t hd
    split at h
    ·rename_i c i o' k n' ex
     rw [ex] at hp
     simp only [x0N,x1s,or_false] at hp
     subst hp
     simp only at hm h30 ⊢
     obtain ⟨rfl,h⟩:=h
     obtain ⟨rows,bs,⟨h4,h5,h⟩,_⟩:=dN h
     split at h
     ·rename_i sz0 es0 hf
      obtain ⟨row0,h6,es,h7,h8,h9,h10,h11⟩:=h
      subst h10 h11
      have e1 : (c == t)=false:=by simp only [beq_eq_false_iff_ne,ne_eq];exact fun e=>h30 (by rw [hd,e])
      have e2 : (c == rt t 0)=false:=by simpa using h5
      simp only [dI]
      rw [aU (d:=.blk sz0 (br es0 i o' 1 [.any])) (by simp [x0l,e1,e2]),hf]
      exact vi h6 (x0c.1 h7).1 hm
     ·exact h.elim
    ·exact h.elim
   ·exact h.elim
  ·cases hp
theorem DQ {hs : List Nat} {ts : List gg} {f f' : Nat -> D} (h : Tr C ts f f') (hi : kO hs (ts.map fun t=>(gC t.2.2,wrK (dI t.1 t.2.1) (fk t.2.1)))=true) : (aV hs ts f).Ok:=by
 obtain ⟨_,hs'⟩:=qr hs ts f f' h
 have get : ∀ i,i < ts.length -> ∃ t,ts[i]? = some t:=fun i hi=>⟨_,x0e hi⟩
 have e4 : ∀ {x : Rds} {z : Nat},z ∈ gC x -> (∃ k ∈ x.1,z=4 * k) \/ (∃ k ∈ x.2.1,z=4 * k + 1) \/ (∃ p ∈ x.2.2.1,z=4 * (64 * p.1 + p.2 % 64) + 2) \/ ∃ p ∈ x.2.2.2,z=4 * (64 * p.1 + p.2 % 64) + 3:=by
  intro x z hz
  simp only [gC,x0o,x0u] at hz
  rcases hz with ((⟨k,h1,h2⟩ | ⟨k,h1,h2⟩) | ⟨p,h1,h2⟩) | ⟨p,h1,h2⟩
  ·exact .inl ⟨k,h1,h2.symm⟩
  ·exact .inr (.inl ⟨k,h1,h2.symm⟩)
  ·exact .inr (.inr (.inl ⟨p,h1,h2.symm⟩))
  ·exact .inr (.inr (.inr ⟨p,h1,h2.symm⟩))
 have e1 : ∀ {x : Rds} {k : Nat},k ∈ x.1 -> 4 * k ∈ gC x:=fun {x k} hk=>by
  simp only [gC,x0o,x0u];exact .inl (.inl (.inl ⟨k,hk,rfl⟩))
 have e2 : ∀ {x : Rds} {k : Nat},k ∈ x.2.1 -> 4 * k + 1 ∈ gC x:=fun {x k} hk=>by
  simp only [gC,x0o,x0u];exact .inl (.inl (.inr ⟨k,hk,rfl⟩))
 have e3 : ∀ {x : Rds} {p : Nat × Nat},p ∈ x.2.2.1 -> 4 * (64 * p.1 + p.2 % 64) + 2 ∈ gC x:=fun {x p} hk=>by
  simp only [gC,x0o,x0u];exact .inl (.inr ⟨p,hk,rfl⟩)
 refine ⟨fun i hn k hk=>?_,fun i hn p hp b all hb=>?_,fun i hn k hk b all hb=>?_,fun i hn p hp hk=>?_,fun i hn k hk=>?_,fun i j hij hn=>?_⟩
 ·obtain ⟨t,ht⟩:=get i hn
  obtain ⟨_,_,h3,_⟩:=hs' i t ht
  simp only [aV,ht] at hk
  simp only [Fam.W,aV,ht]
  simp only [wOk,x0a,x0g] at h3
  exact x0I.1 (h3.1 k hk)
 ·obtain ⟨t,ht⟩:=get i hn
  obtain ⟨_,_,h3,_⟩:=hs' i t ht
  simp only [aV,ht] at hp
  simp only [Fam.W,aV,ht]
  simp only [wOk,x0a,x0g,x0F] at h3
  rcases h3.2 p hp b (ke hb) with h4 | h4
  ·left
   have h5:=x0I.1 h4
   rcases e4 h5 with ⟨x,_,h6⟩ | ⟨x,h7,h6⟩ | ⟨x,_,h6⟩ | ⟨x,_,h6⟩
   ·omega
   ·have : x=b:=by omega
    subst this;exact h7
   ·omega
   ·omega
  ·exact .inr (x0I.1 h4)
 ·obtain ⟨t,ht⟩:=get i hn
  obtain ⟨h1,h2,_,h4⟩:=hs' i t ht
  simp only [aV,ht] at hk ⊢
  rw [h4] at hk ⊢
  simp only [chk,x0a,x0g] at h2
  rcases x0o.1 hk with h5 | h5
  ·simp only [rdS] at h5
   rcases x0o.1 h5 with h6 | h6
   ·obtain ⟨x,h7,h8⟩:=List.mem_flatMap.1 h6
    cases x with
    | t s =>
     simp only [jh,x1c] at h8
     subst h8
     refine List.mem_flatMap.2 ⟨_,h7,?_⟩
     exact ke hb
    | c d=>simp [jh] at h8
   ·-- the guard's slot
    have : (∃ bb,(aV hs ts f).St i k=.bool bb) \/ (aV hs ts f).St i k=.tup []:=by
     cases hg : t.1.guard with
     | none=>rw [hg] at h6;simp [qN] at h6
     | some q =>
      obtain ⟨s,want⟩:=q
      rw [hg] at h6
      simp only [qN,x1c] at h6
      subst h6
      unfold iS at h1
      split at h1
      ·exact .inl ⟨want,h1.1 k want hg⟩
      ·obtain ⟨s',b',h7,h8⟩:=h1
       rw [hg] at h7;cases h7
       exact h8.imp (fun h8=>⟨_,h8⟩) id
    simp only [aV] at this hb
    rcases this with ⟨bb,hbb⟩ | hbb <;> rw [hbb] at hb <;> simp [dz,aN] at hb
  ·have h6:=h2.1.1.2 k h5
   simp only [aV] at h6 hb
   have h7 : ∀ d : D,isB d=true -> dz b all d=false:=fun d hd=>by cases d <;> first | rfl | (simp [isB] at hd)
   rw [h7 _ h6] at hb;cases hb
 ·-- what reads a column writes its slot alone
  obtain ⟨t,ht⟩:=get i hn
  obtain ⟨h1,h2,h3,h4⟩:=hs' i t ht
  simp only [aV,ht] at hp
  simp only [Fam.W,aV,ht] at hk
  rw [h4] at hp
  simp only [rdN] at hp
  exact DU h1 h2 hp hk
 ·obtain ⟨t,ht⟩:=get i hn
  obtain ⟨h1,h2,_,h4⟩:=hs' i t ht
  simp only [aV,ht] at hk ⊢
  rw [h4] at hk
  simp only [chk,x0a,x0g] at h2
  rcases x0o.1 hk with h5 | h5
  ·have:=h2.1.1.1 k h5
   intro e
   simp only [aV] at this
   rw [e] at this
   simp [cM] at this
  ·have:=h2.1.1.2 k h5
   intro e
   simp only [aV] at this
   rw [e] at this
   simp [isB] at this
 ·obtain ⟨t,ht⟩:=get i (Nat.lt_trans hij hn)
  obtain ⟨u,hu⟩:=get j hn
  simp only [kO,x0g] at hi
  have h1:=hi ((gC t.2.2,wrK (dI t.1 t.2.1) (fk t.2.1)),i) (List.mem_zipIdx_iff_getElem?.2 (by simp [ht])) ((gC u.2.2,wrK (dI u.1 u.2.1) (fk u.2.1)),j) (List.mem_zipIdx_iff_getElem?.2 (by simp [hu]))
  simp only [x0F,x0t,x0H,x0a] at h1
  rcases h1 with (h1 | h1) | h1
  ·exact absurd hij h1
  ·exact .inl h1
  ·right
   simp only [sw,x0g,x0a,x0t] at h1
   have nm : ∀ {l : List Nat} {k : Nat},l.contains k=false -> k ∉ l:=fun h hm=>by
    have:=x0I.2 hm
    rw [h] at this;cases this
   have one : ∀ (a b : gg) (x y : Nat),ts[x]? = some a -> ts[y]? = some b -> (∀ k ∈ wrK (dI a.1 a.2.1) (fk a.2.1),((gC b.2.2).contains k=false /\ (wrK (dI b.1 b.2.1) (fk b.2.1)).contains k=false) /\ ∀ q ∈ gC b.2.2,(!(decide (q % 4=2) && decide (k=4 * (q / 256))) || w7 q (gC a.2.2))=true) -> (aV hs ts f).Apart x y:=by
    intro a b x y ha hb hab
    refine ⟨fun k hk=>?_,fun k hk hm=>?_⟩
    ·have hk0:=hk
     simp only [Fam.W,aV,ha] at hk
     obtain ⟨p,hp,rfl⟩:=x0u.1 hk
     obtain ⟨⟨h2,h3⟩,h4⟩:=hab (4 * p.1) (x0o.2 (.inl (x0u.2 ⟨p,hp,rfl⟩)))
     refine ⟨fun hr=>nm h2 (e1 (by simp only [aV,hb] at hr;exact hr)),fun hw=>nm h3 (x0o.2 (.inl ?_)),fun m hm=>?_⟩
     ·simp only [Fam.W,aV,hb] at hw
      obtain ⟨q,hq,e⟩:=x0u.1 hw
      exact x0u.2 ⟨q,hq,by rw [e]⟩
     ·simp only [aV,hb] at hm
      have h5:=h4 _ (e3 hm)
      have h6 : (4 * (64 * p.1 + m % 64) + 2) % 4=2:=by omega
      have h7 : (4 * (64 * p.1 + m % 64) + 2) / 256=p.1:=by omega
      have h8 : (4 * (64 * p.1 + m % 64) + 2) / 4 % 64=m % 64:=by omega
      simp only [h6,h7,decide_true,Bool.and_self,Bool.not_true,Bool.false_or,w7,h8,x0E,x0a,x0b,x0t,x0H] at h5
      obtain ⟨z,hz,⟨hz3,hzc⟩,hzo⟩:=h5
      obtain ⟨g1,g2,_,g4⟩:=hs' x a ha
      rcases e4 hz with ⟨_,_,h9⟩ | ⟨_,_,h9⟩ | ⟨_,_,h9⟩ | ⟨p',hp',h9⟩
      ·omega
      ·omega
      ·omega
      ·have e5 : p'.1=p.1:=by omega
       have e6 : p'.2 % 64 ≠ m % 64:=fun e=>hzo (by omega)
       rw [g4] at hp'
       simp only [rdN] at hp'
       have:=DT g1 g2 hp' (m:=m) (fun e=>e6 (by rw [e]))
       unfold Fam.Pres
       rw [kz]
       unfold Fam.E
       simp only [aV,ha] at this ⊢
       rw [e5] at this
       exact this
    ·simp only [aV,ha] at hk
     obtain ⟨⟨h2,_⟩,_⟩:=hab (4 * k.1 + 1) (x0o.2 (.inr (x0u.2 ⟨k,hk,rfl⟩)))
     refine nm h2 (e2 ?_)
     simp only [aV,hb] at hm;exact hm
   exact ⟨one t u i j ht hu h1.1,one u t j i hu ht h1.2⟩
end
def uH (ops : Array Oper) (H : Array Nat) (j : Nat) : Nat:=match ops[j]? with
 | some o=>o.after.toList.foldl (fun s e=>if Region.binds .any e then s ||| 2 ^ e.on ||| H.getD e.on 0 else s) 0
 | none=>0
def tM (ops : Array Oper) (j : Nat) : Bool:=match ops[j]? with
 | some o=>o.after.toList.all fun e=>!Region.binds .any e || decide (e.on < j)
 | none=>true
theorem nr (H : Array Nat) (i : Nat) : ∀ (l : List Edge) (s : Nat),(l.foldl (fun s e=>if Region.binds .any e then s ||| 2 ^ e.on ||| H.getD e.on 0 else s) s).testBit i=true ->
  s.testBit i=true \/ ∃ e ∈ l,Region.binds .any e=true /\ (i=e.on \/ (H.getD e.on 0).testBit i=true)
 | [],s,h=>.inl h
 | e::l,s,h=>by
  simp only [List.foldl_cons] at h
  rcases nr H i l _ h with h1 | ⟨e',h1,h2⟩
  ·split at h1
   ·rename_i hb
    simp only [Nat.testBit_or,x0F,Nat.testBit_two_pow,x0b] at h1
    rcases h1 with (h1 | h1) | h1
    ·exact .inl h1
    ·exact .inr ⟨e,by simp,hb,.inl h1.symm⟩
    ·exact .inr ⟨e,by simp,hb,.inr h1⟩
   ·exact .inl h1
  ·exact .inr ⟨e',by simp [h1],h2⟩
theorem Cf {ops : Array Oper} {H : Array Nat} {j i : Nat} (h : (uH ops H j).testBit i=true) : ∃ o,ops[j]? = some o /\ ∃ e ∈ o.after.toList,Region.binds .any e=true /\ (i=e.on \/ (H.getD e.on 0).testBit i=true):=by
 unfold uH at h
 split at h
 ·rename_i o ho
  rcases nr H i _ 0 h with h1 | h1
  ·simp at h1
  ·exact ⟨o,ho,h1⟩
 ·simp at h
def sE (hs : List Nat) (ops : Array Oper) : Bool:=(List.range ops.size).all fun j=>hs.getD j 0 == uH ops hs.toArray j && tM ops j
def left (n : Nat) (l : Nat -> Bool) : Nat:=((List.range n).filter fun i=>!l i).length
theorem oV {p q : Nat -> Bool} {j : Nat} (hpq : ∀ i,q i=true -> p i=true) (hp : p j=true) (hq : q j=false) : ∀ (l : List Nat),j ∈ l -> (l.filter q).length < (l.filter p).length
 | [],h=>by simp at h
 | i::l,h=>by
  have hle : (l.filter q).length <= (l.filter p).length:=by
   clear h
   induction l with
   | nil=>simp
   | cons x l ih =>
    simp only [List.filter_cons]
    cases hqx : q x with
    | true=>simp [hpq x hqx,ih]
    | false=>cases p x <;> simp <;> omega
  by_cases hij : i=j
  ·subst hij
   simp [hp,hq]
   omega
  ·have:=oV hpq hp hq l (by simpa [Ne.symm hij] using h)
   simp only [List.filter_cons]
   cases hqx : q i with
   | true=>simp [hpq i hqx,this]
   | false=>cases p i <;> simp <;> omega
section
variable {P : Program} {F : Fid} {C : Nat -> List D -> D -> List D -> Prop} {nt : Nat} {S : Nat -> Prop} {L : Nat -> Option Loc} {w0 : World} {M0 : Mem} {f : Nat -> D} {M : Mem} {a : Act} {w : World} {Q : Exit -> Act -> World -> Prop}
def lst (listed : Array Bool) : Nat -> Bool:=fun i=>listed.getD i true
theorem j9 {ops : Array Oper} {listed : Array Bool} {i : Nat} : i ∈ Region.ready .any ops listed ↔ i < ops.size /\ lst listed i=false /\ ∃ o,ops[i]? = some o /\ ∀ e ∈ o.after,Region.binds .any e=true -> listed.getD e.on false=true:=by
 simp only [Region.ready,List.mem_filter,x1C,x0a,x0t,lst]
 constructor
 ·rintro ⟨h1,h2,h3⟩
  refine ⟨h1,h2,ops[i],x1e h1,fun e he hb=>?_⟩
  rw [x1e h1] at h3
  simp only [x1m,x1y,Array.all_eq_true_iff_forall_mem,x0F,x0t] at h3
  rcases h3 e he with h4 | h4
  ·rw [hb] at h4;cases h4
  ·exact h4
 ·rintro ⟨h1,h2,o,h3,h4⟩
  refine ⟨h1,h2,?_⟩
  rw [h3]
  simp only [x1m,x1y,Array.all_eq_true_iff_forall_mem,x0F,x0t]
  intro e he
  cases hb : Region.binds .any e with
  | false=>exact .inl rfl
  | true=>exact .inr (h4 e he hb)
theorem xD (hs : List Nat) (j : Nat) : hs.toArray.getD j 0=hs.getD j 0:=by
 simp [x1p,List.getD_eq_getElem?_getD]
theorem vV {f g : Nat -> D} {n : az} {dst : Option Nat} {K : List (Nat × D) -> List (Nat × Bool) -> Prop} (hv : ∀ x ∈ aj n.op,vd g x=vd f x) (hr : ∀ b ∈ rdR f n,g b=f b) (hc : ∀ p ∈ frR f n,gd p.2 (g p.1)=gd p.2 (f p.1)) (h : aJ C f dst K n.op) : aJ C g dst K n.op:=by
 obtain ⟨d0,o,g0⟩:=n
 simp only at hv h ⊢
 have full : (∀ x ∈ aj o,x ∈ EL o) -> aJ C g dst K o:=fun hN=>tp hv (fun x hx b hb=>hr b (x0o.2 (.inl (List.mem_flatMap.2 ⟨x,hN x hx,ke hb⟩)))) h
 cases o with
 | mov x=>simp only [aJ,res,hv x (by simp [aj])] at h ⊢;exact h
 | nck x=>simp only [aJ,res,hv x (by simp [aj])] at h ⊢;exact h
 | un op x=>simp only [aJ,res,hv x (by simp [aj])] at h ⊢;exact h
 | conv k x=>simp only [aJ,res,hv x (by simp [aj])] at h ⊢;exact h
 | ext i x=>simp only [aJ,res,hv x (by simp [aj])] at h ⊢;exact h
 | fad i x=>simp only [aJ,res,hv x (by simp [aj])] at h ⊢;exact h
 | boxF x=>simp only [aJ,res,hv x (by simp [aj])] at h ⊢;exact h
 | blsF sz len zs ps =>
  have e : ∀ p ∈ ps,vd g p.2=vd f p.2:=fun p hp=>hv _ (x0u.2 ⟨p,hp,rfl⟩)
  simp only [aJ,res] at h ⊢
  rw [i7 e]
  exact ⟨fun p hp=>by rw [e p hp];exact h.1 p hp,h.2⟩
 | blsX sz len zs ps =>
  have e : ∀ p ∈ ps,vd g p.2=vd f p.2:=fun p hp=>hv _ (x0u.2 ⟨p,hp,rfl⟩)
  simp only [aJ,res] at h ⊢
  rw [kE e]
  exact ⟨h.1,fun p hp=>by rw [e p hp];exact h.2.1 p hp,h.2.2⟩
 | len x=>simp only [aJ,res,hv x (by simp [aj])] at h ⊢;exact h
 | pick c x y=>simp only [aJ,res,hv c (by simp [aj]),hv x (by simp [aj]),hv y (by simp [aj])] at h ⊢;exact h
 | bin op x y=>simp only [aJ,res,hv x (by simp [aj]),hv y (by simp [aj])] at h ⊢;exact h
 | iadA l s x i=>simp only [aJ,res,hv x (by simp [aj]),hv i (by simp [aj])] at h ⊢;exact h
 | bld zs ps =>
  have e : ∀ p ∈ ps,vd g p.2.2=vd f p.2.2:=fun p hp=>hv _ (x0u.2 ⟨p,hp,rfl⟩)
  simp only [aJ,res] at h ⊢
  obtain ⟨h1,h2,h3⟩:=h
  have e2 : (ps.all fun p=>isV (vd g p.2.2))=(ps.all fun p=>isV (vd f p.2.2)):=by
   rw [x0x,x0g,x0g]
   exact ⟨fun h p hp=>by rw [<- e p hp];exact h p hp,fun h p hp=>by rw [e p hp];exact h p hp⟩
  have m1 : (ps.map fun p=>(p.1,p.2.1,vd g p.2.2))=ps.map fun p=>(p.1,p.2.1,vd f p.2.2):=x0j fun p hp=>by rw [e p hp]
  have m2 : (ps.map fun p=>(p.1,p.2.1,cf (vd g p.2.2)))=ps.map fun p=>(p.1,p.2.1,cf (vd f p.2.2)):=x0j fun p hp=>by rw [e p hp]
  rw [e2,m1,m2]
  exact ⟨fun p hp=>by rw [e p hp];exact h1 p hp,h2,h3⟩
 | mk k xs =>
  have e : ∀ x ∈ xs,vd g x=vd f x:=fun x hx=>hv x hx
  simp only [aJ,res] at h ⊢
  obtain ⟨h1,h2,h3⟩:=h
  have e2 : (xs.all fun x=>isV (vd g x))=(xs.all fun x=>isV (vd f x)):=by
   rw [x0x,x0g,x0g]
   exact ⟨fun h p hp=>by rw [<- e p hp];exact h p hp,fun h p hp=>by rw [e p hp];exact h p hp⟩
  rw [e2,x0j e]
  exact ⟨fun p hp=>by rw [e p hp];exact h1 p hp,h2,h3⟩
 | ldQ q x =>
  have e:=hv x (by simp [aj])
  simp only [aJ,e] at h ⊢
  split at h
  ·rename_i c i off ex
   obtain ⟨rfl,h⟩:=h
   split at h
   ·rename_i sz es hf
    obtain ⟨r,h1,d,h2,h3⟩:=h
    have h4:=hc (c,off) (by simp [frR,ex])
    simp only [hf,gd] at h4
    refine ⟨rfl,?_⟩
    split at h4
    ·rename_i sz' es' hg
     simp only [x0r] at h4
     have h5:=congrArg (fun l=>l[i]?) h4
     simp only [x0B,h1,x1m] at h5
     rw [x0m] at h5
     obtain ⟨r',h6,h7⟩:=h5
     simp only [hg]
     exact ⟨r',h6,d,by rw [h7];exact h2,h3⟩
    ·cases h4
   ·exact h.elim
  ·exact h.elim
 | ld n ag x =>
  have e:=hv x (by simp [aj])
  simp only [aJ,res,e] at h ⊢
  split at h
  ·rename_i p i off ex
   rw [cV (p:=p) (hr _ (x0o.2 (.inr (List.mem_flatMap.2 ⟨x,by simp [ldN],by rw [ex];simp [aM]⟩))))]
   exact h
  ·exact h
  ·exact h
  ·exact h
 | _=>exact full (fun x hx=>hx)
theorem u1 (hC : ck P F C) (hL : NoL L) {hs : List Nat} {ops : Array Oper} {ts : List gg} {f' : Nat -> D} (htr : Tr C ts f f') (hok : (aV hs ts f).Ok) (hlen : ts.length=ops.size) (hb : ∀ j,j < ops.size -> hs.getD j 0=uH ops hs.toArray j) (hed : ∀ (j : Nat) (o : Oper),ops[j]? = some o -> ∀ e ∈ o.after,Region.binds .any e=true -> e.on < j)
  (hk : ∀ (j : Nat) (t : gg) (o : Oper),ts[j]? = some t -> ops[j]? = some o -> rA P F nt ops t.1 o=true)
  (hQ : ∀ M a w,SR F nt S L w0 M0 f' M a w -> Q .normal a w) : ∀ (fuel : Nat) (listed : Array Bool) (M : Mem) (a : Act) (w : World),listed.size=ops.size -> left ops.size (lst listed) <= fuel ->
   (∀ j,j < ops.size -> lst listed j=true -> ∀ i,(hs.getD j 0).testBit i=true -> i < ops.size /\ lst listed i=true) -> SR F nt S L w0 M0 ((aV hs ts f).G (lst listed) ts.length) M a w -> wpAny P .any ops Q fuel listed a w:=by
 obtain ⟨hf',hsp⟩:=qr hs ts f f' htr
 have hall : ∀ (listed : Array Bool),(∀ i,i < ops.size -> lst listed i=true) -> (aV hs ts f).G (lst listed) ts.length=f':=by
  intro listed h
  rw [hf']
  unfold Fam.St
  have : ∀ m,m <= ts.length -> (aV hs ts f).G (lst listed) m=(aV hs ts f).G (fun _=>true) m:=by
   intro m
   induction m with
   | zero=>intro _;rfl
   | succ m ih =>
    intro hm
    simp only [Fam.G]
    rw [h m (by omega),ih (by omega)]
    rfl
  exact this _ (x0p _)
 intro fuel
 induction fuel with
 | zero =>
  intro listed M a w hs' hf hcl h
  have hal : ∀ i,i < ops.size -> lst listed i=true:=by
   intro i hi
   cases hl : lst listed i with
   | true=>rfl
   | false =>
    have : i ∈ (List.range ops.size).filter fun i=>!lst listed i:=by simp [hi,hl]
    have:=List.length_pos_of_mem this
    unfold left at hf
    omega
  refine ⟨?_,hQ M a w (by rw [<- hall listed hal];exact h)⟩
  rw [List.eq_nil_iff_forall_not_mem]
  intro i hi
  obtain ⟨h1,h2,_⟩:=j9.1 hi
  rw [hal i h1] at h2
  cases h2
 | succ fuel ih =>
  intro listed M a w hs' hf hcl h
  refine ⟨fun hr=>hQ M a w ?_,fun j hj=>?_⟩
  ·have hal : ∀ i,i < ops.size -> lst listed i=true:=by
    intro i
    induction i using Nat.strongRecOn with
    | _ i ihi =>
     intro hi
     cases hl : lst listed i with
     | true=>rfl
     | false =>
      have : i ∈ Region.ready .any ops listed:=j9.2 ⟨hi,hl,ops[i],x1e hi,fun e he hb=>by
       have h1:=hed i _ (x1e hi) e he hb
       have h2:=ihi e.on h1 (by omega)
       unfold lst at h2
       rw [x1p] at h2 ⊢
       rw [x1e (by omega)] at h2 ⊢
       simpa using h2⟩
      rw [hr] at this
      cases this
   rw [<- hall listed hal]
   exact h
  ·obtain ⟨h1,h2,o,h3,h4⟩:=j9.1 hj
   obtain ⟨t,ht⟩ : ∃ t,ts[j]? = some t:=⟨ts[j]'(by omega),x0e (by omega)⟩
   have hanc : ∀ i,(hs.getD j 0).testBit i=true -> i < ops.size /\ lst listed i=true:=by
    intro i hi
    rw [hb j h1] at hi
    obtain ⟨o',ho',e,he,hbd,h5⟩:=Cf hi
    rw [h3] at ho'
    cases ho'
    have h6:=hed j o h3 e (by simpa using he) hbd
    have h7:=h4 e (by simpa using he) hbd
    have h8 : lst listed e.on=true:=by
     unfold lst
     rw [x1p] at h7 ⊢
     rw [x1e (by omega)] at h7 ⊢
     simpa using h7
    rcases h5 with rfl | h5
    ·exact ⟨by omega,h8⟩
    ·rw [xD] at h5
     exact hcl e.on (by omega) h8 i h5
   have hshut : wJ (aV hs ts f) (lst listed):=fun j' hj' hl' i _ hbf=>(hcl j' (by simpa [aV,hlen] using hj') hl' i hbf).2
   have hjn : j < (aV hs ts f).n:=by simp only [aV];omega
   have hreads:=hok.reads hshut hjn h2 (fun i _ hbf=>(hanc i hbf).2)
   have hcols:=hok.readsC hshut hjn h2 (fun i _ hbf=>(hanc i hbf).2)
   obtain ⟨g1,g2,g3,g4⟩:=hsp j t ht
   have hrd : (aV hs ts f).rd j=t.2.2.1:=by simp [aV,ht]
   have hn : (aV hs ts f).n=ts.length:=rfl
   rw [hrd,hn,g4] at hreads
   have hfr : (aV hs ts f).fr j=frR ((aV hs ts f).St j) t.1:=by
    have : (aV hs ts f).fr j=t.2.2.2.2.1:=by simp [aV,ht]
    rw [this,g4];rfl
   rw [hfr,hn] at hcols
   have hstep : iS C t.1 ((aV hs ts f).G (lst listed) ts.length) t.2.1:=by
    have hv : ∀ x ∈ aj t.1.op,vd ((aV hs ts f).G (lst listed) ts.length) x=vd ((aV hs ts f).St j) x:=fun x hx=>by
     cases x with
     | t s=>exact hreads s (x0o.2 (.inl (x0o.2 (.inl (List.mem_flatMap.2 ⟨_,hx,by simp [jh]⟩)))))
     | c d=>rfl
    have ha : ∀ b ∈ rdR ((aV hs ts f).St j) t.1,(aV hs ts f).G (lst listed) ts.length b=(aV hs ts f).St j b:=fun b hb=>hreads b (x0o.2 (.inr hb))
    have hg : ∀ s b,t.1.guard=some (s,b) -> (aV hs ts f).G (lst listed) ts.length s=(aV hs ts f).St j s:=fun s b e =>
     hreads s (x0o.2 (.inl (x0o.2 (.inr (by rw [e];simp [qN])))))
    unfold iS at g1 ⊢
    split at g1
    ·exact ⟨fun s b e=>by rw [hg s b e];exact g1.1 s b e,vV hv ha hcols g1.2⟩
    ·obtain ⟨s,b,e1,e2⟩:=g1
     exact ⟨s,b,e1,by rw [hg s b e1];exact e2⟩
   have hlst : ∀ i,lst (listed.setIfInBounds j true) i=(if i=j then true else lst listed i):=by
    intro i
    unfold lst
    rw [x1p,x1p,Array.getElem?_setIfInBounds]
    by_cases hij : i=j
    ·subst hij;simp [show i < listed.size from by omega]
    ·simp [hij,Ne.symm hij]
   have hlst' : ∀ i,i ≠ j -> lst (listed.setIfInBounds j true) i=lst listed i:=fun i hi=>by rw [hlst,if_neg hi]
   have hlstj : lst (listed.setIfInBounds j true) j=true:=by rw [hlst,if_pos rfl]
   have hmore : (aV hs ts f).G (lst (listed.setIfInBounds j true)) ts.length=oC t.1 t.2.1 ((aV hs ts f).G (lst listed) ts.length):=by
    rw [AA]
    have:=hok.more hshut hjn h2 hlstj hlst'
    rw [hn] at this
    rw [this]
    simp [Fam.E,aV,ht]
   have hfin : ∀ M' a' w',SR F nt S L w0 M0 (oC t.1 t.2.1 ((aV hs ts f).G (lst listed) ts.length)) M' a' w' -> wpAny P .any ops Q fuel (listed.setIfInBounds j true) a' w':=by
    intro M' a' w' h'
    refine ih _ M' a' w' (by simpa using hs') ?_ (fun j' hj' hl' i hi=>?_) (by rw [hmore];exact h')
    ·have : left ops.size (lst (listed.setIfInBounds j true)) < left ops.size (lst listed):=by
      refine oV (j:=j) (fun i hi=>?_) (by simp [h2]) (by simp [hlstj]) _ (by simpa using h1)
      by_cases hij : i=j
      ·subst hij;simp [h2]
      ·rw [hlst' i hij] at hi;exact hi
     omega
    ·by_cases hjj : j'=j
     ·subst hjj
      obtain ⟨q1,q2⟩:=hanc i hi
      refine ⟨q1,?_⟩
      rw [hlst];split
      ·rfl
      ·exact q2
     ·rw [hlst' j' hjj] at hl'
      obtain ⟨q1,q2⟩:=hcl j' hj' hl' i hi
      refine ⟨q1,?_⟩
      rw [hlst];split
      ·rfl
      ·exact q2
   have:=Df hC hL (hk j t o ht h3) h hstep (R:=wpAny P .any ops Q fuel (listed.setIfInBounds j true)) hfin (Q:=Q)
   unfold wpOp
   rw [h3]
   exact this
theorem rP (hC : ck P F C) (hL : NoL L) (hm : P.follows .mixedOrders=true) {hs : List Nat} {ops : Array Oper} {ns : List az} (hk : rO P F nt ns ops=true) (hdr : sE hs ops=true) {id : Nat} {K : Env -> Prop} {e : Env} (h : SR F nt S L w0 M0 (ae e) M a w) (hr : jT C hs K ns e [])
  (hQ : ∀ e M a w,SR F nt S L w0 M0 (ae e) M a w -> K e -> Q .normal a w) : (Code.region id ops true).wp P Q a w:=by
 simp only [rO,x0a,x0n,x0g] at hk
 obtain ⟨ts,e',g1,g2,g3,g4⟩:=Di ns e [] hr
 have hlen : ts.length=ops.size:=by
  have : ts.length=ns.length:=by rw [<- g1];simp
  rw [this];simpa using hk.1
 have hok:=DQ g2 (by simpa using g3)
 simp only [sE,x0g,x1C,x0a,x0n] at hdr
 refine wp_region_any hm (u1 hC hL (hs:=hs) g2 hok hlen (fun j hj=>(hdr j hj).1) (fun j o ho e he hb=>?_) (fun j t o ht ho=>?_) (fun M a w hs=>hQ e' M a w hs g4) _ _ M a _ (by simp) ?_ ?_ ?_)
 ·obtain ⟨hj,_⟩:=Array.getElem?_eq_some_iff.1 ho
  have:=(hdr j hj).2
  simp only [tM,ho,x0g,x0F,x0t,x0b] at this
  rcases this e (by simpa using he) with h5 | h5
  ·rw [hb] at h5;cases h5
  ·exact h5
 ·refine hk.2 (t.1,o) ?_
  rw [x1k]
  refine ⟨j,?_⟩
  rw [x1u]
  refine ⟨?_,by simpa using ho⟩
  rw [<- g1]
  simp [ht]
 ·have:=x03 (fun i=>!lst (Array.replicate ops.size false) i) (List.range ops.size)
  simpa [left] using this
 ·intro j hj hl
  simp [lst,hj] at hl
 ·have h0 : ∀ m,m <= ts.length -> (aV hs ts (ae e)).G (lst (Array.replicate ops.size false)) m=ae e:=by
   intro m
   induction m with
   | zero=>intro _;rfl
   | succ m ih =>
    intro hm
    simp only [Fam.G]
    rw [ih (by omega)]
    have : lst (Array.replicate ops.size false) m=false:=by simp [lst,show m < ops.size from by omega]
    rw [this];rfl
  rw [h0 _ (x0p _)]
  exact h.grow (Bel.drew _)
end
end Go.Gv
