/-
  Texts of the proof: GvF6, GvF7, GvF8, GvF9, GvF10, GvF11, GvF12, GvF13, GvF14, GvG, GvH, GvI0, GvI.
-/
import Derived.Test.YtabkicbiibfnbaaGreatX2
import Derived.Test.YtabkicbiibfnbaaGreatX1
import Derived.Orders
set_option linter.all false
namespace Go.Gv
open Go.RowKit
section
variable {P : Program} {F : Fid} {C : Nat -> List D -> D -> List D -> Prop} {nt : Nat} {S : Nat -> Prop} {L : Nat -> Option Loc} {w0 : World} {M0 : Mem} {f : Nat -> D} {M : Mem} {a : Act} {w w' : World} {o : Oper} {d : D} {Q : Exit -> Act -> World -> Prop} {ρ : Pa -> Loc} {ω : Nat -> Option Pa} {New : Nat -> Prop} {K : List (Nat × D) -> List (Nat × Bool) -> Prop}
theorem ko {t b : Nat} {d x : D} {q : Nat × D} (hq : isB q.2=true \/ q.2=.any) : eff [(t,d),(b,x)] [(b,true)] (eff [q] [] f)=eff [(t,d),(b,x),q] [(b,true)] f:=by
 funext s
 obtain ⟨c,y⟩:=q
 unfold eff
 by_cases e1 : s=t
 ·subst e1;simp
 ·have h1 : (s == t)=false:=by simpa using e1
  by_cases e2 : s=b
  ·subst e2;simp [x0m,h1]
  ·have h2 : (s == b)=false:=by simpa using e2
   by_cases e3 : s=c
   ·subst e3
    simp only [x0m,h1,h2,x0Z,beq_self_eq_true]
    rcases hq with hq | hq
    ·rw [oN hq];rfl
    ·simp only at hq
     subst hq
     simp [aG,da,aI]
   ·have h3 : (s == c)=false:=by simpa using e3
    simp only [x0m,h1,h2,h3,x0Z,lD,x0l,if_false]
theorem oz (p : Pa) : (cN f p).1=p.root:=by
 cases p with
 | r c=>rfl
 | n c i o =>
  simp only [cN,Pa.root]
  split <;> rfl
theorem uK (p : Pa) : isB (cN f p).2=true \/ (cN f p).2=.any:=by
 cases p with
 | r c=>exact .inr rfl
 | n c i o =>
  simp only [cN]
  split
  ·exact .inl rfl
  ·exact .inr rfl
theorem wK {b i off sz : Nat} {es : List (List D)} (hg : aU f (.n b i off)=some (sz,es)) : ∃ sz0 es0 row0,f b=.blk sz0 es0 /\ es0[i]? = some row0 /\ row0[off]? = some (.own sz es):=by
 simp only [aU] at hg
 split at hg
 ·rename_i sz' es' e
  split at hg
  ·rename_i sz2 r hr
   simp only [x0r,Prod.mk.injEq] at hg
   obtain ⟨rfl,rfl⟩:=hg
   cases hi : es'[i]? with
   | none=>rw [hi] at hr;simp at hr
   | some row =>
    rw [hi] at hr
    exact ⟨sz',es',row,e,hi,by simpa using hr⟩
  ·cases hg
 ·cases hg
theorem SR.leave (h : SR F nt S L w0 M0 f M a w) (ho : Own F L (fun k=>S k \/ w0.heap.size <= k) f M a w ρ ω) {p : Pa} {sz : Nat} {es : List (List D)} (hg : aU f p=some (sz,es)) (hch : Ch S w0 w') (hsz : w.heap.size <= w'.heap.size) (hholds : ∀ p v,M p=some v -> w'.cell? p=some v)
  (hk : ∀ k q,ω k=some q -> q ≠ p -> w'.heap[k]? = w.heap[k]?) : SR F nt S L w0 M0 (eff [cN f p] [] f) M a w' where
 hnt:=h.hnt
 size:=h.size
 defers:=h.defers
 ch:=hch
 holds:=hholds
 ext:=h.ext
 fresh:=h.fresh
 own:=by
  have hp:=bQ ho hg
  obtain ⟨sz0,es0,hf⟩:=(ho.get hp hg).2
  have hlk : ∀ s,s ≠ p.root -> [cN f p].lookup s=none:=fun s hs=>by
   have:=dV (b:=(cN f p).1) (d:=(cN f p).2) (s:=s) (by rw [oz];exact hs)
   exact this
  refine ⟨ρ,ω,ho.step (ks:=[]) (fun p hp=>absurd rfl hp) (Mem.le_refl _) hsz (fun t ht=>.inl ?_) (fun c hc=>?_) (fun k q e=>.inl ⟨q,e⟩) ho.apart (fun c l hc hl hB=>⟨rfl,?_⟩)⟩
  ·rcases bD (f:=f) (ks:=[]) (hlk t (by omega)) with h2 | h2
   ·exact .inl h2
   ·exact .inr ⟨h2.1,rfl,h2.2⟩
  ·by_cases e : c=p.root
   ·cases p with
    | r b =>
     left;left
     have e : c=b:=e
     subst e
     rw [aN (d:=.any) (by simp [cN])];rfl
    | n b i off =>
     have e : c=b:=e
     subst e
     right
     obtain ⟨sz1,es1,row0,hf1,hi0,ho0⟩:=wK hg
     have hf1' : f c=.blk sz0 es0:=hf
     rw [hf1'] at hf1
     cases hf1
     have hdd : cN f (.n c i off)=(c,.blk sz0 (bg es0 i off 1 [.any])):=by simp only [cN,hf1']
     have hlt : off < row0.length:=(x0b.1 ho0).1
     refine .inl ⟨sz0,bg es0 i off 1 [.any],aN (by rw [hdd];simp),?_⟩
     rcases ho.roots c sz0 es0 hc hf1' with ⟨e0,_⟩ | ⟨hω,h0,vs,T,h1,h2,h3,h4,h5⟩
     ·rw [e0] at hi0;simp at hi0
     ·refine .inr ⟨hω,h0,vs,T,(hk _ _ hω (by simp)).trans h1,h2,by rw [eD];exact h3,fe h4 hi0 (by omega) rfl,fun i' r off' d hi hr=>?_⟩
      rcases jj hi0 (show off + 1 <= row0.length by omega) rfl hi hr with ⟨rfl,g1,g2,g3⟩ | ⟨g1,r0,g2,g3⟩
      ·have : off'=off:=by omega
       subst this
       simp at g3
       subst g3
       obtain ⟨v,k1,k2⟩:=h5 i' row0 off' _ hi0 ho0
       exact ⟨v,k1,by simp [cu,af]⟩
      ·obtain ⟨v,k1,k2⟩:=h5 i' r0 off' d g2 g3
       exact ⟨v,k1,cu.frame k2 (Mem.le_refl _) ⟨rfl,fun e=>⟨e,hk _ _ e (by
        intro h;cases h
        exact g1 ⟨rfl,by omega,by omega⟩)⟩⟩⟩
   ·left
    rcases bK (f:=f) (ks:=[]) (hlk c e) with h1 | h1
    ·exact .inl h1
    ·exact .inr ⟨h1,fun q hq=>⟨rfl,fun e'=>⟨e',hk _ _ e' (by rintro rfl;exact e hq.symm)⟩⟩⟩
  ·by_cases e : c=p.root
   ·rw [e,hf];rfl
   ·rcases bK (f:=f) (ks:=[]) (hlk c e) with h1 | h1
    ·rw [hB] at h1;cases h1
    ·rw [<- h1];exact hB
theorem SR.newRow0 (h : SR F nt S L w0 M0 f M a w) {sz : Nat} {es' : List (List D)} {v : Value} (hu : ∀ e ∈ es',e.length=sz /\ ∀ c ∈ e,bv c=true) (hb : Bel w w') (hn : fZ F M w w' sz es' v) {t b' : Nat} (ht : t < nt) (hb0 : 10000 <= b') (hL : L b'=none) :
  SR F nt S L w0 M0 (eff [(t,.ref (.r b') 0 es'.length),(b',.blk sz es')] [(b',true)] f) M (a.put (some t) v) w':=by
 obtain ⟨B,o,T,us,cap,rfl,hB,hh,hcap,⟨hlen,hmc⟩,hrep⟩:=hn
 have hle : o + es'.length * sz <= us.length:=by
  have:=x0s sz hcap
  omega
 exact h.makeAt (t:=t) (b:=b') (B:=B) (o:=o) (bs:=[]) (es:=es') (sz:=sz) (src:=fun _ _=>none) (vs:=us) (T:=T) (d:=.ref (.r b') 0 es'.length) (v:=.slice (some ⟨B,o,none⟩) es'.length cap) ht hb0 hL hb hB hh hle (fun e he=>(hu e he).1)
  (fun i r off c hi hr=>by
   obtain ⟨u,k1,k2⟩:=hrep i r off c hi hr
   exact ⟨u,k1,.inl ⟨dF ((hu r (x0d hi)).2 c (x0d hr)),k2⟩⟩) (fun _ _ _ _ _ e=>(by cases e)) (fun _ _ _ e=>(by cases e))
  (fun ρ M e=>by
   rw [au rfl]
   simp only [aw,e]
   exact .inr ⟨cap,by simp,hcap,by simpa using hlen,hmc⟩)
theorem tN {b : Option Nat} {v : Value} (h : isO d=false) : Ck F M w b d v ↔ af F M d v:=by
 cases d <;> first | exact Iff.rfl | (simp [isO] at h)
theorem tu (h : isV d=true) : isO d=false:=by
 cases d <;> first | rfl | (simp [isV] at h)
theorem go (hO : Own F L New f M a w ρ ω) {p : Pa} {k n sz : Nat} {es : List (List D)} {v : Value} (hg : aU f p=some (sz,es)) (hkn : k + n <= es.length) (hv : aw F M ρ (.ref p k n) v) (hfl : ∀ e ∈ (es.drop k).take n,∀ c ∈ e,isO c=false) :
  (∃ A,v=.slice A 0 0 /\ n=0) \/ ∃ (cap : Nat) (us : List Value) (T : TypeId),v=.slice (some ⟨(ρ p).blk,(ρ p).base + k * sz,none⟩) n cap /\ (n <= cap /\ cap <= 9223372036854775807) /\ (ρ p).base + k * sz + cap * sz <= (ρ p).len /\ ω (ρ p).blk=some p /\ (ρ p).sz=sz /\
   w.heap[(ρ p).blk]? = some (.cells us.toArray T (0,0)) /\ us.length=(ρ p).len /\ (∀ e ∈ es,e.length=sz) /\
   (∀ i r off d,((es.drop k).take n)[i]? = some r -> r[off]? = some d -> ∃ u,us[(ρ p).base + k * sz + i * sz + off]? = some u /\ af F M d u):=by
 have hp:=bQ hO hg
 obtain ⟨hpath,_⟩:=hO.get hp hg
 simp only [aw] at hv
 rcases hv with ⟨h0,A,hv⟩ | ⟨cap,hv,hcap,hcl,hmc⟩
 ·exact .inl ⟨A,hv,h0⟩
 ·rcases hpath with ⟨e0,e1,e2,e3⟩ | ⟨hω,g0,us,T,g1,g2,g3,g4,g5⟩
  ·have hn0 : n=0:=by rw [e0] at hkn;simp at hkn;omega
   have hc0 : cap=0:=by
    rw [e1,e2] at hcl
    rcases x0V cap with h | h
    ·exact h
    ·have:=Nat.mul_pos (show 0 < k + cap by omega) e3;omega
   subst hc0
   exact .inl ⟨_,by rw [hv,hn0],hn0⟩
  ·have e1 : (k + cap) * sz=k * sz + cap * sz:=x0C _ _ _
   rw [g0,e1] at hcl
   refine .inr ⟨cap,us,T,by rw [hv,g0],⟨hcap,hmc⟩,by omega,hω,g0,g1,g2,g4,fun i r off d h1 h2=>?_⟩
   have hin : i < n:=by have:=(x0b.1 h1).1;simp at this;omega
   have hO':=hfl r (x0d h1) d (x0d h2)
   rw [x0D hin,x0v] at h1
   obtain ⟨u,k1,k2⟩:=g5 (k + i) r off d h1 h2
   refine ⟨u,?_,?_⟩
   ·rw [<- k1,x0C];congr 1;omega
   ·cases p with
    | r b =>
     have k2' : cu F M ω ρ w b (k + i) off d u:=k2
     rwa [bn hO'] at k2'
    | n b i' o'=>exact k2
theorem SR.fillN (h : SR F nt S L w0 M0 f M a w) (ho : Own F L (fun k=>S k \/ w0.heap.size <= k) f M a w ρ ω) {b sz0 i0 o0 sz : Nat} {es0 es es' : List (List D)} {row0 : List D} (hf : f b=.blk sz0 es0) (hi0 : es0[i0]? = some row0) (ho0 : row0[o0]? = some (.own sz es)) (hlen : es'.length=es.length)
  (hch : Ch S w0 w') (hsz : w.heap.size <= w'.heap.size) (hholds : ∀ p v,M p=some v -> w'.cell? p=some v) (hnew : bZ ω ρ w' (.n b i0 o0) sz es' (fun _ _ d v=>af F M d v)) (hk : ∀ k q,ω k=some q -> q ≠ .n b i0 o0 -> w'.heap[k]? = w.heap[k]?) :
  SR F nt S L w0 M0 (eff [(b,.blk sz0 (bg es0 i0 o0 1 [.own sz es']))] [] f) M a w' where
 hnt:=h.hnt
 size:=h.size
 defers:=h.defers
 ch:=hch
 holds:=hholds
 ext:=h.ext
 fresh:=h.fresh
 own:=⟨ρ,ω,ho.setN hf hi0 ho0 hlen hsz (Mem.le_refl _) ho.apart hnew hk⟩
theorem wm {dst : Option Nat} {b : Nat} {x : D} : (match dst with | some t=>eff [(t,D.tup [])] [] (eff [(b,x)] [] f) | none=>eff [(b,x)] [] f)=eff (mh dst++[(b,x)]) [] f:=by
 cases dst with
 | none=>rfl
 | some t =>
  funext s
  unfold eff
  by_cases q : s=t
  ·subst q
   simp [mh,x0m]
  ·have q1 : (s == t)=false:=by simpa using q
   simp only [mh,x1z,List.nil_append,x0m,q1,x0Z,aG,List.any_nil,x0l,if_false]
theorem vr {dst : Option Nat} (hC : bL P F C) (h : SR F nt S L w0 M0 f M a w) (hp : ∀ t,o.dst=some t -> t < nt) {g fi : Nat} {x : Opd} {xs : List Opd} {y : Operand} {ys : List Operand} {ts : Array TypeId} (ho : o.op=.call { callee:=.value (.func fi),args:=⟨y::ys⟩,argTypes:=ts }) (hx0 : ai F x y=true) (hx : cb F xs ys=true)
  (hg : F g=some fi) (hr : match vd f x with
  | .ref (.n b i o) k n=>k=0 /\ match f b with
   | .blk sz0 es0=>∃ row0,es0[i]? = some row0 /\ ∃ sz es,row0[o]? = some (.own sz es) /\ es.length=n /\ (∀ x ∈ xs,isV (vd f x)=true) /\ ∃ es' : List (List D),es'.length=es.length /\ (∀ e ∈ es',e.length=sz /\ ∀ c ∈ e,aE c=true) /\
     C g (.own sz es::xs.map (vd f)) .any [.own sz es',.nilp] /\ K (mh dst++[(b,.blk sz0 (bg es0 i o 1 [.own sz es']))]) []
   | _=>False
  | _=>False) (hdst : dst=o.dst:=by rfl) : o.wp P a w (PostX F nt S L w0 M0 f K) Q:=by
 split at hr
 ·rename_i b i0 o0 k n hvx
  obtain ⟨rfl,hr⟩:=hr
  split at hr
  ·rename_i sz0 es0 hf
   obtain ⟨row0,hi0,sz,es,ho0,rfl,hxs,es',hl,hu,hc,hK⟩:=hr
   have hrun : (execOp a.eval o).run P w=(callFunc fi (a.eval y::ys.map a.eval).toArray).run P w:=by
    simp only [execOp,ho,resolve,Act.eval,Deferred.ofValue,Sem.run_bind,Sem.run_pure,Result.andThen_ok,invoke]
    congr 2
    rw [x1E,x1i]
    apply Array.ext'
    simp
    cases y <;> simp [Act.eval]
   obtain ⟨ρ,ω,hO⟩:=h.own
   have hb:=hO.big hf
   have hv:=hO.opd hx0
   rw [hvx,au rfl] at hv
   have hgp : aU f (.n b i0 o0)=some (sz,es):=by simp [aU,hf,hi0,ho0]
   have hpath : bZ ω ρ w (.n b i0 o0) sz es (fun _ _ d v=>af F M d v):=(hO.get (p:=.n b i0 o0) hb hgp).1
   have hnoO : ∀ e ∈ (es.drop 0).take es.length,∀ c ∈ e,isO c=false:=by
    intro e he c hc'
    rw [List.drop_zero,x1m] at he
    rcases hpath with ⟨e0,_⟩ | ⟨_,_,vs,T,_,_,_,_,h5⟩
    ·rw [e0] at he;cases he
    ·obtain ⟨i,hi⟩:=x1f.1 he
     obtain ⟨j,hj⟩:=x1f.1 hc'
     obtain ⟨u,_,h6⟩:=h5 i e j c hi hj
     cases c <;> first | rfl | (simp [af] at h6)
   have hrep : aq F M (xs.map (vd f)) (ys.map a.eval):=by
    have h1:=gy h hx (by rw [x0f];exact hxs)
    rwa [x0i (g:=vd f) fun x hx'=>by unfold dpv;exact (jd (hxs x hx')).1] at h1
   have hS:=hC.runsS g fi sz es _ es' hg hc M w _ h.holds hrep
   have fin : ∀ w',SR F nt S L w0 M0 (eff [(b,.blk sz0 (bg es0 i0 o0 1 [.own sz es']))] [] f) M a w' -> PostX F nt S L w0 M0 f K (a.put o.dst (.tuple #[])) w':=fun w' hs=>by
    refine ⟨_,_,M,hK,?_⟩
    rw [<- wm,hdst]
    cases hd : o.dst with
    | none=>simpa [Act.put] using hs
    | some t=>exact hs.put (hp t hd) fun _ _ _=>by rw [au rfl];simp [aw,af,aq]
   unfold Oper.wp
   rw [hrun,cf (hC.body g fi hg),Oper.upon_enter]
   rcases go hO hgp (by omega) hv hnoO with ⟨A,hv,hn0⟩ | ⟨cap,us,T,hv,⟨hcap,hmc⟩,hcl,hω,g0,g1,g2,g4,g5⟩
   ·have e : es=[]:=x0N hn0
    have e' : es'=[]:=x0N (by rw [hl,e];rfl)
    rw [hv]
    refine (hS.1 e A).mono ?_
    rintro e0 w' ⟨rfl,hw⟩
    have h2:=h.grow hw
    refine fin w' (h.fillN hO hf hi0 ho0 hl h2.ch hw.size h2.holds ?_ (fun k q hk _=>hw.block k (hO.lt _ _ hk)))
    rw [e']
    rw [e] at hpath
    exact hpath.frame (ω':=ω) rfl (fun e'=>⟨e',hw.block _ (hO.lt _ _ e')⟩) (fun _ _ _ _ _ _ _ x=>x)
   ·rw [hv]
    simp only [List.drop_zero,x1m,x1s,x0W] at g5 hcl ⊢
    have hMb : ∀ p : Addr,p.block=(ρ (.n b i0 o0)).blk -> M p=none:=fun p hp=>hO.apart p (.n b i0 o0) (by rw [hp];exact hω)
    refine (hS.2 (ρ (.n b i0 o0)).blk (ρ (.n b i0 o0)).base T us cap hMb (hO.lt _ _ hω) g1 hcap (by rw [g2];exact hcl) g4 g5).mono ?_
    rintro e0 w' ⟨rfl,us',q1,q2,q3,q4⟩
    have hnew:=hO.new _ _ hω
    have hh : ∀ p v,M p=some v -> w'.cell? p=some v:=fun p v hp=>by
     have hne : p.block ≠ (ρ (.n b i0 o0)).blk:=fun e=>by rw [hMb p e] at hp;cases hp
     have h8:=h.holds p v hp
     rw [World.cell?_of_block (q4.block _ (World.block_lt_of_cell? w p h8) hne)]
     exact h8
    refine fin w' (h.fillN hO hf hi0 ho0 hl (h.ch.trans q4 (fun k hk e=>by rcases hnew with h7 | h7;rw [e];exact h7;omega)) q4.size hh (.inr ⟨hω,g0,us',T,q1,by rw [q2,g2],?_,fun e he=>(hu e he).1,fun i r off d h1 h2=>q3 i r off d h1 h2⟩) (fun k q hk hq=>q4.block k (hO.lt _ _ hk) (by rintro rfl;rw [hω] at hk;cases hk;exact hq rfl)))
    rw [hl]
    have:=x0s sz hcap
    omega
  ·exact hr.elim
 ·exact hr.elim
theorem vn (hC : bL P F C) (h : SR F nt S L w0 M0 f M a w) {t : Nat} (hd : o.dst=some t) (ht : t < nt) (hL : L (rt t 0)=none) {g fi : Nat} {x : Opd} {xs : List Opd} {y : Operand} {ys : List Operand} {ts : Array TypeId} (ho : o.op=.call { callee:=.value (.func fi),args:=⟨y::ys⟩,argTypes:=ts }) (hx0 : ai F x y=true) (hx : cb F xs ys=true)
  (hg : F g=some fi) (hr : match vd f x with
   | .ref p k n=>match aU f p with
    | some (sz,es)=>k + n <= es.length /\ p.root ≠ rt t 0 /\ 0 < sz /\ (∀ e ∈ (es.drop k).take n,∀ c ∈ e,bv c=true) /\ (∀ x ∈ xs,ml f p.root x) /\ ∃ es' : List (List D),(∀ e ∈ es',e.length=sz /\ ∀ c ∈ e,bv c=true) /\
      C g (.own sz ((es.drop k).take n)::xs.map (ll f)) .any [.own sz es',.nils,.nils] /\ K [(t,.ref (.r (rt t 0)) 0 es'.length),(rt t 0,.blk sz es'),cN f p] [(rt t 0,true)]
    | none=>False
   | _=>False) : o.wp P a w (PostX F nt S L w0 M0 f K) Q:=by
 split at hr
 ·rename_i p k n hvx
  split at hr
  ·rename_i sz es hgp
   obtain ⟨hkn,hpt,hsz,hfl,harg,es',hu,hc,hK⟩:=hr
   have hrun : (execOp a.eval o).run P w=(callFunc fi (a.eval y::ys.map a.eval).toArray).run P w:=by
    simp only [execOp,ho,resolve,Act.eval,Deferred.ofValue,Sem.run_bind,Sem.run_pure,Result.andThen_ok,invoke]
    congr 2
    rw [x1E,x1i]
    apply Array.ext'
    simp
    cases y <;> simp [Act.eval]
   obtain ⟨ρ,ω,hO⟩:=h.own
   have hp:=bQ hO hgp
   have hv:=hO.opd hx0
   rw [hvx,au rfl] at hv
   have hargs : ∀ b : Option Nat,(∀ B,b=some B -> ω B=some p) -> lS F M w b (xs.map (ll f)) (ys.map a.eval):=by
    intro bo hbo
    have hx':=hx
    simp only [cb,x0a,x0o,x0f] at hx'
    refine ⟨by simpa using hx'.1,fun i d v h1 h2=>?_⟩
    rw [x0A,x0n] at h1 h2
    obtain ⟨x1,h1,rfl⟩:=h1
    obtain ⟨y1,h2,rfl⟩:=h2
    have hok : ai F x1 y1=true:=hx'.2 (x1,y1) (x1f.2 ⟨i,by rw [x1p];exact ⟨h1,h2⟩⟩)
    have hE:=harg x1 (x0d h1)
    have hV:=hO.opd hok
    have hP:=fun hh=>h.opd hok hh
    unfold ml at hE
    unfold ll
    revert hE hV hP
    generalize vd f x1=d1
    intro hE hV hP
    cases d1 <;> first | exact (tN (tu hE)).2 (hP hE) | skip
    rename_i q k1 n1
    cases q with
    | n c i o=>simp [isV] at hE
    | r c =>
     simp only at hE ⊢
     obtain ⟨rfl,hcb,hE⟩:=hE
     split at hE
     ·rename_i sz1 es1 hfc
      obtain ⟨rfl,hfl1⟩:=hE
      have hg1 : aU f (.r c)=some (sz1,es1):=by simp [aU,hfc]
      have hq:=go hO hg1 (by omega) hV (fun e he c hc=>by
       rw [List.drop_zero,x1m] at he
       exact dF (hfl1 e he c hc))
      show _ \/ _
      rcases hq with ⟨A,q1,q2⟩ | ⟨cap,us,T,q1,⟨q2,_⟩,q3,q4,q5,q6,q7,q8,q9⟩
      ·exact .inl ⟨x0N q2,A,q1⟩
      ·simp only [List.drop_zero,x1m,x1s,x0W] at q1 q3 q9
       refine .inr ⟨_,_,T,us,cap,q1,fun e=>?_,q6,q2,by rw [q7];exact q3,q9⟩
       have:=hbo _ e
       rw [q4] at this
       cases this
       exact hcb rfl
     ·exact hE.elim
   have hI:=hC.runsI g fi sz _ _ es' hg hc M w (ys.map a.eval) h.holds
   unfold Oper.wp
   rw [hrun,cf (hC.body g fi hg),Oper.upon_enter]
   have hWn : ((es.drop k).take n).length=n:=by simp;omega
   have hfst:=oz (f:=f) p
   have hsnd:=uK (f:=f) p
   rw [hd]
   rcases go hO hgp hkn hv (fun e he c hc=>dF (hfl e he c hc)) with ⟨A,hv,hn0⟩ | ⟨cap,us,T,hv,⟨hcap,hmc⟩,hcl,hω,g0,g1,g2,g4,g5⟩
   ·have e : (es.drop k).take n=[]:=x0N (by omega)
    have h0:=h.leave hO hgp h.ch (x0k _) h.holds (fun _ _ _ _=>rfl)
    rw [hv]
    refine (hI.1 e A (hargs none (fun B e=>by cases e))).mono ?_
    rintro e0 w' ⟨v,rfl,hw,⟨e',A',rfl⟩ | hn⟩
    ·refine ⟨_,_,M,hK,?_⟩
     subst e'
     rw [<- ko hsnd]
     exact (h0.grow hw).nilA ht hL hsz A'
    ·refine ⟨_,_,M,hK,?_⟩
     rw [<- ko hsnd]
     exact h0.newRow0 hu hw hn ht (rt_big t 0) hL
   ·rw [hv]
    have hMb : ∀ q : Addr,q.block=(ρ p).blk -> M q=none:=fun q hq=>hO.apart q p (by rw [hq];exact hω)
    have hnew:=hO.new _ _ hω
    have hblt:=hO.lt _ _ hω
    have hrun2:=hI.2 (ρ p).blk ((ρ p).base + k * sz) T us cap (hargs (some (ρ p).blk) (fun B e=>by cases e;exact hω)) hMb hblt g1 (by rw [hWn];exact hcap) hmc (by rw [g2];exact hcl) (fun e he=>g4 e (x1l (x0J he))) g5
    rw [hWn] at hrun2
    refine hrun2.mono ?_
    have away : ∀ w' : World,Ch (fun k=>k=(ρ p).blk) w w' -> ∃ w2 : World,Bel w2 w' /\ w2.heap.size=w.heap.size /\ SR F nt S L w0 M0 (eff [cN f p] [] f) M a w2:=by
     intro w' q4
     obtain ⟨B0,hB0⟩ : ∃ B0,B0=(ρ p).blk:=⟨_,rfl⟩
     rw [<- hB0] at q4 hblt
     obtain ⟨ob,q1⟩ : ∃ ob,w'.heap[B0]? = some ob:=⟨_,x1c (x1C hblt q4.size)⟩
     obtain ⟨w2,hw2⟩ : ∃ w2 : World,w2={ w with heap:=w.heap.setIfInBounds B0 ob }:=⟨_,rfl⟩
     have y1 : ∀ k,k ≠ B0 -> w2.heap[k]? = w.heap[k]?:=fun k hk=>by
      rw [hw2];simp only [Array.getElem?_setIfInBounds];rw [if_neg (Ne.symm hk)]
     have y2 : w2.heap[B0]? = some ob:=by
      rw [hw2];simp only [Array.getElem?_setIfInBounds];simp [hblt]
     have y3 : w2.heap.size=w.heap.size:=by rw [hw2];simp
     have c2 : Ch (fun k=>k=B0) w w2:=⟨by rw [hw2],by rw [hw2],by rw [hw2],Nat.le_of_eq y3.symm,fun k _ hk=>y1 k hk,by rw [hw2];exact x0k _⟩
     have hb2 : Bel w2 w':=⟨by rw [q4.os,hw2],by rw [q4.tape,hw2],by rw [q4.output,hw2],by rw [y3];exact q4.size,fun k hk=>by
      by_cases e : k=B0
      ·subst e;rw [y2,q1]
      ·rw [y1 k e];exact q4.block k (by rw [<- y3];exact hk) e,by have:=q4.drawn;rw [hw2];exact this⟩
     have hch2 : Ch S w0 w2:=h.ch.trans c2 (fun k hk e=>by rw [e,hB0];rw [e,hB0] at hk;rcases hnew with h7 | h7;exact h7;omega)
     have hh2 : ∀ p v,M p=some v -> w2.cell? p=some v:=fun q v hq=>by
      have hne : q.block ≠ B0:=fun e=>by rw [hMb q (by rw [e,hB0])] at hq;cases hq
      rw [World.cell?_of_block (y1 _ hne)]
      exact h.holds q v hq
     exact ⟨w2,hb2,y3,h.leave (w':=w2) hO hgp hch2 (Nat.le_of_eq y3.symm) hh2 (fun k' q hk' hq=>y1 k' (by rintro rfl;rw [hB0,hω] at hk';cases hk';exact hq rfl))⟩
    rintro e0 w' ⟨v,rfl,q4,⟨e',A',rfl⟩ | ⟨o2,cap2,T2,us',rfl,q1,hl,hmc2,hcl2,q3⟩ | hn⟩
    ·obtain ⟨w2,hb2,_,h0⟩:=away w' q4
     refine ⟨_,_,M,hK,?_⟩
     subst e'
     rw [<- ko hsnd]
     exact (h0.grow hb2).nilA ht hL hsz A'
    ·have hchS : Ch S w0 w':=h.ch.trans q4 (fun k hk e=>by rcases hnew with h7 | h7;rw [e];exact h7;omega)
     have hh : ∀ p v,M p=some v -> w'.cell? p=some v:=fun q v hq=>by
      have hne : q.block ≠ (ρ p).blk:=fun e=>by rw [hMb q e] at hq;cases hq
      have h8:=h.holds q v hq
      rw [World.cell?_of_block (q4.block _ (World.block_lt_of_cell? w q h8) hne)]
      exact h8
     have ht10 : t < 10000:=x1C ht h.hnt
     have hrb : 10000 <= rt t 0:=rt_big t 0
     have hpr : p.root ≠ t:=by omega
     have hrt : rt t 0 ≠ t:=by omega
     obtain ⟨dq,hdq⟩ : ∃ dq,dq=cN f p:=⟨_,rfl⟩
     rw [<- hdq] at hfst hsnd
     have lk : ∀ s,s ≠ t -> s ≠ rt t 0 -> s ≠ p.root -> [(t,D.ref (.r (rt t 0)) 0 es'.length),(rt t 0,.blk sz es'),dq].lookup s=none:=fun s s1 s2 s3=>by
      have e1 : (s == t)=false:=by simpa using s1
      have e2 : (s == rt t 0)=false:=by simpa using s2
      obtain ⟨c,y⟩:=dq
      simp only at hfst
      have e3 : (s == c)=false:=by rw [hfst];simpa using s3
      simp only [x0m,e1,e2,e3,x0Z]
     have lkp : [(t,D.ref (.r (rt t 0)) 0 es'.length),(rt t 0,.blk sz es'),dq].lookup p.root=some dq.2:=by
      have e1 : (p.root == t)=false:=by simpa using hpr
      have e2 : (p.root == rt t 0)=false:=by simpa using hpt
      obtain ⟨c,y⟩:=dq
      simp only at hfst
      subst hfst
      simp only [x0m,e1,e2,beq_self_eq_true]
     have key:=h.app_core hO (f':=eff [(t,.ref (.r (rt t 0)) 0 es'.length),(rt t 0,.blk sz es'),dq] [(rt t 0,true)] f) (w':=w') (t:=t) (b:=rt t 0) (sz:=sz) (n:=es'.length) (m:=0) (rows:=es') (rowsY:=[]) (src:=some (p,k)) (inp:=true) (c2:=none)
      (l:=⟨(ρ p).blk,o2,sz,us'.length⟩) (nb:=none) (v:=.slice (some ⟨(ρ p).blk,o2,none⟩) es'.length cap2) ht hL rfl rfl (by simpa [aJ] using hpt) (by simp) (fun c e=>by cases e)
      (aN (by simp)) (by
       rw [x08]
       refine aN ?_
       have e1 : (rt t 0 == t)=false:=by simpa using hrt
       simp [x0m,e1])
      (fun s hs hst=>bD (lk s hst (by omega) (by omega)))
      (fun c hc hcb hcs _=>bK (lk c (by omega) hcb (by simpa [aJ] using fun e : c=p.root=>hcs (by simp [aJ,e]))))
      (fun c e=>by cases e)
      (fun c k' e=>by
       cases e
       have:=aN (f:=f) (ks:=[(rt t 0,true)]) lkp
       rw [hdq] at this ⊢
       exact this ▸ rfl)
      (fun c i o k' e=>by
       cases e
       obtain ⟨sz0,es0,row0,z1,z2,z3⟩:=wK hgp
       refine ⟨sz0,es0,z1,?_,row0,z2,(x0b.1 z3).1⟩
       have:=aN (f:=f) (ks:=[(rt t 0,true)]) lkp
       rw [hdq] at this
       simp only [cN,z1] at this
       rw [hdq]
       simp only [cN,z1]
       exact this)
      (fun k e=>by cases e) q4.size hchS hh
      (fun k' q hk' hq=>q4.block k' (hO.lt _ _ hk') (by rintro rfl;rw [hω] at hk';cases hk';exact hq rfl rfl))
      (by simp only [aw,if_true];exact .inr ⟨cap2,by simp,by simpa using hl,by simpa using hcl2,hmc2⟩)
      (.inr ⟨.inr ⟨rfl,p,k,rfl,hω,rfl⟩,rfl,us',T2,q1,rfl,(by
       have:=x0s sz hl
       simp only [x0W]
       omega),fun e he=>(hu e (by simpa using he)).1,fun i r off d h1 h2=>by
        obtain ⟨u,k1,k2⟩:=q3 i r off d h1 h2
        refine ⟨u,k1,?_⟩
        have hO':=dF ((hu r (x0d h1)).2 d (x0d h2))
        cases p with
        | r c=>show cu F M ω ρ w c _ off d u;rw [bn hO'];exact k2
        | n c i' o'=>exact ⟨hO',k2⟩,fun i r off d h1 _=>by simp at h1⟩)
     refine ⟨_,_,M,hK,?_⟩
     rw [hdq] at key
     exact key
    ·obtain ⟨w2,hb2,y3,h0⟩:=away w' q4
     have hn2 : fZ F M w2 w' sz es' v:=by
      obtain ⟨B,o,T,us,cap,z1,z2,z3⟩:=hn
      exact ⟨B,o,T,us,cap,z1,by rw [y3];exact z2,z3⟩
     refine ⟨_,_,M,hK,?_⟩
     rw [<- ko hsnd]
     exact h0.newRow0 hu hb2 hn2 ht (rt_big t 0) hL
  ·exact hr.elim
 ·exact hr.elim
end
end Go.Gv

namespace Go.Gv
section
variable {P : Program} {F : Fid} {C : Nat -> List D -> D -> List D -> Prop} {nt : Nat} {S : Nat -> Prop} {L : Nat -> Option Loc} {w0 : World} {M0 : Mem} {f : Nat -> D} {M : Mem} {a : Act} {w : World} {o : Oper} {d : D} {Q : Exit -> Act -> World -> Prop} {ρ : Pa -> Loc} {ω : Nat -> Option Pa} {New : Nat -> Prop} {K : List (Nat × D) -> List (Nat × Bool) -> Prop}
def cS (ω : Nat -> Option Pa) (c : Nat) : Nat -> Option Pa:=fun k=>match ω k with
 | some p=>if p.root=c then some p else none
 | none=>none
theorem cF {c k : Nat} {p : Pa} (h : cS ω c k=some p) : ω k=some p /\ p.root=c:=by
 unfold cS at h
 split at h
 ·rename_i q hq
  split at h
  ·cases h
   exact ⟨hq,by assumption⟩
  ·cases h
 ·cases h
theorem nq {c k : Nat} {p : Pa} (h : ω k=some p) (hp : p.root=c) : cS ω c k=some p:=by
 simp only [cS,h,if_pos hp]
def fcE (f : Nat -> D) (c : Nat) : Nat -> D:=fun t=>if t=c then f t else .any
theorem Own.only (h : Own F L New f M a w ρ ω) {c : Nat} (hc : 10000 <= c) : Own F L New (fcE f c) M a w ρ (cS ω c):=by
 have hne : ∀ {t : Nat},t ≠ c -> fcE f c t=.any:=fun {t} ht=>by simp only [fcE,if_neg ht]
 have hcc : fcE f c c=f c:=by simp [fcE]
 refine h.step (ks:=[]) (fun p hp=>absurd rfl hp) (Mem.le_refl _) (x0k _) (fun t ht=>.inl (.inl (hne (by omega)))) (fun b hb=>?_) (fun k p e=>.inl ⟨p,(cF e).1⟩) (fun p q e=>h.apart p q (cF e).1) (fun b l hb hl hB=>?_)
 ·by_cases e : b=c
  ·subst e
   exact .inl (.inr ⟨hcc,fun p hp=>⟨rfl,fun hw=>⟨nq hw hp,rfl⟩⟩⟩)
  ·exact .inl (.inl (by rw [hne e];rfl))
 ·by_cases e : b=c
  ·subst e
   rw [hcc] at hB
   exact ⟨rfl,hB⟩
  ·rw [hne e] at hB;cases hB
theorem oC {c : Nat} (_ : Nat) : aU (fcE f c) (.r c)=aU f (.r c):=by simp [aU,fcE]
theorem SR.frz (h : SR F nt S L w0 M0 f M a w) {t : Nat} (ht : t < nt) {c k n : Nat} (hc : 10000 <= c) {v : Value} (hv : ∀ ρ ω,Own F L (fun k=>S k \/ w0.heap.size <= k) f M a w ρ ω -> aw F M ρ (.ref (.r c) k n) v) (hk : aK f (.ref (.r c) k n)) :
  ∃ M',SR F nt S L w0 M0 (eff [(t,dp1 f (.ref (.r c) k n)),(c,.any)] [] f) M' (a.put (some t) v) w:=by
 obtain ⟨ρ,ω,hO⟩:=h.own
 have hnt:=h.hnt
 have hsz:=h.size
 have hO1:=hO.only hc
 have e1 : aU (fcE f c) (.r c)=aU f (.r c):=oC 0
 have hk1 : aK (fcE f c) (.ref (.r c) k n):=by simp only [aK,e1] at hk ⊢;exact hk
 have ed : dp1 (fcE f c) (.ref (.r c) k n)=dp1 f (.ref (.r c) k n):=by simp only [dp1,e1]
 have hr:=ki hO1 (hv ρ ω hO) hk1
 rw [ed] at hr
 have hle : M.le (br (cS ω c) M w):=cp hO1
 have hE:=hO.erase hc
 have hpure : isX (dp1 f (.ref (.r c) k n))=false /\ isB (dp1 f (.ref (.r c) k n))=false /\ ∀ ρ',aw F (br (cS ω c) M w) ρ' (dp1 f (.ref (.r c) k n)) v:=by
  simp only [dp1] at hr ⊢
  split
  ·rename_i e
   rw [e] at hr
   exact ⟨rfl,rfl,fun _=>hr⟩
  ·rename_i e
   rw [e] at hr
   exact ⟨rfl,rfl,fun _=>hr⟩
 generalize dp1 f (.ref (.r c) k n)=x at *
 have hf' : ∀ s,eff [(t,x),(c,.any)] [] f s=if s=t then x else fbE f c s:=fun s=>by
  unfold eff fbE
  by_cases e : s=t
  ·subst e;simp
  ·have b1 : (s == t)=false:=by simpa using e
   by_cases e2 : s=c
   ·subst e2
    simp only [List.lookup,b1,beq_self_eq_true,if_neg e,if_true]
   ·have b2 : (s == c)=false:=by simpa using e2
    simp only [List.lookup,b1,b2,if_neg e,if_neg e2]
    simp [aG]
 refine ⟨br (cS ω c) M w,⟨hnt,by simp [Act.put,hsz],by simp [Act.put,h.defers],h.ch,bP h.holds,Mem.le_trans h.ext hle,fun p h1 h2=>?_,ρ,jF ω c,?_⟩⟩
 ·by_cases e : M p=none
  ·unfold br at h2
   split at h2
   ·rename_i q hq
    exact hO.new _ _ (cF hq).1
   ·exact absurd e h2
  ·exact h.fresh p h1 e
 ·refine hE.step (ks:=[]) (fun p hp=>absurd rfl hp) hle (x0k _) (fun s hs=>?_) (fun b hb=>?_) (fun k p e=>.inl ⟨p,e⟩) (fun p q e=>?_) (fun b l hb hl hB=>?_)
  ·rw [hf']
   by_cases e : s=t
   ·subst e
    rw [if_pos rfl]
    refine .inr (.inr ⟨v,by simp [Act.put,hsz,ht],?_⟩)
    rw [hf',if_pos rfl,au hpure.1]
    exact hpure.2.2 ρ
   ·rw [if_neg e]
    refine .inl (.inr ⟨rfl,?_,by simp [aG]⟩)
    simp [Act.put,Array.getElem?_setIfInBounds,Ne.symm e]
  ·have : b ≠ t:=by omega
   rw [hf',if_neg this]
   exact .inl (.inr ⟨rfl,fun p hp=>⟨rfl,fun hw=>⟨hw,rfl⟩⟩⟩)
  ·obtain ⟨e2,e3⟩:=dT e
   have e4 : cS ω c p.block=none:=by
    simp only [cS,e2,if_neg e3]
   simp only [br,e4]
   exact hO.apart p q e2
  ·have : b ≠ t:=by omega
   rw [hf',if_neg this] at hB
   exact ⟨rfl,hB⟩
theorem tV (h : SR F nt S L w0 M0 f M a w) {t : Nat} (hd : o.dst=some t) (ht : t < nt) {x : Opd} {x' : Operand} (ho : o.op=.move x' \/ o.op=.assign x') (hx : ai F x x'=true)
  (hr : match vd f x with
   | .ref (.r c) k n=>aK f (.ref (.r c) k n) /\ K [(t,dp1 f (.ref (.r c) k n)),(c,.any)] []
   | d=>isS d=true /\ K [(t,d)] []) : o.wp P a w (PostX F nt S L w0 M0 f K) Q:=by
 have hrun : (execOp a.eval o).run P w=.ok (.value (a.eval x')) w:=by rcases ho with ho | ho <;> simp [execOp,ho]
 split at hr
 ·rename_i c k n ex
  have hc : 10000 <= c:=by
   obtain ⟨ρ,ω,hO⟩:=h.own
   have h1:=hr.1
   simp only [aK] at h1
   split at h1
   ·rename_i e;exact bQ hO e
   ·exact h1.elim
  obtain ⟨M',hs⟩:=h.frz ht hc (v:=a.eval x') (fun ρ ω hO=>by have:=hO.opd hx;rwa [ex,au rfl] at this) hr.1
  exact iZ hrun (by rw [hd];exact ⟨_,_,M',hr.2,hs⟩)
 ·exact postX_val hd hrun hr.2 (h.put ht (fun ρ ω hO=>hO.opd hx))
end
end Go.Gv

namespace Go.Gv
section
variable {P : Program} {F : Fid} {C : Nat -> List D -> D -> List D -> Prop} {nt : Nat} {S : Nat -> Prop} {L : Nat -> Option Loc} {w0 : World} {M0 : Mem} {f : Nat -> D} {M : Mem} {a : Act} {w : World} {o : Oper} {d : D} {Q : Exit -> Act -> World -> Prop} {ρ : Pa -> Loc} {ω : Nat -> Option Pa} {New : Nat -> Prop} {K : List (Nat × D) -> List (Nat × Bool) -> Prop}
theorem vp (hC : bL P F C) (h : SR F nt S L w0 M0 f M a w) (hp : bJ nt f o.dst) {g fi : Nat} {xs : List Opd} {ys : Array Operand} {ts : Array TypeId} (ho : o.op=.call { callee:=.value (.func fi),args:=ys,argTypes:=ts }) (hx : cb F xs ys.toList=true)
  (hg : F g=some fi) (hr : (∀ x ∈ xs,bF f (vd f x)) /\ ∃ d,C g (xs.map (dpv f)) d [.nilp] /\ cV o.dst K d) : o.wp P a w (PostX F nt S L w0 M0 f K) Q:=by
 obtain ⟨h0,d,h1,hK⟩:=hr
 have hrun : (execOp a.eval o).run P w=(callFunc fi (ys.toList.map a.eval).toArray).run P w:=by
  simp only [execOp,ho,resolve,Act.eval,Deferred.ofValue,Sem.run_bind,Sem.run_pure,Result.andThen_ok,invoke]
  congr 2
  rw [x1E,x1i]
  apply Array.ext'
  simp
 obtain ⟨ρ,ω,hO⟩:=h.own
 unfold Oper.wp
 rw [hrun,cf (hC.body g fi hg),Oper.upon_enter]
 refine (hC.runsG g fi _ d hg h1 (br ω M w) w _ (bP h.holds) (kL hO hx h0)).mono ?_
 rintro e w' ⟨v,M2,rfl,hb,hf,hh,rv⟩
 have hnone : ∀ p,w.heap.size <= p.block -> M p=none:=fun p hp=>by
  cases e : M p with
  | none=>rfl
  | some u =>
   have:=World.block_lt_of_cell? w p (h.holds p u e)
   omega
 have hM : M.le (fun p=>match M p with | some v=>some v | none=>M2 p):=fun p u e=>by simp only [e]
 have hM2 : M2.le (fun p=>match M p with | some v=>some v | none=>M2 p):=fun p u e=>by
  simp only [hnone p (hf p (by rw [e];simp)),e]
 have h' : SR F nt S L w0 M0 f (fun p=>match M p with | some v=>some v | none=>M2 p) a w':=h.world hb hM (fun p e e'=>by
  simp only [e] at e'
  exact hf p e') (fun p u e=>by
  cases e1 : M p with
  | none=>simp only [e1] at e;exact hh p u e
  | some u' =>
   simp only [e1] at e
   cases e
   have h1:=h.holds p _ e1
   rw [hb.cell (World.block_lt_of_cell? w p h1)]
   exact h1)
 have rv2:=af.mono hM2 _ _ rv
 generalize o.dst=t at hp hK ⊢
 cases t with
 | none=>exact ⟨[],[],_,hK,by simpa [Act.put,kp] using h'⟩
 | some t=>exact ⟨_,_,_,hK,h'.put hp (fun _ _ _=>bk.of_pure rv2)⟩
def m0 : D -> Prop
 | .any=>True
 | .nils=>True
 | .ref _ _ _=>True
 | .blk _ es=>∀ r ∈ es,∀ c ∈ r,bv c=true
 | d=>bv d=true
theorem uQ {d : D} {v : Value} {M' : Mem} (hf : m0 d) (hn : d ≠ .any) (hb : isB d=false) (h : bk F M ρ d v) : bk F M' ρ d v:=by
 cases d <;> simp only [m0] at hf <;> first | exact h | (simp [bv] at hf;done) | (simp [isB] at hb;done) | (rw [au rfl] at h ⊢;simp only [aw] at h ⊢;exact gn hf h) | exact absurd rfl hn
theorem SR.flat (h : SR F nt S L w0 M0 f M a w) (hf : ∀ t,m0 (f t)) (hsl : ∀ t,t < 10000 -> isB (f t)=false) : SR F nt S L w0 (fun _=>none) f (fun _=>none) a w where
 hnt:=h.hnt
 size:=h.size
 defers:=h.defers
 ch:=h.ch
 holds p v e:=by cases e
 ext:=Mem.le_refl _
 fresh p _ e:=absurd rfl e
 own:=by
  obtain ⟨ρ,ω,hO⟩:=h.own
  refine ⟨ρ,ω,⟨fun t ht=>?_,fun b sz es hb e=>?_,fun b kt et ks vs hb e=>?_,hO.lt,hO.new,fun _ _ _=>rfl,hO.lent⟩⟩
  ·rcases hO.slots t ht with h1 | ⟨v,h1,h2⟩
   ·exact .inl h1
   ·by_cases e : f t=.any
    ·exact .inl e
    ·exact .inr ⟨v,h1,uQ (hf t) e (hsl t ht) h2⟩
  ·have h1:=hO.roots b sz es hb e
   have h2:=hf b
   rw [e] at h2
   simp only [m0] at h2
   unfold c9 bZ at h1 ⊢
   rcases h1 with h1 | ⟨h1,h3,vs,T,g1,g2,g3,g4,g5⟩
   ·exact .inl h1
   ·refine .inr ⟨h1,h3,vs,T,g1,g2,g3,g4,fun i r off d e1 e2=>?_⟩
    obtain ⟨v,k1,k2⟩:=g5 i r off d e1 e2
    have hf1:=h2 r (x0d e1) d (x0d e2)
    have k3 : cu F M ω ρ w b i off d v:=k2
    rw [bn (dF hf1)] at k3
    refine ⟨v,k1,?_⟩
    show cu F (fun _=>none) ω ρ w b i off d v
    rw [bn (dF hf1)]
    exact gn hf1 k3
  ·have h2:=hf b
   rw [e] at h2
   simp [m0,bv] at h2
end
end Go.Gv

namespace Go.Gv
open Go.RowKit
section
variable {P : Program} {F : Fid} {C : Nat -> List D -> D -> List D -> Prop} {nt : Nat} {S : Nat -> Prop} {L : Nat -> Option Loc} {w0 : World} {M0 : Mem} {f : Nat -> D} {M M' : Mem} {a : Act} {w w' : World} {o : Oper} {d : D} {Q : Exit -> Act -> World -> Prop} {ρ ρ' : Pa -> Loc} {ω ω' : Nat -> Option Pa} {New : Nat -> Prop} {K : List (Nat × D) -> List (Nat × Bool) -> Prop}
def Pa.to (c : Nat) : Pa -> Pa
 | .r _=>.r c
 | .n _ i o=>.n c i o
theorem Pa.to_root (c : Nat) (p : Pa) : (p.to c).root=c:=by cases p <;> rfl
theorem Pa.to_to (b c : Nat) (p : Pa) (h : p.root=b) : (p.to c).to b=p:=by cases p <;> simp only [Pa.root] at h <;> subst h <;> rfl
theorem c9.carry {b c sz : Nat} {es : List (List D)} (h : c9 F M ω ρ w b sz es) (hM : M.le M') (hs : ∀ p : Pa,p.root=b -> ρ' (p.to c)=ρ p /\ (ω (ρ p).blk=some p -> ω' (ρ p).blk=some (p.to c) /\ w'.heap[(ρ p).blk]? = w.heap[(ρ p).blk]?)) : c9 F M' ω' ρ' w' c sz es:=by
 have path : ∀ (p : Pa) (sz : Nat) (es : List (List D)) (R R' : Nat -> Nat -> D -> Value -> Prop),p.root=b -> bZ ω ρ w p sz es R -> (∀ i r off d v,es[i]? = some r -> r[off]? = some d -> R i off d v -> R' i off d v) -> bZ ω' ρ' w' (p.to c) sz es R':=by
  intro p sz es R R' hp h hR
  obtain ⟨e1,e2⟩:=hs p hp
  unfold bZ at h ⊢
  rw [e1]
  rcases h with h | ⟨h1,h2⟩
  ·exact .inl h
  ·obtain ⟨g1,g2⟩:=e2 h1
   exact .inr ⟨g1,h2.frame g2 hR⟩
 unfold c9 at h ⊢
 refine path (.r b) sz es _ _ rfl h (fun i r off d v k1 k2 hr=>?_)
 cases d
 case own sz2 es2 =>
  obtain ⟨h1,h2⟩:=hr
  refine ⟨?_,path (.n b i off) sz2 es2 _ _ rfl h2 (fun _ _ _ d v _ _ hr=>af.mono hM d v hr)⟩
  have:=(hs (.n b i off) rfl).1
  simp only [aw,Pa.to] at h1 this ⊢
  rw [this]
  exact h1
 all_goals exact af.mono hM _ _ hr
theorem SR.lend (h : SR F nt S L w0 M0 f M a w) (hO : Own F L (fun k=>S k \/ w0.heap.size <= k) f M a w ρ ω) {b sz : Nat} {es es' : List (List D)} (hf : f b=.blk sz es) (hb : 10000 <= b) (hω : ω (ρ (.r b)).blk=some (.r b)) {ρ1 : Pa -> Loc} {ω1 : Nat -> Option Pa}
  (hρ1 : ∀ p : Pa,p.root=b -> ρ1 (p.to aC)=ρ p) (hω1 : ∀ k q,ω1 k=some q ↔ ∃ p : Pa,ω k=some p /\ p.root=b /\ q=p.to aC)
  (hch : Ch (fun k=>∃ p,ω1 k=some p) w w') (hM : M.le M') (hfr : ∀ p,M p=none -> M' p ≠ none -> (∃ q,ω1 p.block=some q) \/ w.heap.size <= p.block) (hh : ∀ p v,M' p=some v -> w'.cell? p=some v)
  (hρ' : ρ' (.r aC)=ρ1 (.r aC)) (hl : vH F M' w' ρ' ω' aC sz es') (hnew : ∀ k p,ω' k=some p -> (∃ q,ω1 k=some q) \/ w.heap.size <= k)
  {dst : Option Nat} (ht : ∀ t,dst=some t -> t < nt) {v : Value} (hv : af F M' d v) :
  SR F nt S L w0 M0 (eff (j5 dst d++[(b,.blk sz es')]) [(b,false)] f) M' (a.put dst v) w':=by
 have hS1 : ∀ k q,ω1 k=some q -> ∃ p,ω k=some p /\ p.root=b:=fun k q e=>by
  obtain ⟨p,h1,h2,_⟩:=(hω1 k q).1 e
  exact ⟨p,h1,h2⟩
 have other : ∀ k p,ω k=some p -> p.root ≠ b -> (∀ q,ω1 k ≠ some q) /\ ω' k=none /\ w'.heap[k]? = w.heap[k]?:=fun k p e hp=>by
  have h1 : ∀ q,ω1 k ≠ some q:=fun q e1=>by
   obtain ⟨p',h1,h2⟩:=hS1 k q e1
   rw [e] at h1;cases h1;exact hp h2
  refine ⟨h1,?_,hch.block k (hO.lt _ _ e) (fun ⟨q,e1⟩=>h1 q e1)⟩
  cases e2 : ω' k with
  | none=>rfl
  | some q =>
   rcases hnew k q e2 with ⟨q,e1⟩ | h2
   ·exact absurd e1 (h1 q)
   ·have:=hO.lt _ _ e;omega
 obtain ⟨ρ2,hρ2⟩ : ∃ ρ2 : Pa -> Loc,ρ2=fun p=>if p.root=b then ρ' (p.to aC) else ρ p:=⟨_,rfl⟩
 obtain ⟨ω2,hω2⟩ : ∃ ω2 : Nat -> Option Pa,ω2=fun k=>match ω' k with
  | some q=>some (q.to b)
  | none=>match ω k with
   | some p=>if p.root=b then none else some p
   | none=>none:=⟨_,rfl⟩
 have r1 : ∀ p : Pa,p.root=b -> ρ2 p=ρ' (p.to aC):=fun p hp=>by rw [hρ2];simp only [if_pos hp]
 have r2 : ∀ p : Pa,p.root ≠ b -> ρ2 p=ρ p:=fun p hp=>by rw [hρ2];simp only [if_neg hp]
 have o1 : ∀ k q,ω' k=some q -> ω2 k=some (q.to b):=fun k q e=>by rw [hω2];simp only [e]
 have o2 : ∀ k p,ω k=some p -> p.root ≠ b -> ω2 k=some p:=fun k p e hp=>by rw [hω2];simp only [(other k p e hp).2.1,e,if_neg hp]
 have o3 : ∀ k p,ω2 k=some p -> (∃ q,ω' k=some q /\ p=q.to b) \/ (ω k=some p /\ p.root ≠ b):=fun k p e=>by
  rw [hω2] at e
  simp only at e
  cases e1 : ω' k with
  | some q=>rw [e1] at e;cases e;exact .inl ⟨q,rfl,rfl⟩
  | none =>
   rw [e1] at e
   simp only at e
   cases e2 : ω k with
   | none=>rw [e2] at e;cases e
   | some p' =>
    rw [e2] at e
    simp only at e
    split at e
    ·cases e
    ·cases e;exact .inr ⟨rfl,by assumption⟩
 have hrb : ρ2 (.r b)=ρ (.r b):=by
  rw [r1 (.r b) rfl]
  show ρ' (.r aC)=_
  rw [hρ',<- hρ1 (.r b) rfl]
  rfl
 have hfb : eff (j5 dst d++[(b,.blk sz es')]) [(b,false)] f b=.blk sz es':=aN (by
  cases dst with
  | none=>simp [j5]
  | some t =>
   have : (b == t)=false:=by have:=ht t rfl;have:=h.hnt;simp;omega
   simp [j5,x0m,this])
 have lk : ∀ s,s ≠ b -> dst ≠ some s -> (j5 dst d++[(b,D.blk sz es')]).lookup s=none:=fun s h1 h2=>by
  have e1 : (s == b)=false:=by simpa using h1
  cases dst with
  | none=>simp only [j5,List.nil_append,x0m,e1,x0Z]
  | some t =>
   have e2 : (s == t)=false:=by simp;rintro rfl;exact h2 rfl
   simp only [j5,x1z,List.nil_append,x0m,e1,e2,x0Z]
 have hsize : (a.put dst v).tmps.size=nt:=by cases dst <;> simp [Act.put,h.size]
 refine ⟨h.hnt,hsize,by cases dst <;> simp [Act.put,h.defers],h.ch.trans hch (fun k hk ⟨q,e⟩=>?_),hh,Mem.le_trans h.ext hM,fun p h1 h2=>?_,ρ2,ω2,?_⟩
 ·obtain ⟨p,e1,_⟩:=hS1 k q e
  rcases hO.new _ _ e1 with h3 | h3
  ·exact h3
  ·omega
 ·by_cases e : M p=none
  ·rcases hfr p e h2 with ⟨q,e1⟩ | h3
   ·obtain ⟨p',e2,_⟩:=hS1 _ q e1
    exact hO.new _ _ e2
   ·exact .inr (x07 h.ch.size h3)
  ·exact h.fresh p h1 e
 ·refine hO.step (ks:=[(b,false)]) (fun p hp=>?_) hM hch.size (fun s hs=>?_) (fun c hc=>?_) (fun k p e=>?_) (fun p q e=>?_) (fun c l hc hl' hB=>?_)
  ·refine ⟨(b,false),by simp,?_⟩
   by_cases e : p.root=b
   ·cases p with
    | r x =>
     simp only [Pa.root] at e
     subst e
     exact absurd hrb hp
    | n x i off =>
     simp only [Pa.root] at e
     subst e
     simp [bR]
   ·exact absurd (r2 p e) hp
  ·by_cases e : dst=some s
   ·right
    have hst:=ht s e
    subst e
    have e1 : eff (j5 (some s) d++[(b,.blk sz es')]) [(b,false)] f s=d:=aN (by simp [j5])
    refine .inr ⟨v,getElem?_put_same (by rw [h.size];exact hst),?_⟩
    rw [e1]
    exact bk.of_pure hv
   ·left
    rcases bD (f:=f) (ks:=[(b,false)]) (lk s (by omega) e) with h1 | h1
    ·exact .inl h1
    ·refine .inr ⟨h1.1,?_,h1.2⟩
     cases dst with
     | none=>rfl
     | some t=>exact getElem?_put (fun x=>e (by rw [x]))
  ·by_cases e : c=b
   ·subst e
    right
    refine .inl ⟨sz,es',hfb,hl.rows.carry (Mem.le_refl _) (fun p hp=>?_)⟩
    have e1 : ρ2 (p.to c)=ρ' p:=by rw [r1 _ (Pa.to_root _ _),Pa.to_to aC c p hp]
    exact ⟨e1,fun e2=>⟨o1 _ _ e2,rfl⟩⟩
   ·left
    rcases bK (f:=f) (ks:=[(b,false)]) (lk c e (fun x=>by have:=ht c x;have:=h.hnt;omega)) with h1 | h1
    ·exact .inl h1
    ·refine .inr ⟨h1,fun p hp=>?_⟩
     have hpb : p.root ≠ b:=by rw [hp];exact e
     exact ⟨r2 p hpb,fun hw=>⟨o2 _ _ hw hpb,(other _ _ hw hpb).2.2⟩⟩
  ·rcases o3 k p e with ⟨q,e1,_⟩ | ⟨e1,_⟩
   ·rcases hnew k q e1 with ⟨q',e2⟩ | h2
    ·obtain ⟨p',e3,_⟩:=hS1 k q' e2
     exact .inl ⟨p',e3⟩
    ·exact .inr ⟨hl.lt k q e1,.inr (x07 h.ch.size h2)⟩
   ·exact .inl ⟨p,e1⟩
  ·rcases o3 _ q e with ⟨q',e1,_⟩ | ⟨e1,e2⟩
   ·exact hl.apart p q' e1
   ·have h1:=hO.apart p q e1
    cases e3 : M' p with
    | none=>rfl
    | some u =>
     rcases hfr p h1 (by rw [e3];simp) with ⟨q',e4⟩ | h4
     ·exact absurd e4 ((other _ _ e1 e2).1 q')
     ·have:=hO.lt _ _ e1;omega
  ·by_cases e : c=b
   ·subst e
    exact ⟨hrb,by rw [hf];rfl⟩
   ·have hcb : (Pa.r c).root ≠ b:=e
    refine ⟨r2 _ hcb,?_⟩
    rcases bK (f:=f) (ks:=[(b,false)]) (lk c e (fun x=>by have:=ht c x;have:=h.hnt;omega)) with h1 | h1
    ·rw [hB] at h1;cases h1
    ·rw [<- h1];exact hB
theorem vq (hC : bL P F C) (h : SR F nt S L w0 M0 f M a w) (hp : ∀ t,o.dst=some t -> t < nt) {g fi : Nat} {x : Opd} {xs : List Opd} {y : Operand} {ys : List Operand} {ts : Array TypeId} (ho : o.op=.call { callee:=.value (.func fi),args:=⟨y::ys⟩,argTypes:=ts }) (hx0 : ai F x y=true) (hx : cb F xs ys=true)
  (hg : F g=some fi) (hr : match vd f x with
  | .adr (.r b) i off=>i=0 /\ off=0 /\ match f b with
   | .blk sz es=>0 < es.length /\ (∀ x ∈ xs,isV (vd f x)=true) /\ ∃ d,∃ es' : List (List D),0 < es'.length /\ C g (.blk sz es::xs.map (vd f)) d [.blk sz es'] /\ K (j5 o.dst d++[(b,.blk sz es')]) [(b,false)]
   | _=>False
  | _=>False) : o.wp P a w (PostX F nt S L w0 M0 f K) Q:=by
 split at hr
 ·rename_i b i off hvx
  obtain ⟨rfl,rfl,hr⟩:=hr
  split at hr
  ·rename_i sz es hf
   obtain ⟨hpos,hxs,d,es',hpos',hc,hK⟩:=hr
   have hrun : (execOp a.eval o).run P w=(callFunc fi (a.eval y::ys.map a.eval).toArray).run P w:=by
    simp only [execOp,ho,resolve,Act.eval,Deferred.ofValue,Sem.run_bind,Sem.run_pure,Result.andThen_ok,invoke]
    congr 2
    rw [x1E,x1i]
    apply Array.ext'
    simp
    cases y <;> simp [Act.eval]
   obtain ⟨ρ,ω,hO⟩:=h.own
   have hb:=hO.big hf
   have hv:=hO.opd hx0
   rw [hvx,au rfl] at hv
   simp only [aw,x1s,x0W] at hv
   have hroot:=hO.roots b sz es hb hf
   have hω : ω (ρ (.r b)).blk=some (.r b):=by
    rcases hroot with ⟨e0,_⟩ | ⟨hω,_⟩
    ·rw [e0] at hpos;simp at hpos
    ·exact hω
   have hrep : aq F M (xs.map (vd f)) (ys.map a.eval):=by
    have h1:=gy h hx (by rw [x0f];exact hxs)
    rwa [x0i (g:=vd f) fun x hx'=>by unfold dpv;exact (jd (hxs x hx')).1] at h1
   obtain ⟨ρ1,hρ1⟩ : ∃ ρ1 : Pa -> Loc,ρ1=fun p=>ρ (p.to b):=⟨_,rfl⟩
   obtain ⟨ω1,hω1⟩ : ∃ ω1 : Nat -> Option Pa,ω1=fun k=>match ω k with
    | some p=>if p.root=b then some (p.to aC) else none
    | none=>none:=⟨_,rfl⟩
   have w1 : ∀ k q,ω1 k=some q ↔ ∃ p : Pa,ω k=some p /\ p.root=b /\ q=p.to aC:=fun k q=>by
    rw [hω1]
    simp only
    constructor
    ·intro e
     split at e
     ·rename_i p hp
      split at e
      ·cases e;exact ⟨p,hp,by assumption,rfl⟩
      ·cases e
     ·cases e
    ·rintro ⟨p,e1,e2,rfl⟩
     simp only [e1,if_pos e2]
   have p1 : ∀ p : Pa,p.root=b -> ρ1 (p.to aC)=ρ p:=fun p hp=>by
    rw [hρ1]
    simp only
    rw [Pa.to_to b aC p hp]
   have lent : vH F M w ρ1 ω1 aC sz es:=by
    refine ⟨(w1 _ _).2 ⟨.r b,?_,rfl,rfl⟩,c9.carry hroot (Mem.le_refl _) (fun p hp=>⟨p1 p hp,fun e=>⟨(w1 _ _).2 ⟨p,e,hp,rfl⟩,rfl⟩⟩),fun k p e=>?_,fun k p e=>?_,fun p q e=>?_⟩
    ·have:=p1 (.r b) rfl
     simp only [Pa.to] at this
     rw [this];exact hω
    ·obtain ⟨p',e1,_⟩:=(w1 _ _).1 e
     exact hO.lt _ _ e1
    ·obtain ⟨p',_,_,rfl⟩:=(w1 _ _).1 e
     exact Pa.to_root _ _
    ·obtain ⟨p',e1,_⟩:=(w1 _ _).1 e
     exact hO.apart p p' e1
   have hL:=hC.runsL g fi sz es _ d es' hg hc M w _ ρ1 ω1 h.holds hrep lent
   have e1 : ρ1 (.r aC)=ρ (.r b):=p1 (.r b) rfl
   rw [e1,<- hv] at hL
   unfold Oper.wp
   rw [hrun,cf (hC.body g fi hg),Oper.upon_enter]
   refine hL.mono ?_
   rintro e0 w' ⟨v,M',ρ',ω',rfl,q1,q2,q3,q4,q5,q6,q7,q8⟩
   exact ⟨_,_,M',hK,h.lend hO hf hb hω p1 w1 q1 q2 q3 q4 (by rw [q6,e1]) q7 q8 hp q5⟩
  ·exact hr.elim
 ·exact hr.elim
end
end Go.Gv

namespace Go.Gv
open Go.RowKit
section
variable {P : Program} {F : Fid} {C : Nat -> List D -> D -> List D -> Prop} {nt : Nat} {S : Nat -> Prop} {L : Nat -> Option Loc} {w0 : World} {M0 : Mem} {f : Nat -> D} {M M' : Mem} {a : Act} {w w' : World} {o : Oper} {d : D} {Q : Exit -> Act -> World -> Prop} {ρ ρ' : Pa -> Loc} {ω ω' : Nat -> Option Pa} {New : Nat -> Prop} {K : List (Nat × D) -> List (Nat × Bool) -> Prop}
theorem l9 (p : Pa) : bR p.root true p=true:=by cases p <;> simp [bR,Pa.root]
theorem jH {t i b : Nat} {x d : D} (h : (b,x) ∈ cA t i d) : b=rt t i /\ ∃ sz es,x=.blk sz es /\ ∀ t',(rt t' i,x) ∈ cA t' i d:=by
 cases d <;> simp only [cA,x0O,x1n,or_false,Prod.mk.injEq] at h
 all_goals exact ⟨h.1,_,_,h.2,fun t'=>by rw [h.2];simp [cA]⟩
theorem jI {t b : Nat} {x : D} : ∀ {ds : List D} {i : Nat},(b,x) ∈ bE t i ds -> ∃ j,i <= j /\ j < i + ds.length /\ b=rt t j /\ ∃ sz es,x=.blk sz es /\ ∀ t',(rt t' j,x) ∈ bE t' i ds
 | [],_,h=>by simp [bE] at h
 | d::ds,i,h=>by
  simp only [bE,x0j] at h
  rcases h with h | h
  ·obtain ⟨e,sz,es,e2,h2⟩:=jH h
   exact ⟨i,x0k _,by simp,e,sz,es,e2,fun t'=>by simp only [bE,x0j];exact .inl (h2 t')⟩
  ·obtain ⟨j,h1,h2,e,sz,es,e2,h3⟩:=jI h
   exact ⟨j,by omega,by simp;omega,e,sz,es,e2,fun t'=>by simp only [bE,x0j];exact .inr (h3 t')⟩
theorem fM {t b : Nat} {x y : D} : ∀ {ds : List D} {i : Nat},(b,x) ∈ bE t i ds -> (b,y) ∈ bE t i ds -> x=y
 | [],_,h,_=>by simp [bE] at h
 | d::ds,i,h,h'=>by
  simp only [bE,x0j] at h h'
  have far : ∀ {z : D},(b,z) ∈ bE t (i + 1) ds -> b ≠ rt t i:=fun hz e=>by
   obtain ⟨j,h1,_,e2,_⟩:=jI hz
   rw [e] at e2
   unfold rt at e2
   omega
  rcases h with h | h <;> rcases h' with h' | h'
  ·cases d <;> simp only [cA,x0O,x1n,or_false,Prod.mk.injEq] at h h'
   all_goals rw [h.2,h'.2]
  ·exact absurd (jH h).1 (far h')
  ·exact absurd (jH h').1 (far h)
  ·exact fM h h'
theorem tv {b : Nat} {x : D} : ∀ {l : List (Nat × D)},(∀ y,(b,y) ∈ l -> y=x) -> (b,x) ∈ l -> l.lookup b=some x
 | [],_,h=>by simp at h
 | (c,y)::l,hu,h=>by
  by_cases e : b=c
  ·subst e
   rw [hu y (by simp)]
   simp
  ·have e1 : (b == c)=false:=by simpa using e
   simp only [x0m,e1]
   refine tv (fun y hy=>hu y (by simp [hy])) ?_
   rcases x0O.1 h with h | h
   ·cases h;exact absurd rfl e
   ·exact h
theorem su {b : Nat} : ∀ {l : List (Nat × D)},(∀ y,(b,y) ∉ l) -> l.lookup b=none
 | [],_=>rfl
 | (c,y)::l,h=>by
  have e : b ≠ c:=fun e=>h y (by simp [e])
  have e1 : (b == c)=false:=by simpa using e
  simp only [x0m,e1]
  exact su fun y hy=>h y (by simp [hy])
theorem uT {t i : Nat} {d : D} {v : Value} (h : aw F M ρ (fA 0 i d) v) (he : ∀ x,(rt 0 i,x) ∈ cA 0 i d -> ρ' (.r (rt t i))=ρ (.r (rt 0 i))) (hp : ∀ p k n,d ≠ .ref p k n) (hp2 : ∀ p k n,d ≠ .adr p k n) (hp3 : ∀ b,d ≠ .mrf b) : aw F M ρ' (fA t i d) v:=by
 cases d
 case own sz es =>
  have e:=he (.blk sz es) (by simp [cA])
  simp only [fA,aw] at h ⊢
  rw [e];exact h
 case blk sz es =>
  have e:=he (.blk sz es) (by simp [cA])
  simp only [fA,aw] at h ⊢
  rw [e];exact h
 case ref p k n=>exact absurd rfl (hp p k n)
 case adr p k n=>exact absurd rfl (hp2 p k n)
 case mrf b=>exact absurd rfl (hp3 b)
 all_goals exact h
theorem je {t : Nat} : ∀ {ds : List D} {i : Nat} {vs : List Value},cC F M ρ (bH 0 i ds) vs -> (∀ j x,(rt 0 j,x) ∈ bE 0 i ds -> ρ' (.r (rt t j))=ρ (.r (rt 0 j))) -> (∀ d ∈ ds,w8 d=true) -> cC F M ρ' (bH t i ds) vs
 | [],i,vs,h,_,_=>⟨by simpa [bH] using h.1,fun j d v h1=>by simp [bH] at h1⟩
 | d::ds,i,[],h,_,_=>by have:=h.1;simp [bH] at this
 | d::ds,i,v::vs,h,he,hk=>by
  have hd:=hk d (by simp)
  have ih:=je (t:=t) (ds:=ds) (i:=i + 1) (vs:=vs) ⟨by have:=h.1;simpa [bH] using this,fun j d' v' h1 h2=>h.2 (j + 1) d' v' (by simpa [bH] using h1) (by simpa using h2)⟩ (fun j x hx=>he j x (by simp only [bE,x0j];exact .inr hx)) (fun d' hd'=>hk d' (by simp [hd']))
  refine ⟨by have:=ih.1;simp [bH,this],fun j d' v' h1 h2=>?_⟩
  cases j with
  | zero =>
   simp only [bH,x06,x0r] at h1 h2
   subst h1 h2
   exact uT (h.2 0 _ _ (by simp [bH]) rfl) (fun x hx=>he i x (by simp only [bE,x0j];exact .inl hx)) (fun p k n e=>by rw [e] at hd;cases hd) (fun p k n e=>by rw [e] at hd;cases hd) (fun b e=>by rw [e] at hd;cases hd)
  | succ j=>exact ih.2 j d' v' (by simpa [bH] using h1) (by simpa using h2)
theorem gr {t b : Nat} {x R : D} (hok : okR R=true) (h : (b,x) ∈ aS t R) : ∃ j,1 <= j /\ j <= 14 /\ b=rt t j /\ ∃ sz es,x=.blk sz es /\ ∀ t',(rt t' j,x) ∈ aS t' R:=by
 obtain ⟨j,h1,h2,h3,h4⟩:=jI h
 refine ⟨j,h1,?_,h3,h4⟩
 have : (iI R).length <= 14:=by
  cases R <;> simp only [okR,x0a,x0c,x0l] at hok <;> first | exact hok.1 | simp [iI]
 omega
theorem u7 {R : D} (hok : okR R=true) : ∀ d ∈ iI R,w8 d=true:=by
 cases R <;> simp only [okR,x0a,x0l,x0f] at hok <;> first | exact hok.2 | (intro d hd;simp only [iI,x0O,x1n,or_false] at hd;subst hd;rfl)
theorem vm (hC : bL P F C) (h : SR F nt S L w0 M0 f M a w) (hL : ∀ t i,i < 15 -> L (rt t i)=none) {t : Nat} (hd : o.dst=some t) (ht : t < nt) {g fi : Nat} {xs : List Opd} {ys : Array Operand} {ts : Array TypeId} (ho : o.op=.call { callee:=.value (.func fi),args:=ys,argTypes:=ts }) (hx : cb F xs ys.toList=true)
  (hg : F g=some fi) (hr : (∀ x ∈ xs,isV (vd f x)=true) /\ ∃ R,okR R=true /\ C g (xs.map (vd f)) R [.nils] /\ K ((t,eO t R)::aS t R) (eu t R)) : o.wp P a w (PostX F nt S L w0 M0 f K) Q:=by
 obtain ⟨hxs,R,hok,hc,hK⟩:=hr
 have hrun : (execOp a.eval o).run P w=(callFunc fi (ys.toList.map a.eval).toArray).run P w:=by
  simp only [execOp,ho,resolve,Act.eval,Deferred.ofValue,Sem.run_bind,Sem.run_pure,Result.andThen_ok,invoke]
  congr 2
  rw [x1E,x1i]
  apply Array.ext'
  simp
 have hrep : aq F M (xs.map (vd f)) (ys.toList.map a.eval):=by
  have h1:=gy h hx (by rw [x0f];exact hxs)
  rwa [x0i (g:=vd f) fun x hx'=>by unfold dpv;exact (jd (hxs x hx')).1] at h1
 obtain ⟨ρ,ω,hO⟩:=h.own
 have ht10 : t < 10000:=x1C ht h.hnt
 unfold Oper.wp
 rw [hrun,cf (hC.body g fi hg),Oper.upon_enter]
 refine (hC.runsA g fi _ R hg hc M w _ h.holds hrep).mono ?_
 rintro e w' ⟨v,M',ρ',ω',us,rfl,hb,hM,hfr,hh,hsh,hrl,hroot,hω',hap'⟩
 rw [hd]
 refine ⟨_,_,M',hK,?_⟩
 have mem : ∀ b,((aS t R).any fun q=>q.1 == b)=true ↔ ∃ x,(b,x) ∈ aS t R:=fun b=>by
  simp only [x0H,x0o]
  constructor
  ·rintro ⟨⟨c,x⟩,h1,rfl⟩;exact ⟨x,h1⟩
  ·rintro ⟨x,h1⟩;exact ⟨(b,x),h1,rfl⟩
 obtain ⟨ρ2,hρ2⟩ : ∃ ρ2 : Pa -> Loc,ρ2=fun p=>if ((aS t R).any fun q=>q.1 == p.root)=true then ρ' (p.to (p.root - 16 * t)) else ρ p:=⟨_,rfl⟩
 obtain ⟨ω2,hω2⟩ : ∃ ω2 : Nat -> Option Pa,ω2=fun k=>match ω' k with
  | some q=>some (q.to (q.root + 16 * t))
  | none=>match ω k with
   | some p=>if ((aS t R).any fun q=>q.1 == p.root)=true then none else some p
   | none=>none:=⟨_,rfl⟩
 have r1 : ∀ p : Pa,(∃ x,(p.root,x) ∈ aS t R) -> ρ2 p=ρ' (p.to (p.root - 16 * t)):=fun p hp=>by rw [hρ2];simp only [(mem _).2 hp,if_true]
 have r2 : ∀ p : Pa,¬ (∃ x,(p.root,x) ∈ aS t R) -> ρ2 p=ρ p:=fun p hp=>by
  rw [hρ2]
  have : ¬ ((aS t R).any fun q=>q.1 == p.root)=true:=fun e=>hp ((mem _).1 e)
  simp only [if_neg this]
 have o1 : ∀ k q,ω' k=some q -> ω2 k=some (q.to (q.root + 16 * t)):=fun k q e=>by rw [hω2];simp only [e]
 have oldnew : ∀ k p q,ω k=some p -> ω' k ≠ some q:=fun k p q e e'=>by
  have:=hO.lt k p e
  have:=(hω' k q e').1
  omega
 have o2 : ∀ k p,ω k=some p -> ¬ (∃ x,(p.root,x) ∈ aS t R) -> ω2 k=some p:=fun k p e hp=>by
  have e1 : ω' k=none:=by
   cases e2 : ω' k with
   | none=>rfl
   | some q=>exact absurd e2 (oldnew k p q e)
  have : ¬ ((aS t R).any fun q=>q.1 == p.root)=true:=fun e=>hp ((mem _).1 e)
  rw [hω2];simp only [e1,e,if_neg this]
 have o3 : ∀ k p,ω2 k=some p -> (∃ q,ω' k=some q) \/ ω k=some p:=fun k p e=>by
  rw [hω2] at e
  simp only at e
  cases e1 : ω' k with
  | some q=>exact .inl ⟨q,rfl⟩
  | none =>
   rw [e1] at e
   simp only at e
   cases e2 : ω k with
   | none=>rw [e2] at e;cases e
   | some p' =>
    rw [e2] at e
    simp only at e
    split at e
    ·cases e
    ·cases e;exact .inr rfl
 have hshift : ∀ j x,(rt 0 j,x) ∈ aS 0 R -> ρ2 (.r (rt t j))=ρ' (.r (rt 0 j)):=fun j x hx=>by
  obtain ⟨j',h1,h2,h3,sz,es,h4,h5⟩:=gr hok hx
  have ej : j=j':=by unfold rt at h3;omega
  subst ej
  rw [r1 (.r (rt t j)) ⟨x,h5 t⟩]
  show ρ' (.r (rt t j - 16 * t))=_
  have : rt t j - 16 * t=rt 0 j:=by unfold rt;omega
  rw [this]
 have lkn : ∀ s,s ≠ t -> ¬ (∃ x,(s,x) ∈ aS t R) -> ((t,eO t R)::aS t R).lookup s=none:=fun s h1 h2=>by
  have e1 : (s == t)=false:=by simpa using h1
  simp only [x0m,e1]
  exact su fun y hy=>h2 ⟨y,hy⟩
 have small : ∀ s,s < 10000 -> ¬ (∃ x,(s,x) ∈ aS t R):=fun s hs ⟨x,hx⟩=>by
  obtain ⟨j,_,_,h3,_⟩:=gr hok hx
  unfold rt at h3;omega
 refine ⟨h.hnt,by simp [Act.put,h.size],by simp [Act.put,h.defers],h.ch.trans (Ch.of_below hb (fun _=>False)) (fun _ _ e=>e.elim),hh,Mem.le_trans h.ext hM,fun p h1 h2=>?_,ρ2,ω2,hO.step (ks:=eu t R) (fun p hp=>?_) hM hb.size (fun s hs=>?_) (fun c hc=>?_) (fun k p e=>?_) (fun p q e=>?_) (fun c l hc hl hB=>?_)⟩
 ·by_cases e : M p=none
  ·exact .inr (x07 h.ch.size (hfr p e h2))
  ·exact h.fresh p h1 e
 ·by_cases e : ∃ x,(p.root,x) ∈ aS t R
  ·obtain ⟨x,hx⟩:=e
   exact ⟨(p.root,true),x0t.2 ⟨_,hx,rfl⟩,l9 p⟩
  ·exact absurd (r2 p e) hp
 ·by_cases e : s=t
  ·right
   subst e
   have e1 : eff ((s,eO s R)::aS s R) (eu s R) f s=eO s R:=aN (by simp)
   refine .inr ⟨v,getElem?_put_same (by rw [h.size];exact ht),?_⟩
   rw [e1]
   have hp:=u7 hok
   cases R <;> simp only [okR,x0l] at hok
   case agg ds=>exact ⟨us,hsh,je hrl (fun j x hx=>hshift j x hx) hp⟩
   case tup ds=>exact ⟨us,hsh,je hrl (fun j x hx=>hshift j x hx) hp⟩
   all_goals
    have h3:=je (t:=s) hrl (fun j x hx=>hshift j x hx) hp
    simp only [sP] at hsh
    subst hsh
    have h4:=h3.2 0 _ v rfl rfl
    exact h4
  ·left
   rcases bD (f:=f) (ks:=eu t R) (lkn s e (small s hs)) with h1 | h1
   ·exact .inl h1
   ·exact .inr ⟨h1.1,getElem?_put e,h1.2⟩
 ·by_cases e : ∃ x,(c,x) ∈ aS t R
  ·obtain ⟨x,hx⟩:=e
   obtain ⟨j,h1,h2,h3,sz,es,rfl,h5⟩:=gr hok hx
   right
   have hct : (c == t)=false:=by simp;omega
   have hlk : ((t,eO t R)::aS t R).lookup c=some (.blk sz es):=by
    simp only [x0m,hct]
    exact tv (fun y hy=>(fM hx hy).symm) hx
   have ec : c - 16 * t=rt 0 j:=by rw [h3];unfold rt;omega
   have ec2 : rt 0 j + 16 * t=c:=by rw [h3];unfold rt;omega
   refine .inl ⟨sz,es,aN hlk,(hroot (rt 0 j) sz es (h5 0)).carry (Mem.le_refl _) (fun p hp=>?_)⟩
   refine ⟨?_,fun e2=>⟨?_,rfl⟩⟩
   ·rw [r1 _ ⟨_,by rw [Pa.to_root];exact hx⟩,Pa.to_root,ec,Pa.to_to (rt 0 j) c p hp]
   ·rw [o1 _ _ e2,hp,ec2]
  ·left
   rcases bK (f:=f) (ks:=eu t R) (lkn c (by omega) e) with h1 | h1
   ·exact .inl h1
   ·refine .inr ⟨h1,fun p hp=>?_⟩
    have hpe : ¬ (∃ x,(p.root,x) ∈ aS t R):=by rw [hp];exact e
    exact ⟨r2 p hpe,fun hw=>⟨o2 _ _ hw hpe,hb.block _ (hO.lt _ _ hw)⟩⟩
 ·rcases o3 k p e with ⟨q,e1⟩ | e1
  ·exact .inr ⟨(hω' k q e1).2.1,.inr (x07 h.ch.size (hω' k q e1).1)⟩
  ·exact .inl ⟨p,e1⟩
 ·rcases o3 _ q e with ⟨q',e1⟩ | e1
  ·exact hap' p q' e1
  ·cases e3 : M' p with
   | none=>rfl
   | some u =>
    have h1:=hfr p (hO.apart p q e1) (by rw [e3];simp)
    have:=hO.lt _ _ e1
    omega
 ·by_cases e : ∃ x,(c,x) ∈ aS t R
  ·obtain ⟨x,hx⟩:=e
   obtain ⟨j,h1,h2,h3,_⟩:=gr hok hx
   rw [h3,hL t j (by omega)] at hl;cases hl
  ·have hpe : ¬ (∃ x,((Pa.r c).root,x) ∈ aS t R):=e
   refine ⟨r2 _ hpe,?_⟩
   rcases bK (f:=f) (ks:=eu t R) (lkn c (by omega) e) with h1 | h1
   ·rw [hB] at h1;cases h1
   ·rw [<- h1];exact hB
end
end Go.Gv

namespace Go.Gv
section
variable {P : Program} {F : Fid} {C : Nat -> List D -> D -> List D -> Prop} {nt : Nat} {S : Nat -> Prop} {L : Nat -> Option Loc} {w0 : World} {M0 : Mem} {f : Nat -> D} {M : Mem} {a : Act} {w : World} {o : Oper} {d : D} {Q : Exit -> Act -> World -> Prop} {ρ : Pa -> Loc} {ω : Nat -> Option Pa} {New : Nat -> Prop} {K : List (Nat × D) -> List (Nat × Bool) -> Prop}
end
end Go.Gv
namespace Go.Gv
section
variable {P : Program} {F : Fid} {C : Nat -> List D -> D -> List D -> Prop} {nt : Nat} {S : Nat -> Prop} {L : Nat -> Option Loc} {w0 : World} {M0 : Mem} {f : Nat -> D} {M : Mem} {a : Act} {w : World} {o : Oper} {d : D} {Q : Exit -> Act -> World -> Prop} {ρ : Pa -> Loc} {ω : Nat -> Option Pa} {New : Nat -> Prop} {K : List (Nat × D) -> List (Nat × Bool) -> Prop}
theorem m7 {t : Nat} : ∀ {ds : List D} {i j : Nat},(bH t i ds)[j]? = (ds[j]?).map (fA t (i + j))
 | [],i,j=>by simp [bH]
 | d::ds,i,j=>by
  cases j with
  | zero=>simp [bH]
  | succ j =>
   simp only [bH,List.getElem?_cons_succ]
   rw [m7,show i + 1 + j=i + (j + 1) by omega]
theorem m8 {t : Nat} : ∀ {ds : List D} {i : Nat},(bH t i ds).length=ds.length
 | [],i=>rfl
 | d::ds,i=>by simp [bH,m8]
theorem lZ {t b : Nat} {x : D} : ∀ {ds : List D} {i : Nat},(b,x) ∈ bE t i ds -> ∃ j d,ds[j]? = some d /\ (b,x) ∈ cA t (i + j) d
 | [],i,h=>by simp [bE] at h
 | d::ds,i,h=>by
  simp only [bE,x0j] at h
  rcases h with h | h
  ·exact ⟨0,d,by simp,h⟩
  ·obtain ⟨j,d',h1,h2⟩:=lZ h
   exact ⟨j + 1,d',by simpa using h1,by rwa [show i + (j + 1)=i + 1 + j by omega]⟩
theorem l3 {t b : Nat} {x : D} : ∀ {ds : List D} {i j : Nat} {d : D},ds[j]? = some d -> (b,x) ∈ cA t (i + j) d -> (b,x) ∈ bE t i ds
 | [],i,j,d,h,_=>by simp at h
 | d0::ds,i,j,d,h,hx=>by
  simp only [bE,x0j]
  cases j with
  | zero=>simp at h;subst h;exact .inl hx
  | succ j=>exact .inr (l3 (j:=j) (by simpa using h) (by rwa [show i + (j + 1)=i + 1 + j by omega] at hx))
theorem na {t j sz : Nat} {ds : List D} {es : List (List D)} (h : ds[j]? = some (.own sz es)) : (rt t (1 + j),D.blk sz es) ∈ bE t 1 ds:=l3 h (by simp [cA])
theorem SR.unpack (h : SR F nt S L w0 M0 f M a w) (hL : ∀ t i,i < 15 -> L (rt t i)=none) {t : Nat} (ht : t < nt) {c sz : Nat} {row : List D} (hg : f c=.blk sz [row]) (hok : okR (.agg row)=true) (hcn : ∀ x,(c,x) ∉ aS t (.agg row)) {v : Value}
  (hv : ∀ ρ ω,Own F L (fun k=>S k \/ w0.heap.size <= k) f M a w ρ ω -> ∃ vs : List Value,v=.agg vs.toArray /\ vs.length=row.length /\ ∀ (j : Nat) (d : D) (u : Value),row[j]? = some d -> vs[j]? = some u -> cu F M ω ρ w c 0 j d u) :
  SR F nt S L w0 M0 (eff ((t,eO t (.agg row))::(c,.any)::aS t (.agg row)) (eu t (.agg row)) f) M (a.put (some t) v) w:=by
 obtain ⟨ρ,ω,hO⟩:=h.own
 obtain ⟨vs,hv1,hv2,hv3⟩:=hv ρ ω hO
 have hc10 : 10000 <= c:=hO.big hg
 have ht10 : t < 10000:=x1C ht h.hnt
 have hct0 : c ≠ t:=by omega
 obtain ⟨R,hR⟩ : ∃ R,R=D.agg row:=⟨_,rfl⟩
 rw [<- hR] at hok hcn ⊢
 have mem : ∀ b,((aS t R).any fun q=>q.1 == b)=true ↔ ∃ x,(b,x) ∈ aS t R:=fun b=>by
  simp only [x0H,x0o]
  constructor
  ·rintro ⟨⟨c,x⟩,h1,rfl⟩;exact ⟨x,h1⟩
  ·rintro ⟨x,h1⟩;exact ⟨(b,x),h1,rfl⟩
 have inR : ∀ j sz es,row[j]? = some (.own sz es) -> (rt t (1 + j),D.blk sz es) ∈ aS t R:=fun j sz es hj=>by
  rw [hR];exact na hj
 have ofR : ∀ b x,(b,x) ∈ aS t R -> ∃ j sz es,b=rt t (1 + j) /\ row[j]? = some (.own sz es) /\ x=.blk sz es:=fun b x hx=>by
  rw [hR] at hx
  obtain ⟨j,d,hj,hd⟩:=lZ hx
  have hj' : j < vs.length:=by rw [hv2];exact (x0b.1 hj).1
  have hcell:=hv3 j d _ hj (x0e hj')
  cases d <;> simp only [cA,x0O,x1n,or_false,Prod.mk.injEq] at hd
  case own sz es=>exact ⟨j,sz,es,hd.1,hj,hd.2⟩
  case blk sz es=>simp [cu,af] at hcell
 obtain ⟨ρ2,hρ2⟩ : ∃ ρ2 : Pa -> Loc,ρ2=fun p=>match p with
  | .r b=>if ((aS t R).any fun q=>q.1 == b)=true then ρ (.n c 0 (b - rt t 1)) else ρ p
  | .n _ _ _=>ρ p:=⟨_,rfl⟩
 obtain ⟨ω2,hω2⟩ : ∃ ω2 : Nat -> Option Pa,ω2=fun k=>match ω k with
  | some p=>if p.root=c then (match p with
    | .n _ i o=>if i=0 /\ ((aS t R).any fun q=>q.1 == rt t (1 + o))=true then some (.r (rt t (1 + o))) else none
    | .r _=>none) else if ((aS t R).any fun q=>q.1 == p.root)=true then none else some p
  | none=>none:=⟨_,rfl⟩
 have r1 : ∀ j x,(rt t (1 + j),x) ∈ aS t R -> ρ2 (.r (rt t (1 + j)))=ρ (.n c 0 j):=fun j x hx=>by
  rw [hρ2];simp only [(mem _).2 ⟨x,hx⟩,if_true]
  have : rt t (1 + j) - rt t 1=j:=by unfold rt;omega
  rw [this]
 have r2 : ∀ p : Pa,¬ (∃ x,(p.root,x) ∈ aS t R) -> ρ2 p=ρ p:=fun p hp=>by
  rw [hρ2]
  cases p with
  | r b =>
   have : ¬ ((aS t R).any fun q=>q.1 == b)=true:=fun e=>hp ((mem _).1 e)
   simp only [if_neg this]
  | n b i o=>rfl
 have o1 : ∀ k j x,ω k=some (.n c 0 j) -> (rt t (1 + j),x) ∈ aS t R -> ω2 k=some (.r (rt t (1 + j))):=fun k j x e hx=>by
  rw [hω2];simp only [e,Pa.root,if_true,(mem _).2 ⟨x,hx⟩,and_self]
 have o2 : ∀ k p,ω k=some p -> p.root ≠ c -> ¬ (∃ x,(p.root,x) ∈ aS t R) -> ω2 k=some p:=fun k p e hpc hp=>by
  have : ¬ ((aS t R).any fun q=>q.1 == p.root)=true:=fun e=>hp ((mem _).1 e)
  rw [hω2];simp only [e,if_neg hpc,if_neg this]
 have o3 : ∀ k p,ω2 k=some p -> ∃ q,ω k=some q:=fun k p e=>by
  rw [hω2] at e
  simp only at e
  cases e1 : ω k with
  | some q=>exact ⟨q,rfl⟩
  | none=>rw [e1] at e;cases e
 have lkn : ∀ s,s ≠ t -> s ≠ c -> ¬ (∃ x,(s,x) ∈ aS t R) -> ((t,eO t R)::(c,D.any)::aS t R).lookup s=none:=fun s h1 h2 h3=>by
  have e1 : (s == t)=false:=by simpa using h1
  have e2 : (s == c)=false:=by simpa using h2
  simp only [x0m,e1,e2]
  exact su fun y hy=>h3 ⟨y,hy⟩
 have small : ∀ s,s < 10000 -> ¬ (∃ x,(s,x) ∈ aS t R):=fun s hs ⟨x,hx⟩=>by
  obtain ⟨j,_,_,h3,_⟩:=ofR s x hx
  unfold rt at h3;omega
 refine ⟨h.hnt,by simp [Act.put,h.size],by simp [Act.put,h.defers],h.ch,h.holds,h.ext,h.fresh,ρ2,ω2,hO.step (ks:=eu t R) (fun p hp=>?_) (Mem.le_refl _) (x0k _) (fun s hs=>?_) (fun b hb=>?_) (fun k p e=>.inl (o3 k p e)) (fun p q e=>?_) (fun b l hb hl hB=>?_)⟩
 ·by_cases e : ∃ x,(p.root,x) ∈ aS t R
  ·obtain ⟨x,hx⟩:=e
   exact ⟨(p.root,true),x0t.2 ⟨_,hx,rfl⟩,l9 p⟩
  ·exact absurd (r2 p e) hp
 ·by_cases e : s=t
  ·right
   subst e
   have e1 : eff ((s,eO s R)::(c,D.any)::aS s R) (eu s R) f s=eO s R:=aN (by simp)
   refine .inr ⟨v,getElem?_put_same (by rw [h.size];exact ht),?_⟩
   rw [e1,hR]
   refine ⟨vs,hv1,by rw [m8];exact hv2.symm,fun j d u h1 h2=>?_⟩
   rw [m7,x0n] at h1
   obtain ⟨d',h1,rfl⟩:=h1
   have hcell:=hv3 j d' u h1 h2
   cases d'
   case own sz' es' =>
    simp only [fA,aw]
    rw [r1 j _ (inR j _ _ h1)]
    exact hcell.1
   all_goals first | exact aw.of_pure hcell | (simp [cu,af] at hcell;done)
  ·left
   rcases bD (f:=f) (ks:=eu t R) (lkn s e (by omega) (small s hs)) with h1 | h1
   ·exact .inl h1
   ·exact .inr ⟨h1.1,getElem?_put e,h1.2⟩
 ·by_cases e : ∃ x,(b,x) ∈ aS t R
  ·obtain ⟨x,hx⟩:=e
   obtain ⟨j,sz',es',h3,h4,rfl⟩:=ofR b x hx
   right
   have hct : (b == t)=false:=by simp;omega
   have hbc : b ≠ c:=fun e=>hcn _ (e ▸ hx)
   have hct2 : (b == c)=false:=by simpa using hbc
   have hlk : ((t,eO t R)::(c,D.any)::aS t R).lookup b=some (.blk sz' es'):=by
    simp only [x0m,hct,hct2]
    exact tv (fun y hy=>(fM hx hy).symm) hx
   refine .inl ⟨sz',es',aN hlk,?_⟩
   have hj' : j < vs.length:=by rw [hv2];exact (x0b.1 h4).1
   have hcell:=hv3 j _ _ h4 (x0e hj')
   subst h3
   have e1:=r1 j _ hx
   unfold c9 bZ
   rw [e1]
   rcases hcell.2 with h5 | ⟨h5,h6,us,T,g1,g2,g3,g4,g5⟩
   ·exact .inl h5
   ·refine .inr ⟨o1 _ j _ h5 hx,h6,us,T,g1,g2,g3,g4,fun i r off d k1 k2=>?_⟩
    obtain ⟨u,k3,k4⟩:=g5 i r off d k1 k2
    refine ⟨u,k3,?_⟩
    cases d
    case own=>simp [af] at k4
    all_goals exact k4
  ·by_cases ebc : b=c
   ·subst ebc
    refine .inl (.inl ?_)
    have hct : (b == t)=false:=by simp;omega
    rw [aN (d:=.any) (by simp [x0m,hct])]
    rfl
   ·left
    rcases bK (f:=f) (ks:=eu t R) (lkn b (by omega) ebc e) with h1 | h1
    ·exact .inl h1
    ·refine .inr ⟨h1,fun p hp=>?_⟩
     have hpe : ¬ (∃ x,(p.root,x) ∈ aS t R):=by rw [hp];exact e
     exact ⟨r2 p hpe,fun hw=>⟨o2 _ _ hw (by rw [hp];exact ebc) hpe,rfl⟩⟩
 ·obtain ⟨q',e1⟩:=o3 _ q e
  exact hO.apart p q' e1
 ·by_cases e : ∃ x,(b,x) ∈ aS t R
  ·obtain ⟨x,hx⟩:=e
   obtain ⟨j,h1,h2,h3,_⟩:=gr hok hx
   rw [h3,hL t j (by omega)] at hl;cases hl
  ·have hct : (b == t)=false:=by simp;omega
   by_cases ebc : b=c
   ·subst ebc
    rw [aN (d:=.any) (by simp [x0m,hct])] at hB;cases hB
   ·refine ⟨r2 _ e,?_⟩
    rcases bK (f:=f) (ks:=eu t R) (lkn b (by omega) ebc e) with h1 | h1
    ·rw [hB] at h1;cases h1
    ·rw [<- h1];exact hB
end
end Go.Gv

namespace Go.Gv
section
variable {P : Program} {F : Fid} {C : Nat -> List D -> D -> List D -> Prop} {nt : Nat} {S : Nat -> Prop} {L : Nat -> Option Loc} {w0 : World} {M0 : Mem} {f : Nat -> D} {M : Mem} {a : Act} {w : World} {o : Oper} {d : D} {Q : Exit -> Act -> World -> Prop} {ρ : Pa -> Loc} {ω : Nat -> Option Pa} {New : Nat -> Prop} {K : List (Nat × D) -> List (Nat × Bool) -> Prop}
theorem wg {es rs : List (List D)} {k : Nat} (h : k + rs.length <= es.length) : (iu es k rs).length=es.length:=by
 simp only [iu,x0I,x03,x1A];omega
theorem we {es rs : List (List D)} {k i : Nat} (h : k + rs.length <= es.length) : (iu es k rs)[i]? = if k <= i /\ i < k + rs.length then rs[i - k]? else es[i]?:=by
 unfold iu
 have hl : (es.take k).length=k:=by simp;omega
 by_cases h1 : i < k
 ·rw [if_neg (by omega),x1I,x0w (by omega),x0D h1]
 ·by_cases h2 : i < k + rs.length
  ·rw [if_pos (by omega),x1I,x0z (by omega),hl,x0w (by omega)]
  ·rw [if_neg (by omega),x0z (by rw [x0I,hl];omega),x0I,hl,x0v]
   congr 1;omega
theorem wh {es rs : List (List D)} {k : Nat} {e : List D} (he : e ∈ iu es k rs) : e ∈ rs \/ e ∈ es:=by
 unfold iu at he
 rcases x0j.1 he with he | he
 ·rcases x0j.1 he with he | he
  ·exact .inr (x0J he)
  ·exact .inl he
 ·exact .inr (x1l he)
def oy (P : Program) (t sz : Nat) : Bool:=match P.underlying t with
 | some (.slice e)=>(match P.info? e with
  | some i=>i.size == sz
  | none=>false)
 | _=>false
theorem xz {T T2 sz : Nat} {ty : TypeId} (hk : oy P T sz=true) {g o n m cap cap2 : Nat} {ad : Addr} {cur news : List Value} {T0 : TypeId} (hg : w.heap[g]? = some (.cells cur.toArray T0 (0,0))) (hl : o + min m n * sz <= cur.length)
  (hnl : news.length=m * sz) (hnews : ∀ j u,news[j]? = some u -> w.cell? (ad.add j)=some u) (hone : ∀ u ∈ news,u.oneCell'=true) :
  ∃ w',(Builtin.copy_ #[T,T2] ty #[.slice (some ⟨g,o,none⟩) n cap,.slice (some ad) m cap2]).run P w=.ok (.int .i64 (min m n : Nat)) w' /\ w'.heap[g]? = some (.cells (cur.take o++news.take (min m n * sz)++cur.drop (o + min m n * sz)).toArray T0 (0,0)) /\ Ch (fun k=>k=g) w w':=by
 unfold oy at hk
 split at hk
 ·rename_i e hu
  split at hk
  ·rename_i i hi
   have hsz : i.size=sz:=by simpa using hk
   have hle : min m n * sz <= m * sz:=x0s _ (Nat.min_le_left _ _)
   have hnl2 : (news.take (min m n * sz)).length=min m n * sz:=by rw [x03];omega
   obtain ⟨w',e1,e2,e3,e4,e5,e6,e7,e8⟩:=dg (P:=P) g T0 o (news.take (min m n * sz)) 0 cur w hg (by rw [hnl2];omega) (fun v hv=>hone v (x0J hv))
   refine ⟨w',?_,by rw [e2];simp only [x0W,hnl2],⟨e5,e6,e7,by omega,fun k _ hk=>e3 k hk,by omega⟩⟩
   have hld:=run_loadCells_list (P:=P) w ad (news.take (min m n * sz)) (fun j v hj=>hnews j v (by rw [x0U] at hj;split at hj;exact hj;cases hj))
   rw [hnl2] at hld
   have hmn : Nat.min m n=min m n:=rfl
   simp [Builtin.copy_,run_underlying hu,sizeOf,typeInfo,hi,Builtin.lenOf,Builtin.firstCells,hsz,hmn,hld,e1,goInt]
  ·cases hk
 ·cases hk
theorem vh {T T2 sz : Nat} {ty : TypeId} (hk : oy P T sz=true) (A : Option Addr) (cap : Nat) (ad : Addr) (m cap2 : Nat) : (Builtin.copy_ #[T,T2] ty #[.slice A 0 cap,.slice (some ad) m cap2]).run P w=.ok (.int .i64 0) w:=by
 unfold oy at hk
 split at hk
 ·rename_i e hu
  split at hk
  ·rename_i i hi
   have hmn : Nat.min m 0=0:=Nat.min_zero m
   cases A <;> simp [Builtin.copy_,run_underlying hu,sizeOf,typeInfo,hi,Builtin.lenOf,Builtin.firstCells,hmn,loadCells,loadCellsFrom,storeCells,goInt]
  ·cases hk
 ·cases hk
theorem AD (h : SR F nt S L w0 M0 f M a w) {t : Nat} (hd : o.dst=some t) (ht : t < nt) {sz : Nat} {x y : Opd} {x' y' : Operand} {T T2 : TypeId} (ho : o.op=.call { callee:=.builtin .copy,args:=#[x',y'],argTypes:=#[T,T2] }) (hx : ai F x x'=true) (hy : ai F y y'=true) (hk : oy P T sz=true)
  (hr : eS f false (vd f y) sz fun rows bs=>bs=[] /\ 0 < rows.length /\ match vd f x with
   | .ref (.r b) k n=>(n=0 -> K [(t,.int .i64 0)] []) /\ (0 < n -> match f b with
    | .blk sz' es=>sz'=sz /\ k + n <= es.length /\ (∀ e ∈ es,∀ c ∈ e,aE c=true) /\ (∀ e ∈ rows,∀ c ∈ e,aE c=true) /\ K [(t,.int .i64 (min rows.length n : Nat)),(b,.blk sz (iu es k (rows.take n)))] []
    | _=>False)
   | _=>False) : o.wp P a w (PostX F nt S L w0 M0 f K) Q:=by
 obtain ⟨ρ,ω,hO⟩:=h.own
 obtain ⟨rows,bs,c2,⟨hbs0,hrl,hr⟩,hbs,_,huY,A2,m,cap2,news,ey,hm,hnl,hA2,hone,hY⟩:=nJ h hO hy hr
 have hc2 : c2=none:=by
  rw [hbs0] at hbs
  cases c2 with
  | none=>rfl
  | some c=>simp at hbs
 subst hc2
 have hv:=hO.opd hx
 split at hr
 ·rename_i b k n hvx
  rw [hvx,au rfl] at hv
  obtain ⟨ad0,hA0,_⟩:=hA2 (by omega)
  rcases x0V n with hn | hn
  ·have hK:=hr.1 hn
   subst hn
   have hv0 : ∃ A cap,a.eval x'=.slice A 0 cap:=by
    simp only [aw] at hv
    rcases hv with ⟨_,A,e⟩ | ⟨cap,e,_⟩
    ·exact ⟨A,0,e⟩
    ·exact ⟨_,cap,e⟩
   obtain ⟨A,cap,hv0⟩:=hv0
   refine postX_val hd (v:=.int .i64 0) (w':=w) ?_ hK (h.put ht (fun ρ ω _=>by rw [au rfl];simp only [aw,af]))
   subst hA0
   have e1:=vh (P:=P) (w:=w) (T2:=T2) (ty:=o.type) hk A cap ad0 m cap2
   simp only [execOp,ho,resolve,invoke,builtin,List.map_toArray,x0G,x0X,Sem.run_bind,Sem.run_pure,Result.andThen_ok,hv0,ey,e1]
  have hr:=hr.2 hn
  split at hr
  ·rename_i sz' es hf
   obtain ⟨rfl,hkn,hes1,hrow1,hK⟩:=hr
   have hb:=hO.big hf
   have hgp : aU f (.r b)=some (sz',es):=by simp [aU,hf]
   obtain ⟨ad,rfl,hnews⟩:=hA2 (by omega)
   rcases go hO hgp hkn hv (fun e he c hc=>cP (hes1 e (x1l (x0J he)) c hc)) with ⟨A,hv,hn0⟩ | ⟨cap,us,T0,hv,⟨hcap,hmc⟩,hcl,hω,g0,g1,g2,g4,g5⟩
   ·omega
   ·have hrows : gN w (ρ (.r b)) sz' es (fun i off d v=>cu F M ω ρ w b i off d v):=by
     rcases hO.roots b sz' es hb hf with ⟨e0,_⟩ | ⟨_,hr⟩
     ·rw [e0] at hkn;simp at hkn;omega
     ·exact hr
    obtain ⟨q0,us0,T1,q1,q2,q3,q4,q5⟩:=id hrows
    rw [g1] at q1
    simp only [x0r,Obj.cells.injEq,and_true] at q1
    obtain ⟨q1,rfl⟩:=q1
    obtain rfl : us=us0:=by simpa using congrArg Array.toList q1
    have hle : k * sz' + n * sz' <= es.length * sz':=by rw [<- x0C];exact x0s _ hkn
    have hmn : min m n * sz' <= n * sz':=x0s _ (Nat.min_le_right _ _)
    obtain ⟨w',e1,e2,e3⟩:=xz (P:=P) (w:=w) (T2:=T2) (ty:=o.type) hk (m:=m) (n:=n) (cap:=cap) (cap2:=cap2) (o:=(ρ (.r b)).base + k * sz') g1 (by rw [g2];omega) hnl hnews hone
    have hmin : (rows.take n).length=min m n:=by rw [x03,hm,Nat.min_comm]
    have hfit : k + (rows.take n).length <= es.length:=by rw [hmin];omega
    have hml : min m n * sz' <= m * sz':=x0s _ (Nat.min_le_left _ _)
    have hN : (news.take (min m n * sz')).length=min m n * sz':=by rw [x03];omega
    have hfill:=h.fill hO hf hω hrows (es':=iu es k (rows.take n)) (us:=us.take ((ρ (.r b)).base + k * sz')++news.take (min m n * sz')++us.drop ((ρ (.r b)).base + k * sz' + min m n * sz')) (w':=w') (Nat.le_of_eq (wg hfit)) (fun e he=>by
     rcases wh he with he | he
     ·have he:=x0J he
      exact ⟨huY e he,hrow1 e he⟩
     ·exact ⟨g4 e he,hes1 e he⟩) e3 e2 (by simp only [x0I,x03,x1A] at hN ⊢;omega) (fun i r off d h1 h2=>by
     have hget:=fun x=>cG (vs:=us) (us:=news.take (min m n * sz')) (q:=(ρ (.r b)).base + k * sz') (n:=min m n * sz') (x:=x) hN (by omega)
     rw [we hfit,hmin] at h1
     split at h1
     ·rename_i hi
      have hil : i - k < (rows.take n).length:=by rw [hmin];omega
      have hin : i - k < n:=by rw [hmin] at hil;omega
      rw [x0D hin] at h1
      obtain ⟨u,k1,k2⟩:=hY (i - k) r off d h1 h2
      have hof : off < sz':=by rw [<- huY r (x0d h1)];exact (x0b.1 h2).1
      have h3:=eM (sz:=sz') (show i - k < min m n by omega) hof
      have h4 : (i - k) * sz' + k * sz'=i * sz':=by rw [<- x0C];congr 1;omega
      refine ⟨u,?_,k2.2⟩
      rw [hget,if_pos (by omega),show (ρ (.r b)).base + i * sz' + off - ((ρ (.r b)).base + k * sz')=(i - k) * sz' + off by omega,x0D h3]
      exact k1
     ·rename_i hi
      obtain ⟨u,k1,k2⟩:=q5 i r off d h1 h2
      have hof : off < sz':=by rw [<- g4 r (x0d h1)];exact (x0b.1 h2).1
      rw [bn (cP (hes1 r (x0d h1) d (x0d h2)))] at k2
      refine ⟨u,?_,k2⟩
      have h5 : ¬ ((ρ (.r b)).base + k * sz' <= (ρ (.r b)).base + i * sz' + off /\ (ρ (.r b)).base + i * sz' + off < (ρ (.r b)).base + k * sz' + min m n * sz'):=by
       rintro ⟨h6,h7⟩
       rcases x1d i k with h8 | h8
       ·have:=eM (sz:=sz') h8 hof;omega
       ·have h9 : (k + min m n) * sz' <= i * sz':=x0s _ (by omega)
        rw [x0C] at h9;omega
      rw [hget,if_neg h5]
      exact k1)
    obtain ⟨_,_,_,_,hs⟩:=hfill
    have hs2:=hs.put (t:=t) (d:=.int .i64 (min rows.length n : Nat)) (v:=.int .i64 (min m n : Nat)) ht (fun _ _ _=>by rw [au rfl,hm];simp only [aw,af])
    refine iZ (v:=.int .i64 (min m n : Nat)) (w':=w') ?_ ?_
    ·simp only [execOp,ho,resolve,invoke,builtin,List.map_toArray,x0G,x0X,Sem.run_bind,Sem.run_pure,Result.andThen_ok,hv,ey,e1]
    ·rw [hd]
     refine ⟨_,_,M,hK,?_⟩
     have : eff [(t,D.int .i64 (min rows.length n : Nat)),(b,D.blk sz' (iu es k (rows.take n)))] [] f=eff [(t,.int .i64 (min rows.length n : Nat))] [] (eff [(b,.blk sz' (iu es k (rows.take n)))] [] f):=by
      funext s
      unfold eff
      by_cases h1 : s=t
      ·subst h1;simp
      ·have e1 : (s == t)=false:=by simpa using h1
       simp only [x0m,e1,x0Z,aG,List.any_nil,x0l,if_false]
     rw [this]
     exact hs2
  ·exact hr.elim
 ·exact hr.elim
end
end Go.Gv

namespace Go.Gv
section
variable {P : Program} {F : Fid} {C : Nat -> List D -> D -> List D -> Prop} {nt : Nat} {S : Nat -> Prop} {L : Nat -> Option Loc} {w0 : World} {M0 : Mem} {f : Nat -> D} {M : Mem} {a : Act} {w : World} {o : Oper} {d : D} {Q : Exit -> Act -> World -> Prop} {ρ : Pa -> Loc} {ω : Nat -> Option Pa} {New : Nat -> Prop} {K : List (Nat × D) -> List (Nat × Bool) -> Prop}
theorem v8 {d : D} (h : aE d=true) : aL d=d:=by cases d <;> first | rfl | (simp [aE] at h)
theorem SR.frzA (h : SR F nt S L w0 M0 f M a w) {t : Nat} (ht : t < 10000) {c sz : Nat} {row : List D} (hft : f t=.adr (.r c) 0 0) (hfc : f c=.blk sz [row]) (hrow : ∀ d ∈ row,aE d=true) :
  ∃ M',SR F nt S L w0 M0 (eff [(t,.ptr row),(c,.any)] [] f) M' a w:=by
 obtain ⟨ρ,ω,hO⟩:=h.own
 have gp : aU f (.r c)=some (sz,[row]):=by simp only [aU,hfc]
 have hc : 10000 <= c:=bQ hO gp
 have hO1:=hO.only hc
 have e1 : aU (fcE f c) (.r c)=aU f (.r c):=oC 0
 obtain ⟨v,hv1,hv2⟩ : ∃ v,a.tmps[t]? = some v /\ bk F M ρ (f t) v:=by
  rcases hO.slots t ht with g | g
  ·rw [hft] at g;cases g
  ·exact g
 rw [hft,au rfl] at hv2
 have hr:=ki hO1 hv2 (by simp only [aK,e1,gp])
 have ed : dp1 (fcE f c) (.adr (.r c) 0 0)=.ptr row:=by
  simp only [dp1,e1,gp,x06,x1r,List.drop_zero]
  congr 1
  conv=>rhs;rw [<- List.map_id row]
  exact x0i fun d hd=>v8 (hrow d hd)
 rw [ed] at hr
 have hle : M.le (br (cS ω c) M w):=cp hO1
 have hE:=hO.erase hc
 have hf' : ∀ s,eff [(t,.ptr row),(c,.any)] [] f s=if s=t then .ptr row else fbE f c s:=fun s=>by
  unfold eff fbE
  by_cases e : s=t
  ·subst e;simp
  ·have b1 : (s == t)=false:=by simpa using e
   by_cases e2 : s=c
   ·subst e2
    simp only [List.lookup,b1,beq_self_eq_true,if_neg e,if_true]
   ·have b2 : (s == c)=false:=by simpa using e2
    simp only [List.lookup,b1,b2,if_neg e,if_neg e2]
    simp [aG]
 refine ⟨br (cS ω c) M w,⟨h.hnt,h.size,h.defers,h.ch,bP h.holds,Mem.le_trans h.ext hle,fun p h1 h2=>?_,ρ,jF ω c,?_⟩⟩
 ·by_cases e : M p=none
  ·unfold br at h2
   split at h2
   ·rename_i q hq
    exact hO.new _ _ (cF hq).1
   ·exact absurd e h2
  ·exact h.fresh p h1 e
 ·refine hE.step (ks:=[]) (fun p hp=>absurd rfl hp) hle (x0k _) (fun s hs=>?_) (fun b hb=>?_) (fun k p e=>.inl ⟨p,e⟩) (fun p q e=>?_) (fun b l hb hl hB=>?_)
  ·rw [hf']
   by_cases e : s=t
   ·subst e
    rw [if_pos rfl]
    refine .inr (.inr ⟨v,hv1,?_⟩)
    rw [hf',if_pos rfl,au rfl]
    exact hr
   ·rw [if_neg e]
    exact .inl (.inr ⟨rfl,rfl,by simp [aG]⟩)
  ·have : b ≠ t:=by omega
   rw [hf',if_neg this]
   exact .inl (.inr ⟨rfl,fun p hp=>⟨rfl,fun hw=>⟨hw,rfl⟩⟩⟩)
  ·obtain ⟨e2,e3⟩:=dT e
   have e4 : cS ω c p.block=none:=by
    simp only [cS,e2,if_neg e3]
   simp only [br,e4]
   exact hO.apart p q e2
  ·have : b ≠ t:=by omega
   rw [hf',if_neg this] at hB
   exact ⟨rfl,hB⟩
theorem AK (h : SR F nt S L w0 M0 f M a w) {x y : Opd} {x' y' : Operand} {t : TypeId} (ho : o.op=.store t x' y') (hx : ai F x x'=true) (hy : ai F y y'=true) (hk : ij P t 1=true)
  (hr : aD C f o.dst K (.stP x y)) : o.wp P a w (PostX F nt S L w0 M0 f K) Q:=by
 simp only [aD] at hr
 obtain ⟨hd,hr⟩:=hr
 split at hr
 ·rename_i s
  obtain ⟨hs,hr⟩:=hr
  split at hr
  ·rename_i c i0 o0 hfs
   obtain ⟨rfl,rfl,hr⟩:=hr
   split at hr
   ·rename_i sz row hfc
    obtain ⟨hrow,hr⟩:=hr
    split at hr
    ·rename_i b i1 o1 i off ex
     obtain ⟨hbc,hr⟩:=hr
     split at hr
     ·rename_i sz0 es0 hb
      obtain ⟨row0,h1,sz1,es,h2,r,h3,h4,hK⟩:=hr
      obtain ⟨ρ,ω,hO⟩:=h.own
      have hc : 10000 <= c:=bQ hO (show aU f (.r c)=some (sz,[row]) by simp only [aU,hfc])
      have hb0 : 10000 <= b:=bQ hO (show aU f (.r b)=some (sz0,es0) by simp only [aU,hb])
      obtain ⟨M',h'⟩:=h.frzA hs hfs hfc hrow
      have look1 : eff [(s,.ptr row),(c,.any)] [] f s=.ptr row:=by simp [eff]
      have lookb : eff [(s,.ptr row),(c,.any)] [] f b=f b:=by
       have b1 : (b == s)=false:=by simp;omega
       have b2 : (b == c)=false:=by simpa using hbc
       simp [eff,List.lookup,b1,b2,aG]
      have lookx : vd (eff [(s,.ptr row),(c,.any)] [] f) x=.adr (.n b i1 o1) i off:=by
       cases x with
       | c d=>exact ex
       | t q =>
        simp only [vd] at ex ⊢
        have q1 : q ≠ s:=fun e=>by rw [e,hfs] at ex;cases ex
        have q2 : q ≠ c:=fun e=>by rw [e,hfc] at ex;cases ex
        have b1 : (q == s)=false:=by simpa using q1
        have b2 : (q == c)=false:=by simpa using q2
        simp [eff,List.lookup,b1,b2,aG,ex]
      refine Oper.wp_mono ?_ (xQ (C:=C) (K:=fun ws ks=>ws=[(b,.blk sz0 (bg es0 i1 o1 1 [.own sz1 (bg es i off 1 [.ptr row])]))] /\ ks=[]) (n:=1) (ns:=[]) h' hd ho hx hy hk ?_)
      ·rintro a' w' ⟨ws,ks,M2,⟨rfl,rfl⟩,h2⟩
       refine ⟨_,_,M2,hK,?_⟩
       have e : eff [(b,.blk sz0 (bg es0 i1 o1 1 [.own sz1 (bg es i off 1 [.ptr row])]))] [] (eff [(s,.ptr row),(c,.any)] [] f)=eff [(b,.blk sz0 (bg es0 i1 o1 1 [.own sz1 (bg es i off 1 [.ptr row])])),(s,.ptr row),(c,.any)] [] f:=by
        funext q
        unfold eff
        simp only [List.lookup]
        cases e1 : q == b <;> simp [aG]
       rw [<- e]
       exact h2
      ·have look2 : vd (eff [(s,.ptr row),(c,.any)] [] f) (.t s)=.ptr row:=look1
       simp only [aD,look2,lookx,eX,cY,dN,if_true,true_or,true_and]
       refine ⟨rfl,rfl,?_⟩
       refine ⟨by simp [aE],?_⟩
       rw [lookb,hb]
       exact ⟨row0,h1,sz1,es,h2,r,h3,h4,rfl,trivial⟩
     ·exact hr.elim
    ·exact hr.elim
   ·exact hr.elim
  ·exact hr.elim
 ·exact hr.elim
end
end Go.Gv

namespace Go.Gv
section
variable {P : Program} {F : Fid} {C : Nat -> List D -> D -> List D -> Prop} {nt : Nat} {S : Nat -> Prop} {L : Nat -> Option Loc} {w0 : World} {M0 : Mem} {f : Nat -> D} {M : Mem} {a : Act} {w : World} {o : Oper} {Q : Exit -> Act -> World -> Prop} {K : List (Nat × D) -> List (Nat × Bool) -> Prop}
theorem SR.frzX (h : SR F nt S L w0 M0 f M a w) {t : Nat} (ht : t < 10000) {c sz : Nat} {row ds : List D} {vs : List Value} (hft : f t=.adr (.r c) 0 0) (hfc : f c=.blk sz [row])
  (hrep : ∀ ρ ω,Own F L (fun k=>S k \/ w0.heap.size <= k) f M a w ρ ω -> cC F M ρ ds vs)
  (hcells : ∀ ρ ω,Own F L (fun k=>S k \/ w0.heap.size <= k) f M a w ρ ω -> ∃ (us : List Value) (T : TypeId),w.heap[(ρ (.r c)).blk]? = some (.cells us.toArray T (0,0)) /\ ∀ j v,vs[j]? = some v -> us[(ρ (.r c)).base + j]? = some v) :
  ∃ M',SR F nt S L w0 M0 (eff [(t,.ptx ds),(c,.any)] [] f) M' a w:=by
 obtain ⟨ρ,ω,hO⟩:=h.own
 have gp : aU f (.r c)=some (sz,[row]):=by simp only [aU,hfc]
 have hc : 10000 <= c:=bQ hO gp
 have hO1:=hO.only hc
 obtain ⟨v,hv1,hv2⟩ : ∃ v,a.tmps[t]? = some v /\ bk F M ρ (f t) v:=by
  rcases hO.slots t ht with g | g
  ·rw [hft] at g;cases g
  ·exact g
 rw [hft,au rfl] at hv2
 simp only [aw,x1s,x0W] at hv2
 have hω : ω (ρ (.r c)).blk=some (.r c):=by
  rcases hO.roots c sz [row] hc hfc with ⟨e0,_⟩ | ⟨h1,_⟩
  ·cases e0
  ·exact h1
 have hω1 : cS ω c (ρ (.r c)).blk=some (.r c):=by simp [cS,hω,Pa.root]
 have hle : M.le (br (cS ω c) M w):=cp hO1
 have hr : bk F (br (cS ω c) M w) ρ (.ptx ds) v:=by
  obtain ⟨us,T,h1,h2⟩:=hcells ρ ω hO
  have hL:=hrep ρ ω hO
  refine ⟨_,vs,hv2,⟨hL.1,fun i d v e1 e2=>(hL.2 i d v e1 e2).mono hle⟩,fun j u hj=>?_⟩
  have:=im (M:=M) (ω:=cS ω c) (o:=(ρ (.r c)).base) hω1 h1
  refine this j u ?_
  rw [x0v]
  exact h2 j u hj
 have hE:=hO.erase hc
 have hf' : ∀ s,eff [(t,.ptx ds),(c,.any)] [] f s=if s=t then .ptx ds else fbE f c s:=fun s=>by
  unfold eff fbE
  by_cases e : s=t
  ·subst e;simp
  ·have b1 : (s == t)=false:=by simpa using e
   by_cases e2 : s=c
   ·subst e2
    simp only [List.lookup,b1,beq_self_eq_true,if_neg e,if_true]
   ·have b2 : (s == c)=false:=by simpa using e2
    simp only [List.lookup,b1,b2,if_neg e,if_neg e2]
    simp [aG]
 refine ⟨br (cS ω c) M w,⟨h.hnt,h.size,h.defers,h.ch,bP h.holds,Mem.le_trans h.ext hle,fun p h1 h2=>?_,ρ,jF ω c,?_⟩⟩
 ·by_cases e : M p=none
  ·unfold br at h2
   split at h2
   ·rename_i q hq
    exact hO.new _ _ (cF hq).1
   ·exact absurd e h2
  ·exact h.fresh p h1 e
 ·refine hE.step (ks:=[]) (fun p hp=>absurd rfl hp) hle (x0k _) (fun s hs=>?_) (fun b hb=>?_) (fun k p e=>.inl ⟨p,e⟩) (fun p q e=>?_) (fun b l hb hl hB=>?_)
  ·rw [hf']
   by_cases e : s=t
   ·subst e
    rw [if_pos rfl]
    refine .inr (.inr ⟨v,hv1,?_⟩)
    rw [hf',if_pos rfl]
    exact hr
   ·rw [if_neg e]
    exact .inl (.inr ⟨rfl,rfl,by simp [aG]⟩)
  ·have : b ≠ t:=by omega
   rw [hf',if_neg this]
   exact .inl (.inr ⟨rfl,fun p hp=>⟨rfl,fun hw=>⟨hw,rfl⟩⟩⟩)
  ·obtain ⟨e2,e3⟩:=dT e
   have e4 : cS ω c p.block=none:=by
    simp only [cS,e2,if_neg e3]
   simp only [br,e4]
   exact hO.apart p q e2
  ·have : b ≠ t:=by omega
   rw [hf',if_neg this] at hB
   exact ⟨rfl,hB⟩
theorem nx {M : Mem} {ρ : Pa -> Loc} {d : D} {ds : List D} {v : Value} (h : mf d=some ds) (hr : bk F M ρ d v) (h1 : ds.all qr=true) : cC F M ρ ds v.cells.toList /\ ∀ u ∈ v.cells.toList,u.oneCell'=true:=by
 have one : ∀ {x : D} {u : Value},qr x=true -> aw F M ρ x u -> u.oneCell'=true:=fun {x u} hx hu=>by
  cases x
  case ref p k n =>
   simp only [aw] at hu
   rcases hu with ⟨_,A,rfl⟩ | ⟨cap,rfl,_⟩ <;> rfl
  case adr p i off =>
   simp only [aw] at hu
   subst hu
   rfl
  all_goals first
   | (simp [qr,aE] at hx;done)
   | exact oneCell_of hu (by simpa [qr] using hx)
 cases d
 case agx xs =>
  simp only [mf,x0r] at h
  subst h
  obtain ⟨vs,rfl,hL⟩:=hr
  refine ⟨by simpa [Value.cells] using hL,fun u hu=>?_⟩
  have hu' : u ∈ vs:=by simpa [Value.cells] using hu
  obtain ⟨j,hj,e⟩:=x0B.1 hu'
  have hj' : j < xs.length:=by rw [hL.1];exact hj
  exact one (x0f.1 h1 _ (x0h hj')) (hL.2 j _ u (x0e hj') (by rw [<- e];exact x0e hj))
 case adr p i off =>
  simp only [mf,x0r] at h
  subst h
  rw [au rfl] at hr
  have hv : v.cells.toList=[v]:=by
   simp only [aw] at hr
   subst hr
   rfl
  rw [hv]
  refine ⟨⟨rfl,fun j d u e1 e2=>?_⟩,fun u hu=>?_⟩
  ·cases j with
   | zero=>simp at e1 e2;subst e1;subst e2;exact hr
   | succ j=>simp at e1
  ·simp at hu
   subst hu
   exact one rfl hr
 all_goals cases h
theorem AJ (h : SR F nt S L w0 M0 f M a w) {n : Nat} {x y : Opd} {x' y' : Operand} {t : TypeId} (ho : o.op=.store t x' y') (hx : ai F x x'=true) (hy : ai F y y'=true) (hk : ij P t n=true)
  (hr : aD C f o.dst K (.stF n x y)) : o.wp P a w (PostX F nt S L w0 M0 f K) Q:=by
 simp only [aD] at hr
 obtain ⟨hd,hr⟩:=hr
 split at hr
 ·rename_i s
  obtain ⟨hs,hr⟩:=hr
  split at hr
  ·rename_i c i0 o0 hfs
   obtain ⟨rfl,rfl,hr⟩:=hr
   split at hr
   ·rename_i sz row hfc
    obtain ⟨hrow,ds,hds,hdl,hd1,hK⟩:=hr
    obtain ⟨ρ,ω,hO⟩:=h.own
    have hc : 10000 <= c:=bQ hO (show aU f (.r c)=some (sz,[row]) by simp only [aU,hfc])
    have hxv:=hO.opd hx
    have hyv:=hO.opd hy
    obtain ⟨hL,hone⟩:=nx hds hyv hd1
    have hus : (a.eval y').cells.toList.length=n:=by rw [<- hL.1,hdl]
    have hus' : (a.eval y').cells.size=n:=by simpa using hus
    simp only [vd] at hxv
    rw [hfs,au rfl] at hxv
    simp only [aw] at hxv
    obtain ⟨vs,T,hω,h0,hl,g1,g2,g3,g4⟩:=hO.row (p:=.r c) hc (show aU f (.r c)=some (sz,[row]) by simp [aU,hfc]) (i:=0) rfl
    rw [h0] at hxv
    obtain ⟨w',k1,k2,k3,k4,k5,k6,k7⟩:=iM (P:=P) (off:=(ρ (.r c)).base + 0 * sz + 0) hk g1 hus' (by omega) hone
    have hst:=h.store hO (b:=c) (i:=0) (off:=0) (n:=n) (cs:=List.replicate n .any) (bs:=[]) (src:=fun _=>none) (ks:=[]) hfc rfl (by omega) (by simp) hus (lQ g1 k2 k3 k4 k5 k6 k7)
     (fun j c u e1 e2=>.inl (by
      have : c=.any:=by
       rw [List.getElem?_replicate] at e1
       split at e1
       ·simpa using e1.symm
       ·cases e1
      subst this
      exact ⟨rfl,by simp [af]⟩)) (fun j j' c e=>by cases e) (fun j c e=>by cases e) (by simp) (fun e=>by
      rw [x0H] at e
      obtain ⟨x,hx,e⟩:=e
      rw [List.eq_of_mem_replicate hx] at e
      cases e)
    have look1 : eff ((c,.blk sz (bg [row] 0 0 n (List.replicate n .any)))::bY []) [] f s=f s:=by
     have b1 : (s == c)=false:=by simp;omega
     simp [eff,bY,List.lookup,b1,aG]
    have lookc : eff ((c,.blk sz (bg [row] 0 0 n (List.replicate n .any)))::bY []) [] f c=.blk sz (bg [row] 0 0 n (List.replicate n .any)):=by
     simp [eff,bY]
    obtain ⟨row1,hrow1⟩ : ∃ row1,bg [row] 0 0 n (List.replicate n .any)=[row1]:=by simp [bg]
    have hyok : vd (eff ((c,.blk sz (bg [row] 0 0 n (List.replicate n .any)))::bY []) [] f) y=vd f y:=by
     cases y with
     | c d=>rfl
     | t q =>
      simp only [vd]
      have q2 : q ≠ c:=fun e=>by
       subst e
       simp only [vd,hfc,mf] at hds
       cases hds
      have b2 : (q == c)=false:=by simpa using q2
      simp [eff,bY,List.lookup,b2,aG]
    have hrun : (execOp a.eval o).run P w=.ok .skip w':=by
     simp only [execOp,ho,hxv,Sem.run_bind,k1,Result.andThen_ok,Sem.run_pure]
    obtain ⟨M',h'⟩:=hst.frzX (t:=s) hs (c:=c) (sz:=sz) (row:=row1) (ds:=ds) (vs:=(a.eval y').cells.toList) (by rw [look1,hfs]) (by rw [lookc,hrow1])
     (fun ρ' ω' hO'=>(nx hds (by rw [<- hyok];exact hO'.opd hy) hd1).1)
     (fun ρ' ω' hO'=>by
      have e1:=hO'.opd hx
      simp only [vd] at e1
      rw [look1,hfs,au rfl] at e1
      simp only [aw,x1s,x0W] at e1
      rw [hxv] at e1
      simp only [x1s,x0W,Value.pointer.injEq,x0r,Addr.mk.injEq] at e1
      refine ⟨_,T,by rw [<- e1.1];exact k2,fun j v hj=>?_⟩
      rw [<- e1.2.1]
      simp only [x1s,x0W]
      have hj' : j < n:=by rw [<- hus];exact (x0b.1 hj).1
      have hb : (ρ (.r c)).base <= vs.length:=by omega
      rw [x1I,x0z (by simp;omega),x0w (by simp;omega)]
      rw [<- hj]
      congr 1
      simp;omega)
    refine nZ hrun ?_
    rw [hd]
    refine ⟨_,_,M',hK,?_⟩
    have e : eff [(s,.ptx ds),(c,.any)] [] (eff ((c,.blk sz (bg [row] 0 0 n (List.replicate n .any)))::bY []) [] f)=eff [(s,.ptx ds),(c,.any)] [] f:=by
     funext q
     unfold eff
     simp only [List.lookup,bY,x0X]
     cases e1 : q == s <;> cases e2 : q == c <;> simp [aG]
    rw [e] at h'
    simpa [Act.put] using h'
   ·exact hr.elim
  ·exact hr.elim
 ·exact hr.elim
end
end Go.Gv

namespace Go.Gv
open Go.RowKit
abbrev Env:=List (Nat × D)
def ae : Env -> Nat -> D
 | [],_=>.any
 | (s,d)::r,t=>if s=t then d else ae r t
def dG (ks : List (Nat × Bool)) (e : Env) : Env:=if ks=[] then e else e.map fun p=>(p.1,if aG ks p.2 then .any else p.2)
theorem wT (ws : List (Nat × D)) (e : Env) (t : Nat) : ae (ws++e) t=match ws.lookup t with
  | some d=>d
  | none=>ae e t:=by
 induction ws with
 | nil=>rfl
 | cons p ws ih =>
  obtain ⟨s,d⟩:=p
  simp only [x1z,ae,x0m]
  by_cases h : s=t
  ·subst h;simp
  ·have h1 : (t == s)=false:=by simp;exact fun e=>h e.symm
   rw [if_neg h,h1]
   exact ih
theorem uX (ks : List (Nat × Bool)) : ∀ (e : Env) (t : Nat),ae (dG ks e) t=if aG ks (ae e t) then .any else ae e t:=by
 intro e t
 unfold dG
 by_cases hk : ks=[]
 ·subst hk;simp [lD]
 ·rw [if_neg hk]
  induction e with
  | nil =>
   show D.any=if aG ks D.any=true then D.any else D.any
   by_cases hm : aG ks D.any=true
   ·rw [if_pos hm]
   ·rw [if_neg hm]
  | cons p e ih =>
   obtain ⟨s,d⟩:=p
   by_cases h : s=t
   ·simp [ae,h]
   ·have h1 : ae ((s,d)::e) t=ae e t:=by simp [ae,h]
    rw [h1,<- ih]
    simp [ae,h]
theorem iD (ws : List (Nat × D)) (ks : List (Nat × Bool)) (e : Env) : ae (ws++dG ks e)=eff ws ks (ae e):=by
 funext t
 rw [wT]
 unfold eff
 cases List.lookup t ws with
 | some d=>rfl
 | none=>exact uX ks e t
def gF (e : Env) (dst : Option Nat) (K : Env -> Prop) : Prop :=
 match dst with
 | none=>K e
 | some t=>K ((t,.tup [])::e)
def rA (C : Nat -> List D -> D -> List D -> Prop) (dst : Option Nat) (K : Env -> Prop) (e : Env) (op : NOp) : Prop:=aD C (ae e) dst (fun ws ks=>K (ws++dG ks e)) op
def ik (C : Nat -> List D -> D -> List D -> Prop) (K : Env -> Prop) : List am -> Env -> Prop
 | [],e=>K e
 | o::os,e=>match o.guard with
  | none=>rA C o.dst (ik C K os) e o.op
  | some (s,want)=>match ae e s with
   | .bool b=>(b=want -> rA C o.dst (ik C K os) ((s,.bool want)::e) o.op) /\ (b=!want -> gF ((s,.bool !want)::e) o.dst (ik C K os))
   | .tup []=>gF e o.dst (ik C K os)
   | _=>False
section
variable {P : Program} {F : Fid} {C : Nat -> List D -> D -> List D -> Prop} {nt : Nat} {S : Nat -> Prop} {L : Nat -> Option Loc} {w0 : World} {M0 : Mem} {f : Nat -> D} {M : Mem} {a : Act} {w : World} {o : Oper} {d : D} {Q : Exit -> Act -> World -> Prop} {ρ : Pa -> Loc} {ω : Nat -> Option Pa} {New : Nat -> Prop} {K : List (Nat × D) -> List (Nat × Bool) -> Prop}
def xb (P : Program) (F : Fid) : NOp -> Op -> Bool
 | .asg x,.move y=>ai F x y
 | .asg x,.assign y=>ai F x y
 | .frz x,.move y=>ai F x y
 | .frz x,.assign y=>ai F x y
 | .ldQ _ x,.load t x'=>tyS P t 1 false && ai F x x'
 | .appQ _ sz by_ x y,.call { callee:=.builtin .append,args:=⟨[x',y']⟩,argTypes:=⟨[t,t']⟩ }=>t == t' && tb P t sz by_ && ai F x x' && ai F y y'
 | .cpy sz x y,.call { callee:=.builtin .copy,args:=⟨[x',y']⟩,argTypes:=⟨[t,_]⟩ }=>oy P t sz && ai F x x' && ai F y y'
 | .stP x y,.store t x' y'=>ij P t 1 && ai F x x' && ai F y y'
 | .stF n x y,.store t x' y'=>ij P t n && ai F x x' && ai F y y'
 | .nilo _,.move y=>ai F (.c .nils) y
 | .nilo _,.assign y=>ai F (.c .nils) y
 | .box _ x,.box _ x'=>ai F x x'
 | .alc zs,.alloc t=>zeroOk P t zs
 | .bls sz len zs _ ps,.buildSlice t len' ps'=>len == len' && blsOk P F t sz len zs ps ps'.toList
 | .mks sz by_ zs n c,.makeSlice t n' c'=>mksOk P t sz by_ zs && ai F n n' && ai F c c'
 | .call g xs _,.call { callee:=.value (.func fi),args:=ys,argTypes:=_ }=>F g == some fi && cb F xs ys.toList
 | .callF g xs,.call { callee:=.value (.func fi),args:=ys,argTypes:=_ }=>F g == some fi && cb F xs ys.toList
 | .callG g xs,.call { callee:=.value (.func fi),args:=ys,argTypes:=_ }=>F g == some fi && cb F xs ys.toList
 | .callN g x xs,.call { callee:=.value (.func fi),args:=⟨y::ys⟩,argTypes:=_ }=>F g == some fi && ai F x y && cb F xs ys
 | .callE g x xs,.call { callee:=.value (.func fi),args:=⟨y::ys⟩,argTypes:=_ }=>F g == some fi && ai F x y && cb F xs ys
 | .callA g xs,.call { callee:=.value (.func fi),args:=ys,argTypes:=_ }=>F g == some fi && cb F xs ys.toList
 | .callL g x xs,.call { callee:=.value (.func fi),args:=⟨y::ys⟩,argTypes:=_ }=>F g == some fi && ai F x y && cb F xs ys
 | .callv x xs,.call { callee:=.value x',args:=ys,argTypes:=_ }=>ai F x x' && cb F xs ys.toList
 | .st n _ x v,.store t x' v'=>ij P t n && ai F x x' && ai F v v'
 | .app sz by_ _ x y,.call { callee:=.builtin .append,args:=⟨[x',y']⟩,argTypes:=⟨[t,t']⟩ }=>t == t' && tb P t sz by_ && ai F x x' && ai F y y'
 | .mkm _ _,.makeMap _ none=>true
 | .mpu sh kt et z m x v,.mapUpdate t m' x' v'=>mapOk F t kt et sh z && ai F m m' && ai F x x' && ai F v v'
 | .dead,_=>true
 | p,q=>xa P F p q
theorem mT {t : Option Nat} (hK : cV t K d) : ∀ a' w',bN F nt S L w0 M0 f t d a' w' -> PostX F nt S L w0 M0 f K a' w':=by
 rintro a' w' ⟨M',h⟩
 cases t with
 | none=>exact ⟨[],[],M',hK,by rw [kp];exact h⟩
 | some t=>exact ⟨_,_,M',hK,h⟩
theorem xc (hl : laidOutB F.P=true) (hP : P=F.P) (h : SR F nt S L w0 M0 f M a w) {n : NOp} {q : Op} (hp : bJ nt f o.dst) (ho : o.op=q) (hk : xa P F n q=true) (hr : res f (·=d) n) : o.wp P a w (bN F nt S L w0 M0 f o.dst d) Q:=by
 unfold xa at hk
 split at hk <;> (try simp only [x0a,x0o] at hk)
 ·exact tW h hp (.inl ho) hk hr
 ·exact tW h hp (.inr ho) hk hr
 ·exact AH h hp ho hk hr
 ·exact xP h hp ho hk.1.1 hk.1.2 hk.2 hr
 ·obtain ⟨⟨rfl,h1⟩,h2⟩:=hk;exact AB h hp ho h1 h2 hr
 ·obtain ⟨rfl,h1⟩:=hk;exact DZ h hp ho h1 hr
 ·exact xJ h hp ho hk.2 hk.1 hr
 ·exact xM h hp ho hk.1.2 hk.2 hk.1.1 hr
 ·exact xN h hp ho hk.1.2 hk.2 hk.1.1 hr
 ·obtain ⟨rfl,h1⟩:=hk;exact AE h hp ho h1 hr
 ·exact AF h hp ho hk.2 hk.1 hr
 ·exact xL h hp ho hk.1.2 hk.2 hk.1.1 hr
 ·exact xK h hp ho hk.1.2 hk.2 hk.1.1 hr
 ·exact DV h hp ho hk.2 hk.1 hr
 ·exact snd_boxF h hp ho hk hr
 ·obtain ⟨rfl,h1⟩:=hk;exact xH h hp ho h1 hr
 ·obtain ⟨rfl,h1⟩:=hk;exact xI h hp ho h1 hr
 ·exact AC h hp ho hk hr
 ·exact AG h hp ho hk.2 hk.1 hr
 ·exact xO h hp ho hk.2 hk.1 hr
 ·exact DW h hp ho hk.1.2 hk.2 hk.1.1 hr
 ·exact AI h hp ho hk.1.1.2 hk.1.2 hk.2 hk.1.1.1 hr
 ·exact DX h hp ho hk.1 hk.2 hr
 ·exact DY h hp ho hk.1 hk.2 hr
 ·obtain ⟨⟨⟨rfl,h1⟩,h2⟩,h3⟩:=hk;exact AA h hp ho h2 h3 h1 hr
 ·exact vk h hp ho hk.1.1.1 hk.1.1.2 hk.1.2 hk.2 hr
 ·exact vu h hp ho hk.1.1.1 hk.1.1.2 hk.1.2 hk.2 hr
 ·obtain ⟨⟨⟨rfl,h1⟩,h2⟩,h3⟩:=hk;exact snd_mpl hl h hp ho h2 h3 h1 hP hr
 ·cases hk
theorem vW {t q sz by_ : Nat} {x y : Opd} (h : aD C f (some t) K (.appQ q sz by_ x y)) : aD C f (some t) K (.app sz by_ false x y):=by
 simp only [aD] at h ⊢
 split at h
 ·rename_i c i o' k n ex
  obtain ⟨rfl,h⟩:=h
  obtain ⟨rows,bs,⟨h1,h2,h⟩,hg⟩:=dy h
  refine hg _ ?_
  subst h1
  simp only [ex]
  split at h
  ·rename_i sz0 es0 hf
   obtain ⟨row0,h3,es,h4,h5,h6,h7⟩:=h
   refine ⟨rfl,h2,rfl,?_⟩
   first | (rw [hf]) | skip
   exact ⟨row0,h3,es,h4,h5,h6,h7⟩
  ·exact h.elim
 ·exact h.elim
theorem C8 {dst : Option Nat} {q : Nat} {x : Opd} (h : aD C f dst K (.ldQ q x)) : aD C f dst K (.ld 1 false x):=by
 simp only [aD,res] at h ⊢
 split at h
 ·rename_i c i off ex
  obtain ⟨rfl,h⟩:=h
  split at h
  ·rename_i sz es hf
   obtain ⟨r,h1,d,h2,h3⟩:=h
   have hl:=(x0b.1 h2).1
   have gp : aU f (.r c)=some (sz,es):=by simp only [aU,hf]
   simp only [ex,gp]
   refine ⟨r,h1,by omega,?_⟩
   have : (r.drop off).headD .any=d:=by
    rw [List.headD_eq_head?_getD,List.head?_drop,h2];rfl
   rw [this]
   exact h3
  ·exact h.elim
 ·exact h.elim
theorem rK {dst : Option Nat} {xs : List Opd} {g : Nat} (h0 : ∀ x ∈ xs,isV (vd f x)=true) (hc : C g (xs.map (vd f)) d []) (hK : cV dst K d) : (∀ x ∈ xs,bF f (vd f x)) /\ ∃ d,C g (xs.map (dpv f)) d [] /\ (isF d=true \/ (xs.all fun x=>isV (vd f x))=true) /\ cV dst K d:=by
 have e : xs.map (dpv f)=xs.map (vd f):=x0i fun x hx=>(jd (h0 x hx)).1
 exact ⟨fun x hx=>(jd (h0 x hx)).2,d,by rw [e];exact hc,.inr (x0f.2 h0),hK⟩
def NoL (L : Nat -> Option Loc) : Prop:=∀ t i,i < 15 -> L (rt t i)=none
theorem DJ (hC : bL P F C) (hL : NoL L) (h : SR F nt S L w0 M0 f M a w) {n : NOp} {q : Op} (hd : ∀ t,o.dst=some t -> t < nt) (ho : o.op=q) (hk : xb P F n q=true) (hr : aD C f o.dst K n) : o.wp P a w (PostX F nt S L w0 M0 f K) Q:=by
 have hp : bJ nt f o.dst:=by
  unfold bJ
  split
  ·trivial
  ·rename_i t e;exact hd t e
 unfold xb at hk
 have dst : ∀ {n : NOp},aD C f none K n -> (∀ x,n ≠ .asg x) -> (∀ x,n ≠ .nilo x) -> True:=fun _ _ _=>trivial
 split at hk <;> (try simp only [x0a,x0o] at hk)
 ·cases hdst : o.dst with
  | none=>rw [hdst] at hr;exact hr.elim
  | some t=>rw [hdst] at hr;exact tU h hdst (hd t hdst) (hL t 0 (by decide)) (.inl ho) hk hr
 ·cases hdst : o.dst with
  | none=>rw [hdst] at hr;exact hr.elim
  | some t=>rw [hdst] at hr;exact tU h hdst (hd t hdst) (hL t 0 (by decide)) (.inr ho) hk hr
 ·simp only [aD] at hr
  cases hdst : o.dst with
  | none=>rw [hdst] at hr;exact hr.elim
  | some t=>rw [hdst] at hr;exact tV h hdst (hd t hdst) (.inl ho) hk hr
 ·simp only [aD] at hr
  cases hdst : o.dst with
  | none=>rw [hdst] at hr;exact hr.elim
  | some t=>rw [hdst] at hr;exact tV h hdst (hd t hdst) (.inr ho) hk hr
 ·have hr' : res f (cV o.dst K) (.ld 1 false _):=C8 hr
  obtain ⟨d,h1,h2⟩:=pO hr'
  exact Oper.wp_mono (mT h1) (xc (n:=.ld 1 false _) hC.laid hC.prog h hp ho (by simp only [xa,x0a];exact hk) (h2 _ rfl))
 ·obtain ⟨⟨⟨rfl,h1⟩,h2⟩,h3⟩:=hk
  cases hdst : o.dst with
  | none=>rw [hdst] at hr;exact hr.elim
  | some t=>rw [hdst] at hr;exact tT h hdst (hd t hdst) (hL t 0 (by decide)) ho rfl h2 h3 h1 (vW hr)
 ·simp only [aD] at hr
  cases hdst : o.dst with
  | none=>rw [hdst] at hr;exact hr.elim
  | some t=>rw [hdst] at hr;exact AD h hdst (hd t hdst) ho hk.1.2 hk.2 hk.1.1 hr
 ·exact AK h ho hk.1.2 hk.2 hk.1.1 hr
 ·exact AJ h ho hk.1.2 hk.2 hk.1.1 hr
 ·cases hdst : o.dst with
  | none=>rw [hdst] at hr;exact hr.elim
  | some t=>rw [hdst] at hr;exact rj h hdst (hd t hdst) (hL t 0 (by decide)) (.inl ho) hk hr
 ·cases hdst : o.dst with
  | none=>rw [hdst] at hr;exact hr.elim
  | some t=>rw [hdst] at hr;exact rj h hdst (hd t hdst) (hL t 0 (by decide)) (.inr ho) hk hr
 ·cases hdst : o.dst with
  | none=>rw [hdst] at hr;exact hr.elim
  | some t=>rw [hdst] at hr;exact snd_box h hdst (hd t hdst) (hL t 0 (by decide)) ho hk hr
 ·cases hdst : o.dst with
  | none=>rw [hdst] at hr;exact hr.elim
  | some t=>rw [hdst] at hr;exact snd_alc h hdst (hd t hdst) (hL t 0 (by decide)) ho hk hr
 ·obtain ⟨rfl,hk⟩:=hk
  cases hdst : o.dst with
  | none=>rw [hdst] at hr;exact hr.elim
  | some t=>rw [hdst] at hr;exact snd_bls h hdst (hd t hdst) (hL t 0 (by decide)) ho hk hr
 ·cases hdst : o.dst with
  | none=>rw [hdst] at hr;exact hr.elim
  | some t=>rw [hdst] at hr;exact snd_mks h hdst (hd t hdst) (hL t 0 (by decide)) ho hk.1.2 hk.2 hk.1.1 hr
 ·exact ri hC h hp ho hk.2 hk.1 hr
 ·simp only [aD] at hr
  cases hdst : o.dst with
  | none=>rw [hdst] at hr;exact hr.2.elim
  | some t=>rw [hdst] at hr;exact vo hC h hdst (hd t hdst) (hL t 0 (by decide)) ho hk.2 hk.1 hr
 ·simp only [aD] at hr
  exact vp hC h hp ho hk.2 hk.1 hr
 ·simp only [aD] at hr
  exact vr hC h hd ho hk.1.2 hk.2 hk.1.1 hr
 ·simp only [aD] at hr
  cases hdst : o.dst with
  | none=>rw [hdst] at hr;exact hr.elim
  | some t=>rw [hdst] at hr;exact vn hC h hdst (hd t hdst) (hL t 0 (by decide)) ho hk.1.2 hk.2 hk.1.1 hr
 ·simp only [aD] at hr
  obtain ⟨h0,hr⟩:=hr
  rcases hr with ⟨d,hc,hK⟩ | hr
  ·exact ri hC h hp ho hk.2 hk.1 (rK h0 hc hK)
  ·cases hdst : o.dst with
   | none=>rw [hdst] at hr;exact hr.elim
   | some t=>rw [hdst] at hr;exact vm hC h hL hdst (hd t hdst) ho hk.2 hk.1 ⟨h0,hr⟩
 ·simp only [aD] at hr
  exact vq hC h hd ho hk.1.2 hk.2 hk.1.1 hr
 ·exact vt hC h hp ho hk.1 hk.2 hr
 ·have hdst : o.dst=none:=hr.1
  exact xQ h hdst ho hk.1.2 hk.2 hk.1.1 (by rw [hdst] at hr;exact hr)
 ·obtain ⟨⟨⟨rfl,h1⟩,h2⟩,h3⟩:=hk
  cases hdst : o.dst with
  | none=>rw [hdst] at hr;exact hr.elim
  | some t=>rw [hdst] at hr;exact tT h hdst (hd t hdst) (hL t 0 (by decide)) ho rfl h2 h3 h1 hr
 ·cases hdst : o.dst with
  | none=>rw [hdst] at hr;exact hr.elim
  | some t=>rw [hdst] at hr;exact snd_mkm h hdst (hd t hdst) (hL t 0 (by decide)) ho hr
 ·have hdst : o.dst=none:=hr.1
  exact snd_mpu hC.laid h hdst ho hk.1.1.2 hk.1.2 hk.2 hk.1.1.1 hC.prog (by rw [hdst] at hr;exact hr)
 ·exact hr.elim
 ·have hr' : res f (cV o.dst K) n:=by
   clear dst
   cases n <;> first | exact hr | (simp [xa] at hk)
  obtain ⟨d,h1,h2⟩:=pO hr'
  exact Oper.wp_mono (mT h1) (xc hC.laid hC.prog h hp ho hk (h2 _ rfl))
def Bu (nt : Nat) : Option Nat -> Bool
 | none=>true
 | some t=>decide (t < nt)
def pB (ops : Array Oper) : Option (Nat × Bool) -> Option (Nat × Bool) -> Bool
 | none,none=>true
 | some (j,b),some (s,b')=>b == b' && decide (s < 10000) && (match ops[j]? with
  | some o=>o.dst == some s
  | none=>false)
 | _,_=>false
def qL (P : Program) (F : Fid) (nt : Nat) (ops : Array Oper) (n : am) (o : Oper) : Bool :=
 n.dst == o.dst && Bu nt n.dst && pB ops o.guard n.guard && xb P F n.op o.op
theorem sY {ops : Array Oper} {tmps : Array Value} {j s : Nat} {b : Bool} {o : Oper} (h1 : ops[j]? = some o) (h2 : o.dst=some s) (h3 : tmps[s]? = some (.bool b)) : yielded ops tmps j=some b:=by
 simp [yielded,h1,h2,h3]
theorem rE {ops : Array Oper} {tmps : Array Value} {j s : Nat} {o : Oper} (h1 : ops[j]? = some o) (h2 : o.dst=some s) {vs : Array Value} (h3 : tmps[s]? = some (.tuple vs)) : yielded ops tmps j=none:=by
 simp [yielded,h1,h2,h3]
def Skp (want : Bool) (d : D) : Prop:=d=.bool (!want) \/ d=.tup []
theorem x8 {ops : Array Oper} {n : am} {o : Oper} (h : pB ops o.guard n.guard=true) {f : Nat -> D} {M : Mem} {a : Act} {w : World} (hs : SR F nt S L w0 M0 f M a w) :
  (n.guard=none -> Region.wanted o (yielded ops a.tmps)=true) /\
  (∀ s want b,n.guard=some (s,want) -> f s=.bool b -> Region.wanted o (yielded ops a.tmps)=(b == want)) /\
  (∀ s want,n.guard=some (s,want) -> f s=.tup [] -> Region.wanted o (yielded ops a.tmps)=false):=by
 unfold pB at h
 split at h
 ·rename_i e1 e2
  exact ⟨fun _=>by simp [Region.wanted,e1],fun s want b e3=>(by rw [e2] at e3;cases e3),fun s want e3=>(by rw [e2] at e3;cases e3)⟩
 ·rename_i j b s b' e1 e2
  simp only [x0a,x0o,x0c] at h
  obtain ⟨⟨rfl,hs10⟩,h⟩:=h
  split at h
  ·rename_i o' ho'
   simp only [x0o] at h
   obtain ⟨ρ,ω,hO⟩:=hs.own
   refine ⟨fun e3=>(by rw [e2] at e3;cases e3),fun s1 want b1 e3 e4=>?_,fun s1 want e3 e4=>?_⟩
   ·rw [e2] at e3
    cases e3
    rcases hO.slots s hs10 with h5 | ⟨v,h5,h6⟩
    ·rw [e4] at h5;cases h5
    ·rw [e4] at h6
     simp only [bk,aw,af] at h6
     subst h6
     simp [Region.wanted,e1,sY ho' h h5]
   ·rw [e2] at e3
    cases e3
    rcases hO.slots s hs10 with h5 | ⟨v,h5,h6⟩
    ·rw [e4] at h5;cases h5
    ·rw [e4] at h6
     simp only [bk,aw,af] at h6
     obtain ⟨vs,rfl,_⟩:=h6
     simp [Region.wanted,e1,rE ho' h h5]
  ·cases h
 ·cases h
theorem qb {e : Env} {s : Nat} {b : Bool} (h : ae e s=.bool b) : ae ((s,.bool b)::e)=ae e:=by
 funext t
 simp only [ae]
 by_cases ht : s=t
 ·subst ht;rw [if_pos rfl,h]
 ·rw [if_neg ht]
def io (C : Nat -> List D -> D -> List D -> Prop) (n : am) (f : Nat -> D) (x : Option (List (Nat × D) × List (Nat × Bool))) : Prop :=
 match x with
 | some (ws,ks)=>(∀ s b,n.guard=some (s,b) -> f s=.bool b) /\ aD C f n.dst (fun ws' ks'=>ws'=ws /\ ks'=ks) n.op
 | none=>∃ s b,n.guard=some (s,b) /\ Skp b (f s)
def og (n : am) : Option (List (Nat × D) × List (Nat × Bool)) -> (Nat -> D) -> (Nat -> D)
 | some (ws,ks)=>eff ws ks
 | none=>match n.dst with
  | some t=>eff [(t,.tup [])] []
  | none=>fun f=>f
theorem Cb (hC : bL P F C) (hL : NoL L) {ops : Array Oper} {n : am} (hk : qL P F nt ops n o=true) (h : SR F nt S L w0 M0 f M a w) {x : Option (List (Nat × D) × List (Nat × Bool))} (hr : io C n f x) {R : Act -> World -> Prop}
  (hR : ∀ M' a' w',SR F nt S L w0 M0 (og n x f) M' a' w' -> R a' w') :
  if Region.wanted o (yielded ops a.tmps) then o.wp P a w R Q \/ (o.asks P a w /\ LetsOut Q) else R (a.put o.dst undef) w:=by
 unfold qL at hk
 simp only [x0a,x0o] at hk
 obtain ⟨⟨⟨hd,hdo⟩,hgu⟩,hop⟩:=hk
 have hw:=x8 hgu h
 have hdst : ∀ t,o.dst=some t -> t < nt:=fun t e=>by
  rw [<- hd] at e
  rw [e] at hdo
  simpa [Bu] using hdo
 cases x with
 | some y =>
  obtain ⟨ws,ks⟩:=y
  obtain ⟨h1,h2⟩:=hr
  have hwant : Region.wanted o (yielded ops a.tmps)=true:=by
   cases hg : n.guard with
   | none=>exact hw.1 hg
   | some p=>obtain ⟨s,b⟩:=p;rw [hw.2.1 s b b hg (h1 s b hg)];simp
  rw [hwant,if_pos rfl]
  left
  rw [hd] at h2
  refine Oper.wp_mono ?_ (DJ hC hL h hdst rfl hop h2)
  rintro a' w' ⟨ws',ks',M',⟨rfl,rfl⟩,h'⟩
  exact hR M' a' w' h'
 | none =>
  obtain ⟨s,b,h1,h2⟩:=hr
  have hno : Region.wanted o (yielded ops a.tmps)=false:=by
   rcases h2 with h2 | h2
   ·rw [hw.2.1 s b (!b) h1 h2];cases b <;> rfl
   ·exact hw.2.2 s b h1 h2
  rw [hno,if_neg Bool.false_ne_true]
  refine hR M _ w ?_
  unfold og
  rw [hd]
  cases hdd : o.dst with
  | none=>exact h
  | some t=>exact h.put (hdst t hdd) (fun _ _ _=>by simp [bk,aw,af,aq,undef])
theorem vD {K : Env -> Prop} {n : am} {ns : List am} {e : Env} (h : ik C K (n::ns) e) : ∃ x e',io C n (ae e) x /\ ae e'=og n x (ae e) /\ ik C K ns e':=by
 have run : ∀ e1,ae e1=ae e -> (∀ s b,n.guard=some (s,b) -> ae e s=.bool b) -> rA C n.dst (ik C K ns) e1 n.op -> ∃ x e',io C n (ae e) x /\ ae e'=og n x (ae e) /\ ik C K ns e':=by
  intro e1 he hg h1
  unfold rA at h1
  obtain ⟨ws,ks,h2,h3⟩:=nG h1
  rw [he] at h3
  exact ⟨some (ws,ks),_,⟨hg,h3 _ ⟨rfl,rfl⟩⟩,by rw [iD,he];rfl,h2⟩
 rw [ik] at h
 split at h
 ·rename_i hg
  exact run e rfl (fun s b e'=>(by rw [hg] at e';cases e')) h
 ·rename_i s want hg
  split at h
  ·rename_i b hb
   by_cases hbw : b=want
   ·subst hbw
    exact run _ (qb hb) (fun s' b' e'=>(by rw [hg] at e';cases e';exact hb)) (h.1 rfl)
   ·have hb' : b=!want:=by cases b <;> cases want <;> simp_all
    have h1:=h.2 hb'
    rw [hb'] at hb
    have he:=qb hb
    refine ⟨none,?_⟩
    unfold gF at h1
    unfold og
    split at h1
    ·rename_i hd
     exact ⟨_,⟨s,want,hg,.inl hb⟩,by rw [hd];exact he,h1⟩
    ·rename_i t hd
     refine ⟨_,⟨s,want,hg,.inl hb⟩,?_,h1⟩
     rw [hd]
     have:=iD [(t,.tup [])] [] ((s,.bool !want)::e)
     simp only [dG,if_true] at this
     rw [he] at this
     exact this
  ·rename_i hb
   refine ⟨none,?_⟩
   unfold gF at h
   unfold og
   split at h
   ·rename_i hd
    exact ⟨_,⟨s,want,hg,.inr hb⟩,by rw [hd],h⟩
   ·rename_i t hd
    refine ⟨_,⟨s,want,hg,.inr hb⟩,?_,h⟩
    rw [hd]
    have:=iD [(t,.tup [])] [] e
    simp only [dG,if_true] at this
    exact this
  ·exact h.elim
theorem vE (hC : bL P F C) (hL : NoL L) {ops : Array Oper} {K : Env -> Prop} (hQ : ∀ e M a w,SR F nt S L w0 M0 (ae e) M a w -> K e -> Q .normal a w) (ns : List am) : ∀ (os : List Oper),ns.length=os.length -> (∀ p ∈ ns.zip os,qL P F nt ops p.1 p.2=true) ->
  ∀ (e : Env) (M : Mem) (a : Act) (w : World),SR F nt S L w0 M0 (ae e) M a w -> ik C K ns e -> wpList P ops Q os a w:=by
 induction ns with
 | nil =>
  intro os hl _ e M a w h hr
  cases os with
  | nil=>exact hQ e M a w h hr
  | cons o os=>simp at hl
 | cons n ns ih =>
  intro os hl hk e M a w h hr
  cases os with
  | nil=>simp at hl
  | cons o os =>
   obtain ⟨x,e',h1,h2,h3⟩:=vD hr
   rw [wpList]
   exact Cb hC hL (hk (n,o) (by simp)) h h1 (fun M' a' w' h'=>ih os (by simpa using hl) (fun p hp=>hk p (by simp [hp])) e' M' a' w' (by rw [h2];exact h') h3)
def qV (P : Program) (F : Fid) (nt : Nat) (ns : List am) (ops : Array Oper) : Bool:=ns.length == ops.toList.length && (ns.zip ops.toList).all fun p=>qL P F nt ops p.1 p.2
theorem qX (hC : bL P F C) (hL : NoL L) {ops : Array Oper} {ns : List am} (hk : qV P F nt ns ops=true) {id : Nat} {K : Env -> Prop} {e : Env} (h : SR F nt S L w0 M0 (ae e) M a w) (hr : ik C K ns e) (hQ : ∀ e M a w,SR F nt S L w0 M0 (ae e) M a w -> K e -> Q .normal a w) :
  (Code.region id ops false).wp P Q a w:=by
 simp only [qV,x0a,x0o,x0f] at hk
 exact wp_region_list (vE hC hL hQ ns ops.toList hk.1 hk.2 e M a w h hr)
end
end Go.Gv

namespace Go.Gv
open Go.RowKit
def qO : Option Opd -> List Opd
 | some x=>[x]
 | none=>[]
def ah : NOp -> List Opd
 | .mov x=>[x]
 | .asg x=>[x]
 | .frz x=>[x]
 | .stP x y=>[x,y]
 | .stF _ x y=>[x,y]
 | .ldQ _ x=>[x]
 | .appQ _ _ _ x y=>[x,y]
 | .cpy _ x y=>[x,y]
 | .nilo _=>[]
 | .nck x=>[x]
 | .boxF x=>[x]
 | .blsF _ _ _ ps=>ps.map fun p=>p.2
 | .blsX _ _ _ ps=>ps.map fun p=>p.2
 | .pick c a b=>[c,a,b]
 | .bin _ x y=>[x,y]
 | .beq _ _ x y=>[x,y]
 | .un _ x=>[x]
 | .conv _ x=>[x]
 | .idxA _ _ _ x i=>[x,i]
 | .idxS x i=>[x,i]
 | .ext _ x=>[x]
 | .fad _ x=>[x]
 | .iadS _ x i=>[x,i]
 | .iadA _ _ x i=>[x,i]
 | .ld _ _ x=>[x]
 | .box _ x=>[x]
 | .alc _=>[]
 | .mkm _ _=>[]
 | .mpl _ _ _ _ _ m x=>[m,x]
 | .mpu _ _ _ _ m x v=>[m,x,v]
 | .bld _ ps=>ps.map fun p=>p.2.2
 | .bls _ _ _ _ ps=>ps.map fun p=>p.2
 | .mks _ _ _ n c=>[n,c]
 | .len x=>[x]
 | .lens x=>[x]
 | .call _ xs _=>xs
 | .callv x xs=>x::xs
 | .callF _ xs=>xs
 | .callG _ xs=>xs
 | .callN _ x xs=>x::xs
 | .callE _ x xs=>x::xs
 | .callL _ x xs=>x::xs
 | .callA _ xs=>xs
 | .mk _ xs=>xs
 | .slc _ x lo hi=>x::(qO lo++qO hi)
 | .mn x y=>[x,y]
 | .mx x y=>[x,y]
 | .add64 x y c=>[x,y,c]
 | .sub64 x y c=>[x,y,c]
 | .st _ _ a v=>[a,v]
 | .app _ _ _ x y=>[x,y]
 | .dead=>[]
section
variable {C : Nat -> List D -> D -> List D -> Prop} {f g : Nat -> D}
def dQ (f g : Nat -> D) (d : D) : Prop:=∀ b,da b true d=true -> g b=f b
theorem gQ (p : Pa) : bR p.root true p=true:=by cases p <;> simp [bR,Pa.root]
theorem cO {p : Pa} (h : g p.root=f p.root) : aU g p=aU f p:=by
 cases p <;> simp only [aU,Pa.root] at h ⊢ <;> rw [h]
theorem dQ.ref {p : Pa} {k n : Nat} (h : dQ f g (.ref p k n)) : g p.root=f p.root:=h _ (by simp only [da,aI];exact gQ p)
theorem dQ.adr {p : Pa} {i o : Nat} (h : dQ f g (.adr p i o)) : g p.root=f p.root:=h _ (by simp only [da,aI];exact gQ p)
theorem dQ.mrf {b : Nat} (h : dQ f g (.mrf b)) : g b=f b:=h _ (by simp [da,aI])
theorem dS {d : D} (h : ∀ b,aI b true d=true -> g b=f b) : dp1 g d=dp1 f d /\ (aK g d ↔ aK f d):=by
 cases d <;> try exact ⟨rfl,Iff.rfl⟩
 case ref p k n =>
  have e:=cO (p:=p) (h _ (by simp only [aI];exact gQ p))
  simp only [dp1,aK,e,and_self]
 case adr p i off =>
  have e:=cO (p:=p) (h _ (by simp only [aI];exact gQ p))
  simp only [dp1,aK,e,and_self]
theorem fp {b : Nat} {ds : List D} {d : D} (h : d ∈ ds) (hm : aI b true d=true) : ds.any (aI b true)=true:=x0H.2 ⟨d,h,hm⟩
theorem wi {d : D} (h : isX d=false) (ha : dQ f g d) : dp g d=dp f d /\ (bF g d ↔ bF f d):=by
 have e : ∀ f : Nat -> D,dp f d=dp1 f d /\ (bF f d ↔ aK f d) /\ ∀ b,da b true d=aI b true d:=fun f=>by
  cases d <;> first | exact ⟨rfl,Iff.rfl,fun _=>rfl⟩ | (simp [isX] at h)
 obtain ⟨e1,e2,e3⟩:=e f
 obtain ⟨g1,g2,_⟩:=e g
 obtain ⟨h1,h2⟩:=dS (f:=f) (g:=g) (d:=d) (fun b hb=>ha b (by rw [e3];exact hb))
 exact ⟨by rw [g1,e1,h1],by rw [g2,e2];exact h2⟩
theorem km {d : D} (h : dQ f g d) : dp g d=dp f d /\ (bF g d ↔ bF f d):=by
 cases d
 case agx ds =>
  have e : ∀ d ∈ ds,dp1 g d=dp1 f d /\ (aK g d ↔ aK f d):=fun d hd=>dS fun b hb=>h b (fp hd hb)
  simp only [dp,bF]
  exact ⟨by rw [x0i fun d hd=>(e d hd).1],⟨fun x d hd=>(e d hd).2.1 (x d hd),fun x d hd=>(e d hd).2.2 (x d hd)⟩⟩
 case tpx ds =>
  have e : ∀ d ∈ ds,dp1 g d=dp1 f d /\ (aK g d ↔ aK f d):=fun d hd=>dS fun b hb=>h b (fp hd hb)
  simp only [dp,bF]
  exact ⟨by rw [x0i fun d hd=>(e d hd).1],⟨fun x d hd=>(e d hd).2.1 (x d hd),fun x d hd=>(e d hd).2.2 (x d hd)⟩⟩
 case ptx ds =>
  have e : ∀ d ∈ ds,dp1 g d=dp1 f d /\ (aK g d ↔ aK f d):=fun d hd=>dS fun b hb=>h b (fp hd hb)
  simp only [dp,bF]
  exact ⟨by rw [x0i fun d hd=>(e d hd).1],⟨fun x d hd=>(e d hd).2.1 (x d hd),fun x d hd=>(e d hd).2.2 (x d hd)⟩⟩
 case rfx n sz ds=>exact ⟨rfl,Iff.rfl⟩
 case fnx k ds =>
  have e : ∀ d ∈ ds,dp1 g d=dp1 f d /\ (aK g d ↔ aK f d):=fun d hd=>dS fun b hb=>h b (fp hd hb)
  simp only [dp,bF]
  exact ⟨by rw [x0i fun d hd=>(e d hd).1],⟨fun x d hd=>(e d hd).2.1 (x d hd),fun x d hd=>(e d hd).2.2 (x d hd)⟩⟩
 all_goals
  exact wi rfl h
theorem lT {d : D} {K : D -> List Nat -> Prop} (h : ∀ b,aI b true d=true -> g b=f b) (hr : cY f d K) : cY g d K:=by
 unfold cY at hr ⊢
 split at hr
 ·rename_i b k n
  rw [h b (by simp [aI,bR])]
  exact hr
 ·exact hr
theorem lU : ∀ {ds : List D} {K : List D -> List Nat -> Prop},(∀ d ∈ ds,∀ b,aI b true d=true -> g b=f b) -> ip f ds K -> ip g ds K
 | [],K,_,hr=>hr
 | d::ds,K,h,hr=>by
  obtain ⟨c,bs,h1,h2⟩:=li hr
  obtain ⟨cs,bs',h3,h4⟩:=lj h1
  refine lT (h d (by simp)) (h2 _ (lU (fun d hd=>h d (by simp [hd])) (h4 _ h3)))
theorem jA {d : D} {ns : List Nat} {K : List D -> List Nat -> Prop} (h : dQ f g d) (hr : eX f d ns K) : eX g d ns K:=by
 unfold eX at hr ⊢
 split at hr
 ·exact hr
 ·exact ⟨hr.1,lU (fun d hd b hb=>h b (fp hd hb)) hr.2⟩
 ·rename_i hne1 hne2
  refine ⟨hr.1,lT (fun b hb=>h b ?_) hr.2⟩
  cases d <;> first | exact hb | (exact absurd rfl (hne2 _)) | (simp [aI] at hb)
theorem kP {sz : Nat} {ns : List Nat} : ∀ {ps : List (Nat × Opd)} {es : List (List D)} {bs : List Nat} {K : List (List D) -> List Nat -> Prop},(∀ p ∈ ps,vd g p.2=vd f p.2 /\ dQ f g (vd f p.2)) -> eJ f sz ns ps es bs K -> eJ g sz ns ps es bs K
 | [],es,bs,K,_,hr=>hr
 | (i,x)::ps,es,bs,K,h,hr=>by
  obtain ⟨h0,hr⟩:=hr
  obtain ⟨e1,e2⟩:=h (i,x) (by simp)
  obtain ⟨cs,b1,⟨h1,h1'⟩,h2⟩:=iq hr
  refine ⟨h0,?_⟩
  simp only at e1 e2
  rw [e1]
  exact jA e2 (h2 _ ⟨h1,kP (fun p hp=>h p (by simp [hp])) h1'⟩)
theorem iK {mv : Bool} {d : D} {sz : Nat} {K : List (List D) -> List Nat -> Prop} (h : dQ f g d) (hr : eS f mv d sz K) : eS g mv d sz K:=by
 unfold eS at hr ⊢
 split at hr
 ·exact hr
 ·exact hr
 ·rename_i p k n
  cases mv with
  | true =>
   obtain ⟨h0,hr⟩:=hr
   refine ⟨h0,?_⟩
   cases p with
   | r b=>simp only at hr ⊢;rw [show g b=f b from h.ref];exact hr
   | n b i o=>exact hr
  | false=>simp only at hr ⊢;rw [cO h.ref];exact hr
 ·exact hr
theorem dx {x : Option Opd} {n : Nat} {K : Nat -> Prop} (h : ∀ y ∈ qO x,vd g y=vd f y) (hr : dO f x n K) : dO g x n K:=by
 unfold dO at hr ⊢
 split at hr
 ·exact hr
 ·rename_i y
  rw [h y (by simp [qO])]
  exact hr
theorem iy : ∀ {ps : List (Nat × Opd)} {es : List (List D)},(∀ p ∈ ps,vd g p.2=vd f p.2) -> gm g ps es=gm f ps es
 | [],_,_=>rfl
 | p::ps,es,h=>by
  simp only [gm]
  rw [h p (by simp)]
  exact iy fun q hq=>h q (by simp [hq])
theorem ke {sz len : Nat} {zs : List D} {ps : List (Nat × Opd)} (h : ∀ p ∈ ps,vd g p.2=vd f p.2) : jE g sz len zs ps=jE f sz len zs ps:=by
 unfold jE
 rw [x0i (fun p hp=>by rw [h p hp])]
theorem vg {o : NOp} {K : D -> Prop} (hv : ∀ x ∈ ah o,vd g x=vd f x) (ha : ∀ x ∈ ah o,dQ f g (vd f x)) (hr : res f K o) : res g K o:=by
 cases o with
 | ld n ag x =>
  have e:=hv x (by simp [ah]);have a:=ha x (by simp [ah])
  simp only [res,e] at hr ⊢
  split at hr
  ·rename_i ex;rw [ex] at a;rw [cO a.adr];exact hr
  ·exact hr
  ·exact hr
  ·exact hr
 | iadS sz x i =>
  have e:=hv x (by simp [ah]);have a:=ha x (by simp [ah]);have e2:=hv i (by simp [ah])
  simp only [res,e,e2] at hr ⊢
  split at hr
  ·exact hr
  ·exact hr
  ·rename_i ex _;rw [ex] at a;rw [cO a.ref];exact hr
  ·exact hr
 | slc sz x lo hi =>
  have e:=hv x (by simp [ah]);have a:=ha x (by simp [ah])
  have hlo : ∀ y ∈ qO lo,vd g y=vd f y:=fun y hy=>hv y (by simp [ah,hy])
  have hhi : ∀ y ∈ qO hi,vd g y=vd f y:=fun y hy=>hv y (by simp [ah,hy])
  simp only [res,e] at hr ⊢
  split at hr
  ·exact ⟨hr.1,dx hhi (jC hr.2 fun m h=>dx hlo h)⟩
  ·exact dx hhi (jC hr fun m h=>dx hlo h)
  ·rename_i ex
   rw [ex] at a;rw [cO a.ref]
   split at hr
   ·exact ⟨hr.1,dx hhi (jC hr.2 fun m h=>dx hlo h)⟩
   ·exact hr
  ·exact hr
 | bld zs ps =>
  have e : ∀ p ∈ ps,vd g p.2.2=vd f p.2.2:=fun p hp=>hv _ (x0t.2 ⟨p,hp,rfl⟩)
  simp only [res] at hr ⊢
  obtain ⟨h1,h2,h3⟩:=hr
  have e2 : (ps.all fun p=>isV (vd g p.2.2))=(ps.all fun p=>isV (vd f p.2.2)):=by
   rw [x0x,x0f,x0f]
   exact ⟨fun h p hp=>by rw [<- e p hp];exact h p hp,fun h p hp=>by rw [e p hp];exact h p hp⟩
  have m1 : (ps.map fun p=>(p.1,p.2.1,vd g p.2.2))=ps.map fun p=>(p.1,p.2.1,vd f p.2.2):=x0i fun p hp=>by rw [e p hp]
  have m2 : (ps.map fun p=>(p.1,p.2.1,bS (vd g p.2.2)))=ps.map fun p=>(p.1,p.2.1,bS (vd f p.2.2)):=x0i fun p hp=>by rw [e p hp]
  rw [e2,m1,m2]
  exact ⟨fun p hp=>by rw [e p hp];exact h1 p hp,h2,h3⟩
 | mk k xs =>
  have e : ∀ x ∈ xs,vd g x=vd f x:=fun x hx=>hv x hx
  simp only [res] at hr ⊢
  obtain ⟨h1,h2,h3⟩:=hr
  have e2 : (xs.all fun x=>isV (vd g x))=(xs.all fun x=>isV (vd f x)):=by
   rw [x0x,x0f,x0f]
   exact ⟨fun h p hp=>by rw [<- e p hp];exact h p hp,fun h p hp=>by rw [e p hp];exact h p hp⟩
  rw [e2,x0i e]
  exact ⟨fun p hp=>by rw [e p hp];exact h1 p hp,h2,h3⟩
 | pick c x y=>simp only [res,hv c (by simp [ah]),hv x (by simp [ah]),hv y (by simp [ah])] at hr ⊢;exact hr
 | add64 x y c=>simp only [res,hv c (by simp [ah]),hv x (by simp [ah]),hv y (by simp [ah])] at hr ⊢;exact hr
 | sub64 x y c=>simp only [res,hv c (by simp [ah]),hv x (by simp [ah]),hv y (by simp [ah])] at hr ⊢;exact hr
 | bin op x y=>simp only [res,hv x (by simp [ah]),hv y (by simp [ah])] at hr ⊢;exact hr
 | beq op ks x y=>simp only [res,hv x (by simp [ah]),hv y (by simp [ah])] at hr ⊢;exact hr
 | idxA l s g x i=>simp only [res,hv x (by simp [ah]),hv i (by simp [ah])] at hr ⊢;exact hr
 | idxS x i=>simp only [res,hv x (by simp [ah]),hv i (by simp [ah])] at hr ⊢;exact hr
 | iadA l s x i=>simp only [res,hv x (by simp [ah]),hv i (by simp [ah])] at hr ⊢;exact hr
 | mn x y=>simp only [res,hv x (by simp [ah]),hv y (by simp [ah])] at hr ⊢;exact hr
 | mx x y=>simp only [res,hv x (by simp [ah]),hv y (by simp [ah])] at hr ⊢;exact hr
 | mov x=>simp only [res,hv x (by simp [ah])] at hr ⊢;exact hr
 | nck x=>simp only [res,hv x (by simp [ah])] at hr ⊢;exact hr
 | un op x=>simp only [res,hv x (by simp [ah])] at hr ⊢;exact hr
 | conv k x=>simp only [res,hv x (by simp [ah])] at hr ⊢;exact hr
 | ext i x=>simp only [res,hv x (by simp [ah])] at hr ⊢;exact hr
 | fad i x=>simp only [res,hv x (by simp [ah])] at hr ⊢;exact hr
 | len x=>simp only [res,hv x (by simp [ah])] at hr ⊢;exact hr
 | boxF x=>simp only [res,hv x (by simp [ah])] at hr ⊢;exact hr
 | blsF sz len zs ps =>
  have e : ∀ p ∈ ps,vd g p.2=vd f p.2:=fun p hp=>hv _ (x0t.2 ⟨p,hp,rfl⟩)
  simp only [res] at hr ⊢
  rw [iy e]
  exact ⟨fun p hp=>by rw [e p hp];exact hr.1 p hp,hr.2⟩
 | blsX sz len zs ps =>
  have e : ∀ p ∈ ps,vd g p.2=vd f p.2:=fun p hp=>hv _ (x0t.2 ⟨p,hp,rfl⟩)
  simp only [res] at hr ⊢
  rw [ke e]
  exact ⟨hr.1,fun p hp=>by rw [e p hp];exact hr.2.1 p hp,hr.2.2⟩
 | lens x=>simp only [res,hv x (by simp [ah])] at hr ⊢;exact hr
 | mpl sh kt et ok z m x =>
  have e:=hv m (by simp [ah]);have a:=ha m (by simp [ah]);have e2:=hv x (by simp [ah])
  simp only [res,e,e2] at hr ⊢
  split at hr
  ·rename_i b ex
   rw [ex] at a
   rw [a.mrf]
   exact hr
  ·exact hr
 | _=>simp only [res] at hr
theorem sL {o : NOp} {dst : Option Nat} {K : List (Nat × D) -> List (Nat × Bool) -> Prop} (hv : ∀ x ∈ ah o,vd g x=vd f x) (ha : ∀ x ∈ ah o,dQ f g (vd f x)) (hr : aD C f dst K o) : aD C g dst K o:=by
 cases o with
 | frz x =>
  have e:=hv x (by simp [ah]);have a:=ha x (by simp [ah])
  cases dst with
  | none=>exact hr
  | some t =>
   simp only [aD,e] at hr ⊢
   split at hr
   ·rename_i c k n ex
    rw [ex] at a
    have hl:=dS (d:=.ref (.r c) k n) (f:=f) (g:=g) (fun b hb=>a b (by simp only [da];exact hb))
    rw [hl.1]
    exact ⟨hl.2.2 hr.1,hr.2⟩
   ·exact hr
 | asg x =>
  have e:=hv x (by simp [ah]);have a:=ha x (by simp [ah])
  cases dst with
  | none=>exact hr
  | some t =>
   simp only [aD,e] at hr ⊢
   split at hr
   ·rename_i c k n ex
    rw [ex] at a
    rw [show g c=f c from a.ref]
    exact hr
   ·exact hr
 | ldQ q x =>
  have e:=hv x (by simp [ah]);have a:=ha x (by simp [ah])
  simp only [aD,e] at hr ⊢
  split at hr
  ·rename_i c i off ex
   rw [ex] at a
   rw [show g c=f c from a.adr]
   exact hr
  ·exact hr
 | appQ q sz by_ x y =>
  have e:=hv x (by simp [ah]);have a:=ha x (by simp [ah]);have e2:=hv y (by simp [ah]);have a2:=ha y (by simp [ah])
  cases dst with
  | none=>exact hr
  | some t =>
   simp only [aD,e,e2] at hr ⊢
   split at hr
   ·rename_i c i o k n ex
    rw [ex] at a
    obtain ⟨h0,hr⟩:=hr
    obtain ⟨rows,bs,⟨h1,h1',h2⟩,h3⟩:=dy hr
    refine ⟨h0,iK a2 (h3 _ ⟨h1,h1',?_⟩)⟩
    rw [show g c=f c from a.ref]
    exact h2
   ·exact hr
 | cpy sz x y =>
  have e:=hv x (by simp [ah]);have a:=ha x (by simp [ah]);have e2:=hv y (by simp [ah]);have a2:=ha y (by simp [ah])
  cases dst with
  | none=>exact hr
  | some t =>
   simp only [aD,e,e2] at hr ⊢
   obtain ⟨rows,bs,⟨h1,h1',h2⟩,h3⟩:=dy hr
   refine iK a2 (h3 _ ⟨h1,h1',?_⟩)
   split at h2
   ·rename_i c k n ex;rw [ex] at a;rw [show g c=f c from a.ref];exact h2
   ·exact h2
 | stF n x y =>
  have e:=hv x (by simp [ah]);have a:=ha x (by simp [ah]);have e2:=hv y (by simp [ah])
  simp only [aD,e2] at hr ⊢
  refine ⟨hr.1,?_⟩
  have hr:=hr.2
  split at hr
  ·rename_i s
   simp only [vd] at e a
   rw [e]
   refine ⟨hr.1,?_⟩
   have hr:=hr.2
   split at hr
   ·rename_i c i0 o0 ex
    rw [ex] at a
    rw [show g c=f c from a.adr]
    exact hr
   ·exact hr
  ·exact hr
 | stP x y =>
  have e:=hv x (by simp [ah]);have a:=ha x (by simp [ah]);have e2:=hv y (by simp [ah]);have a2:=ha y (by simp [ah])
  simp only [aD,e] at hr ⊢
  refine ⟨hr.1,?_⟩
  have hr:=hr.2
  split at hr
  ·rename_i s
   simp only [vd] at e2 a2
   rw [e2]
   refine ⟨hr.1,?_⟩
   have hr:=hr.2
   split at hr
   ·rename_i c i0 o0 ex
    rw [ex] at a2
    rw [show g c=f c from a2.adr]
    refine ⟨hr.1,hr.2.1,?_⟩
    have hr:=hr.2.2
    split at hr
    ·refine ⟨hr.1,?_⟩
     have hr:=hr.2
     split at hr
     ·rename_i b i1 o1 i off ex2
      rw [ex2] at a
      rw [show g b=f b from a.adr]
      exact hr
     ·exact hr
    ·exact hr
   ·exact hr
  ·exact hr
 | nilo sz=>exact hr
 | alc zs=>exact hr
 | mkm kt et=>exact hr
 | mpu sh kt et z m x v =>
  have e:=hv m (by simp [ah]);have a:=ha m (by simp [ah]);have e2:=hv x (by simp [ah]);have e3:=hv v (by simp [ah])
  simp only [aD,e,e2,e3] at hr ⊢
  refine ⟨hr.1,?_⟩
  have hr:=hr.2
  split at hr
  ·rename_i b ex
   rw [ex] at a
   rw [a.mrf]
   exact hr
  ·exact hr
 | box ns x =>
  have e:=hv x (by simp [ah]);have a:=ha x (by simp [ah])
  cases dst with
  | none=>exact hr
  | some t=>simp only [aD,e] at hr ⊢;exact jA a hr
 | bls sz len zs ns ps =>
  cases dst with
  | none=>exact hr
  | some t=>simp only [aD] at hr ⊢;exact kP (fun p hp=>⟨hv _ (x0t.2 ⟨p,hp,rfl⟩),ha _ (x0t.2 ⟨p,hp,rfl⟩)⟩) hr
 | mks sz by_ zs n c =>
  have e:=hv n (by simp [ah]);have e2:=hv c (by simp [ah])
  cases dst with
  | none=>exact hr
  | some t=>simp only [aD,e,e2] at hr ⊢;exact hr
 | st n ns x v =>
  have e:=hv x (by simp [ah]);have a:=ha x (by simp [ah]);have e2:=hv v (by simp [ah]);have a2:=ha v (by simp [ah])
  simp only [aD,e,e2] at hr ⊢
  obtain ⟨h0,hr⟩:=hr
  refine ⟨h0,?_⟩
  obtain ⟨cs,bs,⟨h1,h2⟩,h3⟩:=iq hr
  refine jA a2 (h3 _ ⟨h1,?_⟩)
  split at h2
  ·rename_i b i off ex;rw [ex] at a;rw [show g b=f b from a.adr];exact h2
  ·rename_i b i0 o0 i off ex;rw [ex] at a;rw [show g b=f b from a.adr];exact h2
  ·exact h2
 | app sz by_ mv x y =>
  have e:=hv x (by simp [ah]);have a:=ha x (by simp [ah]);have e2:=hv y (by simp [ah]);have a2:=ha y (by simp [ah])
  cases dst with
  | none=>exact hr
  | some t =>
   simp only [aD,e,e2] at hr ⊢
   obtain ⟨rows,bs,⟨h1,h2⟩,h3⟩:=dy hr
   refine iK a2 (h3 _ ⟨h1,?_⟩)
   split at h2
   ·exact h2
   ·rename_i c k n ex;rw [ex] at a;rw [show g c=f c from a.ref];exact h2
   ·rename_i c i o k n ex;rw [ex] at a;rw [show g c=f c from a.ref];exact h2
   ·exact h2
 | call k xs ms =>
  simp only [aD] at hr ⊢
  obtain ⟨h0,d,h1,h2,h3⟩:=hr
  have e : ∀ x ∈ xs,dpv g x=dpv f x /\ (bF g (vd g x) ↔ bF f (vd f x)):=fun x hx=>by
   have:=km (ha x hx)
   unfold dpv
   rw [hv x hx]
   exact this
  refine ⟨fun x hx=>(e x hx).2.2 (h0 x hx),d,by rw [x0i fun x hx=>(e x hx).1];exact h1,h2.imp id (fun h=>?_),h3⟩
  rw [x0f] at h ⊢
  exact fun x hx=>by rw [hv x hx];exact h x hx
 | callG k xs =>
  have e : ∀ x ∈ xs,dpv g x=dpv f x /\ (bF g (vd g x) ↔ bF f (vd f x)):=fun x hx=>by
   have:=km (ha x hx)
   unfold dpv
   rw [hv x hx]
   exact this
  simp only [aD] at hr ⊢
  rw [x0i fun x hx=>(e x hx).1]
  exact ⟨fun x hx=>(e x hx).2.2 (hr.1 x hx),hr.2⟩
 | callF k xs =>
  have e : ∀ x ∈ xs,dpv g x=dpv f x /\ (bF g (vd g x) ↔ bF f (vd f x)):=fun x hx=>by
   have:=km (ha x hx)
   unfold dpv
   rw [hv x hx]
   exact this
  simp only [aD] at hr ⊢
  rw [x0i fun x hx=>(e x hx).1]
  exact ⟨fun x hx=>(e x hx).2.2 (hr.1 x hx),hr.2⟩
 | callN k x0 xs =>
  have e0:=hv x0 (by simp [ah]);have a0:=ha x0 (by simp [ah])
  have e : ∀ x ∈ xs,vd g x=vd f x:=fun x hx=>hv x (by simp [ah,hx])
  simp only [aD,e0] at hr ⊢
  split at hr
  ·rename_i b i o k n hvx
   rw [hvx] at a0
   have hb : g b=f b:=a0.ref
   rw [hb,x0i e]
   obtain ⟨h1,hr⟩:=hr
   refine ⟨h1,?_⟩
   split at hr
   ·obtain ⟨row0,h2,sz,es,h3,h4,h5,h6⟩:=hr
    exact ⟨row0,h2,sz,es,h3,h4,fun x hx=>by rw [e x hx];exact h5 x hx,h6⟩
   ·exact hr.elim
  ·exact hr.elim
 | callA k xs =>
  have e : ∀ x ∈ xs,vd g x=vd f x:=fun x hx=>hv x (by simp [ah,hx])
  simp only [aD] at hr ⊢
  rw [x0i e]
  exact ⟨fun x hx=>by rw [e x hx];exact hr.1 x hx,hr.2⟩
 | callL k x0 xs =>
  have e0:=hv x0 (by simp [ah]);have a0:=ha x0 (by simp [ah])
  have e : ∀ x ∈ xs,vd g x=vd f x:=fun x hx=>hv x (by simp [ah,hx])
  simp only [aD,e0] at hr ⊢
  split at hr
  ·rename_i b i o hvx
   rw [hvx] at a0
   have hb : g b=f b:=a0.adr
   rw [hb,x0i e]
   obtain ⟨h1,h2,hr⟩:=hr
   refine ⟨h1,h2,?_⟩
   split at hr
   ·exact ⟨hr.1,fun x hx=>by rw [e x hx];exact hr.2.1 x hx,hr.2.2⟩
   ·exact hr.elim
  ·exact hr.elim
 | callE k x0 xs =>
  have e0:=hv x0 (by simp [ah]);have a0:=ha x0 (by simp [ah])
  have e : ∀ x ∈ xs,ll g x=ll f x /\ ∀ b,ml g b x ↔ ml f b x:=fun x hx=>by
   have h1:=hv x (by simp [ah,hx])
   have h2:=ha x (by simp [ah,hx])
   unfold ll ml
   rw [h1]
   revert h2
   generalize vd f x=d
   intro h2
   cases d <;> first | exact ⟨rfl,fun _=>Iff.rfl⟩ | skip
   rename_i p k n
   cases p with
   | r c =>
    have hb : g c=f c:=h2.ref
    exact ⟨by simp only [hb],fun _=>by simp only [hb]⟩
   | n c i o=>exact ⟨rfl,fun _=>Iff.rfl⟩
  simp only [aD,e0] at hr ⊢
  split at hr
  ·split at hr
   ·rename_i p k n hvx
    rw [hvx] at a0
    have hb : g p.root=f p.root:=a0.ref
    have hd : cN g p=cN f p:=by
     cases p with
     | r c=>rfl
     | n c i o=>simp only [cN];rw [show g c=f c from hb]
    simp only [cO hb,hd]
    rw [x0i fun x hx=>(e x hx).1]
    split at hr
    ·obtain ⟨h1,h2,h3,h4,h5,h6⟩:=hr
     exact ⟨h1,h2,h3,h4,fun x hx=>((e x hx).2 _).2 (h5 x hx),h6⟩
    ·exact hr.elim
   ·exact hr.elim
  ·exact hr.elim
 | callv x0 xs =>
  have e0:=hv x0 (by simp [ah]);have a0:=ha x0 (by simp [ah])
  have e : ∀ x ∈ xs,dpv g x=dpv f x /\ (bF g (vd g x) ↔ bF f (vd f x)):=fun x hx=>by
   have:=km (ha x (by simp [ah,hx]))
   unfold dpv
   rw [hv x (by simp [ah,hx])]
   exact this
  simp only [aD,e0] at hr ⊢
  split at hr
  ·obtain ⟨h0,d,h1,h2,h3⟩:=hr
   refine ⟨fun x hx=>(e x hx).2.2 (h0 x hx),d,by rw [x0i fun x hx=>(e x hx).1];exact h1,h2.imp id (fun h=>?_),h3⟩
   rw [x0f] at h ⊢
   exact fun x hx=>by rw [hv x (by simp [ah,hx])];exact h x hx
  ·rename_i k cs ex
   rw [ex] at a0
   obtain ⟨h0,h0',d,h1,h2,h3⟩:=hr
   have ec : ∀ c ∈ cs,dp1 g c=dp1 f c /\ (aK g c ↔ aK f c):=fun c hc=>dS fun b hb=>a0 b (fp hc hb)
   exact ⟨fun x hx=>(e x hx).2.2 (h0 x hx),fun c hc=>(ec c hc).2.2 (h0' c hc),d,by rw [x0i fun x hx=>(e x hx).1,x0i fun c hc=>(ec c hc).1];exact h1,h2,h3⟩
  ·exact hr
 | _=>(simp only [aD] at hr ⊢;exact vg hv ha hr)
end
end Go.Gv

namespace Go.Gv
open Go.RowKit
def aH : D -> List Nat
 | .ref p _ _=>[p.root]
 | .adr p _ _=>[p.root]
 | .mrf b=>[b]
 | _=>[]
def bx : D -> List Nat
 | .agx ds=>ds.flatMap aH
 | .tpx ds=>ds.flatMap aH
 | .ptx ds=>ds.flatMap aH
 | .rfx _ _ ds=>ds.flatMap aH
 | .fnx _ ds=>ds.flatMap aH
 | d=>aH d
theorem qG {b : Nat} {all : Bool} {p : Pa} (h : bR b all p=true) : b=p.root:=by
 cases p <;> simp [bR,Pa.root] at h ⊢ <;> simp_all
theorem l8 {b : Nat} {all : Bool} {d : D} (h : aI b all d=true) : b ∈ aH d:=by
 cases d <;> simp only [aI,x0l] at h
 case ref p k n=>simp [aH,qG h]
 case adr p i o=>simp [aH,qG h]
 case mrf c=>simp at h;simp [aH,h.2]
theorem jL {b : Nat} {all : Bool} {d : D} (h : da b all d=true) : b ∈ bx d:=by
 have part : ∀ ds : List D,ds.any (aI b all)=true -> b ∈ ds.flatMap aH:=fun ds h=>by
  obtain ⟨d,h1,h2⟩:=x0H.1 h
  exact List.mem_flatMap.2 ⟨d,h1,l8 h2⟩
 cases d
 case agx ds=>exact part ds h
 case tpx ds=>exact part ds h
 case ptx ds=>exact part ds h
 case rfx n sz ds=>exact part ds h
 case fnx g ds=>exact part ds h
 all_goals (simp only [da] at h;simp only [bx];exact l8 h)
theorem lC (ks : List (Nat × Bool)) : aG ks .any=false:=by
 simp [aG,da,aI]
theorem nj {ks : List (Nat × Bool)} {d : D} (h : aG ks d=true) : ∃ k ∈ ks,da k.1 k.2 d=true:=by
 simpa [aG] using h
theorem gO {ws : List (Nat × D)} {k : Nat} {d : D} (h : ws.lookup k=some d) : (k,d) ∈ ws:=by
 induction ws with
 | nil=>cases h
 | cons p ws ih =>
  obtain ⟨s,x⟩:=p
  rw [x0m] at h
  cases e : k == s with
  | true=>rw [e] at h;simp at e h;subst e;subst h;simp
  | false=>rw [e] at h;simp [ih h]
theorem qz {ws : List (Nat × D)} {k : Nat} (h : ws.lookup k=none) : k ∉ ws.map (·.1):=by
 induction ws with
 | nil=>simp
 | cons p ws ih =>
  obtain ⟨s,x⟩:=p
  rw [x0m] at h
  cases e : k == s with
  | true=>rw [e] at h;cases h
  | false=>rw [e] at h;simp at e;simp only [x0G,x0O,not_or];exact ⟨e,ih h⟩
theorem fC {ws : List (Nat × D)} {k : Nat} (h : k ∉ ws.map (·.1)) : ws.lookup k=none:=by
 refine qA fun d hd=>h (x0t.2 ⟨_,hd,rfl⟩)
structure Fam where
 n : Nat
 ws : Nat -> List (Nat × D)
 ks : Nat -> List (Nat × Bool)
 rd : Nat -> List Nat
 mn : Nat -> List Nat
 fr : Nat -> List (Nat × Nat)
 bef : Nat -> Nat -> Bool
 f0 : Nat -> D
def Fam.W (A : Fam) (i : Nat) : List Nat:=(A.ws i).map (·.1)
def Fam.E (A : Fam) (i : Nat) : (Nat -> D) -> (Nat -> D):=eff (A.ws i) (A.ks i)
def Fam.G (A : Fam) (l : Nat -> Bool) : Nat -> (Nat -> D)
 | 0=>A.f0
 | m + 1=>if l m then A.E m (A.G l m) else A.G l m
def Fam.St (A : Fam) (m : Nat) : Nat -> D:=A.G (fun _=>true) m
def fI (m : Nat) : D -> Option (List (Option D))
 | .blk _ es=>some (es.map fun r=>r[m]?)
 | _=>none
def Fam.Pres (A : Fam) (i k m : Nat) : Prop:=fI m (A.St (i + 1) k)=fI m (A.St i k)
def Fam.Apart (A : Fam) (i j : Nat) : Prop:=(∀ k ∈ A.W i,k ∉ A.rd j /\ k ∉ A.W j /\ ∀ m,(k,m) ∈ A.fr j -> A.Pres i k m) /\ ∀ k ∈ A.ks i,k.1 ∉ A.mn j
def Fam.Ind (A : Fam) (i j : Nat) : Prop:=A.Apart i j /\ A.Apart j i
structure Fam.Ok (A : Fam) : Prop where
 kills : ∀ i,i < A.n -> ∀ k ∈ A.ks i,k.1 ∈ A.W i
 vals : ∀ i,i < A.n -> ∀ p ∈ A.ws i,∀ b all,da b all p.2=true -> b ∈ A.mn i \/ b ∈ A.W i
 closed : ∀ i,i < A.n -> ∀ k ∈ A.rd i,∀ b all,da b all (A.St i k)=true -> b ∈ A.mn i
 fine : ∀ i,i < A.n -> ∀ p ∈ A.fr i,p.1 ∉ A.W i
 known : ∀ i,i < A.n -> ∀ k ∈ A.rd i,A.St i k ≠ .any
 pairs : ∀ i j,i < j -> j < A.n -> A.bef j i=true \/ A.Ind i j
section
variable {A : Fam}
theorem en {ws : List (Nat × D)} {ks : List (Nat × Bool)} {f : Nat -> D} {k : Nat} {d : D} (h : ws.lookup k=some d) : eff ws ks f k=d:=aN h
theorem cH {ws : List (Nat × D)} {ks : List (Nat × Bool)} {f : Nat -> D} {k : Nat} (h : ws.lookup k=none) : eff ws ks f k=if aG ks (f k) then .any else f k:=by
 unfold eff;rw [h]
theorem Fam.Ok.noKill (h : A.Ok) {i j : Nat} (hi : i < A.n) (hj : j < A.n) (hI : A.Apart j i) {p : Nat × D} (hp : p ∈ A.ws i) : aG (A.ks j) p.2=false:=by
 cases hm : aG (A.ks j) p.2 with
 | false=>rfl
 | true =>
  obtain ⟨k,h1,h2⟩:=nj hm
  have h3:=h.kills j hj k h1
  have h5:=(hI.1 _ h3).2.1
  have h4:=hI.2 k h1
  rcases h.vals i hi p hp _ _ h2 with h6 | h6
  ·exact absurd h6 h4
  ·exact absurd h6 h5
theorem Fam.Ok.comm (h : A.Ok) {i j : Nat} (hi : i < A.n) (hj : j < A.n) (hI : A.Ind i j) (f : Nat -> D) : A.E i (A.E j f)=A.E j (A.E i f):=by
 funext k
 unfold Fam.E
 cases h1 : (A.ws i).lookup k with
 | some d =>
  have hk : k ∈ A.W i:=x0t.2 ⟨_,gO h1,rfl⟩
  have h2 : (A.ws j).lookup k=none:=fC (hI.1.1 k hk).2.1
  have h3:=h.noKill hi hj hI.2 (gO h1)
  rw [en h1,cH h2,en h1]
  simp only at h3
  rw [h3];rfl
 | none =>
  cases h2 : (A.ws j).lookup k with
  | some d =>
   have h3:=h.noKill hj hi hI.1 (gO h2)
   rw [cH h1,en h2,en h2]
   simp only at h3
   rw [h3];rfl
  | none =>
   rw [cH h1,cH h2,cH h2,cH h1]
   cases e1 : aG (A.ks i) (f k) <;> cases e2 : aG (A.ks j) (f k) <;> simp [e1,e2,lC]
def vR (A : Fam) (l : Nat -> Bool) : Prop:=∀ j,j < A.n -> l j=true -> ∀ i,i < j -> A.bef j i=true -> l i=true
open Classical in
noncomputable def cR (A : Fam) (l : Nat -> Bool) (m : Nat) (d : D) : D:=if ∃ u,u < m /\ l u=false /\ aG (A.ks u) d=true then .any else d
theorem oE (l : Nat -> Bool) (m : Nat) : cR A l m .any=.any:=by
 unfold cR;split <;> rfl
theorem BU (h : A.Ok) {l : Nat -> Bool} (hs : vR A l) : ∀ m,m <= A.n -> ∀ k,(∀ u,u < m -> l u=false -> k ∉ A.W u) -> A.St m k=cR A l m (A.G l m k)
 | 0,_,k,_=>by
  unfold cR
  rw [if_neg (by rintro ⟨u,hu,_⟩;omega)]
  rfl
 | m + 1,hm,k,hk=>by
  have ih:=BU h hs m (by omega) k (fun u hu=>hk u (by omega))
  have e1 : A.St (m + 1) k=A.E m (A.St m) k:=by simp [Fam.St,Fam.G]
  rw [e1]
  cases hl : l m with
  | true =>
   have e2 : A.G l (m + 1) k=A.E m (A.G l m) k:=by simp [Fam.G,hl]
   rw [e2]
   unfold Fam.E
   cases h1 : (A.ws m).lookup k with
   | some d =>
    rw [en h1,en h1]
    unfold cR
    rw [if_neg]
    rintro ⟨u,hu,hlu,hmu⟩
    have hum : u < m:=by
     rcases x1d u m with h | h
     ·exact h
     ·have : u=m:=by omega
      subst this;rw [hl] at hlu;cases hlu
    rcases h.pairs u m hum (by omega) with h2 | h2
    ·rw [hs m (by omega) hl u hum h2] at hlu;cases hlu
    ·have:=h.noKill (i:=m) (j:=u) (by omega) (by omega) h2.1 (gO h1)
     simp only at this
     rw [this] at hmu;cases hmu
   | none =>
    rw [cH h1,cH h1,ih]
    have same : ∀ d,cR A l (m + 1) d=cR A l m d:=fun d=>by
     unfold cR
     congr 1
     refine propext ⟨fun ⟨u,h3,h4,h5⟩=>⟨u,?_,h4,h5⟩,fun ⟨u,h3,h4,h5⟩=>⟨u,by omega,h4,h5⟩⟩
     rcases x1d u m with h | h
     ·exact h
     ·have : u=m:=by omega
      subst this;rw [hl] at h4;cases h4
    rw [same]
    generalize A.G l m k=g
    by_cases hc : ∃ u,u < m /\ l u=false /\ aG (A.ks u) g=true
    ·have e3 : cR A l m g=.any:=by unfold cR;rw [if_pos hc]
     rw [e3,lC]
     cases hg : aG (A.ks m) g with
     | true=>simp only [if_true];rw [oE];rfl
     | false=>simp only [x0l,if_false];rw [e3]
    ·have e3 : cR A l m g=g:=by unfold cR;rw [if_neg hc]
     rw [e3]
     cases hg : aG (A.ks m) g with
     | true=>simp only [if_true];rw [oE]
     | false=>simp only [x0l,if_false];rw [e3]
  | false =>
   have e2 : A.G l (m + 1) k=A.G l m k:=by simp [Fam.G,hl]
   rw [e2]
   unfold Fam.E
   rw [cH (fC (hk m (by omega) hl)),ih]
   generalize A.G l m k=g
   by_cases hc : ∃ u,u < m /\ l u=false /\ aG (A.ks u) g=true
   ·have e3 : cR A l m g=.any:=by unfold cR;rw [if_pos hc]
    have e4 : cR A l (m + 1) g=.any:=by
     unfold cR
     obtain ⟨u,h1,h2⟩:=hc
     rw [if_pos ⟨u,by omega,h2⟩]
    rw [e3,e4,lC];rfl
   ·have e3 : cR A l m g=g:=by unfold cR;rw [if_neg hc]
    rw [e3]
    cases hg : aG (A.ks m) g with
    | true =>
     have e4 : cR A l (m + 1) g=.any:=by unfold cR;exact if_pos ⟨m,by omega,hl,hg⟩
     rw [e4];rfl
    | false =>
     have e4 : cR A l (m + 1) g=g:=by
      unfold cR
      refine if_neg ?_
      rintro ⟨u,h1,h2,h3⟩
      rcases x1d u m with h | h
      ·exact hc ⟨u,h,h2,h3⟩
      ·have : u=m:=by omega
       subst this;rw [hg] at h3;cases h3
     rw [e4];rfl
theorem Fam.Ok.reads (h : A.Ok) {l : Nat -> Bool} (hs : vR A l) {j : Nat} (hj : j < A.n) (hlj : l j=false) (hb : ∀ i,i < j -> A.bef j i=true -> l i=true) : ∀ k ∈ A.rd j,A.G l A.n k=A.St j k:=by
 intro k hk
 have h1 : A.G l j k=A.St j k:=by
  have h2:=BU h hs j (by omega) k (fun u hu hlu=>by
   rcases h.pairs u j hu hj with h3 | h3
   ·rw [hb u hu h3] at hlu;cases hlu
   ·exact fun h4=>(h3.1.1 k h4).1 hk)
  have h3:=h.known j hj k hk
  rw [h2] at h3 ⊢
  unfold cR at h3 ⊢
  split at h3
  ·exact absurd rfl h3
  ·rename_i hc;rw [if_neg hc]
 have h2 : ∀ m,j <= m -> m <= A.n -> A.G l m k=A.St j k:=by
  intro m
  induction m with
  | zero=>intro h3 _;have : j=0:=(by omega);subst this;exact h1
  | succ m ih =>
   intro h3 h4
   rcases x1d m j with h5 | h5
   ·have : j=m + 1:=by omega
    rw [<- this];exact h1
   ·have ihm:=ih h5 (by omega)
    cases hl : l m with
    | false=>simp [Fam.G,hl,ihm]
    | true =>
     have hjm : j < m:=by
      rcases x1d j m with h | h
      ·exact h
      ·have : j=m:=by omega
       subst this;rw [hl] at hlj;cases hlj
     rcases h.pairs j m hjm (by omega) with h6 | h6
     ·rw [hs m (by omega) hl j hjm h6] at hlj;cases hlj
     ·have h7 : (A.ws m).lookup k=none:=fC (fun h8=>(h6.2.1 k h8).1 hk)
      have h8 : aG (A.ks m) (A.St j k)=false:=by
       cases hm : aG (A.ks m) (A.St j k) with
       | false=>rfl
       | true =>
        obtain ⟨q,h9,h10⟩:=nj hm
        exact absurd (h.closed j hj k hk _ _ h10) (h6.2.2 q h9)
      simp only [Fam.G,hl,if_true,Fam.E]
      rw [cH h7,ihm,h8];rfl
 exact h2 A.n (by omega) (x0k _)
theorem ow (m : Nat) (ks : List (Nat × Bool)) (d : D) : fI m (if aG ks d then .any else d)=fI m d:=by
 cases d
 case blk sz es=>rw [oN rfl];rfl
 all_goals (split <;> rfl)
theorem jb (A : Fam) (f g : Nat -> D) (i k m : Nat) (h : k ∉ A.W i) : fI m (A.E i f k)=fI m (f k):=by
 unfold Fam.E
 rw [cH (fC h),ow]
theorem ox (A : Fam) (f g : Nat -> D) (i k : Nat) (h : k ∈ A.W i) : A.E i f k=A.E i g k:=by
 unfold Fam.E
 cases h1 : (A.ws i).lookup k with
 | none=>exact absurd h (qz h1)
 | some d=>rw [en h1,en h1]
theorem j6 (A : Fam) (m : Nat) : A.St (m + 1)=A.E m (A.St m):=by simp [Fam.St,Fam.G]
theorem Fam.Ok.readsC (h : A.Ok) {l : Nat -> Bool} (hs : vR A l) {j : Nat} (hj : j < A.n) (hlj : l j=false) (hb : ∀ i,i < j -> A.bef j i=true -> l i=true) : ∀ p ∈ A.fr j,fI p.2 (A.G l A.n p.1)=fI p.2 (A.St j p.1):=by
 rintro ⟨k,c⟩ hk
 simp only
 have hkj:=h.fine j hj _ hk
 simp only at hkj
 have low : ∀ m,m <= j -> fI c (A.G l m k)=fI c (A.St m k):=by
  intro m
  induction m with
  | zero=>intro _;rfl
  | succ m ih =>
   intro hm
   have ihm:=ih (by omega)
   rw [j6]
   by_cases hw : k ∈ A.W m
   ·cases hl : l m with
    | true =>
     simp only [Fam.G,hl,if_true]
     rw [ox A _ (A.St m) m k hw]
    | false =>
     simp only [Fam.G,hl,x0l,if_false]
     rcases h.pairs m j (by omega) hj with h1 | h1
     ·rw [hb m (by omega) h1] at hl;cases hl
     ·have h2:=(h1.1.1 k hw).2.2 c hk
      unfold Fam.Pres at h2
      rw [j6] at h2
      rw [h2,ihm]
   ·rw [jb A _ (A.St m) m k c hw]
    cases hl : l m with
    | true =>
     simp only [Fam.G,hl,if_true]
     rw [jb A _ (A.St m) m k c hw,ihm]
    | false=>simp only [Fam.G,hl,x0l,if_false];exact ihm
 have run : ∀ m,j <= m -> m <= A.n -> (∀ u,j < u -> u < m -> k ∈ A.W u -> A.Pres u k c) -> fI c (A.St m k)=fI c (A.St j k):=by
  intro m
  induction m with
  | zero=>intro h1 _ _;have : j=0:=(by omega);subst this;rfl
  | succ m ih =>
   intro h1 h2 h3
   rcases x1d m j with h4 | h4
   ·have : j=m + 1:=by omega
    rw [<- this]
   ·have ihm:=ih h4 (by omega) (fun u h5 h6 h7=>h3 u h5 (by omega) h7)
    by_cases hw : k ∈ A.W m
    ·have hjm : j < m:=by
      rcases x1d j m with h | h
      ·exact h
      ·have : j=m:=by omega
       subst this;exact absurd hw hkj
     have:=h3 m hjm (by omega) hw
     unfold Fam.Pres at this
     rw [this,ihm]
    ·rw [j6,jb A _ (A.St m) m k c hw,ihm]
 have high : ∀ m,j <= m -> m <= A.n -> fI c (A.G l m k)=fI c (A.St j k):=by
  intro m
  induction m with
  | zero=>intro h1 _;have : j=0:=(by omega);subst this;exact low 0 (x0k _)
  | succ m ih =>
   intro h1 h2
   rcases x1d m j with h4 | h4
   ·have : j=m + 1:=by omega
    rw [<- this];exact low j (x0k _)
   ·have ihm:=ih h4 (by omega)
    cases hl : l m with
    | false=>simp only [Fam.G,hl,x0l,if_false];exact ihm
    | true =>
     simp only [Fam.G,hl,if_true]
     by_cases hw : k ∈ A.W m
     ·have hjm : j < m:=by
       rcases x1d j m with h | h
       ·exact h
       ·have : j=m:=by omega
        subst this;rw [hl] at hlj;cases hlj
      have pres : ∀ u,j < u -> u < A.n -> k ∈ A.W u -> l u=true -> A.Pres u k c:=fun u h5 h6 h7 h8=>by
       rcases h.pairs j u h5 h6 with h9 | h9
       ·rw [hs u h6 h8 j h5 h9] at hlj;cases hlj
       ·exact (h9.2.1 k h7).2.2 c hk
      have h5:=run m h4 (by omega) (fun u h5 h6 h7=>pres u h5 (by omega) h7 (by
       rcases h.pairs u m h6 (by omega) with h9 | h9
       ·exact hs m (by omega) hl u h6 h9
       ·exact absurd hw (h9.1.1 k h7).2.1))
      have h6:=pres m hjm (by omega) hw hl
      unfold Fam.Pres at h6
      rw [ox A _ (A.St m) m k hw,<- j6,h6,h5]
     ·rw [jb A _ (A.St m) m k c hw,ihm]
 exact high A.n (by omega) (x0k _)
theorem Fam.Ok.more (h : A.Ok) {l l' : Nat -> Bool} (hs : vR A l) {j : Nat} (hj : j < A.n) (hlj : l j=false) (hj' : l' j=true) (hl' : ∀ i,i ≠ j -> l' i=l i) : A.G l' A.n=A.E j (A.G l A.n):=by
 have low : ∀ m,m <= j -> A.G l' m=A.G l m:=by
  intro m
  induction m with
  | zero=>intro _;rfl
  | succ m ih =>
   intro hm
   simp only [Fam.G]
   rw [ih (by omega),hl' m (by omega)]
 have high : ∀ m,j < m -> m <= A.n -> A.G l' m=A.E j (A.G l m):=by
  intro m
  induction m with
  | zero=>intro h1;omega
  | succ m ih =>
   intro h1 h2
   rcases x1d j m with h3 | h3
   ·have ihm:=ih h3 (by omega)
    simp only [Fam.G]
    rw [hl' m (by omega),ihm]
    cases hl : l m with
    | false=>rfl
    | true =>
     simp only [if_true]
     rcases h.pairs j m h3 (by omega) with h4 | h4
     ·rw [hs m (by omega) hl j h3 h4] at hlj;cases hlj
     ·exact (h.comm hj (by omega) h4 _).symm
   ·have : m=j:=by omega
    subst this
    simp only [Fam.G]
    rw [hj',hlj,low m (x0k _)]
    rfl
 exact high A.n hj (x0k _)
end
end Go.Gv

namespace Go.Gv
open Go.RowKit
def iH : Opd -> List Nat
 | .t s=>[s]
 | .c _=>[]
def qk : Option (Nat × Bool) -> List Nat
 | some (s,_)=>[s]
 | none=>[]
def rdS (n : am) : List Nat:=(ah n.op).flatMap iH++qk n.guard
def DK : NOp -> List Opd
 | .mov _=>[]
 | .nck _=>[]
 | .pick _ _ _=>[]
 | .bin _ _ _=>[]
 | .un _ _=>[]
 | .conv _ _=>[]
 | .ext _ _=>[]
 | .fad _ _=>[]
 | .ld _ _ _=>[]
 | .ldQ _ _=>[]
 | .mk _ _=>[]
 | .bld _ _=>[]
 | .boxF _=>[]
 | .blsF _ _ _ _=>[]
 | .blsX _ _ _ _=>[]
 | .len _=>[]
 | .iadA _ _ _ _=>[]
 | o=>ah o
def ldN : NOp -> List Opd
 | .ld _ _ x=>[x]
 | _=>[]
def rdR (f : Nat -> D) (n : am) : List Nat:=((DK n.op).flatMap fun x=>bx (vd f x))++((ldN n.op).flatMap fun x=>aH (vd f x))
def mnR (f : Nat -> D) (n : am) : List Nat:=(ah n.op).flatMap fun x=>bx (vd f x)
def frR (f : Nat -> D) (n : am) : List (Nat × Nat):=match n.op with
 | .ldQ o x=>match vd f x with
  | .adr (.r c) _ _=>[(c,o)]
  | _=>[]
 | _=>[]
def fwR (f : Nat -> D) (n : am) : List (Nat × Nat):=match n.op with
 | .appQ o _ _ x _=>match vd f x with
  | .ref (.n c _ _) _ _=>[(c,o)]
  | _=>[]
 | _=>[]
abbrev Rds:=List Nat × List Nat × List (Nat × Nat) × List (Nat × Nat)
def f8 (x : Rds) : List Nat:=x.1.map (4 * ·)++x.2.1.map (4 * · + 1)++x.2.2.1.map (fun p=>4 * (64 * p.1 + p.2 % 64) + 2)++x.2.2.2.map (fun p=>4 * (64 * p.1 + p.2 % 64) + 3)
def rdN (f : Nat -> D) (n : am) : Rds:=(rdS n++rdR f n,mnR f n,frR f n,fwR f n)
def iw (f : Nat -> D) (n : am) : List Nat:=f8 (rdN f n)
def wrK (ws : List (Nat × D)) (ks : List (Nat × Bool)) : List Nat:=(ws.map fun p=>4 * p.1)++ks.map fun k=>4 * k.1 + 1
def cE : D -> Bool
 | .any=>true
 | _=>false
def chk (f : Nat -> D) (n : am) : Bool:=((rdS n).all fun s=>!cE (f s)) && ((rdR f n).all fun b=>isB (f b)) && ((frR f n).all fun p=>!(n.dst == some p.1)) && (fwR f n).all fun p=>!(n.dst == some p.1)
def wOk (R : List Nat) (ws : List (Nat × D)) (ks : List (Nat × Bool)) : Bool :=
 (ks.all fun k=>(ws.map (·.1)).contains k.1) && ws.all fun p=>(bx p.2).all fun b=>R.contains (4 * b + 1) || (ws.map (·.1)).contains b
def wd (q : Nat) (r0 : List Nat) : Bool:=r0.any fun z=>decide (z % 4=3) && decide (z / 256=q / 256) && !decide (z / 4 % 64=q / 4 % 64)
def rI (x r0 : List Nat) (r w : List Nat) : Bool:=x.all fun k=>!r.contains k && !w.contains k && r.all fun q=>!(decide (q % 4=2) && decide (k=4 * (q / 256))) || wd q r0
def kz (hs : List Nat) (rw : List (List Nat × List Nat)) : Bool :=
 rw.zipIdx.all fun p=>rw.zipIdx.all fun q=>!decide (p.2 < q.2) || (hs.getD q.2 0).testBit p.2 || (rI p.1.2 p.1.1 q.1.1 q.1.2 && rI q.1.2 q.1.1 p.1.1 p.1.2)
def uN : Option Nat -> List Nat
 | some t=>[4 * t]
 | none=>[]
def jw (C : Nat -> List D -> D -> List D -> Prop) (hs : List Nat) (K : Env -> Prop) : List am -> Env -> List (List Nat × List Nat) -> Prop
 | [],e,acc=>kz hs acc.reverse=true /\ K e
 | o::os,e,acc=>chk (ae e) o=true /\ match o.guard with
  | none=>aD C (ae e) o.dst (fun ws ks=>wOk (iw (ae e) o) ws ks=true /\ jw C hs K os (ws++dG ks e) ((iw (ae e) o,wrK ws ks)::acc)) o.op
  | some (s,want)=>match ae e s with
   | .bool b=>(b=want -> aD C (ae e) o.dst (fun ws ks=>wOk (iw (ae e) o) ws ks=true /\ jw C hs K os (ws++dG ks e) ((iw (ae e) o,wrK ws ks)::acc)) o.op) /\
     (b=!want -> gF e o.dst fun e'=>jw C hs K os e' ((iw (ae e) o,uN o.dst)::acc))
   | .tup []=>gF e o.dst fun e'=>jw C hs K os e' ((iw (ae e) o,uN o.dst)::acc)
   | _=>False
def dj (n : am) : Option (List (Nat × D) × List (Nat × Bool)) -> List (Nat × D)
 | some (ws,_)=>ws
 | none=>match n.dst with
  | some t=>[(t,.tup [])]
  | none=>[]
def eA : Option (List (Nat × D) × List (Nat × Bool)) -> List (Nat × Bool)
 | some (_,ks)=>ks
 | none=>[]
theorem yU (n : am) (x : Option (List (Nat × D) × List (Nat × Bool))) (f : Nat -> D) : og n x f=eff (dj n x) (eA x) f:=by
 cases x with
 | some y=>rfl
 | none =>
  unfold og dj eA
  cases n.dst with
  | some t=>rfl
  | none=>exact (kp f).symm
abbrev fJ:=am × Option (List (Nat × D) × List (Nat × Bool)) × Rds
def Tr (C : Nat -> List D -> D -> List D -> Prop) : List fJ -> (Nat -> D) -> (Nat -> D) -> Prop
 | [],f,f'=>f'=f
 | (n,x,rd)::ts,f,f'=>io C n f x /\ chk f n=true /\ wOk (iw f n) (dj n x) (eA x)=true /\ rd=rdN f n /\ Tr C ts (eff (dj n x) (eA x) f) f'
section
variable {C : Nat -> List D -> D -> List D -> Prop}
theorem Ce {hs : List Nat} {K : Env -> Prop} : ∀ (ns : List am) (e : Env) (acc : List (List Nat × List Nat)),jw C hs K ns e acc -> ∃ (ts : List fJ) (e' : Env),ts.map (·.1)=ns /\ Tr C ts (ae e) (ae e') /\ kz hs (acc.reverse++ts.map fun t=>(f8 t.2.2,wrK (dj t.1 t.2.1) (eA t.2.1)))=true /\ K e'
 | [],e,acc,h=>⟨[],e,rfl,rfl,by simpa using h.1,h.2⟩
 | n::ns,e,acc,h=>by
  obtain ⟨h0,h⟩:=h
  have fin : ∀ (x : Option (List (Nat × D) × List (Nat × Bool))) (e1 : Env),io C n (ae e) x -> wOk (iw (ae e) n) (dj n x) (eA x)=true -> ae e1=eff (dj n x) (eA x) (ae e) -> jw C hs K ns e1 ((iw (ae e) n,wrK (dj n x) (eA x))::acc) ->
    ∃ (ts : List fJ) (e' : Env),ts.map (·.1)=n::ns /\ Tr C ts (ae e) (ae e') /\ kz hs (acc.reverse++ts.map fun t=>(f8 t.2.2,wrK (dj t.1 t.2.1) (eA t.2.1)))=true /\ K e':=by
   intro x e1 h1 h2 h3 h4
   obtain ⟨ts,e',g1,g2,g3,g4⟩:=Ce ns e1 _ h4
   refine ⟨(n,x,rdN (ae e) n)::ts,e',by simp [g1],⟨h1,h0,h2,rfl,by rw [<- h3];exact g2⟩,?_,g4⟩
   simpa [iw] using g3
  have run : (∀ s b,n.guard=some (s,b) -> ae e s=.bool b) -> aD C (ae e) n.dst (fun ws ks=>wOk (iw (ae e) n) ws ks=true /\ jw C hs K ns (ws++dG ks e) ((iw (ae e) n,wrK ws ks)::acc)) n.op ->
    ∃ (ts : List fJ) (e' : Env),ts.map (·.1)=n::ns /\ Tr C ts (ae e) (ae e') /\ kz hs (acc.reverse++ts.map fun t=>(f8 t.2.2,wrK (dj t.1 t.2.1) (eA t.2.1)))=true /\ K e':=by
   intro hg h1
   obtain ⟨ws,ks,⟨h2,h3⟩,h4⟩:=nG h1
   exact fin (some (ws,ks)) _ ⟨hg,h4 _ ⟨rfl,rfl⟩⟩ h2 (iD ws ks e) h3
  have skp : ∀ s want,n.guard=some (s,want) -> Skp want (ae e s) -> gF e n.dst (fun e'=>jw C hs K ns e' ((iw (ae e) n,uN n.dst)::acc)) ->
    ∃ (ts : List fJ) (e' : Env),ts.map (·.1)=n::ns /\ Tr C ts (ae e) (ae e') /\ kz hs (acc.reverse++ts.map fun t=>(f8 t.2.2,wrK (dj t.1 t.2.1) (eA t.2.1)))=true /\ K e':=by
   intro s want hg hb h1
   unfold gF at h1
   split at h1
   ·rename_i hd
    refine fin none e ⟨s,want,hg,hb⟩ (by simp [wOk,dj,eA,hd]) (by simp [dj,eA,hd,kp]) ?_
    simpa [dj,eA,wrK,hd,uN] using h1
   ·rename_i t hd
    refine fin none ((t,.tup [])::e) ⟨s,want,hg,hb⟩ (by simp [wOk,dj,eA,hd,bx,aH]) ?_ ?_
    ·have:=iD [(t,.tup [])] [] e
     simp only [dG,if_true] at this
     simpa [dj,eA,hd] using this
    ·simpa [dj,eA,wrK,hd,uN] using h1
  split at h
  ·rename_i hg
   exact run (fun s b e'=>(by rw [hg] at e';cases e')) h
  ·rename_i s want hg
   split at h
   ·rename_i b hb
    by_cases hbw : b=want
    ·subst hbw
     exact run (fun s' b' e'=>(by rw [hg] at e';cases e';exact hb)) (h.1 rfl)
    ·have hb' : b=!want:=by cases b <;> cases want <;> simp_all
     have h1:=h.2 hb'
     rw [hb'] at hb
     exact skp s want hg (.inl hb) h1
   ·rename_i hb
    exact skp s want hg (.inr hb) h
   ·exact h.elim
def aO (hs : List Nat) (ts : List fJ) (f : Nat -> D) : Fam where
 n:=ts.length
 ws i:=match ts[i]? with
  | some t=>dj t.1 t.2.1
  | none=>[]
 ks i:=match ts[i]? with
  | some t=>eA t.2.1
  | none=>[]
 rd i:=match ts[i]? with
  | some t=>t.2.2.1
  | none=>[]
 mn i:=match ts[i]? with
  | some t=>t.2.2.2.1
  | none=>[]
 fr i:=match ts[i]? with
  | some t=>t.2.2.2.2.1
  | none=>[]
 bef j i:=(hs.getD j 0).testBit i
 f0:=f
theorem lu (hs : List Nat) (t : fJ) (ts : List fJ) (f : Nat -> D) : ∀ i,(aO hs (t::ts) f).St (i + 1)=(aO hs ts (eff (dj t.1 t.2.1) (eA t.2.1) f)).St i
 | 0=>by simp [Fam.St,Fam.G,Fam.E,aO]
 | i + 1=>by
  have ih:=lu hs t ts f i
  have e1 : ∀ (A : Fam) (m : Nat),A.St (m + 1)=A.E m (A.St m):=fun A m=>by simp [Fam.St,Fam.G]
  rw [e1,ih,e1]
  simp [Fam.E,aO]
theorem pS (hs : List Nat) : ∀ (ts : List fJ) (f f' : Nat -> D),Tr C ts f f' -> f'=(aO hs ts f).St ts.length /\ ∀ (i : Nat) (t : fJ),ts[i]? = some t -> io C t.1 ((aO hs ts f).St i) t.2.1 /\ chk ((aO hs ts f).St i) t.1=true /\ wOk (f8 t.2.2) (dj t.1 t.2.1) (eA t.2.1)=true /\ t.2.2=rdN ((aO hs ts f).St i) t.1
 | [],f,f',h=>⟨h,fun i t h=>by simp at h⟩
 | (n,x,rd)::ts,f,f',h=>by
  obtain ⟨h1,h2,h3,rfl,h4⟩:=h
  obtain ⟨g1,g2⟩:=pS hs ts _ f' h4
  refine ⟨by rw [x1k,lu];exact g1,fun i t hi=>?_⟩
  cases i with
  | zero=>simp at hi;subst hi;exact ⟨h1,h2,by simpa [iw] using h3,rfl⟩
  | succ i=>rw [lu];exact g2 i t (by simpa using hi)
theorem ye {f : Nat -> D} {n : am} {x : Option (List (Nat × D) × List (Nat × Bool))} {c : Nat} (h2 : (n.dst == some c)=false) (hx : x=none \/ ∃ d ks,x=some ((match n.dst with | some t=>[(t,d)] | none=>[]),ks)) : c ∉ (dj n x).map (·.1):=by
 have h3 : n.dst ≠ some c:=by simpa using h2
 rcases hx with rfl | ⟨d,ks,rfl⟩
 ·simp only [dj]
  split
  ·rename_i t e
   rw [e] at h3
   simp only [x0G,x0X,x0O,x1n,or_false]
   exact fun e=>h3 (by rw [e])
  ·simp
 ·simp only [dj]
  split
  ·rename_i t e
   rw [e] at h3
   simp only [x0G,x0X,x0O,x1n,or_false]
   exact fun e=>h3 (by rw [e])
  ·simp
theorem CT {f : Nat -> D} {n : am} {x : Option (List (Nat × D) × List (Nat × Bool))} (h : io C n f x) (h2 : chk f n=true) {p : Nat × Nat} (hp : p ∈ frR f n) : p.1 ∉ (dj n x).map (·.1):=by
 have h3 : (n.dst == some p.1)=false:=by
  simp only [chk,x0a,x0f] at h2
  simpa using h2.1.2 p hp
 refine ye (f:=f) h3 ?_
 cases x with
 | none=>exact .inl rfl
 | some y =>
  obtain ⟨ws,ks⟩:=y
  right
  have h:=h.2
  unfold frR at hp
  split at hp
  ·rename_i q x0 heq
   rw [heq] at h
   simp only [aD] at h
   split at h
   ·obtain ⟨_,h⟩:=h
    split at h
    ·obtain ⟨r,_,d,_,h⟩:=h
     unfold cV at h
     split at h
     ·rename_i t e
      obtain ⟨rfl,rfl⟩:=h
      exact ⟨_,_,by rw [e]⟩
     ·rename_i e
      obtain ⟨rfl,rfl⟩:=h
      exact ⟨.any,_,by rw [e]⟩
    ·exact h.elim
   ·exact h.elim
  ·cases hp
theorem uI {es : List (List D)} {sz i o m : Nat} {row : List D} (h : es[i]? = some row) (ho : o < row.length) (hm : o ≠ m) : fI m (.blk sz (bg es i o 1 [.any]))=fI m (.blk sz es):=by
 simp only [fI,bg,h,x1r,x0r]
 apply List.ext_getElem?
 intro j
 rw [x0A,x0A,List.getElem?_set]
 split
 ·rename_i e
  subst e
  split
  ·rw [h]
   simp only [x1h,x0r]
   have hl : (row.take o).length=o:=by simp;omega
   rw [x1I]
   by_cases h1 : m < o
   ·rw [x0w (by omega),x0D h1]
   ·rw [x0z (by omega),hl,x0z (by simp;omega),x0v]
    congr 1;simp only [x1k,List.length_nil];omega
  ·rename_i h1
   rw [x1e (by omega)]
 ·rfl
theorem CS {f : Nat -> D} {n : am} {x : Option (List (Nat × D) × List (Nat × Bool))} (h : io C n f x) (h2 : chk f n=true) {p : Nat × Nat} (hp : p ∈ fwR f n) {m : Nat} (hm : p.2 ≠ m) : fI m (eff (dj n x) (eA x) f p.1)=fI m (f p.1):=by
 have h3 : (n.dst == some p.1)=false:=by
  simp only [chk,x0a,x0f] at h2
  simpa using h2.2 p hp
 cases x with
 | none =>
  rw [cH (fC (ye (f:=f) h3 (.inl rfl)))]
  exact ow _ _ _
 | some y =>
  obtain ⟨ws,ks⟩:=y
  have h:=h.2
  have h30 : n.dst ≠ some p.1:=by simpa using h3
  unfold fwR at hp
  split at hp
  ·rename_i q sz by_ x0 y0 heq
   rw [heq] at h
   simp only [aD] at h
   split at h
   ·rename_i t hd
    split at h
    ·rename_i c i o' k n' ex
     rw [ex] at hp
     simp only [x0O,x1n,or_false] at hp
     subst hp
     simp only at hm h30 ⊢
     obtain ⟨rfl,h⟩:=h
     obtain ⟨rows,bs,⟨h4,h5,h⟩,_⟩:=dy h
     split at h
     ·rename_i sz0 es0 hf
      obtain ⟨row0,h6,es,h7,h8,h9,h10,h11⟩:=h
      subst h10 h11
      have e1 : (c == t)=false:=by simp only [beq_eq_false_iff_ne,ne_eq];exact fun e=>h30 (by rw [hd,e])
      have e2 : (c == rt t 0)=false:=by simpa using h5
      simp only [dj]
      rw [aN (d:=.blk sz0 (bg es0 i o' 1 [.any])) (by simp [x0m,e1,e2]),hf]
      exact uI h6 (x0b.1 h7).1 hm
     ·exact h.elim
    ·exact h.elim
   ·exact h.elim
  ·cases hp
theorem CP {hs : List Nat} {ts : List fJ} {f f' : Nat -> D} (h : Tr C ts f f') (hi : kz hs (ts.map fun t=>(f8 t.2.2,wrK (dj t.1 t.2.1) (eA t.2.1)))=true) : (aO hs ts f).Ok:=by
 obtain ⟨_,hs'⟩:=pS hs ts f f' h
 have get : ∀ i,i < ts.length -> ∃ t,ts[i]? = some t:=fun i hi=>⟨_,x0e hi⟩
 have e4 : ∀ {x : Rds} {z : Nat},z ∈ f8 x -> (∃ k ∈ x.1,z=4 * k) \/ (∃ k ∈ x.2.1,z=4 * k + 1) \/ (∃ p ∈ x.2.2.1,z=4 * (64 * p.1 + p.2 % 64) + 2) \/ ∃ p ∈ x.2.2.2,z=4 * (64 * p.1 + p.2 % 64) + 3:=by
  intro x z hz
  simp only [f8,x0j,x0t] at hz
  rcases hz with ((⟨k,h1,h2⟩ | ⟨k,h1,h2⟩) | ⟨p,h1,h2⟩) | ⟨p,h1,h2⟩
  ·exact .inl ⟨k,h1,h2.symm⟩
  ·exact .inr (.inl ⟨k,h1,h2.symm⟩)
  ·exact .inr (.inr (.inl ⟨p,h1,h2.symm⟩))
  ·exact .inr (.inr (.inr ⟨p,h1,h2.symm⟩))
 have e1 : ∀ {x : Rds} {k : Nat},k ∈ x.1 -> 4 * k ∈ f8 x:=fun {x k} hk=>by
  simp only [f8,x0j,x0t];exact .inl (.inl (.inl ⟨k,hk,rfl⟩))
 have e2 : ∀ {x : Rds} {k : Nat},k ∈ x.2.1 -> 4 * k + 1 ∈ f8 x:=fun {x k} hk=>by
  simp only [f8,x0j,x0t];exact .inl (.inl (.inr ⟨k,hk,rfl⟩))
 have e3 : ∀ {x : Rds} {p : Nat × Nat},p ∈ x.2.2.1 -> 4 * (64 * p.1 + p.2 % 64) + 2 ∈ f8 x:=fun {x p} hk=>by
  simp only [f8,x0j,x0t];exact .inl (.inr ⟨p,hk,rfl⟩)
 refine ⟨fun i hn k hk=>?_,fun i hn p hp b all hb=>?_,fun i hn k hk b all hb=>?_,fun i hn p hp hk=>?_,fun i hn k hk=>?_,fun i j hij hn=>?_⟩
 ·obtain ⟨t,ht⟩:=get i hn
  obtain ⟨_,_,h3,_⟩:=hs' i t ht
  simp only [aO,ht] at hk
  simp only [Fam.W,aO,ht]
  simp only [wOk,x0a,x0f] at h3
  exact x0F.1 (h3.1 k hk)
 ·obtain ⟨t,ht⟩:=get i hn
  obtain ⟨_,_,h3,_⟩:=hs' i t ht
  simp only [aO,ht] at hp
  simp only [Fam.W,aO,ht]
  simp only [wOk,x0a,x0f,x0K] at h3
  rcases h3.2 p hp b (jL hb) with h4 | h4
  ·left
   have h5:=x0F.1 h4
   rcases e4 h5 with ⟨x,_,h6⟩ | ⟨x,h7,h6⟩ | ⟨x,_,h6⟩ | ⟨x,_,h6⟩
   ·omega
   ·have : x=b:=by omega
    subst this;exact h7
   ·omega
   ·omega
  ·exact .inr (x0F.1 h4)
 ·obtain ⟨t,ht⟩:=get i hn
  obtain ⟨h1,h2,_,h4⟩:=hs' i t ht
  simp only [aO,ht] at hk ⊢
  rw [h4] at hk ⊢
  simp only [chk,x0a,x0f] at h2
  rcases x0j.1 hk with h5 | h5
  ·simp only [rdS] at h5
   rcases x0j.1 h5 with h6 | h6
   ·obtain ⟨x,h7,h8⟩:=List.mem_flatMap.1 h6
    cases x with
    | t s =>
     simp only [iH,x0Q] at h8
     subst h8
     refine List.mem_flatMap.2 ⟨_,h7,?_⟩
     exact jL hb
    | c d=>simp [iH] at h8
   ·-- the guard's slot
    have : (∃ bb,(aO hs ts f).St i k=.bool bb) \/ (aO hs ts f).St i k=.tup []:=by
     cases hg : t.1.guard with
     | none=>rw [hg] at h6;simp [qk] at h6
     | some q =>
      obtain ⟨s,want⟩:=q
      rw [hg] at h6
      simp only [qk,x0Q] at h6
      subst h6
      unfold io at h1
      split at h1
      ·exact .inl ⟨want,h1.1 k want hg⟩
      ·obtain ⟨s',b',h7,h8⟩:=h1
       rw [hg] at h7;cases h7
       exact h8.imp (fun h8=>⟨_,h8⟩) id
    simp only [aO] at this hb
    rcases this with ⟨bb,hbb⟩ | hbb <;> rw [hbb] at hb <;> simp [da,aI] at hb
  ·have h6:=h2.1.1.2 k h5
   simp only [aO] at h6 hb
   have h7 : ∀ d : D,isB d=true -> da b all d=false:=fun d hd=>by cases d <;> first | rfl | (simp [isB] at hd)
   rw [h7 _ h6] at hb;cases hb
 ·-- what reads a column writes its slot alone
  obtain ⟨t,ht⟩:=get i hn
  obtain ⟨h1,h2,h3,h4⟩:=hs' i t ht
  simp only [aO,ht] at hp
  simp only [Fam.W,aO,ht] at hk
  rw [h4] at hp
  simp only [rdN] at hp
  exact CT h1 h2 hp hk
 ·obtain ⟨t,ht⟩:=get i hn
  obtain ⟨h1,h2,_,h4⟩:=hs' i t ht
  simp only [aO,ht] at hk ⊢
  rw [h4] at hk
  simp only [chk,x0a,x0f] at h2
  rcases x0j.1 hk with h5 | h5
  ·have:=h2.1.1.1 k h5
   intro e
   simp only [aO] at this
   rw [e] at this
   simp [cE] at this
  ·have:=h2.1.1.2 k h5
   intro e
   simp only [aO] at this
   rw [e] at this
   simp [isB] at this
 ·obtain ⟨t,ht⟩:=get i (Nat.lt_trans hij hn)
  obtain ⟨u,hu⟩:=get j hn
  simp only [kz,x0f] at hi
  have h1:=hi ((f8 t.2.2,wrK (dj t.1 t.2.1) (eA t.2.1)),i) (List.mem_zipIdx_iff_getElem?.2 (by simp [ht])) ((f8 u.2.2,wrK (dj u.1 u.2.1) (eA u.2.1)),j) (List.mem_zipIdx_iff_getElem?.2 (by simp [hu]))
  simp only [x0K,x0q,x0E,x0a] at h1
  rcases h1 with (h1 | h1) | h1
  ·exact absurd hij h1
  ·exact .inl h1
  ·right
   simp only [rI,x0f,x0a,x0q] at h1
   have nm : ∀ {l : List Nat} {k : Nat},l.contains k=false -> k ∉ l:=fun h hm=>by
    have:=x0F.2 hm
    rw [h] at this;cases this
   have one : ∀ (a b : fJ) (x y : Nat),ts[x]? = some a -> ts[y]? = some b -> (∀ k ∈ wrK (dj a.1 a.2.1) (eA a.2.1),((f8 b.2.2).contains k=false /\ (wrK (dj b.1 b.2.1) (eA b.2.1)).contains k=false) /\ ∀ q ∈ f8 b.2.2,(!(decide (q % 4=2) && decide (k=4 * (q / 256))) || wd q (f8 a.2.2))=true) -> (aO hs ts f).Apart x y:=by
    intro a b x y ha hb hab
    refine ⟨fun k hk=>?_,fun k hk hm=>?_⟩
    ·have hk0:=hk
     simp only [Fam.W,aO,ha] at hk
     obtain ⟨p,hp,rfl⟩:=x0t.1 hk
     obtain ⟨⟨h2,h3⟩,h4⟩:=hab (4 * p.1) (x0j.2 (.inl (x0t.2 ⟨p,hp,rfl⟩)))
     refine ⟨fun hr=>nm h2 (e1 (by simp only [aO,hb] at hr;exact hr)),fun hw=>nm h3 (x0j.2 (.inl ?_)),fun m hm=>?_⟩
     ·simp only [Fam.W,aO,hb] at hw
      obtain ⟨q,hq,e⟩:=x0t.1 hw
      exact x0t.2 ⟨q,hq,by rw [e]⟩
     ·simp only [aO,hb] at hm
      have h5:=h4 _ (e3 hm)
      have h6 : (4 * (64 * p.1 + m % 64) + 2) % 4=2:=by omega
      have h7 : (4 * (64 * p.1 + m % 64) + 2) / 256=p.1:=by omega
      have h8 : (4 * (64 * p.1 + m % 64) + 2) / 4 % 64=m % 64:=by omega
      simp only [h6,h7,decide_true,Bool.and_self,Bool.not_true,Bool.false_or,wd,h8,x0H,x0a,x0c,x0q,x0E] at h5
      obtain ⟨z,hz,⟨hz3,hzc⟩,hzo⟩:=h5
      obtain ⟨g1,g2,_,g4⟩:=hs' x a ha
      rcases e4 hz with ⟨_,_,h9⟩ | ⟨_,_,h9⟩ | ⟨_,_,h9⟩ | ⟨p',hp',h9⟩
      ·omega
      ·omega
      ·omega
      ·have e5 : p'.1=p.1:=by omega
       have e6 : p'.2 % 64 ≠ m % 64:=fun e=>hzo (by omega)
       rw [g4] at hp'
       simp only [rdN] at hp'
       have:=CS g1 g2 hp' (m:=m) (fun e=>e6 (by rw [e]))
       unfold Fam.Pres
       rw [j6]
       unfold Fam.E
       simp only [aO,ha] at this ⊢
       rw [e5] at this
       exact this
    ·simp only [aO,ha] at hk
     obtain ⟨⟨h2,_⟩,_⟩:=hab (4 * k.1 + 1) (x0j.2 (.inr (x0t.2 ⟨k,hk,rfl⟩)))
     refine nm h2 (e2 ?_)
     simp only [aO,hb] at hm;exact hm
   exact ⟨one t u i j ht hu h1.1,one u t j i hu ht h1.2⟩
end
def uH (ops : Array Oper) (H : Array Nat) (j : Nat) : Nat:=match ops[j]? with
 | some o=>o.after.toList.foldl (fun s e=>if Region.binds .any e then s ||| 2 ^ e.on ||| H.getD e.on 0 else s) 0
 | none=>0
def tj (ops : Array Oper) (j : Nat) : Bool:=match ops[j]? with
 | some o=>o.after.toList.all fun e=>!Region.binds .any e || decide (e.on < j)
 | none=>true
theorem m4 (H : Array Nat) (i : Nat) : ∀ (l : List Edge) (s : Nat),(l.foldl (fun s e=>if Region.binds .any e then s ||| 2 ^ e.on ||| H.getD e.on 0 else s) s).testBit i=true ->
  s.testBit i=true \/ ∃ e ∈ l,Region.binds .any e=true /\ (i=e.on \/ (H.getD e.on 0).testBit i=true)
 | [],s,h=>.inl h
 | e::l,s,h=>by
  simp only [List.foldl_cons] at h
  rcases m4 H i l _ h with h1 | ⟨e',h1,h2⟩
  ·split at h1
   ·rename_i hb
    simp only [Nat.testBit_or,x0K,Nat.testBit_two_pow,x0c] at h1
    rcases h1 with (h1 | h1) | h1
    ·exact .inl h1
    ·exact .inr ⟨e,by simp,hb,.inl h1.symm⟩
    ·exact .inr ⟨e,by simp,hb,.inr h1⟩
   ·exact .inl h1
  ·exact .inr ⟨e',by simp [h1],h2⟩
theorem A3 {ops : Array Oper} {H : Array Nat} {j i : Nat} (h : (uH ops H j).testBit i=true) : ∃ o,ops[j]? = some o /\ ∃ e ∈ o.after.toList,Region.binds .any e=true /\ (i=e.on \/ (H.getD e.on 0).testBit i=true):=by
 unfold uH at h
 split at h
 ·rename_i o ho
  rcases m4 H i _ 0 h with h1 | h1
  ·simp at h1
  ·exact ⟨o,ho,h1⟩
 ·simp at h
def rQ (hs : List Nat) (ops : Array Oper) : Bool:=(List.range ops.size).all fun j=>hs.getD j 0 == uH ops hs.toArray j && tj ops j
def left (n : Nat) (l : Nat -> Bool) : Nat:=((List.range n).filter fun i=>!l i).length
theorem oB {p q : Nat -> Bool} {j : Nat} (hpq : ∀ i,q i=true -> p i=true) (hp : p j=true) (hq : q j=false) : ∀ (l : List Nat),j ∈ l -> (l.filter q).length < (l.filter p).length
 | [],h=>by simp at h
 | i::l,h=>by
  have hle : (l.filter q).length <= (l.filter p).length:=by
   clear h
   induction l with
   | nil=>simp
   | cons x l ih =>
    simp only [List.filter_cons]
    cases hqx : q x with
    | true=>simp [hpq x hqx,ih]
    | false=>cases p x <;> simp <;> omega
  by_cases hij : i=j
  ·subst hij
   simp [hp,hq]
   omega
  ·have:=oB hpq hp hq l (by simpa [Ne.symm hij] using h)
   simp only [List.filter_cons]
   cases hqx : q i with
   | true=>simp [hpq i hqx,this]
   | false=>cases p i <;> simp <;> omega
section
variable {P : Program} {F : Fid} {C : Nat -> List D -> D -> List D -> Prop} {nt : Nat} {S : Nat -> Prop} {L : Nat -> Option Loc} {w0 : World} {M0 : Mem} {f : Nat -> D} {M : Mem} {a : Act} {w : World} {Q : Exit -> Act -> World -> Prop}
def lst (listed : Array Bool) : Nat -> Bool:=fun i=>listed.getD i true
theorem jK {ops : Array Oper} {listed : Array Bool} {i : Nat} : i ∈ Region.ready .any ops listed ↔ i < ops.size /\ lst listed i=false /\ ∃ o,ops[i]? = some o /\ ∀ e ∈ o.after,Region.binds .any e=true -> listed.getD e.on false=true:=by
 simp only [Region.ready,List.mem_filter,x1o,x0a,x0q,lst]
 constructor
 ·rintro ⟨h1,h2,h3⟩
  refine ⟨h1,h2,ops[i],x1c h1,fun e he hb=>?_⟩
  rw [x1c h1] at h3
  simp only [x1h,x1r,Array.all_eq_true_iff_forall_mem,x0K,x0q] at h3
  rcases h3 e he with h4 | h4
  ·rw [hb] at h4;cases h4
  ·exact h4
 ·rintro ⟨h1,h2,o,h3,h4⟩
  refine ⟨h1,h2,?_⟩
  rw [h3]
  simp only [x1h,x1r,Array.all_eq_true_iff_forall_mem,x0K,x0q]
  intro e he
  cases hb : Region.binds .any e with
  | false=>exact .inl rfl
  | true=>exact .inr (h4 e he hb)
theorem wJ (hs : List Nat) (j : Nat) : hs.toArray.getD j 0=hs.getD j 0:=by
 simp [x1j,List.getD_eq_getElem?_getD]
theorem vf {f g : Nat -> D} {n : am} {dst : Option Nat} {K : List (Nat × D) -> List (Nat × Bool) -> Prop} (hv : ∀ x ∈ ah n.op,vd g x=vd f x) (hr : ∀ b ∈ rdR f n,g b=f b) (hc : ∀ p ∈ frR f n,fI p.2 (g p.1)=fI p.2 (f p.1)) (h : aD C f dst K n.op) : aD C g dst K n.op:=by
 obtain ⟨d0,o,g0⟩:=n
 simp only at hv h ⊢
 have full : (∀ x ∈ ah o,x ∈ DK o) -> aD C g dst K o:=fun hN=>sL hv (fun x hx b hb=>hr b (x0j.2 (.inl (List.mem_flatMap.2 ⟨x,hN x hx,jL hb⟩)))) h
 cases o with
 | mov x=>simp only [aD,res,hv x (by simp [ah])] at h ⊢;exact h
 | nck x=>simp only [aD,res,hv x (by simp [ah])] at h ⊢;exact h
 | un op x=>simp only [aD,res,hv x (by simp [ah])] at h ⊢;exact h
 | conv k x=>simp only [aD,res,hv x (by simp [ah])] at h ⊢;exact h
 | ext i x=>simp only [aD,res,hv x (by simp [ah])] at h ⊢;exact h
 | fad i x=>simp only [aD,res,hv x (by simp [ah])] at h ⊢;exact h
 | boxF x=>simp only [aD,res,hv x (by simp [ah])] at h ⊢;exact h
 | blsF sz len zs ps =>
  have e : ∀ p ∈ ps,vd g p.2=vd f p.2:=fun p hp=>hv _ (x0t.2 ⟨p,hp,rfl⟩)
  simp only [aD,res] at h ⊢
  rw [iy e]
  exact ⟨fun p hp=>by rw [e p hp];exact h.1 p hp,h.2⟩
 | blsX sz len zs ps =>
  have e : ∀ p ∈ ps,vd g p.2=vd f p.2:=fun p hp=>hv _ (x0t.2 ⟨p,hp,rfl⟩)
  simp only [aD,res] at h ⊢
  rw [ke e]
  exact ⟨h.1,fun p hp=>by rw [e p hp];exact h.2.1 p hp,h.2.2⟩
 | len x=>simp only [aD,res,hv x (by simp [ah])] at h ⊢;exact h
 | pick c x y=>simp only [aD,res,hv c (by simp [ah]),hv x (by simp [ah]),hv y (by simp [ah])] at h ⊢;exact h
 | bin op x y=>simp only [aD,res,hv x (by simp [ah]),hv y (by simp [ah])] at h ⊢;exact h
 | iadA l s x i=>simp only [aD,res,hv x (by simp [ah]),hv i (by simp [ah])] at h ⊢;exact h
 | bld zs ps =>
  have e : ∀ p ∈ ps,vd g p.2.2=vd f p.2.2:=fun p hp=>hv _ (x0t.2 ⟨p,hp,rfl⟩)
  simp only [aD,res] at h ⊢
  obtain ⟨h1,h2,h3⟩:=h
  have e2 : (ps.all fun p=>isV (vd g p.2.2))=(ps.all fun p=>isV (vd f p.2.2)):=by
   rw [x0x,x0f,x0f]
   exact ⟨fun h p hp=>by rw [<- e p hp];exact h p hp,fun h p hp=>by rw [e p hp];exact h p hp⟩
  have m1 : (ps.map fun p=>(p.1,p.2.1,vd g p.2.2))=ps.map fun p=>(p.1,p.2.1,vd f p.2.2):=x0i fun p hp=>by rw [e p hp]
  have m2 : (ps.map fun p=>(p.1,p.2.1,bS (vd g p.2.2)))=ps.map fun p=>(p.1,p.2.1,bS (vd f p.2.2)):=x0i fun p hp=>by rw [e p hp]
  rw [e2,m1,m2]
  exact ⟨fun p hp=>by rw [e p hp];exact h1 p hp,h2,h3⟩
 | mk k xs =>
  have e : ∀ x ∈ xs,vd g x=vd f x:=fun x hx=>hv x hx
  simp only [aD,res] at h ⊢
  obtain ⟨h1,h2,h3⟩:=h
  have e2 : (xs.all fun x=>isV (vd g x))=(xs.all fun x=>isV (vd f x)):=by
   rw [x0x,x0f,x0f]
   exact ⟨fun h p hp=>by rw [<- e p hp];exact h p hp,fun h p hp=>by rw [e p hp];exact h p hp⟩
  rw [e2,x0i e]
  exact ⟨fun p hp=>by rw [e p hp];exact h1 p hp,h2,h3⟩
 | ldQ q x =>
  have e:=hv x (by simp [ah])
  simp only [aD,e] at h ⊢
  split at h
  ·rename_i c i off ex
   obtain ⟨rfl,h⟩:=h
   split at h
   ·rename_i sz es hf
    obtain ⟨r,h1,d,h2,h3⟩:=h
    have h4:=hc (c,off) (by simp [frR,ex])
    simp only [hf,fI] at h4
    refine ⟨rfl,?_⟩
    split at h4
    ·rename_i sz' es' hg
     simp only [x0r] at h4
     have h5:=congrArg (fun l=>l[i]?) h4
     simp only [x0A,h1,x1h] at h5
     rw [x0n] at h5
     obtain ⟨r',h6,h7⟩:=h5
     simp only [hg]
     exact ⟨r',h6,d,by rw [h7];exact h2,h3⟩
    ·cases h4
   ·exact h.elim
  ·exact h.elim
 | ld n ag x =>
  have e:=hv x (by simp [ah])
  simp only [aD,res,e] at h ⊢
  split at h
  ·rename_i p i off ex
   rw [cO (p:=p) (hr _ (x0j.2 (.inr (List.mem_flatMap.2 ⟨x,by simp [ldN],by rw [ex];simp [aH]⟩))))]
   exact h
  ·exact h
  ·exact h
  ·exact h
 | _=>exact full (fun x hx=>hx)
theorem ur (hC : bL P F C) (hL : NoL L) {hs : List Nat} {ops : Array Oper} {ts : List fJ} {f' : Nat -> D} (htr : Tr C ts f f') (hok : (aO hs ts f).Ok) (hlen : ts.length=ops.size) (hb : ∀ j,j < ops.size -> hs.getD j 0=uH ops hs.toArray j) (hed : ∀ (j : Nat) (o : Oper),ops[j]? = some o -> ∀ e ∈ o.after,Region.binds .any e=true -> e.on < j)
  (hk : ∀ (j : Nat) (t : fJ) (o : Oper),ts[j]? = some t -> ops[j]? = some o -> qL P F nt ops t.1 o=true)
  (hQ : ∀ M a w,SR F nt S L w0 M0 f' M a w -> Q .normal a w) : ∀ (fuel : Nat) (listed : Array Bool) (M : Mem) (a : Act) (w : World),listed.size=ops.size -> left ops.size (lst listed) <= fuel ->
   (∀ j,j < ops.size -> lst listed j=true -> ∀ i,(hs.getD j 0).testBit i=true -> i < ops.size /\ lst listed i=true) -> SR F nt S L w0 M0 ((aO hs ts f).G (lst listed) ts.length) M a w -> wpAny P .any ops Q fuel listed a w:=by
 obtain ⟨hf',hsp⟩:=pS hs ts f f' htr
 have hall : ∀ (listed : Array Bool),(∀ i,i < ops.size -> lst listed i=true) -> (aO hs ts f).G (lst listed) ts.length=f':=by
  intro listed h
  rw [hf']
  unfold Fam.St
  have : ∀ m,m <= ts.length -> (aO hs ts f).G (lst listed) m=(aO hs ts f).G (fun _=>true) m:=by
   intro m
   induction m with
   | zero=>intro _;rfl
   | succ m ih =>
    intro hm
    simp only [Fam.G]
    rw [h m (by omega),ih (by omega)]
    rfl
  exact this _ (x0k _)
 intro fuel
 induction fuel with
 | zero =>
  intro listed M a w hs' hf hcl h
  have hal : ∀ i,i < ops.size -> lst listed i=true:=by
   intro i hi
   cases hl : lst listed i with
   | true=>rfl
   | false =>
    have : i ∈ (List.range ops.size).filter fun i=>!lst listed i:=by simp [hi,hl]
    have:=List.length_pos_of_mem this
    unfold left at hf
    omega
  refine ⟨?_,hQ M a w (by rw [<- hall listed hal];exact h)⟩
  rw [List.eq_nil_iff_forall_not_mem]
  intro i hi
  obtain ⟨h1,h2,_⟩:=jK.1 hi
  rw [hal i h1] at h2
  cases h2
 | succ fuel ih =>
  intro listed M a w hs' hf hcl h
  refine ⟨fun hr=>hQ M a w ?_,fun j hj=>?_⟩
  ·have hal : ∀ i,i < ops.size -> lst listed i=true:=by
    intro i
    induction i using Nat.strongRecOn with
    | _ i ihi =>
     intro hi
     cases hl : lst listed i with
     | true=>rfl
     | false =>
      have : i ∈ Region.ready .any ops listed:=jK.2 ⟨hi,hl,ops[i],x1c hi,fun e he hb=>by
       have h1:=hed i _ (x1c hi) e he hb
       have h2:=ihi e.on h1 (by omega)
       unfold lst at h2
       rw [x1j] at h2 ⊢
       rw [x1c (by omega)] at h2 ⊢
       simpa using h2⟩
      rw [hr] at this
      cases this
   rw [<- hall listed hal]
   exact h
  ·obtain ⟨h1,h2,o,h3,h4⟩:=jK.1 hj
   obtain ⟨t,ht⟩ : ∃ t,ts[j]? = some t:=⟨ts[j]'(by omega),x0e (by omega)⟩
   have hanc : ∀ i,(hs.getD j 0).testBit i=true -> i < ops.size /\ lst listed i=true:=by
    intro i hi
    rw [hb j h1] at hi
    obtain ⟨o',ho',e,he,hbd,h5⟩:=A3 hi
    rw [h3] at ho'
    cases ho'
    have h6:=hed j o h3 e (by simpa using he) hbd
    have h7:=h4 e (by simpa using he) hbd
    have h8 : lst listed e.on=true:=by
     unfold lst
     rw [x1j] at h7 ⊢
     rw [x1c (by omega)] at h7 ⊢
     simpa using h7
    rcases h5 with rfl | h5
    ·exact ⟨by omega,h8⟩
    ·rw [wJ] at h5
     exact hcl e.on (by omega) h8 i h5
   have hshut : vR (aO hs ts f) (lst listed):=fun j' hj' hl' i _ hbf=>(hcl j' (by simpa [aO,hlen] using hj') hl' i hbf).2
   have hjn : j < (aO hs ts f).n:=by simp only [aO];omega
   have hreads:=hok.reads hshut hjn h2 (fun i _ hbf=>(hanc i hbf).2)
   have hcols:=hok.readsC hshut hjn h2 (fun i _ hbf=>(hanc i hbf).2)
   obtain ⟨g1,g2,g3,g4⟩:=hsp j t ht
   have hrd : (aO hs ts f).rd j=t.2.2.1:=by simp [aO,ht]
   have hn : (aO hs ts f).n=ts.length:=rfl
   rw [hrd,hn,g4] at hreads
   have hfr : (aO hs ts f).fr j=frR ((aO hs ts f).St j) t.1:=by
    have : (aO hs ts f).fr j=t.2.2.2.2.1:=by simp [aO,ht]
    rw [this,g4];rfl
   rw [hfr,hn] at hcols
   have hstep : io C t.1 ((aO hs ts f).G (lst listed) ts.length) t.2.1:=by
    have hv : ∀ x ∈ ah t.1.op,vd ((aO hs ts f).G (lst listed) ts.length) x=vd ((aO hs ts f).St j) x:=fun x hx=>by
     cases x with
     | t s=>exact hreads s (x0j.2 (.inl (x0j.2 (.inl (List.mem_flatMap.2 ⟨_,hx,by simp [iH]⟩)))))
     | c d=>rfl
    have ha : ∀ b ∈ rdR ((aO hs ts f).St j) t.1,(aO hs ts f).G (lst listed) ts.length b=(aO hs ts f).St j b:=fun b hb=>hreads b (x0j.2 (.inr hb))
    have hg : ∀ s b,t.1.guard=some (s,b) -> (aO hs ts f).G (lst listed) ts.length s=(aO hs ts f).St j s:=fun s b e =>
     hreads s (x0j.2 (.inl (x0j.2 (.inr (by rw [e];simp [qk])))))
    unfold io at g1 ⊢
    split at g1
    ·exact ⟨fun s b e=>by rw [hg s b e];exact g1.1 s b e,vf hv ha hcols g1.2⟩
    ·obtain ⟨s,b,e1,e2⟩:=g1
     exact ⟨s,b,e1,by rw [hg s b e1];exact e2⟩
   have hlst : ∀ i,lst (listed.setIfInBounds j true) i=(if i=j then true else lst listed i):=by
    intro i
    unfold lst
    rw [x1j,x1j,Array.getElem?_setIfInBounds]
    by_cases hij : i=j
    ·subst hij;simp [show i < listed.size from by omega]
    ·simp [hij,Ne.symm hij]
   have hlst' : ∀ i,i ≠ j -> lst (listed.setIfInBounds j true) i=lst listed i:=fun i hi=>by rw [hlst,if_neg hi]
   have hlstj : lst (listed.setIfInBounds j true) j=true:=by rw [hlst,if_pos rfl]
   have hmore : (aO hs ts f).G (lst (listed.setIfInBounds j true)) ts.length=og t.1 t.2.1 ((aO hs ts f).G (lst listed) ts.length):=by
    rw [yU]
    have:=hok.more hshut hjn h2 hlstj hlst'
    rw [hn] at this
    rw [this]
    simp [Fam.E,aO,ht]
   have hfin : ∀ M' a' w',SR F nt S L w0 M0 (og t.1 t.2.1 ((aO hs ts f).G (lst listed) ts.length)) M' a' w' -> wpAny P .any ops Q fuel (listed.setIfInBounds j true) a' w':=by
    intro M' a' w' h'
    refine ih _ M' a' w' (by simpa using hs') ?_ (fun j' hj' hl' i hi=>?_) (by rw [hmore];exact h')
    ·have : left ops.size (lst (listed.setIfInBounds j true)) < left ops.size (lst listed):=by
      refine oB (j:=j) (fun i hi=>?_) (by simp [h2]) (by simp [hlstj]) _ (by simpa using h1)
      by_cases hij : i=j
      ·subst hij;simp [h2]
      ·rw [hlst' i hij] at hi;exact hi
     omega
    ·by_cases hjj : j'=j
     ·subst hjj
      obtain ⟨q1,q2⟩:=hanc i hi
      refine ⟨q1,?_⟩
      rw [hlst];split
      ·rfl
      ·exact q2
     ·rw [hlst' j' hjj] at hl'
      obtain ⟨q1,q2⟩:=hcl j' hj' hl' i hi
      refine ⟨q1,?_⟩
      rw [hlst];split
      ·rfl
      ·exact q2
   have:=Cb hC hL (hk j t o ht h3) h hstep (R:=wpAny P .any ops Q fuel (listed.setIfInBounds j true)) hfin (Q:=Q)
   unfold wpOp
   rw [h3]
   exact this
theorem qW (hC : bL P F C) (hL : NoL L) (hm : P.follows .mixedOrders=true) {hs : List Nat} {ops : Array Oper} {ns : List am} (hk : qV P F nt ns ops=true) (hdr : rQ hs ops=true) {id : Nat} {K : Env -> Prop} {e : Env} (h : SR F nt S L w0 M0 (ae e) M a w) (hr : jw C hs K ns e [])
  (hQ : ∀ e M a w,SR F nt S L w0 M0 (ae e) M a w -> K e -> Q .normal a w) : (Code.region id ops true).wp P Q a w:=by
 simp only [qV,x0a,x0o,x0f] at hk
 obtain ⟨ts,e',g1,g2,g3,g4⟩:=Ce ns e [] hr
 have hlen : ts.length=ops.size:=by
  have : ts.length=ns.length:=by rw [<- g1];simp
  rw [this];simpa using hk.1
 have hok:=CP g2 (by simpa using g3)
 simp only [rQ,x0f,x1o,x0a,x0o] at hdr
 refine wp_region_any hm (ur hC hL (hs:=hs) g2 hok hlen (fun j hj=>(hdr j hj).1) (fun j o ho e he hb=>?_) (fun j t o ht ho=>?_) (fun M a w hs=>hQ e' M a w hs g4) _ _ M a _ (by simp) ?_ ?_ ?_)
 ·obtain ⟨hj,_⟩:=Array.getElem?_eq_some_iff.1 ho
  have:=(hdr j hj).2
  simp only [tj,ho,x0f,x0K,x0q,x0c] at this
  rcases this e (by simpa using he) with h5 | h5
  ·rw [hb] at h5;cases h5
  ·exact h5
 ·refine hk.2 (t.1,o) ?_
  rw [x1f]
  refine ⟨j,?_⟩
  rw [x1p]
  refine ⟨?_,by simpa using ho⟩
  rw [<- g1]
  simp [ht]
 ·have:=x02 (fun i=>!lst (Array.replicate ops.size false) i) (List.range ops.size)
  simpa [left] using this
 ·intro j hj hl
  simp [lst,hj] at hl
 ·have h0 : ∀ m,m <= ts.length -> (aO hs ts (ae e)).G (lst (Array.replicate ops.size false)) m=ae e:=by
   intro m
   induction m with
   | zero=>intro _;rfl
   | succ m ih =>
    intro hm
    simp only [Fam.G]
    rw [ih (by omega)]
    have : lst (Array.replicate ops.size false) m=false:=by simp [lst,show m < ops.size from by omega]
    rw [this];rfl
  rw [h0 _ (x0k _)]
  exact h.grow (Bel.drew _)
end
end Go.Gv
