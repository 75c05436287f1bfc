/-
  Texts of the proof: GvF16, GvF17, GvG, GvH, GvI0, GvI.
-/
import Derived.Test.YtelkdhkalifeiaaDoorX3
import Derived.Orders
set_option linter.all false
namespace Go.Gv
open Go.RowKit
section
variable {P : Program} {F : Fid} {C : Nat -> List D -> D -> List D -> Prop} {nt : Nat} {S : Nat -> Prop} {L : Nat -> Option Loc} {w0 : World} {M0 : Mem} {f : Nat -> D} {M M' : Mem} {a : Act} {w w' : World} {o : Oper} {d : D} {Q : Exit -> Act -> World -> Prop} {ρ ρ' : Pa -> Loc} {ω ω' : Nat -> Option Pa} {New : Nat -> Prop} {K : List (Nat × D) -> List (Nat × Bool) -> Prop}
theorem Own.know (h : Own F L New f M a w ρ ω) {s : Nat} (hs : s < 10000) {v : Value} (hv : a.tmps[s]? = some v) (r : aV F M ρ d v) (hB : isB d=false) : Own F L New (eff [(s,d)] [] f) M a w ρ ω:=by
 have key : ∀ t,t ≠ s -> eff [(s,d)] [] f t=f t:=fun t ht=>by
  have e1 : (t == s)=false:=by simpa using ht
  simp [eff,List.lookup_cons,e1,aw]
 refine h.step (ks:=[]) (fun p hp=>absurd rfl hp) (Mem.le_refl _) (Nat.le_refl _) (fun t ht=>?_) (fun c hc=>.inl (.inr ⟨key c (by omega),fun p _=>⟨rfl,fun e=>⟨e,rfl⟩⟩⟩)) (fun k p e=>.inl ⟨p,e⟩) h.apart (fun c l hc hl hB'=>⟨rfl,?_⟩)
 ·by_cases e : t=s
  ·subst e
   exact .inr (.inr ⟨v,hv,by rw [aA (d:=d) (by simp)];exact r⟩)
  ·exact .inl (.inr ⟨key t e,rfl,rfl⟩)
 ·rw [key c (by omega)] at hB';exact hB'
theorem SR.know (h : SR F nt S L w0 M0 f M a w) {s : Nat} (ho : Own F L (fun k=>S k \/ w0.heap.size <= k) (eff [(s,d)] [] f) M a w ρ ω) : SR F nt S L w0 M0 (eff [(s,d)] [] f) M a w :=
 ⟨h.hnt,h.size,h.defers,h.ch,h.holds,h.ext,h.fresh,ρ,ω,ho⟩
theorem SR.same {g : Nat -> D} (h : SR F nt S L w0 M0 f M a w) (e : g=f) : SR F nt S L w0 M0 g M a w:=by rw [e];exact h
theorem nJ {p : Addr} : ∀ {vs us : List Value},bM M p vs -> bM M p us -> vs.length=us.length -> vs=us:=by
 intro vs us h1 h2 hl
 apply List.ext_getElem hl
 intro i k1 k2
 have e1:=h1 i _ (List.getElem?_eq_getElem k1)
 have e2:=h2 i _ (List.getElem?_eq_getElem k2)
 rw [e1] at e2
 exact Option.some.inj e2
theorem tN (h : SR F nt S L w0 M0 f M a w) {t : Nat} (hd : o.dst=some t) (ht : t < nt) (hL : L (rt t 0)=none) {s : Nat} {x : Opd} {x' : Operand} {T : TypeId} (ho : o.op=.box T x') (hx : ae F x x'=true)
  (hr : aq C f (some t) K (.boxK s x)) : o.wp P a w (PostX F nt S L w0 M0 f K) Q:=by
 simp only [aq] at hr
 obtain ⟨hs,hst,hr⟩:=hr
 split at hr
 ·rename_i c k n ex
  obtain ⟨rfl,hcb,hr⟩:=hr
  split at hr
  ·rename_i sz es hf
   obtain ⟨hsz,hn,hc1,hr⟩:=hr
   split at hr
   ·rename_i ds hfs
    obtain ⟨hment,hK⟩:=hr
    obtain ⟨ρ,ω,hO⟩:=h.own
    have hc:=hO.big hf
    have hb:=rt_big t 0
    obtain ⟨us,hval,hus⟩ : ∃ us : List Value,a.eval x'=.agg us.toArray /\ b6 F M ρ [.nils,.ref (.r c) 0 n] us:=by
     have:=hO.opd hx
     rw [ex] at this
     exact this
    obtain ⟨u0,u1,rfl⟩ : ∃ u0 u1,us=[u0,u1]:=by
     have:=hus.1
     match us,this with
     | [u0,u1],_=>exact ⟨u0,u1,rfl⟩
    have hu0 : u0=.slice none 0 0:=by
     have:=hus.2 0 _ _ rfl rfl
     simpa only [al,ab] using this
    have hu1 : ∀ ρ ω,Own F L (fun k=>S k \/ w0.heap.size <= k) f M a w ρ ω -> al F M ρ (.ref (.r c) 0 n) u1:=fun ρ ω hO=>by
     have:=hO.opd hx
     rw [ex] at this
     obtain ⟨us',e1,e2⟩:=this
     rw [hval] at e1
     have e3 : [u0,u1]=us':=by simpa using e1
     subst e3
     exact e2.2 1 _ _ rfl rfl
    obtain ⟨w1,hw1⟩ : ∃ w1,w1=w.alloc (.cells (a.eval x').cells.toList.toArray T):=⟨_,rfl⟩
    have hcells : (a.eval x').cells.toList=[u0,u1]:=by rw [hval];rfl
    have hrun : (execOp a.eval o).run P w=.ok (.value (.pointer (some ⟨w.heap.size,0,none⟩))) w1:=by
     rw [hw1]
     simp only [execOp,ho,Instr.box,Sem.run_bind,run_newVar,Result.andThen_ok,Sem.run_pure]
    by_cases hnz : n=0
    ·rw [if_pos hnz] at hK
     refine ce hrun ?_
     rw [hd]
     refine ⟨_,_,M,hK,?_⟩
     refine h.make (es:=[[.own sz [],.any]]) (sz:=2) (bs:=[]) (src:=fun _ _=>none) (vs:=[u0,u1]) (T:=T) ht hb hL (by rw [hw1];exact alloc_below _ _) (by rw [hw1];simp) (by rw [hw1,hcells];exact heap_alloc_at _ _) (by simp) (by simp) (fun i r off c' hi hr'=>?_) (fun i off i' off' c' e1 e2=>by cases e1) (fun i off c' e=>by cases e) (fun ρ M e=>?_)
     ·cases i with
      | succ i=>simp at hi
      | zero =>
       simp at hi;subst hi
       match off,hr' with
       | 0,hr' =>
        simp at hr';subst hr'
        exact ⟨u0,rfl,.inr (.inl ⟨sz,rfl,hsz,rfl,none,hu0⟩)⟩
       | 1,hr' =>
        simp at hr';subst hr'
        exact ⟨u1,rfl,.inl ⟨rfl,by simp only [ab]⟩⟩
       | off + 2,hr'=>simp at hr'
     ·rw [ah rfl];simp [al,e]
    rw [if_neg hnz] at hK
    have hn0 : 0 < n:=Nat.pos_of_ne_zero hnz
    have hslot : ∀ {f' : Nat -> D} {a' : Act} {w' : World} {ρ' : Pa -> Loc} {ω' : Nat -> Option Pa},Own F L (fun k=>S k \/ w0.heap.size <= k) f' M a' w' ρ' ω' -> f' s=.ptx ds -> ∃ (p : Addr) (vs : List Value),a'.tmps[s]? = some (.pointer (some p)) /\ b6 F M ρ' ds vs /\ bM M p vs:=fun {f' a' w' ρ' ω'} hO' e=>by
     rcases hO'.slots s hs with h1 | ⟨v,h1,h2⟩
     ·rw [e] at h1;cases h1
     ·rw [e] at h2
      obtain ⟨p,vs,rfl,h3,h4⟩:=h2
      exact ⟨p,vs,h1,h3,h4⟩
    have hmake : SR F nt S L w0 M0 (eff ((t,.adr (.r (rt t 0)) 0 0)::(rt t 0,.blk 2 [[.own sz [],.own sz es]])::bO [c]) [(rt t 0,true)] f) M (a.put (some t) (.pointer (some ⟨w.heap.size,0,none⟩))) w1:=by
     refine h.make (es:=[[.own sz [],.own sz es]]) (sz:=2) (src:=fun i off=>if i=0 /\ off=1 then some c else none) (vs:=[u0,u1]) (T:=T) ht hb hL (by rw [hw1];exact alloc_below _ _) (by rw [hw1];simp) (by rw [hw1,hcells];exact heap_alloc_at _ _) (by simp) (by simp) (fun i r off c' hi hr'=>?_) (fun i off i' off' c' e1 e2=>?_) (fun i off c' e=>?_) (fun ρ M e=>?_)
     ·cases i with
      | succ i=>simp at hi
      | zero =>
       simp at hi;subst hi
       match off,hr' with
       | 0,hr' =>
        simp at hr';subst hr'
        exact ⟨u0,rfl,.inr (.inl ⟨sz,rfl,hsz,by simp,none,hu0⟩)⟩
       | 1,hr' =>
        simp at hr';subst hr'
        exact ⟨u1,rfl,.inr (.inr ⟨sz,es,c,by simp,rfl,hf,hc1,fun ρ ω hO=>by rw [hn];exact hu1 ρ ω hO⟩)⟩
       | off + 2,hr'=>simp at hr'
     ·split at e1
      ·split at e2
       ·rename_i k1 k2;exact ⟨by omega,by omega⟩
       ·cases e2
      ·cases e1
     ·split at e
      ·cases e;exact ⟨by simp,hcb⟩
      ·cases e
     ·rw [ah rfl];simp [al,e]
    refine ce hrun ?_
    rw [hd]
    refine ⟨_,_,M,hK,?_⟩
    obtain ⟨f1,hf1⟩ : ∃ f1,f1=eff ((t,.adr (.r (rt t 0)) 0 0)::(rt t 0,.blk 2 [[.own sz [],.own sz es]])::bO [c]) [(rt t 0,true)] f:=⟨_,rfl⟩
    rw [<- hf1] at hmake
    have htb : rt t 0 ≠ t:=by unfold rt;omega
    have hfin : eff [(t,.adr (.r (rt t 0)) 0 0),(rt t 0,.blk 2 [[.own sz [],.own sz es]]),(c,.any),(s,.ptx (ds.map (iY c (.n (rt t 0) 0 1))))] [(rt t 0,true)] f=eff [(s,.ptx (ds.map (iY c (.n (rt t 0) 0 1))))] [] f1:=by
     funext y
     by_cases e : y=s
     ·subst e
      have e1 : (y == t)=false:=by simpa using hst
      have e2 : (y == rt t 0)=false:=by simp;omega
      have e3 : (y == c)=false:=by simp;omega
      rw [aA (d:=.ptx (ds.map (iY c (.n (rt t 0) 0 1)))) (by simp only [List.lookup_cons,e1,e2,e3,beq_self_eq_true]),aA (d:=.ptx (ds.map (iY c (.n (rt t 0) 0 1)))) (by simp)]
     ·have e1 : (y == s)=false:=by simpa using e
      have k1 : eff [(s,.ptx (ds.map (iY c (.n (rt t 0) 0 1))))] [] f1 y=f1 y:=by
       simp [eff,List.lookup_cons,e1,aw]
      rw [k1,hf1]
      unfold eff
      simp only [bO,List.map_cons,List.map_nil,List.lookup_cons,e1,List.lookup_nil]
    rw [hfin]
    obtain ⟨ρ',ω',hO'⟩:=hmake.own
    have hfs1 : f1 s=.ptx ds:=by
     rw [hf1]
     have e1 : (s == t)=false:=by simpa using hst
     have e2 : (s == rt t 0)=false:=by simp;omega
     have e3 : (s == c)=false:=by simp;omega
     have e4 : (ds.any (ay (rt t 0) true))=false:=by
      simp only [List.any_eq_false]
      intro y hy
      have:=List.all_eq_true.1 hment y hy
      simpa using this
     have e5 : aw [(rt t 0,true)] (f s)=false:=by
      rw [hfs]
      simp only [aw,List.any_cons,List.any_nil,co,e4,Bool.or_false]
     have e6 : ((t,D.adr (.r (rt t 0)) 0 0)::(rt t 0,D.blk 2 [[.own sz [],.own sz es]])::bO [c]).lookup s=none:=by
      simp only [bO,List.map_cons,List.map_nil,List.lookup_cons,e1,e2,e3,List.lookup_nil]
     unfold eff
     rw [e6]
     simp only [e5]
     exact hfs
    obtain ⟨p,vs,g1,g2,g3⟩:=hslot hO hfs
    obtain ⟨p',vs',g1',g2',g3'⟩:=hslot hO' hfs1
    have htm : (a.put (some t) (.pointer (some ⟨w.heap.size,0,none⟩))).tmps[s]? = a.tmps[s]?:=getElem?_put hst
    rw [htm,g1] at g1'
    cases g1'
    obtain rfl : vs=vs':=nJ g3 g3' (by rw [<- g2.1,<- g2'.1])
    have hfb : f1 (rt t 0)=.blk 2 [[.own sz [],.own sz es]]:=by
     rw [hf1]
     refine aA ?_
     have e1 : (rt t 0 == t)=false:=by simpa using htb
     simp [List.lookup_cons,e1]
    have hft : f1 t=.adr (.r (rt t 0)) 0 0:=by rw [hf1];exact aA (by simp)
    have hwh : w1.heap[w.heap.size]? = some (.cells [u0,u1].toArray T (0,0)):=by rw [hw1,hcells];exact heap_alloc_at _ _
    have hloc : ρ' (.n (rt t 0) 0 1)=ρ (.r c):=by
     have ha : (ρ' (.r (rt t 0))).blk=w.heap.size /\ (ρ' (.r (rt t 0))).base=0:=by
      rcases hO'.slots t (by have:=h.hnt;omega) with k1 | ⟨v,k1,k2⟩
      ·rw [hft] at k1;cases k1
      ·rw [getElem?_put_same (by rw [h.size];exact ht)] at k1
       cases k1
       rw [hft,ah rfl] at k2
       simp only [al,Value.pointer.injEq,Option.some.injEq,Addr.mk.injEq,and_true] at k2
       exact ⟨k2.1.symm,by omega⟩
     rcases hO'.roots (rt t 0) 2 _ hb hfb with ⟨e0,_⟩ | ⟨_,q0,us,T0,q1,q2,q3,q4,q5⟩
     ·cases e0
     ·rw [ha.1,hwh] at q1
      simp only [Option.some.injEq,Obj.cells.injEq,and_true] at q1
      obtain rfl : [u0,u1]=us:=by simpa using congrArg Array.toList q1.1
      obtain ⟨v,k1,k2,k3⟩:=q5 0 _ 1 _ rfl rfl
      rw [ha.2] at k1
      simp at k1
      subst k1
      have r0:=hu1 ρ ω hO
      rw [hn] at k2
      simp only [al] at k2 r0
      rcases r0 with ⟨z,_⟩ | ⟨cap,r1,r2,r3,_⟩
      ·omega
      rcases k2 with ⟨z,_⟩ | ⟨cap',r1',r2',r3',_⟩
      ·omega
      rw [r1] at r1'
      simp only [Value.slice.injEq,Option.some.injEq,Addr.mk.injEq,Nat.zero_mul,Nat.add_zero,and_true,true_and] at r1'
      obtain ⟨⟨l1,l2⟩,l3⟩:=r1'
      rcases hO.roots c sz es hc hf with ⟨z,_⟩ | ⟨m0,m1,us1,T1,m2,m3,m4,m5,m6⟩
      ·rw [z] at hn;simp at hn;omega
      rcases k3 with ⟨z,_⟩ | ⟨m0',m1',us1',T1',m2',m3',m4',m5',m6'⟩
      ·rw [z] at hn;simp at hn;omega
      have hlt:=hO.lt _ _ m0
      have hh : w1.heap[(ρ (.r c)).blk]? = w.heap[(ρ (.r c)).blk]?:=by
       rw [hw1];exact (alloc_below w _).block _ hlt
      rw [<- l1,hh,m2] at m2'
      simp only [Option.some.injEq,Obj.cells.injEq,and_true] at m2'
      obtain rfl : us1=us1':=by simpa using congrArg Array.toList m2'.1
      have k4 : ∀ x y : Loc,x.blk=y.blk -> x.base=y.base -> x.sz=y.sz -> x.len=y.len -> x=y:=by
       intro x y;cases x;cases y;simp;omega
      exact k4 _ _ l1.symm l2.symm (by rw [m1',m1]) (by rw [<- m3',<- m3])
    refine hmake.know (hO'.know hs (v:=.pointer (some p)) (by rw [htm];exact g1) ⟨p,vs,rfl,⟨by simp [g2.1],fun i d v e1 e2=>?_⟩,g3⟩ rfl)
    rw [List.getElem?_map,Option.map_eq_some_iff] at e1
    obtain ⟨d0,e1,rfl⟩:=e1
    have r:=g2.2 i d0 v e1 e2
    have r':=g2'.2 i d0 v e1 e2
    unfold iY
    split
    ·split
     ·rename_i c' k m e
      subst e
      simp only [al] at r ⊢
      rw [hloc]
      exact r
     ·exact r'
    ·exact r'
   ·exact hr.elim
  ·exact hr.elim
 ·exact hr.elim
end
end Go.Gv

namespace Go.Gv
open Go.RowKit
section
variable {P : Program} {F : Fid} {C : Nat -> List D -> D -> List D -> Prop} {nt : Nat} {S : Nat -> Prop} {L : Nat -> Option Loc} {w0 : World} {M0 : Mem} {f : Nat -> D} {M M' : Mem} {a : Act} {w w' : World} {o : Oper} {d : D} {Q : Exit -> Act -> World -> Prop} {ρ ρ' : Pa -> Loc} {ω ω' : Nat -> Option Pa} {New : Nat -> Prop} {K : List (Nat × D) -> List (Nat × Bool) -> Prop}
theorem wV {x y : Nat -> Value} {v : Value} (h1 : aP d=true) (h2 : ab { F with vals:=x } M d v) : ab { F with vals:=y } M' d v:=by
 cases d <;> first | (simp [aP] at h1;done) | (simp only [ab] at h2 ⊢;exact h2) | (simp only [ab])
theorem Ff {y : Nat -> Value} {v : Value} (h1 : aP d=true) (h2 : ab F M d v) : ab { F with vals:=y } M' d v:=wV (x:=F.vals) h1 h2
theorem Fg {y : Nat -> Value} {v : Value} (h1 : aP d=true) (h2 : ab { F with vals:=y } M d v) : ab F M' d v:=wV (y:=F.vals) h1 h2
def vy (ω : Nat -> Option Pa) (b : Nat) : Nat -> Option Pa:=fun k=>match ω k with
 | some p=>if p=.n b 0 1 then some p else none
 | none=>none
theorem lD {b k : Nat} {p : Pa} : vy ω b k=some p ↔ ω k=some (.n b 0 1) /\ p=.n b 0 1:=by
 unfold vy
 split
 ·rename_i q hq
  split
  ·rename_i e;subst e;simp [hq];exact eq_comm
  ·rename_i e
   constructor
   ·intro h;cases h
   ·rintro ⟨h,rfl⟩;rw [hq] at h;cases h;exact absurd rfl e
 ·rename_i hq
  simp [hq]
theorem rp (hC : bi P F C) (h : SR F nt S L w0 M0 f M a w) (hp : ∀ t,o.dst=some t -> t < nt) {g fi s : Nat} {x : Opd} {xs : List Opd} {y : Operand} {ys : List Operand} {ts : Array TypeId} (ho : o.op=.call { callee:=.value (.func fi),args:=⟨y::ys⟩,argTypes:=ts }) (hx0 : ae F x y=true) (hx : a7 F xs ys=true)
  (hg : F g=some fi) (hr : aq C f o.dst K (.callQ g s x xs)) : o.wp P a w (PostX F nt S L w0 M0 f K) Q:=by
 simp only [aq] at hr
 split at hr
 ·rename_i T b i off hvx
  obtain ⟨rfl,rfl,hs,hst,hxs,hr⟩:=hr
  split at hr
  ·rename_i sz sz1 fs sz2 sp hf
   split at hr
   ·rename_i ds hfs
    obtain ⟨hkeep,hfl1,hfl2,d,fs',hd1,hfl3,hc,hK⟩:=hr
    obtain ⟨ρ,ω,hO⟩:=h.own
    have hb:=hO.big hf
    have hv:=hO.opd hx0
    rw [hvx,ah rfl] at hv
    simp only [al,Nat.zero_mul,Nat.add_zero] at hv
    obtain ⟨hω,q0,us0,T0,q1,q2,q3,q4,q5⟩ : ω (ρ (.r b)).blk=some (.r b) /\ dT w (ρ (.r b)) sz [[.own sz1 fs,.own sz2 sp]] (fun i off d v=>bF F M ω ρ w b i off d v):=by
     rcases hO.roots b sz _ hb hf with ⟨e0,_⟩ | hh
     ·cases e0
     ·exact hh
    obtain ⟨v0,k0,c0⟩:=q5 0 _ 0 _ rfl rfl
    obtain ⟨v1,k1,c1⟩:=q5 0 _ 1 _ rfl rfl
    obtain ⟨c01,c02⟩:=c0
    obtain ⟨c11,c12⟩:=c1
    obtain ⟨M1,hM1⟩ : ∃ M1,M1=aQ (vy ω b) M w:=⟨_,rfl⟩
    have hMle : M.le M1:=by
     intro p v hp
     rw [hM1]
     unfold aQ
     split
     ·rename_i q hq
      obtain ⟨e1,e2⟩:=lD.1 hq
      rw [hO.apart p _ e1] at hp;cases hp
     ·exact hp
    have hMh : ∀ p v,M1 p=some v -> w.cell? p=some v:=by rw [hM1];exact bp h.holds
    obtain ⟨F1,hF1⟩ : ∃ F1 : Fid,F1={ F with vals:=fun _=>v1 }:=⟨_,rfl⟩
    have up : ∀ {d : D} {v : Value} {M2 : Mem},aP d=true -> ab F M d v -> ab F1 M2 d v:=fun h1 h2=>by rw [hF1];exact Ff h1 h2
    have dn : ∀ {d : D} {v : Value} {M2 : Mem},aP d=true -> ab F1 M2 d v -> ab F M d v:=fun h1 h2=>by rw [hF1] at h2;exact Fg h1 h2
    have hslv : ab F1 M1 (.slv 0 sp) v1:=by
     have h1 : bG (vy ω b) ρ w (.n b 0 1) sz2 sp (fun _ _ d v=>ab F M d v):=by
      rcases c12 with e | ⟨e1,e2⟩
      ·exact .inl e
      ·exact .inr ⟨lD.2 ⟨e1,rfl⟩,e2⟩
     have h2:=jE (F:=F1) (M:=M) h1 (fun d=>d) (fun i r off d v hi hr hc=>up (hfl2 r (List.mem_of_getElem? hi) d (List.mem_of_getElem? hr)) hc) (k:=0) (n:=sp.length) (by omega) (by
      simpa only [al] using c11)
     rw [<- hM1] at h2
     simp only [List.drop_zero,List.take_length,List.map_id'] at h2
     simp only [ab] at h2 ⊢
     refine ⟨by rw [hF1],?_⟩
     simpa using h2
    obtain ⟨ρ1,hρ1⟩ : ∃ ρ1 : Pa -> Loc,ρ1=fun p=>ρ (p.to b):=⟨_,rfl⟩
    obtain ⟨ω1,hω1⟩ : ∃ ω1 : Nat -> Option Pa,ω1=fun k=>match ω k with
     | some p=>if p.root=b then some (p.to aj) else none
     | none=>none:=⟨_,rfl⟩
    obtain ⟨ω3,hω3⟩ : ∃ ω3 : Nat -> Option Pa,ω3=fun k=>match ω k with
     | some p=>if p.root=b /\ p ≠ .n b 0 1 then some (p.to aj) else none
     | none=>none:=⟨_,rfl⟩
    have w1 : ∀ k q,ω1 k=some q ↔ ∃ p : Pa,ω k=some p /\ p.root=b /\ q=p.to aj:=fun k q=>by
     rw [hω1]
     simp only
     constructor
     ·intro e
      split at e
      ·rename_i p hp
       split at e
       ·cases e;exact ⟨p,hp,by assumption,rfl⟩
       ·cases e
      ·cases e
     ·rintro ⟨p,e1,e2,rfl⟩
      simp only [e1,if_pos e2]
    have w3 : ∀ k q,ω3 k=some q ↔ ∃ p : Pa,ω k=some p /\ p.root=b /\ p ≠ .n b 0 1 /\ q=p.to aj:=fun k q=>by
     rw [hω3]
     simp only
     constructor
     ·intro e
      split at e
      ·rename_i p hp
       split at e
       ·rename_i e2;cases e;exact ⟨p,hp,e2.1,e2.2,rfl⟩
       ·cases e
      ·cases e
     ·rintro ⟨p,e1,e2,e3,rfl⟩
      simp only [e1,if_pos (And.intro e2 e3)]
    have p1 : ∀ p : Pa,p.root=b -> ρ1 (p.to aj)=ρ p:=fun p hp=>by
     rw [hρ1]
     simp only
     rw [Pa.to_to b aj p hp]
    have pr : ρ1 (.r aj)=ρ (.r b):=p1 (.r b) rfl
    have pn : ∀ i o,ρ1 (.n aj i o)=ρ (.n b i o):=fun i o=>p1 (.n b i o) rfl
    have lent : kE F1 M1 w ρ1 ω3 aj sz [[.own sz1 fs,.slv 0 sp]]:=by
     refine ⟨(w3 _ _).2 ⟨.r b,by rw [pr];exact hω,rfl,by simp,rfl⟩,.inr ⟨(w3 _ _).2 ⟨.r b,by rw [pr];exact hω,rfl,by simp,rfl⟩,?_⟩,fun k p e=>?_,fun k p e=>?_,fun p q e=>?_⟩
     ·rw [pr]
      refine ⟨q0,us0,T0,q1,q2,q3,fun e he=>?_,fun i r off d hi hr=>?_⟩
      ·have:=q4 _ (List.mem_singleton.2 rfl)
       rw [List.mem_singleton.1 he,<- this];rfl
      ·cases i with
       | succ i=>simp at hi
       | zero =>
        simp at hi;subst hi
        match off,hr with
        | 0,hr =>
         simp at hr;subst hr
         refine ⟨v0,k0,?_,?_⟩
         ·simp only [al] at c01 ⊢
          rw [pn];exact c01
         ·unfold bG at c02 ⊢
          rw [pn]
          rcases c02 with e | ⟨e1,g0,us,T2,g1,g2,g3,g4,g5⟩
          ·exact .inl e
          ·refine .inr ⟨(w3 _ _).2 ⟨.n b 0 0,e1,rfl,by simp,rfl⟩,g0,us,T2,g1,g2,g3,g4,fun i r off d hi hr=>?_⟩
           obtain ⟨u,m1,m2⟩:=g5 i r off d hi hr
           exact ⟨u,m1,up (hfl1 r (List.mem_of_getElem? hi) d (List.mem_of_getElem? hr)) m2⟩
        | 1,hr =>
         simp at hr;subst hr
         exact ⟨v1,k1,hslv⟩
        | off + 2,hr=>simp at hr
     ·obtain ⟨p',e1,_⟩:=(w3 _ _).1 e
      exact hO.lt _ _ e1
     ·obtain ⟨p',_,_,_,rfl⟩:=(w3 _ _).1 e
      exact Pa.to_root _ _
     ·obtain ⟨p',e1,_,e3,_⟩:=(w3 _ _).1 e
      rw [hM1]
      unfold aQ
      split
      ·rename_i q' hq
       obtain ⟨e4,_⟩:=lD.1 hq
       rw [e1] at e4;cases e4;exact absurd rfl e3
      ·exact hO.apart p p' e1
    have hrep : ap F M (xs.map (vd f)) (ys.map a.eval):=by
     have hxV : ∀ x ∈ xs,isV (vd f x)=true:=fun x hx=>by
      have:=hxs x hx
      cases hq : vd f x <;> first | rfl | (rw [hq] at this;simp [aP] at this)
     have h1:=cx h hx (by rw [List.all_eq_true];exact hxV)
     rwa [List.map_congr_left (g:=vd f) fun x hx'=>by unfold dpv;exact (dJ (hxV x hx')).1] at h1
    have hQ:=hC.runsQ g fi sz _ _ d _ hg hc (fun _=>v1)
    rw [<- hF1] at hQ
    have hrun : (execOp a.eval o).run P w=(callFunc fi (a.eval y::ys.map a.eval).toArray).run P w:=by
     simp only [execOp,ho,resolve,Act.eval,Deferred.ofValue,Sem.run_bind,Sem.run_pure,Result.andThen_ok,invoke]
     congr 2
     rw [Array.append_empty,Array.empty_append]
     apply Array.ext'
     simp
     cases y <;> simp [Act.eval]
    have hM:=hQ M1 w (a.eval y::ys.map a.eval) ρ1 ω3 hMh (by simp [hrep.length]) (fun i d v k1 k2=>by
     cases i with
     | zero =>
      simp at k1 k2
      subst k1;subst k2
      rw [ah rfl,hv]
      rw [show (10015 : Nat)=aj from rfl]
      simp only [al,pr,hF1,Nat.zero_mul,Nat.add_zero]
     | succ i =>
      simp only [List.getElem?_cons_succ] at k1 k2
      obtain ⟨v',hv',rv⟩:=hrep.get k1
      rw [k2] at hv'
      cases hv'
      rw [List.getElem?_map,Option.map_eq_some_iff] at k1
      obtain ⟨x1,e1,rfl⟩:=k1
      exact aV.of_pure (up (hxs x1 (List.mem_of_getElem? e1)) rv)) lent
    unfold Oper.wp
    rw [hrun,bu (hC.body g fi hg),Oper.upon_enter]
    refine hM.mono ?_
    rintro e0 w' ⟨v,M',ρ',ω',rfl,r1,r2,r3,r4,r5,r6,r7,r8⟩
    have hout : ∀ k,k < w.heap.size -> (∀ p : Pa,ω k=some p -> p.root=b -> p=.n b 0 1) -> w'.heap[k]? = w.heap[k]?:=fun k hk hq=>r1.block k hk (fun ⟨q,e⟩=>by
     obtain ⟨p,e1,e2,e3,_⟩:=(w3 _ _).1 e
     exact e3 (hq p e1 e2))
    have hnotin : ∀ k,ω k=some (.n b 0 1) -> ω' k=none:=fun k e=>by
     cases e1 : ω' k with
     | none=>rfl
     | some q =>
      rcases r8 k q e1 with ⟨q',e2⟩ | e2
      ·obtain ⟨p',e3,_,e4,_⟩:=(w3 _ _).1 e2
       rw [e] at e3;cases e3;exact absurd rfl e4
      ·have:=hO.lt _ _ e;omega
    obtain ⟨ρ2,hρ2⟩ : ∃ ρ2 : Pa -> Loc,ρ2=fun p=>if p=.n aj 0 1 then ρ (.n b 0 1) else ρ' p:=⟨_,rfl⟩
    obtain ⟨ω2,hω2⟩ : ∃ ω2 : Nat -> Option Pa,ω2=fun k=>if ω k=some (.n b 0 1) then some (.n aj 0 1) else ω' k:=⟨_,rfl⟩
    have a1 : ρ2 (.n aj 0 1)=ρ (.n b 0 1):=by rw [hρ2];simp
    have a2 : ∀ p,p ≠ .n aj 0 1 -> ρ2 p=ρ' p:=fun p hp=>by rw [hρ2];simp only [if_neg hp]
    have b1 : ∀ k,ω k=some (.n b 0 1) -> ω2 k=some (.n aj 0 1):=fun k e=>by rw [hω2];simp only [if_pos e]
    have b2 : ∀ k q,ω' k=some q -> ω2 k=some q:=fun k q e=>by
     rw [hω2]
     simp only
     rw [if_neg (fun e1=>by rw [hnotin k e1] at e;cases e)]
     exact e
    have b3 : ∀ k q,ω2 k=some q -> (ω k=some (.n b 0 1) /\ q=.n aj 0 1) \/ ω' k=some q:=fun k q e=>by
     rw [hω2] at e
     simp only at e
     split at e
     ·cases e;exact .inl ⟨by assumption,rfl⟩
     ·exact .inr e
    have hlent2 : kE F M w' ρ2 ω2 aj sz [[.own sz1 fs',.own sz2 sp]]:=by
     have hown:=r7.own
     refine ⟨by rw [a2 _ (by simp)];exact b2 _ _ hown,?_,fun k p e=>?_,fun k p e=>?_,fun p q e=>?_⟩
     ·rcases r7.rows with ⟨e0,_⟩ | ⟨_,m0,us,T2,m1,m2,m3,m4,m5⟩
      ·cases e0
      ·unfold cC bG
       rw [a2 (.r aj) (by simp)]
       refine .inr ⟨b2 _ _ hown,m0,us,T2,m1,m2,m3,fun e he=>?_,fun i r off d hi hr=>?_⟩
       ·have:=m4 _ (List.mem_singleton.2 rfl)
        rw [List.mem_singleton.1 he,<- this];rfl
       ·cases i with
        | succ i=>simp at hi
        | zero =>
         simp at hi;subst hi
         match off,hr with
         | 0,hr =>
          simp at hr;subst hr
          obtain ⟨u,n1,n2,n3⟩:=m5 0 _ 0 _ rfl rfl
          refine ⟨u,n1,?_,?_⟩
          ·simp only [al] at n2 ⊢
           rw [a2 _ (by simp)];exact n2
          ·unfold bG at n3 ⊢
           rw [a2 _ (by simp)]
           rcases n3 with e | ⟨e1,g0,us3,T3,g1,g2,g3,g4,g5⟩
           ·exact .inl e
           ·refine .inr ⟨b2 _ _ e1,g0,us3,T3,g1,g2,g3,g4,fun i r off d hi hr=>?_⟩
            obtain ⟨u,l1,l2⟩:=g5 i r off d hi hr
            exact ⟨u,l1,dn (hfl3 r (List.mem_of_getElem? hi) d (List.mem_of_getElem? hr)) l2⟩
         | 1,hr =>
          simp at hr;subst hr
          obtain ⟨u,n1,n2⟩:=m5 0 _ 1 _ rfl rfl
          have hu : u=v1:=by
           have h2 : ab F1 M' (.slv 0 sp) u:=n2
           simp only [ab] at h2
           rw [h2.1,hF1]
          subst hu
          refine ⟨u,n1,?_,?_⟩
          ·simp only [al] at c11 ⊢
           rw [a1];exact c11
          ·unfold bG at c12 ⊢
           rw [a1]
           rcases c12 with e | ⟨e1,g0,us3,T3,g1,g2,g3,g4,g5⟩
           ·exact .inl e
           ·exact .inr ⟨b1 _ e1,g0,us3,T3,(hout _ (hO.lt _ _ e1) (fun p e2 _=>by rw [e1] at e2;cases e2;rfl)).trans g1,g2,g3,g4,g5⟩
         | off + 2,hr=>simp at hr
     ·rcases b3 k p e with ⟨e1,_⟩ | e1
      ·exact Nat.lt_of_lt_of_le (hO.lt _ _ e1) r1.size
      ·exact r7.lt _ _ e1
     ·rcases b3 k p e with ⟨_,rfl⟩ | e1
      ·rfl
      ·exact r7.root _ _ e1
     ·rcases b3 _ q e with ⟨e1,_⟩ | e1
      ·exact hO.apart p _ e1
      ·have:=r7.apart p q e1
       cases e2 : M p with
       | none=>rfl
       | some u=>rw [r2 p u (hMle p u e2)] at this;cases this
    have hdv : ab F M d v:=by
     rcases hd1 with h1 | rfl
     ·exact dn h1 r5
     ·simp only [ab] at r5 ⊢
      obtain ⟨us,e1,e2⟩:=r5
      refine ⟨us,e1,?_⟩
      simpa only [ap] using e2
    have hch1 : Ch (fun k=>∃ p,ω1 k=some p) w w':=⟨r1.os,r1.tape,r1.output,r1.size,fun k hk hn=>r1.block k hk (fun ⟨q,e⟩=>hn (by
     obtain ⟨p,e1,e2,e3,e4⟩:=(w3 _ _).1 e
     exact ⟨_,(w1 _ _).2 ⟨p,e1,e2,rfl⟩⟩)),r1.drawn⟩
    have hhold : ∀ p v,M p=some v -> w'.cell? p=some v:=fun p v e=>r4 p v (r2 p v (hMle p v e))
    obtain ⟨ρ4,ω4,x1,x2,x3,x4⟩:=h.lendX (M':=M) hO hf hb hω p1 w1 hch1 (Mem.le_refl _) (fun p e e'=>absurd e e') hhold (by rw [a2 _ (by simp),r6]) hlent2 (fun k p e=>by
     rcases b3 k p e with ⟨e1,_⟩ | e1
     ·exact .inl ⟨_,(w1 _ _).2 ⟨_,e1,rfl,rfl⟩⟩
     ·rcases r8 k p e1 with ⟨q,e2⟩ | e2
      ·obtain ⟨p',e3,e4,_⟩:=(w3 _ _).1 e2
       exact .inl ⟨_,(w1 _ _).2 ⟨p',e3,e4,rfl⟩⟩
      ·exact .inr e2) hp hdv
    refine ⟨_,_,M,hK,?_⟩
    obtain ⟨f1,hf1⟩ : ∃ f1,f1=eff (bN o.dst d++[(b,.blk sz [[.own sz1 fs',.own sz2 sp]])]) [(b,false)] f:=⟨_,rfl⟩
    rw [<- hf1] at x3 x4
    have hlk : ∀ y,y ≠ s -> (bN o.dst d++[(b,D.blk sz [[.own sz1 fs',.own sz2 sp]]),(s,.ptx ds)]).lookup y=(bN o.dst d++[(b,D.blk sz [[.own sz1 fs',.own sz2 sp]])]).lookup y:=fun y hy=>by
     have e1 : (y == s)=false:=by simpa using hy
     cases o.dst with
     | none=>simp only [bN,List.nil_append,List.lookup_cons,e1,List.lookup_nil]
     | some t=>simp only [bN,List.cons_append,List.nil_append,List.lookup_cons,e1,List.lookup_nil]
    have hfin : eff (bN o.dst d++[(b,.blk sz [[.own sz1 fs',.own sz2 sp]]),(s,.ptx ds)]) [(b,false)] f=eff [(s,.ptx ds)] [] f1:=by
     funext y
     by_cases e : y=s
     ·subst e
      rw [aA (d:=.ptx ds) (by
       have e2 : (y == b)=false:=by simp;omega
       cases hdst : o.dst with
       | none=>simp only [bN,List.nil_append,List.lookup_cons,e2,beq_self_eq_true]
       | some t =>
        have e1 : (y == t)=false:=by
         simp
         rintro rfl
         exact hst hdst
        simp only [bN,List.cons_append,List.nil_append,List.lookup_cons,e1,e2,beq_self_eq_true]),aA (d:=.ptx ds) (by simp)]
     ·have e1 : (y == s)=false:=by simpa using e
      have k1 : eff [(s,D.ptx ds)] [] f1 y=f1 y:=by
       simp [eff,List.lookup_cons,e1,aw]
      rw [k1,hf1]
      unfold eff
      rw [hlk y e]
    rw [hfin]
    rcases hO.slots s hs with z1 | ⟨vS,z1,z2⟩
    ·rw [hfs] at z1;cases z1
    ·rw [hfs] at z2
     obtain ⟨pS,vs,rfl,z3,z4⟩:=z2
     have htm : (a.put o.dst v).tmps[s]? = a.tmps[s]?:=by
      cases hdst : o.dst with
      | none=>rfl
      | some t=>exact getElem?_put (fun e=>hst (by rw [hdst,e]))
     have hsame : ∀ p : Pa,bg b false p=false \/ p=.n b 0 1 -> ρ4 p=ρ p:=fun p hp=>by
      by_cases e : p.root=b
      ·rw [x1 p e]
       cases p with
       | r c =>
        simp only [Pa.root] at e
        subst e
        show ρ2 (.r aj)=_
        rw [a2 _ (by simp),r6,pr]
       | n c i o =>
        simp only [Pa.root] at e
        subst e
        rcases hp with hp | hp
        ·simp [bg] at hp
        ·cases hp
         exact a1
      ·exact x2 p e
     refine x4.know (x3.know hs (v:=.pointer (some pS)) (by rw [htm];exact z1) ⟨pS,vs,rfl,⟨z3.1,fun i d0 v0 e1 e2=>?_⟩,z4⟩ rfl)
     have r:=z3.2 i d0 v0 e1 e2
     have hk:=List.all_eq_true.1 hkeep d0 (List.mem_of_getElem? e1)
     cases d0
     case ref p k n =>
      have : ρ4 p=ρ p:=by
       cases p with
       | r c=>exact hsame _ (.inl (by simp [bg]))
       | n c i o =>
        simp only [gx,Bool.or_eq_true,Bool.and_eq_true,bne_iff_ne,beq_iff_eq] at hk
        by_cases e : c=b
        ·subst e
         rcases hk with hk | ⟨rfl,rfl⟩
         ·exact absurd rfl hk
         ·exact hsame _ (.inr rfl)
        ·exact hsame _ (.inl (by simp [bg,e]))
      simp only [al] at r ⊢
      rw [this];exact r
     case adr p k n =>
      have : ρ4 p=ρ p:=hsame _ (.inl (by simpa [gx,ay] using hk))
      simp only [al] at r ⊢
      rw [this];exact r
     case ifa T' p k n =>
      have : ρ4 p=ρ p:=hsame _ (.inl (by simpa [gx,ay] using hk))
      simp only [al] at r ⊢
      rw [this];exact r
     case mrf c =>
      have : ρ4 (.r c)=ρ (.r c):=hsame _ (.inl (by simp [bg]))
      simp only [al] at r ⊢
      rw [this];exact r
     all_goals exact r
   ·exact hr.elim
  ·exact hr.elim
 ·exact hr.elim
end
end Go.Gv

namespace Go.Gv
open Go.RowKit
abbrev Env:=List (Nat × D)
def aa : Env -> Nat -> D
 | [],_=>.any
 | (s,d)::r,t=>if s=t then d else aa r t
def dg (ks : List (Nat × Bool)) (e : Env) : Env:=if ks=[] then e else e.map fun p=>(p.1,if aw ks p.2 then .any else p.2)
theorem s6 (ws : List (Nat × D)) (e : Env) (t : Nat) : aa (ws++e) t=match ws.lookup t with
  | some d=>d
  | none=>aa e t:=by
 induction ws with
 | nil=>rfl
 | cons p ws ih =>
  obtain ⟨s,d⟩:=p
  simp only [List.cons_append,aa,List.lookup_cons]
  by_cases h : s=t
  ·subst h;simp
  ·have h1 : (t == s)=false:=by simp;exact fun e=>h e.symm
   rw [if_neg h,h1]
   exact ih
theorem qN (ks : List (Nat × Bool)) : ∀ (e : Env) (t : Nat),aa (dg ks e) t=if aw ks (aa e t) then .any else aa e t:=by
 intro e t
 unfold dg
 by_cases hk : ks=[]
 ·subst hk;simp [jw]
 ·rw [if_neg hk]
  induction e with
  | nil =>
   show D.any=if aw ks D.any=true then D.any else D.any
   by_cases hm : aw ks D.any=true
   ·rw [if_pos hm]
   ·rw [if_neg hm]
  | cons p e ih =>
   obtain ⟨s,d⟩:=p
   by_cases h : s=t
   ·simp [aa,h]
   ·have h1 : aa ((s,d)::e) t=aa e t:=by simp [aa,h]
    rw [h1,<- ih]
    simp [aa,h]
theorem gz (ws : List (Nat × D)) (ks : List (Nat × Bool)) (e : Env) : aa (ws++dg ks e)=eff ws ks (aa e):=by
 funext t
 rw [s6]
 unfold eff
 cases List.lookup t ws with
 | some d=>rfl
 | none=>exact qN ks e t
def ic (e : Env) (dst : Option Nat) (K : Env -> Prop) : Prop :=
 match dst with
 | none=>K e
 | some t=>K ((t,.tup [])::e)
def oH (C : Nat -> List D -> D -> List D -> Prop) (dst : Option Nat) (K : Env -> Prop) (e : Env) (op : NOp) : Prop:=aq C (aa e) dst (fun ws ks=>K (ws++dg ks e)) op
def ib (C : Nat -> List D -> D -> List D -> Prop) (K : Env -> Prop) : List am -> Env -> Prop
 | [],e=>K e
 | o::os,e=>match o.guard with
  | none=>oH C o.dst (ib C K os) e o.op
  | some (s,want)=>match aa e s with
   | .bool b=>(b=want -> oH C o.dst (ib C K os) ((s,.bool want)::e) o.op) /\ (b=!want -> ic ((s,.bool !want)::e) o.dst (ib C K os))
   | .tup []=>ic e o.dst (ib C K os)
   | _=>False
section
variable {P : Program} {F : Fid} {C : Nat -> List D -> D -> List D -> Prop} {nt : Nat} {S : Nat -> Prop} {L : Nat -> Option Loc} {w0 : World} {M0 : Mem} {f : Nat -> D} {M : Mem} {a : Act} {w : World} {o : Oper} {d : D} {Q : Exit -> Act -> World -> Prop} {ρ : Pa -> Loc} {ω : Nat -> Option Pa} {New : Nat -> Prop} {K : List (Nat × D) -> List (Nat × Bool) -> Prop}
def mq (P : Program) (F : Fid) : NOp -> Op -> Bool
 | .asg x,.move y=>ae F x y
 | .asg x,.assign y=>ae F x y
 | .frz x,.move y=>ae F x y
 | .frz x,.assign y=>ae F x y
 | .ldQ _ x,.load t x'=>tyS P t 1 false && ae F x x'
 | .appQ _ sz by_ x y,.call { callee:=.builtin .append,args:=⟨[x',y']⟩,argTypes:=⟨[t,t']⟩ }=>t == t' && pJ P t sz by_ && ae F x x' && ae F y y'
 | .cpy sz x y,.call { callee:=.builtin .copy,args:=⟨[x',y']⟩,argTypes:=⟨[t,_]⟩ }=>l6 P t sz && ae F x x' && ae F y y'
 | .ldM n x,.load t x'=>tyS P t n true && ae F x x'
 | .ldF n x,.load t x'=>tyS P t n true && ae F x x'
 | .stP x y,.store t x' y'=>fG P t 1 && ae F x x' && ae F y y'
 | .stF n x y,.store t x' y'=>fG P t n && ae F x x' && ae F y y'
 | .stL x y,.store t x' y'=>fG P t 1 && ae F x x' && ae F y y'
 | .mkI T x,.makeInterface t x'=>F.ty T == t && jP P t && ae F x x'
 | .tya T x,.typeAssert x' _ t false=>F.ty T == t && jP P t && ae F x x'
 | .callI g m T x xs,.call { callee:=.invoke y m',args:=ys,argTypes:=_ }=>m == m' && (match F g with
  | some fi=>mW P (F.ty T) m fi
  | none=>false) && ae F x y && a7 F xs ys.toList
 | .callM g x xs,.call { callee:=.value (.func fi),args:=⟨y::ys⟩,argTypes:=_ }=>F g == some fi && ae F x y && a7 F xs ys
 | .callR g x xs,.call { callee:=.value (.func fi),args:=⟨y::ys⟩,argTypes:=_ }=>F g == some fi && ae F x y && a7 F xs ys
 | .callQ g _ x xs,.call { callee:=.value (.func fi),args:=⟨y::ys⟩,argTypes:=_ }=>F g == some fi && ae F x y && a7 F xs ys
 | .boxK _ x,.box _ x'=>ae F x x'
 | .slM len sz x,.slice t x' none none none=>(fc P t len sz && decide (len <= 16777216)) && ae F x x'
 | .nilo _,.move y=>ae F (.c .nils) y
 | .nilo _,.assign y=>ae F (.c .nils) y
 | .box _ x,.box _ x'=>ae F x x'
 | .alc zs,.alloc t=>zeroOk P t zs
 | .bls sz len zs _ ps,.buildSlice t len' ps'=>len == len' && blsOk P F t sz len zs ps ps'.toList
 | .mks sz by_ zs n c,.makeSlice t n' c'=>mksOk P t sz by_ zs && ae F n n' && ae F c c'
 | .call g xs _,.call { callee:=.value (.func fi),args:=ys,argTypes:=_ }=>F g == some fi && a7 F xs ys.toList
 | .callF g xs,.call { callee:=.value (.func fi),args:=ys,argTypes:=_ }=>F g == some fi && a7 F xs ys.toList
 | .callG g xs,.call { callee:=.value (.func fi),args:=ys,argTypes:=_ }=>F g == some fi && a7 F xs ys.toList
 | .callS g x xs,.call { callee:=.value (.func fi),args:=⟨y::ys⟩,argTypes:=_ }=>F g == some fi && ae F x y && a7 F xs ys
 | .callN g x xs,.call { callee:=.value (.func fi),args:=⟨y::ys⟩,argTypes:=_ }=>F g == some fi && ae F x y && a7 F xs ys
 | .callE g x xs,.call { callee:=.value (.func fi),args:=⟨y::ys⟩,argTypes:=_ }=>F g == some fi && ae F x y && a7 F xs ys
 | .callA g xs,.call { callee:=.value (.func fi),args:=ys,argTypes:=_ }=>F g == some fi && a7 F xs ys.toList
 | .callL g x xs,.call { callee:=.value (.func fi),args:=⟨y::ys⟩,argTypes:=_ }=>F g == some fi && ae F x y && a7 F xs ys
 | .clr zs x,.call { callee:=.builtin .clear,args:=⟨[y]⟩,argTypes:=⟨[t]⟩ }=>nN P t zs && ae F x y
 | .callv x xs,.call { callee:=.value x',args:=ys,argTypes:=_ }=>ae F x x' && a7 F xs ys.toList
 | .st n _ x v,.store t x' v'=>fG P t n && ae F x x' && ae F v v'
 | .app sz by_ _ x y,.call { callee:=.builtin .append,args:=⟨[x',y']⟩,argTypes:=⟨[t,t']⟩ }=>t == t' && pJ P t sz by_ && ae F x x' && ae F y y'
 | .mkm _ _,.makeMap _ none=>true
 | .mpu sh kt et z m x v,.mapUpdate t m' x' v'=>mapOk F t kt et sh z && ae F m m' && ae F x x' && ae F v v'
 | .dead,_=>true
 | p,q=>oj P F p q
theorem fL {t : Option Nat} (hK : cA t K d) : ∀ a' w',bz F nt S L w0 M0 f t d a' w' -> PostX F nt S L w0 M0 f K a' w':=by
 rintro a' w' ⟨M',h⟩
 cases t with
 | none=>exact ⟨[],[],M',hK,by rw [gL];exact h⟩
 | some t=>exact ⟨_,_,M',hK,h⟩
theorem th (hl : laidOutB F.P=true) (hP : P=F.P) (h : SR F nt S L w0 M0 f M a w) {n : NOp} {q : Op} (hp : br nt f o.dst) (ho : o.op=q) (hk : oj P F n q=true) (hr : res f (·=d) n) : o.wp P a w (bz F nt S L w0 M0 f o.dst d) Q:=by
 unfold oj at hk
 split at hk <;> (try simp only [Bool.and_eq_true,beq_iff_eq] at hk)
 ·exact qe h hp (.inl ho) hk hr
 ·exact qe h hp (.inr ho) hk hr
 ·exact vQ h hp ho hk hr
 ·exact tU h hp ho hk.1.1 hk.1.2 hk.2 hr
 ·obtain ⟨⟨rfl,h1⟩,h2⟩:=hk;exact vE h hp ho h1 h2 hr
 ·obtain ⟨rfl,h1⟩:=hk;exact Ac h hp ho h1 hr
 ·exact tO h hp ho hk.2 hk.1 hr
 ·exact vL h hp ho hk.2 hk.1 hr
 ·exact tR h hp ho hk.1.2 hk.2 hk.1.1 hr
 ·exact tS h hp ho hk.1.2 hk.2 hk.1.1 hr
 ·obtain ⟨rfl,h1⟩:=hk;exact vJ h hp ho h1 hr
 ·exact vK h hp ho hk.2 hk.1 hr
 ·exact tQ h hp ho hk.1.2 hk.2 hk.1.1 hr
 ·exact tP h hp ho hk.1.2 hk.2 hk.1.1 hr
 ·exact z7 h hp ho hk.2 hk.1 hr
 ·exact snd_boxF h hp ho hk hr
 ·obtain ⟨rfl,h1⟩:=hk;exact tL h hp ho h1 hr
 ·obtain ⟨rfl,h1⟩:=hk;exact tM h hp ho h1 hr
 ·exact vF h hp ho hk hr
 ·exact vO h hp ho hk.2 hk.1 hr
 ·exact tT h hp ho hk.2 hk.1 hr
 ·exact z8 h hp ho hk.1.2 hk.2 hk.1.1 hr
 ·exact vV h hp ho hk.1.1.2 hk.1.2 hk.2 hk.1.1.1 hr
 ·exact vU h hp ho hk.1.1.2 hk.1.2 hk.2 hk.1.1.1 hr
 ·exact vR h hp ho hk.2 hk.1 hr
 ·exact vI h hp ho hk.2 hk.1 hr
 ·exact Aa h hp ho hk.1 hk.2 hr
 ·exact Ab h hp ho hk.1 hk.2 hr
 ·obtain ⟨⟨⟨rfl,h1⟩,h2⟩,h3⟩:=hk;exact vD h hp ho h2 h3 h1 hr
 ·exact rf h hp ho hk.1.1.1 hk.1.1.2 hk.1.2 hk.2 hr
 ·exact rB h hp ho hk.1.1.1 hk.1.1.2 hk.1.2 hk.2 hr
 ·obtain ⟨⟨⟨rfl,h1⟩,h2⟩,h3⟩:=hk;exact snd_mpl hl h hp ho h2 h3 h1 hP hr
 ·cases hk
theorem rY {t q sz by_ : Nat} {x y : Opd} (h : aq C f (some t) K (.appQ q sz by_ x y)) : aq C f (some t) K (.app sz by_ false x y):=by
 simp only [aq] at h ⊢
 split at h
 ·rename_i c i o' k n ex
  obtain ⟨rfl,h⟩:=h
  obtain ⟨rows,bs,⟨h1,h2,h⟩,hg⟩:=dh h
  refine hg _ ?_
  subst h1
  simp only [ex]
  split at h
  ·rename_i sz0 es0 hf
   obtain ⟨row0,h3,es,h4,h5,h6,h7⟩:=h
   refine ⟨rfl,h2,rfl,?_⟩
   first | (rw [hf]) | skip
   exact ⟨row0,h3,es,h4,h5,h6,h7⟩
  ·exact h.elim
 ·exact h.elim
theorem yO {dst : Option Nat} {q : Nat} {x : Opd} (h : aq C f dst K (.ldQ q x)) : aq C f dst K (.ld 1 false x):=by
 simp only [aq,res] at h ⊢
 split at h
 ·rename_i c i off ex
  obtain ⟨rfl,h⟩:=h
  split at h
  ·rename_i sz es hf
   obtain ⟨r,h1,d,h2,h3⟩:=h
   have hl:=(List.getElem?_eq_some_iff.1 h2).1
   have gp : aL f (.r c)=some (sz,es):=by simp only [aL,hf]
   simp only [ex,gp]
   refine ⟨r,h1,by omega,?_⟩
   have : (r.drop off).headD .any=d:=by
    rw [List.headD_eq_head?_getD,List.head?_drop,h2];rfl
   rw [this]
   exact h3
  ·exact h.elim
 ·exact h.elim
theorem oL {dst : Option Nat} {xs : List Opd} {g : Nat} (h0 : ∀ x ∈ xs,isV (vd f x)=true) (hc : C g (xs.map (vd f)) d []) (hK : cA dst K d) : (∀ x ∈ xs,bk f (vd f x)) /\ ∃ d,C g (xs.map (dpv f)) d [] /\ (isF d=true \/ (xs.all fun x=>isV (vd f x))=true) /\ cA dst K d:=by
 have e : xs.map (dpv f)=xs.map (vd f):=List.map_congr_left fun x hx=>(dJ (h0 x hx)).1
 exact ⟨fun x hx=>(dJ (h0 x hx)).2,d,by rw [e];exact hc,.inr (List.all_eq_true.2 h0),hK⟩
def NoL (L : Nat -> Option Loc) : Prop:=∀ t i,i < 15 -> L (rt t i)=none
theorem zN (hC : bi P F C) (hL : NoL L) (h : SR F nt S L w0 M0 f M a w) {n : NOp} {q : Op} (hd : ∀ t,o.dst=some t -> t < nt) (ho : o.op=q) (hk : mq P F n q=true) (hr : aq C f o.dst K n) : o.wp P a w (PostX F nt S L w0 M0 f K) Q:=by
 have hp : br nt f o.dst:=by
  unfold br
  split
  ·trivial
  ·rename_i t e;exact hd t e
 unfold mq at hk
 have dst : ∀ {n : NOp},aq C f none K n -> (∀ x,n ≠ .asg x) -> (∀ x,n ≠ .nilo x) -> True:=fun _ _ _=>trivial
 split at hk <;> (try simp only [Bool.and_eq_true,beq_iff_eq] at hk)
 ·cases hdst : o.dst with
  | none=>rw [hdst] at hr;exact hr.elim
  | some t=>rw [hdst] at hr;exact qc h hdst (hd t hdst) (hL t 0 (by decide)) (.inl ho) hk hr
 ·cases hdst : o.dst with
  | none=>rw [hdst] at hr;exact hr.elim
  | some t=>rw [hdst] at hr;exact qc h hdst (hd t hdst) (hL t 0 (by decide)) (.inr ho) hk hr
 ·simp only [aq] at hr
  cases hdst : o.dst with
  | none=>rw [hdst] at hr;exact hr.elim
  | some t=>rw [hdst] at hr;exact qd h hdst (hd t hdst) (.inl ho) hk hr
 ·simp only [aq] at hr
  cases hdst : o.dst with
  | none=>rw [hdst] at hr;exact hr.elim
  | some t=>rw [hdst] at hr;exact qd h hdst (hd t hdst) (.inr ho) hk hr
 ·have hr' : res f (cA o.dst K) (.ld 1 false _):=yO hr
  obtain ⟨d,h1,h2⟩:=iZ hr'
  exact Oper.wp_mono (fL h1) (th (n:=.ld 1 false _) hC.laid hC.prog h hp ho (by simp only [oj,Bool.and_eq_true];exact hk) (h2 _ rfl))
 ·obtain ⟨⟨⟨rfl,h1⟩,h2⟩,h3⟩:=hk
  cases hdst : o.dst with
  | none=>rw [hdst] at hr;exact hr.elim
  | some t=>rw [hdst] at hr;exact qb h hdst (hd t hdst) (hL t 0 (by decide)) ho rfl h2 h3 h1 (rY hr)
 ·simp only [aq] at hr
  cases hdst : o.dst with
  | none=>rw [hdst] at hr;exact hr.elim
  | some t=>rw [hdst] at hr;exact vH h hdst (hd t hdst) ho hk.1.2 hk.2 hk.1.1 hr
 ·simp only [aq] at hr
  cases hdst : o.dst with
  | none=>rw [hdst] at hr;exact hr.elim
  | some t=>rw [hdst] at hr;exact vN h hL hdst (hd t hdst) ho hk.2 hk.1 hr
 ·simp only [aq] at hr
  cases hdst : o.dst with
  | none=>rw [hdst] at hr;exact hr.elim
  | some t=>rw [hdst] at hr;exact vM h hdst (hd t hdst) ho hk.2 hk.1 hr
 ·exact vY h ho hk.1.2 hk.2 hk.1.1 hr
 ·exact vW h ho hk.1.2 hk.2 hk.1.1 hr
 ·exact vX h ho hk.1.2 hk.2 hk.1.1 hr
 ·have hr' : res f (cA o.dst K) (.mkI _ _):=hr
  obtain ⟨d,h1,h2⟩:=iZ hr'
  exact Oper.wp_mono (fL h1) (vP h hp ho hk.1.1 hk.1.2 hk.2 (h2 _ rfl))
 ·have hr' : res f (cA o.dst K) (.tya _ _):=hr
  obtain ⟨d,h1,h2⟩:=iZ hr'
  exact Oper.wp_mono (fL h1) (vZ h hp ho hk.1.1 hk.1.2 hk.2 (h2 _ rfl))
 ·obtain ⟨⟨⟨rfl,h1⟩,h2⟩,h3⟩:=hk
  split at h1
  ·rename_i fi hg
   simp only [aq] at hr
   exact rk hC h hd ho h2 h3 hg h1 hr
  ·cases h1
 ·simp only [aq] at hr
  exact rn hC h hd ho hk.1.2 hk.2 hk.1.1 hr
 ·simp only [aq] at hr
  exact rq hC h hd ho hk.1.2 hk.2 hk.1.1 hr
 ·exact rp hC h hd ho hk.1.2 hk.2 hk.1.1 hr
 ·cases hdst : o.dst with
  | none=>rw [hdst] at hr;exact hr.elim
  | some t=>rw [hdst] at hr;exact tN h hdst (hd t hdst) (hL t 0 (by decide)) ho hk hr
 ·cases hdst : o.dst with
  | none=>rw [hdst] at hr;exact hr.elim
  | some t=>rw [hdst] at hr;exact vT h hdst (hd t hdst) (hL t 0 (by decide)) ho hk.2 hk.1.1 (of_decide_eq_true hk.1.2) hr
 ·cases hdst : o.dst with
  | none=>rw [hdst] at hr;exact hr.elim
  | some t=>rw [hdst] at hr;exact oE h hdst (hd t hdst) (hL t 0 (by decide)) (.inl ho) hk hr
 ·cases hdst : o.dst with
  | none=>rw [hdst] at hr;exact hr.elim
  | some t=>rw [hdst] at hr;exact oE h hdst (hd t hdst) (hL t 0 (by decide)) (.inr ho) hk hr
 ·cases hdst : o.dst with
  | none=>rw [hdst] at hr;exact hr.elim
  | some t=>rw [hdst] at hr;exact snd_box h hdst (hd t hdst) (hL t 0 (by decide)) ho hk hr
 ·cases hdst : o.dst with
  | none=>rw [hdst] at hr;exact hr.elim
  | some t=>rw [hdst] at hr;exact snd_alc h hdst (hd t hdst) (hL t 0 (by decide)) ho hk hr
 ·obtain ⟨rfl,hk⟩:=hk
  cases hdst : o.dst with
  | none=>rw [hdst] at hr;exact hr.elim
  | some t=>rw [hdst] at hr;exact snd_bls h hdst (hd t hdst) (hL t 0 (by decide)) ho hk hr
 ·cases hdst : o.dst with
  | none=>rw [hdst] at hr;exact hr.elim
  | some t=>rw [hdst] at hr;exact snd_mks h hdst (hd t hdst) (hL t 0 (by decide)) ho hk.1.2 hk.2 hk.1.1 hr
 ·exact oD hC h hp ho hk.2 hk.1 hr
 ·simp only [aq] at hr
  cases hdst : o.dst with
  | none=>rw [hdst] at hr;exact hr.2.elim
  | some t=>rw [hdst] at hr;exact ri hC h hdst (hd t hdst) (hL t 0 (by decide)) ho hk.2 hk.1 hr
 ·simp only [aq] at hr
  exact rj hC h hp ho hk.2 hk.1 hr
 ·simp only [aq] at hr
  exact ry hC h (fun t=>hL t 0 (by decide)) hd ho hk.1.2 hk.2 hk.1.1 hr
 ·simp only [aq] at hr
  exact ro hC h hd ho hk.1.2 hk.2 hk.1.1 hr
 ·simp only [aq] at hr
  cases hdst : o.dst with
  | none=>rw [hdst] at hr;exact hr.elim
  | some t=>rw [hdst] at hr;exact rh hC h hdst (hd t hdst) (hL t 0 (by decide)) ho hk.1.2 hk.2 hk.1.1 hr
 ·simp only [aq] at hr
  obtain ⟨h0,hr⟩:=hr
  rcases hr with ⟨d,hc,hK⟩ | hr
  ·exact oD hC h hp ho hk.2 hk.1 (oL h0 hc hK)
  ·cases hdst : o.dst with
   | none=>rw [hdst] at hr;exact hr.elim
   | some t=>rw [hdst] at hr;exact rg hC h hL hdst (hd t hdst) ho hk.2 hk.1 ⟨h0,hr⟩
 ·simp only [aq] at hr
  exact rl hC h hd ho hk.1.2 hk.2 hk.1.1 hr
 ·simp only [aq] at hr
  exact vG h hd ho hk.2 hk.1 hr
 ·exact rA hC h hp ho hk.1 hk.2 hr
 ·have hdst : o.dst=none:=hr.1
  exact tV h hdst ho hk.1.2 hk.2 hk.1.1 (by rw [hdst] at hr;exact hr)
 ·obtain ⟨⟨⟨rfl,h1⟩,h2⟩,h3⟩:=hk
  cases hdst : o.dst with
  | none=>rw [hdst] at hr;exact hr.elim
  | some t=>rw [hdst] at hr;exact qb h hdst (hd t hdst) (hL t 0 (by decide)) ho rfl h2 h3 h1 hr
 ·cases hdst : o.dst with
  | none=>rw [hdst] at hr;exact hr.elim
  | some t=>rw [hdst] at hr;exact snd_mkm h hdst (hd t hdst) (hL t 0 (by decide)) ho hr
 ·have hdst : o.dst=none:=hr.1
  exact snd_mpu hC.laid h hdst ho hk.1.1.2 hk.1.2 hk.2 hk.1.1.1 hC.prog (by rw [hdst] at hr;exact hr)
 ·exact hr.elim
 ·have hr' : res f (cA o.dst K) n:=by
   clear dst
   cases n <;> first | exact hr | (simp [oj] at hk)
  obtain ⟨d,h1,h2⟩:=iZ hr'
  exact Oper.wp_mono (fL h1) (th hC.laid hC.prog h hp ho hk (h2 _ rfl))
def wQ (nt : Nat) : Option Nat -> Bool
 | none=>true
 | some t=>decide (t < nt)
def mR (ops : Array Oper) : Option (Nat × Bool) -> Option (Nat × Bool) -> Bool
 | none,none=>true
 | some (j,b),some (s,b')=>b == b' && decide (s < 10000) && (match ops[j]? with
  | some o=>o.dst == some s
  | none=>false)
 | _,_=>false
def mo (P : Program) (F : Fid) (nt : Nat) (ops : Array Oper) (n : am) (o : Oper) : Bool :=
 n.dst == o.dst && wQ nt n.dst && mR ops o.guard n.guard && mq P F n.op o.op
theorem pH {ops : Array Oper} {tmps : Array Value} {j s : Nat} {b : Bool} {o : Oper} (h1 : ops[j]? = some o) (h2 : o.dst=some s) (h3 : tmps[s]? = some (.bool b)) : yielded ops tmps j=some b:=by
 simp [yielded,h1,h2,h3]
theorem oI {ops : Array Oper} {tmps : Array Value} {j s : Nat} {o : Oper} (h1 : ops[j]? = some o) (h2 : o.dst=some s) {vs : Array Value} (h3 : tmps[s]? = some (.tuple vs)) : yielded ops tmps j=none:=by
 simp [yielded,h1,h2,h3]
def Skp (want : Bool) (d : D) : Prop:=d=.bool (!want) \/ d=.tup []
theorem tZ {ops : Array Oper} {n : am} {o : Oper} (h : mR ops o.guard n.guard=true) {f : Nat -> D} {M : Mem} {a : Act} {w : World} (hs : SR F nt S L w0 M0 f M a w) :
  (n.guard=none -> Region.wanted o (yielded ops a.tmps)=true) /\
  (∀ s want b,n.guard=some (s,want) -> f s=.bool b -> Region.wanted o (yielded ops a.tmps)=(b == want)) /\
  (∀ s want,n.guard=some (s,want) -> f s=.tup [] -> Region.wanted o (yielded ops a.tmps)=false):=by
 unfold mR at h
 split at h
 ·rename_i e1 e2
  exact ⟨fun _=>by simp [Region.wanted,e1],fun s want b e3=>(by rw [e2] at e3;cases e3),fun s want e3=>(by rw [e2] at e3;cases e3)⟩
 ·rename_i j b s b' e1 e2
  simp only [Bool.and_eq_true,beq_iff_eq,decide_eq_true_eq] at h
  obtain ⟨⟨rfl,hs10⟩,h⟩:=h
  split at h
  ·rename_i o' ho'
   simp only [beq_iff_eq] at h
   obtain ⟨ρ,ω,hO⟩:=hs.own
   refine ⟨fun e3=>(by rw [e2] at e3;cases e3),fun s1 want b1 e3 e4=>?_,fun s1 want e3 e4=>?_⟩
   ·rw [e2] at e3
    cases e3
    rcases hO.slots s hs10 with h5 | ⟨v,h5,h6⟩
    ·rw [e4] at h5;cases h5
    ·rw [e4] at h6
     simp only [aV,al,ab] at h6
     subst h6
     simp [Region.wanted,e1,pH ho' h h5]
   ·rw [e2] at e3
    cases e3
    rcases hO.slots s hs10 with h5 | ⟨v,h5,h6⟩
    ·rw [e4] at h5;cases h5
    ·rw [e4] at h6
     simp only [aV,al,ab] at h6
     obtain ⟨vs,rfl,_⟩:=h6
     simp [Region.wanted,e1,oI ho' h h5]
  ·cases h
 ·cases h
theorem nG {e : Env} {s : Nat} {b : Bool} (h : aa e s=.bool b) : aa ((s,.bool b)::e)=aa e:=by
 funext t
 simp only [aa]
 by_cases ht : s=t
 ·subst ht;rw [if_pos rfl,h]
 ·rw [if_neg ht]
def f8 (C : Nat -> List D -> D -> List D -> Prop) (n : am) (f : Nat -> D) (x : Option (List (Nat × D) × List (Nat × Bool))) : Prop :=
 match x with
 | some (ws,ks)=>(∀ s b,n.guard=some (s,b) -> f s=.bool b) /\ aq C f n.dst (fun ws' ks'=>ws'=ws /\ ks'=ks) n.op
 | none=>∃ s b,n.guard=some (s,b) /\ Skp b (f s)
def lO (n : am) : Option (List (Nat × D) × List (Nat × Bool)) -> (Nat -> D) -> (Nat -> D)
 | some (ws,ks)=>eff ws ks
 | none=>match n.dst with
  | some t=>eff [(t,.tup [])] []
  | none=>fun f=>f
theorem xG (hC : bi P F C) (hL : NoL L) {ops : Array Oper} {n : am} (hk : mo P F nt ops n o=true) (h : SR F nt S L w0 M0 f M a w) {x : Option (List (Nat × D) × List (Nat × Bool))} (hr : f8 C n f x) {R : Act -> World -> Prop}
  (hR : ∀ M' a' w',SR F nt S L w0 M0 (lO n x f) M' a' w' -> R a' w') :
  if Region.wanted o (yielded ops a.tmps) then o.wp P a w R Q \/ (o.asks P a w /\ LetsOut Q) else R (a.put o.dst undef) w:=by
 unfold mo at hk
 simp only [Bool.and_eq_true,beq_iff_eq] at hk
 obtain ⟨⟨⟨hd,hdo⟩,hgu⟩,hop⟩:=hk
 have hw:=tZ hgu h
 have hdst : ∀ t,o.dst=some t -> t < nt:=fun t e=>by
  rw [<- hd] at e
  rw [e] at hdo
  simpa [wQ] using hdo
 cases x with
 | some y =>
  obtain ⟨ws,ks⟩:=y
  obtain ⟨h1,h2⟩:=hr
  have hwant : Region.wanted o (yielded ops a.tmps)=true:=by
   cases hg : n.guard with
   | none=>exact hw.1 hg
   | some p=>obtain ⟨s,b⟩:=p;rw [hw.2.1 s b b hg (h1 s b hg)];simp
  rw [hwant,if_pos rfl]
  left
  rw [hd] at h2
  refine Oper.wp_mono ?_ (zN hC hL h hdst rfl hop h2)
  rintro a' w' ⟨ws',ks',M',⟨rfl,rfl⟩,h'⟩
  exact hR M' a' w' h'
 | none =>
  obtain ⟨s,b,h1,h2⟩:=hr
  have hno : Region.wanted o (yielded ops a.tmps)=false:=by
   rcases h2 with h2 | h2
   ·rw [hw.2.1 s b (!b) h1 h2];cases b <;> rfl
   ·exact hw.2.2 s b h1 h2
  rw [hno,if_neg Bool.false_ne_true]
  refine hR M _ w ?_
  unfold lO
  rw [hd]
  cases hdd : o.dst with
  | none=>exact h
  | some t=>exact h.put (hdst t hdd) (fun _ _ _=>by simp [aV,al,ab,ap,undef])
theorem rE {K : Env -> Prop} {n : am} {ns : List am} {e : Env} (h : ib C K (n::ns) e) : ∃ x e',f8 C n (aa e) x /\ aa e'=lO n x (aa e) /\ ib C K ns e':=by
 have run : ∀ e1,aa e1=aa e -> (∀ s b,n.guard=some (s,b) -> aa e s=.bool b) -> oH C n.dst (ib C K ns) e1 n.op -> ∃ x e',f8 C n (aa e) x /\ aa e'=lO n x (aa e) /\ ib C K ns e':=by
  intro e1 he hg h1
  unfold oH at h1
  obtain ⟨ws,ks,h2,h3⟩:=ox h1
  rw [he] at h3
  exact ⟨some (ws,ks),_,⟨hg,h3 _ ⟨rfl,rfl⟩⟩,by rw [gz,he];rfl,h2⟩
 rw [ib] at h
 split at h
 ·rename_i hg
  exact run e rfl (fun s b e'=>(by rw [hg] at e';cases e')) h
 ·rename_i s want hg
  split at h
  ·rename_i b hb
   by_cases hbw : b=want
   ·subst hbw
    exact run _ (nG hb) (fun s' b' e'=>(by rw [hg] at e';cases e';exact hb)) (h.1 rfl)
   ·have hb' : b=!want:=by cases b <;> cases want <;> simp_all
    have h1:=h.2 hb'
    rw [hb'] at hb
    have he:=nG hb
    refine ⟨none,?_⟩
    unfold ic at h1
    unfold lO
    split at h1
    ·rename_i hd
     exact ⟨_,⟨s,want,hg,.inl hb⟩,by rw [hd];exact he,h1⟩
    ·rename_i t hd
     refine ⟨_,⟨s,want,hg,.inl hb⟩,?_,h1⟩
     rw [hd]
     have:=gz [(t,.tup [])] [] ((s,.bool !want)::e)
     simp only [dg,if_true] at this
     rw [he] at this
     exact this
  ·rename_i hb
   refine ⟨none,?_⟩
   unfold ic at h
   unfold lO
   split at h
   ·rename_i hd
    exact ⟨_,⟨s,want,hg,.inr hb⟩,by rw [hd],h⟩
   ·rename_i t hd
    refine ⟨_,⟨s,want,hg,.inr hb⟩,?_,h⟩
    rw [hd]
    have:=gz [(t,.tup [])] [] e
    simp only [dg,if_true] at this
    exact this
  ·exact h.elim
theorem rF (hC : bi P F C) (hL : NoL L) {ops : Array Oper} {K : Env -> Prop} (hQ : ∀ e M a w,SR F nt S L w0 M0 (aa e) M a w -> K e -> Q .normal a w) (ns : List am) : ∀ (os : List Oper),ns.length=os.length -> (∀ p ∈ ns.zip os,mo P F nt ops p.1 p.2=true) ->
  ∀ (e : Env) (M : Mem) (a : Act) (w : World),SR F nt S L w0 M0 (aa e) M a w -> ib C K ns e -> wpList P ops Q os a w:=by
 induction ns with
 | nil =>
  intro os hl _ e M a w h hr
  cases os with
  | nil=>exact hQ e M a w h hr
  | cons o os=>simp at hl
 | cons n ns ih =>
  intro os hl hk e M a w h hr
  cases os with
  | nil=>simp at hl
  | cons o os =>
   obtain ⟨x,e',h1,h2,h3⟩:=rE hr
   rw [wpList]
   exact xG hC hL (hk (n,o) (by simp)) h h1 (fun M' a' w' h'=>ih os (by simpa using hl) (fun p hp=>hk p (by simp [hp])) e' M' a' w' (by rw [h2];exact h') h3)
def j3 (P : Program) (F : Fid) (nt : Nat) (ns : List am) (ops : Array Oper) : Bool:=ns.length == ops.toList.length && (ns.zip ops.toList).all fun p=>mo P F nt ops p.1 p.2
theorem ov (hC : bi P F C) (hL : NoL L) {ops : Array Oper} {ns : List am} (hk : j3 P F nt ns ops=true) {id : Nat} {K : Env -> Prop} {e : Env} (h : SR F nt S L w0 M0 (aa e) M a w) (hr : ib C K ns e) (hQ : ∀ e M a w,SR F nt S L w0 M0 (aa e) M a w -> K e -> Q .normal a w) :
  (Code.region id ops false).wp P Q a w:=by
 simp only [j3,Bool.and_eq_true,beq_iff_eq,List.all_eq_true] at hk
 exact wp_region_list (rF hC hL hQ ns ops.toList hk.1 hk.2 e M a w h hr)
end
end Go.Gv

namespace Go.Gv
open Go.RowKit
def iS : Option Opd -> List Opd
 | some x=>[x]
 | none=>[]
def ac : NOp -> List Opd
 | .mov x=>[x]
 | .asg x=>[x]
 | .frz x=>[x]
 | .ldF _ x=>[x]
 | .stP x y=>[x,y]
 | .stF _ x y=>[x,y]
 | .stL x y=>[x,y]
 | .mkI _ x=>[x]
 | .tya _ x=>[x]
 | .callI _ _ _ x xs=>x::xs
 | .callM _ x xs=>x::xs
 | .callR _ x xs=>x::xs
 | .callQ _ s x xs=>x::.t s::xs
 | .boxK s x=>[x,.t s]
 | .ldQ _ x=>[x]
 | .appQ _ _ _ x y=>[x,y]
 | .cpy _ x y=>[x,y]
 | .ldM _ x=>[x]
 | .nilo _=>[]
 | .nck x=>[x]
 | .boxF x=>[x]
 | .blsF _ _ _ ps=>ps.map fun p=>p.2
 | .blsX _ _ _ ps=>ps.map fun p=>p.2
 | .pick c a b=>[c,a,b]
 | .bin _ x y=>[x,y]
 | .beq _ _ x y=>[x,y]
 | .un _ x=>[x]
 | .conv _ x=>[x]
 | .fld _ _ _ x=>[x]
 | .idxA _ _ _ x i=>[x,i]
 | .idxS x i=>[x,i]
 | .ext _ x=>[x]
 | .fad _ x=>[x]
 | .iadS _ x i=>[x,i]
 | .iadA _ _ x i=>[x,i]
 | .ld _ _ x=>[x]
 | .box _ x=>[x]
 | .alc _=>[]
 | .mkm _ _=>[]
 | .mpl _ _ _ _ _ m x=>[m,x]
 | .mpu _ _ _ _ m x v=>[m,x,v]
 | .bld _ ps=>ps.map fun p=>p.2.2
 | .bls _ _ _ _ ps=>ps.map fun p=>p.2
 | .mks _ _ _ n c=>[n,c]
 | .len x=>[x]
 | .lens x=>[x]
 | .call _ xs _=>xs
 | .callv x xs=>x::xs
 | .callF _ xs=>xs
 | .callG _ xs=>xs
 | .callS _ x xs=>x::xs
 | .callN _ x xs=>x::xs
 | .callE _ x xs=>x::xs
 | .callL _ x xs=>x::xs
 | .callA _ xs=>xs
 | .clr _ x=>[x]
 | .mk _ xs=>xs
 | .slc _ x lo hi=>x::(iS lo++iS hi)
 | .slS x lo hi=>x::(iS lo++iS hi)
 | .slA _ _ x=>[x]
 | .slM _ _ x=>[x]
 | .cvS x=>[x]
 | .mn x y=>[x,y]
 | .mx x y=>[x,y]
 | .add64 x y c=>[x,y,c]
 | .sub64 x y c=>[x,y,c]
 | .st _ _ a v=>[a,v]
 | .app _ _ _ x y=>[x,y]
 | .dead=>[]
section
variable {C : Nat -> List D -> D -> List D -> Prop} {f g : Nat -> D}
def cB (f g : Nat -> D) (d : D) : Prop:=∀ b,co b true d=true -> g b=f b
theorem eH (p : Pa) : bg p.root true p=true:=by cases p <;> simp [bg,Pa.root]
theorem cG {p : Pa} (h : g p.root=f p.root) : aL g p=aL f p:=by
 cases p <;> simp only [aL,Pa.root] at h ⊢ <;> rw [h]
theorem cB.ref {p : Pa} {k n : Nat} (h : cB f g (.ref p k n)) : g p.root=f p.root:=h _ (by simp only [co,ay];exact eH p)
theorem cB.adr {p : Pa} {i o : Nat} (h : cB f g (.adr p i o)) : g p.root=f p.root:=h _ (by simp only [co,ay];exact eH p)
theorem cB.ifa {T : Nat} {p : Pa} {i o : Nat} (h : cB f g (.ifa T p i o)) : g p.root=f p.root:=h _ (by simp only [co,ay];exact eH p)
theorem cB.mrf {b : Nat} (h : cB f g (.mrf b)) : g b=f b:=h _ (by simp [co,ay])
theorem dG {d : D} (h : ∀ b,ay b true d=true -> g b=f b) : dp1 g d=dp1 f d /\ (aH g d ↔ aH f d):=by
 cases d <;> try exact ⟨rfl,Iff.rfl⟩
 case ref p k n =>
  have e:=cG (p:=p) (h _ (by simp only [ay];exact eH p))
  simp only [dp1,aH,e,and_self]
 case adr p i off =>
  have e:=cG (p:=p) (h _ (by simp only [ay];exact eH p))
  simp only [dp1,aH,e,and_self]
theorem eu {b : Nat} {ds : List D} {d : D} (h : d ∈ ds) (hm : ay b true d=true) : ds.any (ay b true)=true:=List.any_eq_true.2 ⟨d,h,hm⟩
theorem sq {d : D} (h : isX d=false) (ha : cB f g d) : dp g d=dp f d /\ (bk g d ↔ bk f d):=by
 have e : ∀ f : Nat -> D,dp f d=dp1 f d /\ (bk f d ↔ aH f d) /\ ∀ b,co b true d=ay b true d:=fun f=>by
  cases d <;> first | exact ⟨rfl,Iff.rfl,fun _=>rfl⟩ | (simp [isX] at h)
 obtain ⟨e1,e2,e3⟩:=e f
 obtain ⟨g1,g2,_⟩:=e g
 obtain ⟨h1,h2⟩:=dG (f:=f) (g:=g) (d:=d) (fun b hb=>ha b (by rw [e3];exact hb))
 exact ⟨by rw [g1,e1,h1],by rw [g2,e2];exact h2⟩
theorem gh {d : D} (h : cB f g d) : dp g d=dp f d /\ (bk g d ↔ bk f d):=by
 cases d
 case agx ds =>
  have e : ∀ d ∈ ds,dp1 g d=dp1 f d /\ (aH g d ↔ aH f d):=fun d hd=>dG fun b hb=>h b (eu hd hb)
  simp only [dp,bk]
  exact ⟨by rw [List.map_congr_left fun d hd=>(e d hd).1],⟨fun x d hd=>(e d hd).2.1 (x d hd),fun x d hd=>(e d hd).2.2 (x d hd)⟩⟩
 case tpx ds =>
  have e : ∀ d ∈ ds,dp1 g d=dp1 f d /\ (aH g d ↔ aH f d):=fun d hd=>dG fun b hb=>h b (eu hd hb)
  simp only [dp,bk]
  exact ⟨by rw [List.map_congr_left fun d hd=>(e d hd).1],⟨fun x d hd=>(e d hd).2.1 (x d hd),fun x d hd=>(e d hd).2.2 (x d hd)⟩⟩
 case ptx ds =>
  have e : ∀ d ∈ ds,dp1 g d=dp1 f d /\ (aH g d ↔ aH f d):=fun d hd=>dG fun b hb=>h b (eu hd hb)
  simp only [dp,bk]
  exact ⟨by rw [List.map_congr_left fun d hd=>(e d hd).1],⟨fun x d hd=>(e d hd).2.1 (x d hd),fun x d hd=>(e d hd).2.2 (x d hd)⟩⟩
 case rfx n sz ds=>exact ⟨rfl,Iff.rfl⟩
 case fny g ds cs=>exact ⟨rfl,Iff.rfl⟩
 case fnx k ds =>
  have e : ∀ d ∈ ds,dp1 g d=dp1 f d /\ (aH g d ↔ aH f d):=fun d hd=>dG fun b hb=>h b (eu hd hb)
  simp only [dp,bk]
  exact ⟨by rw [List.map_congr_left fun d hd=>(e d hd).1],⟨fun x d hd=>(e d hd).2.1 (x d hd),fun x d hd=>(e d hd).2.2 (x d hd)⟩⟩
 all_goals
  exact sq rfl h
theorem jL {d : D} {K : D -> List Nat -> Prop} (h : ∀ b,ay b true d=true -> g b=f b) (hr : c8 f d K) : c8 g d K:=by
 unfold c8 at hr ⊢
 split at hr
 ·rename_i b k n
  rw [h b (by simp [ay,bg])]
  exact hr
 ·exact hr
theorem jN : ∀ {ds : List D} {K : List D -> List Nat -> Prop},(∀ d ∈ ds,∀ b,ay b true d=true -> g b=f b) -> jM f ds K -> jM g ds K
 | [],K,_,hr=>hr
 | d::ds,K,h,hr=>by
  obtain ⟨c,bs,h1,h2⟩:=jd hr
  obtain ⟨cs,bs',h3,h4⟩:=je h1
  refine jL (h d (by simp)) (h2 _ (jN (fun d hd=>h d (by simp [hd])) (h4 _ h3)))
theorem ii {d : D} {ns : List Nat} {K : List D -> List Nat -> Prop} (h : cB f g d) (hr : eA f d ns K) : eA g d ns K:=by
 unfold eA at hr ⊢
 split at hr
 ·exact hr
 ·exact ⟨hr.1,jN (fun d hd b hb=>h b (eu hd hb)) hr.2⟩
 ·rename_i hne1 hne2
  refine ⟨hr.1,jL (fun b hb=>h b ?_) hr.2⟩
  cases d <;> first | exact hb | (exact absurd rfl (hne2 _)) | (simp [ay] at hb)
theorem iU {sz : Nat} {ns : List Nat} : ∀ {ps : List (Nat × Opd)} {es : List (List D)} {bs : List Nat} {K : List (List D) -> List Nat -> Prop},(∀ p ∈ ps,vd g p.2=vd f p.2 /\ cB f g (vd f p.2)) -> d6 f sz ns ps es bs K -> d6 g sz ns ps es bs K
 | [],es,bs,K,_,hr=>hr
 | (i,x)::ps,es,bs,K,h,hr=>by
  obtain ⟨h0,hr⟩:=hr
  obtain ⟨e1,e2⟩:=h (i,x) (by simp)
  obtain ⟨cs,b1,⟨h1,h1'⟩,h2⟩:=f9 hr
  refine ⟨h0,?_⟩
  simp only at e1 e2
  rw [e1]
  exact ii e2 (h2 _ ⟨h1,iU (fun p hp=>h p (by simp [hp])) h1'⟩)
theorem gF {mv : Bool} {d : D} {sz : Nat} {K : List (List D) -> List Nat -> Prop} (h : cB f g d) (hr : ef f mv d sz K) : ef g mv d sz K:=by
 unfold ef at hr ⊢
 split at hr
 ·exact hr
 ·exact hr
 ·rename_i p k n
  cases mv with
  | true =>
   obtain ⟨h0,hr⟩:=hr
   refine ⟨h0,?_⟩
   cases p with
   | r b=>simp only at hr ⊢;rw [show g b=f b from h.ref];exact hr
   | n b i o=>exact hr
  | false=>simp only at hr ⊢;rw [cG h.ref];exact hr
 ·exact hr
theorem cp {x : Option Opd} {n : Nat} {K : Nat -> Prop} (h : ∀ y ∈ iS x,vd g y=vd f y) (hr : c9 f x n K) : c9 g x n K:=by
 unfold c9 at hr ⊢
 split at hr
 ·exact hr
 ·rename_i y
  rw [h y (by simp [iS])]
  exact hr
theorem gl : ∀ {ps : List (Nat × Opd)} {es : List (List D)},(∀ p ∈ ps,vd g p.2=vd f p.2) -> fm g ps es=fm f ps es
 | [],_,_=>rfl
 | p::ps,es,h=>by
  simp only [fm]
  rw [h p (by simp)]
  exact gl fun q hq=>h q (by simp [hq])
theorem iF {sz len : Nat} {zs : List D} {ps : List (Nat × Opd)} (h : ∀ p ∈ ps,vd g p.2=vd f p.2) : ik g sz len zs ps=ik f sz len zs ps:=by
 unfold ik
 rw [List.map_congr_left (fun p hp=>by rw [h p hp])]
theorem qX {o : NOp} {K : D -> Prop} (hv : ∀ x ∈ ac o,vd g x=vd f x) (ha : ∀ x ∈ ac o,cB f g (vd f x)) (hr : res f K o) : res g K o:=by
 cases o with
 | ld n ag x =>
  have e:=hv x (by simp [ac]);have a:=ha x (by simp [ac])
  simp only [res,e] at hr ⊢
  split at hr
  ·rename_i ex;rw [ex] at a;rw [cG a.adr];exact hr
  ·exact hr
  ·exact hr
  ·exact hr
 | iadS sz x i =>
  have e:=hv x (by simp [ac]);have a:=ha x (by simp [ac]);have e2:=hv i (by simp [ac])
  simp only [res,e,e2] at hr ⊢
  split at hr
  ·exact hr
  ·exact hr
  ·exact hr
  ·rename_i ex _;rw [ex] at a;rw [cG a.ref];exact hr
  ·exact hr
 | slc sz x lo hi =>
  have e:=hv x (by simp [ac]);have a:=ha x (by simp [ac])
  have hlo : ∀ y ∈ iS lo,vd g y=vd f y:=fun y hy=>hv y (by simp [ac,hy])
  have hhi : ∀ y ∈ iS hi,vd g y=vd f y:=fun y hy=>hv y (by simp [ac,hy])
  simp only [res,e] at hr ⊢
  split at hr
  ·exact ⟨hr.1,cp hhi (fM hr.2 fun m h=>cp hlo h)⟩
  ·exact cp hhi (fM hr fun m h=>cp hlo h)
  ·rename_i ex
   rw [ex] at a;rw [cG a.ref]
   split at hr
   ·exact ⟨hr.1,cp hhi (fM hr.2 fun m h=>cp hlo h)⟩
   ·exact hr
  ·exact hr
 | slS x lo hi =>
  have e:=hv x (by simp [ac])
  have hlo : ∀ y ∈ iS lo,vd g y=vd f y:=fun y hy=>hv y (by simp [ac,hy])
  have hhi : ∀ y ∈ iS hi,vd g y=vd f y:=fun y hy=>hv y (by simp [ac,hy])
  simp only [res,e] at hr ⊢
  split at hr
  ·exact cp hhi (fM hr fun m h=>cp hlo h)
  ·exact hr
 | bld zs ps =>
  have e : ∀ p ∈ ps,vd g p.2.2=vd f p.2.2:=fun p hp=>hv _ (List.mem_map.2 ⟨p,hp,rfl⟩)
  simp only [res] at hr ⊢
  obtain ⟨h1,h2,h3⟩:=hr
  have e2 : (ps.all fun p=>isV (vd g p.2.2))=(ps.all fun p=>isV (vd f p.2.2)):=by
   rw [Bool.eq_iff_iff,List.all_eq_true,List.all_eq_true]
   exact ⟨fun h p hp=>by rw [<- e p hp];exact h p hp,fun h p hp=>by rw [e p hp];exact h p hp⟩
  have m1 : (ps.map fun p=>(p.1,p.2.1,vd g p.2.2))=ps.map fun p=>(p.1,p.2.1,vd f p.2.2):=List.map_congr_left fun p hp=>by rw [e p hp]
  have m2 : (ps.map fun p=>(p.1,p.2.1,bJ (vd g p.2.2)))=ps.map fun p=>(p.1,p.2.1,bJ (vd f p.2.2)):=List.map_congr_left fun p hp=>by rw [e p hp]
  rw [e2,m1,m2]
  exact ⟨fun p hp=>by rw [e p hp];exact h1 p hp,h2,h3⟩
 | mk k xs =>
  have e : ∀ x ∈ xs,vd g x=vd f x:=fun x hx=>hv x hx
  simp only [res] at hr ⊢
  obtain ⟨h1,h2,h3⟩:=hr
  have e2 : (xs.all fun x=>isV (vd g x))=(xs.all fun x=>isV (vd f x)):=by
   rw [Bool.eq_iff_iff,List.all_eq_true,List.all_eq_true]
   exact ⟨fun h p hp=>by rw [<- e p hp];exact h p hp,fun h p hp=>by rw [e p hp];exact h p hp⟩
  rw [e2,List.map_congr_left e]
  exact ⟨fun p hp=>by rw [e p hp];exact h1 p hp,h2,h3⟩
 | pick c x y=>simp only [res,hv c (by simp [ac]),hv x (by simp [ac]),hv y (by simp [ac])] at hr ⊢;exact hr
 | add64 x y c=>simp only [res,hv c (by simp [ac]),hv x (by simp [ac]),hv y (by simp [ac])] at hr ⊢;exact hr
 | sub64 x y c=>simp only [res,hv c (by simp [ac]),hv x (by simp [ac]),hv y (by simp [ac])] at hr ⊢;exact hr
 | bin op x y=>simp only [res,hv x (by simp [ac]),hv y (by simp [ac])] at hr ⊢;exact hr
 | beq op ks x y=>simp only [res,hv x (by simp [ac]),hv y (by simp [ac])] at hr ⊢;exact hr
 | idxA l s g x i=>simp only [res,hv x (by simp [ac]),hv i (by simp [ac])] at hr ⊢;exact hr
 | idxS x i=>simp only [res,hv x (by simp [ac]),hv i (by simp [ac])] at hr ⊢;exact hr
 | iadA l s x i=>simp only [res,hv x (by simp [ac]),hv i (by simp [ac])] at hr ⊢;exact hr
 | mn x y=>simp only [res,hv x (by simp [ac]),hv y (by simp [ac])] at hr ⊢;exact hr
 | mx x y=>simp only [res,hv x (by simp [ac]),hv y (by simp [ac])] at hr ⊢;exact hr
 | mov x=>simp only [res,hv x (by simp [ac])] at hr ⊢;exact hr
 | nck x=>simp only [res,hv x (by simp [ac])] at hr ⊢;exact hr
 | un op x=>simp only [res,hv x (by simp [ac])] at hr ⊢;exact hr
 | conv k x=>simp only [res,hv x (by simp [ac])] at hr ⊢;exact hr
 | slA l s x=>simp only [res,hv x (by simp [ac])] at hr ⊢;exact hr
 | cvS x=>simp only [res,hv x (by simp [ac])] at hr ⊢;exact hr
 | fld a b c x=>simp only [res,hv x (by simp [ac])] at hr ⊢;exact hr
 | ext i x=>simp only [res,hv x (by simp [ac])] at hr ⊢;exact hr
 | fad i x=>simp only [res,hv x (by simp [ac])] at hr ⊢;exact hr
 | mkI T x=>simp only [res,hv x (by simp [ac])] at hr ⊢;exact hr
 | tya T x=>simp only [res,hv x (by simp [ac])] at hr ⊢;exact hr
 | len x=>simp only [res,hv x (by simp [ac])] at hr ⊢;exact hr
 | boxF x=>simp only [res,hv x (by simp [ac])] at hr ⊢;exact hr
 | blsF sz len zs ps =>
  have e : ∀ p ∈ ps,vd g p.2=vd f p.2:=fun p hp=>hv _ (List.mem_map.2 ⟨p,hp,rfl⟩)
  simp only [res] at hr ⊢
  rw [gl e]
  exact ⟨fun p hp=>by rw [e p hp];exact hr.1 p hp,hr.2⟩
 | blsX sz len zs ps =>
  have e : ∀ p ∈ ps,vd g p.2=vd f p.2:=fun p hp=>hv _ (List.mem_map.2 ⟨p,hp,rfl⟩)
  simp only [res] at hr ⊢
  rw [iF e]
  exact ⟨hr.1,fun p hp=>by rw [e p hp];exact hr.2.1 p hp,hr.2.2⟩
 | lens x=>simp only [res,hv x (by simp [ac])] at hr ⊢;exact hr
 | mpl sh kt et ok z m x =>
  have e:=hv m (by simp [ac]);have a:=ha m (by simp [ac]);have e2:=hv x (by simp [ac])
  simp only [res,e,e2] at hr ⊢
  split at hr
  ·rename_i b ex
   rw [ex] at a
   rw [a.mrf]
   exact hr
  ·exact hr
 | _=>simp only [res] at hr
theorem pw {o : NOp} {dst : Option Nat} {K : List (Nat × D) -> List (Nat × Bool) -> Prop} (hv : ∀ x ∈ ac o,vd g x=vd f x) (ha : ∀ x ∈ ac o,cB f g (vd f x)) (hr : aq C f dst K o) : aq C g dst K o:=by
 cases o with
 | frz x =>
  have e:=hv x (by simp [ac]);have a:=ha x (by simp [ac])
  cases dst with
  | none=>exact hr
  | some t =>
   simp only [aq,e] at hr ⊢
   split at hr
   ·rename_i c k n ex
    rw [ex] at a
    have hl:=dG (d:=.ref (.r c) k n) (f:=f) (g:=g) (fun b hb=>a b (by simp only [co];exact hb))
    rw [hl.1]
    exact ⟨hl.2.2 hr.1,hr.2⟩
   ·exact hr
 | asg x =>
  have e:=hv x (by simp [ac]);have a:=ha x (by simp [ac])
  cases dst with
  | none=>exact hr
  | some t =>
   simp only [aq,e] at hr ⊢
   split at hr
   ·rename_i c k n ex
    rw [ex] at a
    rw [show g c=f c from a.ref]
    exact hr
   ·exact hr
 | ldQ q x =>
  have e:=hv x (by simp [ac]);have a:=ha x (by simp [ac])
  simp only [aq,e] at hr ⊢
  split at hr
  ·rename_i c i off ex
   rw [ex] at a
   rw [show g c=f c from a.adr]
   exact hr
  ·exact hr
 | appQ q sz by_ x y =>
  have e:=hv x (by simp [ac]);have a:=ha x (by simp [ac]);have e2:=hv y (by simp [ac]);have a2:=ha y (by simp [ac])
  cases dst with
  | none=>exact hr
  | some t =>
   simp only [aq,e,e2] at hr ⊢
   split at hr
   ·rename_i c i o k n ex
    rw [ex] at a
    obtain ⟨h0,hr⟩:=hr
    obtain ⟨rows,bs,⟨h1,h1',h2⟩,h3⟩:=dh hr
    refine ⟨h0,gF a2 (h3 _ ⟨h1,h1',?_⟩)⟩
    rw [show g c=f c from a.ref]
    exact h2
   ·exact hr
 | cpy sz x y =>
  have e:=hv x (by simp [ac]);have a:=ha x (by simp [ac]);have e2:=hv y (by simp [ac]);have a2:=ha y (by simp [ac])
  cases dst with
  | none=>exact hr
  | some t =>
   simp only [aq,e,e2] at hr ⊢
   obtain ⟨rows,bs,⟨h1,h1',h2⟩,h3⟩:=dh hr
   refine gF a2 (h3 _ ⟨h1,h1',?_⟩)
   split at h2
   ·rename_i c k n ex;rw [ex] at a;rw [show g c=f c from a.ref];exact h2
   ·exact h2
 | ldM n x =>
  have e:=hv x (by simp [ac]);have a:=ha x (by simp [ac])
  cases dst with
  | none=>exact hr
  | some t =>
   simp only [aq,e] at hr ⊢
   split at hr
   ·rename_i c i off ex
    rw [ex] at a
    rw [show g c=f c from a.adr]
    exact hr
   ·exact hr
 | stL x y =>
  have e:=hv x (by simp [ac]);have a:=ha x (by simp [ac]);have e2:=hv y (by simp [ac])
  simp only [aq,e,e2] at hr ⊢
  refine ⟨hr.1,?_⟩
  have hr:=hr.2
  split at hr
  ·rename_i b i off b' i' o' k n ex ey
   rw [ex] at a
   rw [show g b=f b from a.adr]
   exact hr
  ·exact hr
 | boxK s x =>
  have e:=hv x (by simp [ac]);have a:=ha x (by simp [ac]);have e2:=hv (.t s) (by simp [ac])
  simp only [vd] at e2
  cases dst with
  | none=>exact hr
  | some t =>
   simp only [aq,e,e2] at hr ⊢
   refine ⟨hr.1,hr.2.1,?_⟩
   have hr:=hr.2.2
   split at hr
   ·rename_i c k n ex
    rw [ex] at a
    rw [show g c=f c from a c (by simp [co,ay,bg])]
    exact hr
   ·exact hr
 | callI k m T x0 xs =>
  have e0:=hv x0 (by simp [ac]);have a0:=ha x0 (by simp [ac])
  have e : ∀ x ∈ xs,vd g x=vd f x:=fun x hx=>hv x (by simp [ac,hx])
  simp only [aq,e0] at hr ⊢
  split at hr
  ·rename_i T' b i o hvx
   rw [hvx] at a0
   have hb : g b=f b:=a0.ifa
   rw [hb,List.map_congr_left e]
   obtain ⟨h0,h1,h2,hr⟩:=hr
   refine ⟨h0,h1,h2,?_⟩
   split at hr
   ·exact ⟨hr.1,fun x hx=>by rw [e x hx];exact hr.2.1 x hx,hr.2.2⟩
   ·exact hr.elim
  ·exact hr.elim
 | callM k x0 xs =>
  have e0:=hv x0 (by simp [ac]);have a0:=ha x0 (by simp [ac])
  have e : ∀ x ∈ xs,vd g x=vd f x:=fun x hx=>hv x (by simp [ac,hx])
  simp only [aq,e0] at hr ⊢
  split at hr
  ·rename_i T' b i o hvx
   rw [hvx] at a0
   have hb : g b=f b:=a0.ifa
   rw [hb,List.map_congr_left e]
   obtain ⟨h1,h2,hr⟩:=hr
   refine ⟨h1,h2,?_⟩
   split at hr
   ·exact ⟨hr.1,fun x hx=>by rw [e x hx];exact hr.2.1 x hx,hr.2.2⟩
   ·exact hr.elim
  ·exact hr.elim
 | callR k x0 xs =>
  have e0:=hv x0 (by simp [ac]);have a0:=ha x0 (by simp [ac])
  have e : ∀ x ∈ xs,vd g x=vd f x:=fun x hx=>hv x (by simp [ac,hx])
  simp only [aq,e0] at hr ⊢
  split at hr
  ·rename_i b i o hvx
   rw [hvx] at a0
   have hb : g b=f b:=a0.ref
   rw [hb,List.map_congr_left e]
   obtain ⟨h1,hr⟩:=hr
   refine ⟨h1,?_⟩
   split at hr
   ·exact ⟨hr.1,hr.2.1,fun x hx=>by rw [e x hx];exact hr.2.2.1 x hx,hr.2.2.2⟩
   ·exact hr.elim
  ·exact hr.elim
 | callQ k s x0 xs =>
  have e0:=hv x0 (by simp [ac]);have a0:=ha x0 (by simp [ac]);have e2:=hv (.t s) (by simp [ac])
  simp only [vd] at e2
  have e : ∀ x ∈ xs,vd g x=vd f x:=fun x hx=>hv x (by simp [ac,hx])
  simp only [aq,e0,e2] at hr ⊢
  split at hr
  ·rename_i T' b i o hvx
   rw [hvx] at a0
   have hb : g b=f b:=a0.ifa
   rw [hb,List.map_congr_left e]
   obtain ⟨h1,h2,h3,h4,h5,hr⟩:=hr
   exact ⟨h1,h2,h3,h4,fun x hx=>by rw [e x hx];exact h5 x hx,hr⟩
  ·exact hr.elim
 | stF n x y =>
  have e:=hv x (by simp [ac]);have a:=ha x (by simp [ac]);have e2:=hv y (by simp [ac])
  simp only [aq,e2] at hr ⊢
  refine ⟨hr.1,?_⟩
  have hr:=hr.2
  split at hr
  ·rename_i s
   simp only [vd] at e a
   rw [e]
   refine ⟨hr.1,?_⟩
   have hr:=hr.2
   split at hr
   ·rename_i c i0 o0 ex
    rw [ex] at a
    rw [show g c=f c from a.adr]
    exact hr
   ·exact hr
  ·exact hr
 | stP x y =>
  have e:=hv x (by simp [ac]);have a:=ha x (by simp [ac]);have e2:=hv y (by simp [ac]);have a2:=ha y (by simp [ac])
  simp only [aq,e] at hr ⊢
  refine ⟨hr.1,?_⟩
  have hr:=hr.2
  split at hr
  ·rename_i s
   simp only [vd] at e2 a2
   rw [e2]
   refine ⟨hr.1,?_⟩
   have hr:=hr.2
   split at hr
   ·rename_i c i0 o0 ex
    rw [ex] at a2
    rw [show g c=f c from a2.adr]
    refine ⟨hr.1,hr.2.1,?_⟩
    have hr:=hr.2.2
    split at hr
    ·refine ⟨hr.1,?_⟩
     have hr:=hr.2
     split at hr
     ·rename_i b i1 o1 i off ex2
      rw [ex2] at a
      rw [show g b=f b from a.adr]
      exact hr
     ·exact hr
    ·exact hr
   ·exact hr
  ·exact hr
 | ldF n x =>
  have e:=hv x (by simp [ac]);have a:=ha x (by simp [ac])
  cases dst with
  | none=>exact hr
  | some t =>
   simp only [aq,e] at hr ⊢
   split at hr
   ·rename_i c i off ex
    rw [ex] at a
    rw [show g c=f c from a.adr]
    exact hr
   ·exact hr
 | slM len sz x =>
  have e:=hv x (by simp [ac]);have a:=ha x (by simp [ac])
  cases dst with
  | none=>exact hr
  | some t =>
   simp only [aq,e] at hr ⊢
   split at hr
   ·rename_i c i off ex
    rw [ex] at a
    rw [show g c=f c from a.adr]
    exact hr
   ·exact hr
 | nilo sz=>exact hr
 | alc zs=>exact hr
 | mkm kt et=>exact hr
 | mpu sh kt et z m x v =>
  have e:=hv m (by simp [ac]);have a:=ha m (by simp [ac]);have e2:=hv x (by simp [ac]);have e3:=hv v (by simp [ac])
  simp only [aq,e,e2,e3] at hr ⊢
  refine ⟨hr.1,?_⟩
  have hr:=hr.2
  split at hr
  ·rename_i b ex
   rw [ex] at a
   rw [a.mrf]
   exact hr
  ·exact hr
 | box ns x =>
  have e:=hv x (by simp [ac]);have a:=ha x (by simp [ac])
  cases dst with
  | none=>exact hr
  | some t=>simp only [aq,e] at hr ⊢;exact ii a hr
 | bls sz len zs ns ps =>
  cases dst with
  | none=>exact hr
  | some t=>simp only [aq] at hr ⊢;exact iU (fun p hp=>⟨hv _ (List.mem_map.2 ⟨p,hp,rfl⟩),ha _ (List.mem_map.2 ⟨p,hp,rfl⟩)⟩) hr
 | mks sz by_ zs n c =>
  have e:=hv n (by simp [ac]);have e2:=hv c (by simp [ac])
  cases dst with
  | none=>exact hr
  | some t=>simp only [aq,e,e2] at hr ⊢;exact hr
 | st n ns x v =>
  have e:=hv x (by simp [ac]);have a:=ha x (by simp [ac]);have e2:=hv v (by simp [ac]);have a2:=ha v (by simp [ac])
  simp only [aq,e,e2] at hr ⊢
  obtain ⟨h0,hr⟩:=hr
  refine ⟨h0,?_⟩
  obtain ⟨cs,bs,⟨h1,h2⟩,h3⟩:=f9 hr
  refine ii a2 (h3 _ ⟨h1,?_⟩)
  split at h2
  ·rename_i b i off ex;rw [ex] at a;rw [show g b=f b from a.adr];exact h2
  ·rename_i b i0 o0 i off ex;rw [ex] at a;rw [show g b=f b from a.adr];exact h2
  ·exact h2
 | app sz by_ mv x y =>
  have e:=hv x (by simp [ac]);have a:=ha x (by simp [ac]);have e2:=hv y (by simp [ac]);have a2:=ha y (by simp [ac])
  cases dst with
  | none=>exact hr
  | some t =>
   simp only [aq,e,e2] at hr ⊢
   obtain ⟨rows,bs,⟨h1,h2⟩,h3⟩:=dh hr
   refine gF a2 (h3 _ ⟨h1,?_⟩)
   split at h2
   ·exact h2
   ·rename_i c k n ex;rw [ex] at a;rw [show g c=f c from a.ref];exact h2
   ·rename_i c i o k n ex;rw [ex] at a;rw [show g c=f c from a.ref];exact h2
   ·exact h2
 | call k xs ms =>
  simp only [aq] at hr ⊢
  obtain ⟨h0,d,h1,h2,h3⟩:=hr
  have e : ∀ x ∈ xs,dpv g x=dpv f x /\ (bk g (vd g x) ↔ bk f (vd f x)):=fun x hx=>by
   have:=gh (ha x hx)
   unfold dpv
   rw [hv x hx]
   exact this
  refine ⟨fun x hx=>(e x hx).2.2 (h0 x hx),d,by rw [List.map_congr_left fun x hx=>(e x hx).1];exact h1,h2.imp id (fun h=>?_),h3⟩
  rw [List.all_eq_true] at h ⊢
  exact fun x hx=>by rw [hv x hx];exact h x hx
 | callG k xs =>
  have e : ∀ x ∈ xs,dpv g x=dpv f x /\ (bk g (vd g x) ↔ bk f (vd f x)):=fun x hx=>by
   have:=gh (ha x hx)
   unfold dpv
   rw [hv x hx]
   exact this
  simp only [aq] at hr ⊢
  rw [List.map_congr_left fun x hx=>(e x hx).1]
  exact ⟨fun x hx=>(e x hx).2.2 (hr.1 x hx),hr.2⟩
 | callF k xs =>
  have e : ∀ x ∈ xs,dpv g x=dpv f x /\ (bk g (vd g x) ↔ bk f (vd f x)):=fun x hx=>by
   have:=gh (ha x hx)
   unfold dpv
   rw [hv x hx]
   exact this
  simp only [aq] at hr ⊢
  rw [List.map_congr_left fun x hx=>(e x hx).1]
  exact ⟨fun x hx=>(e x hx).2.2 (hr.1 x hx),hr.2⟩
 | callS k x0 xs =>
  have e0:=hv x0 (by simp [ac]);have a0:=ha x0 (by simp [ac])
  have eb : ∀ b,∀ x ∈ xs,vd (fbE g b) x=vd (fbE f b) x /\ cB (fbE f b) (fbE g b) (vd (fbE f b) x):=fun b x hx=>by
   have h1:=hv x (by simp [ac,hx])
   have h2:=ha x (by simp [ac,hx])
   have hag : cB (fbE f b) (fbE g b) (vd f x):=fun c hc=>by
    unfold fbE
    split
    ·rfl
    ·exact h2 c hc
   cases x with
   | t t =>
    simp only [vd] at h1 hag ⊢
    unfold fbE
    split
    ·exact ⟨rfl,fun c hc=>by simp [co,ay] at hc⟩
    ·exact ⟨h1,hag⟩
   | c d=>exact ⟨rfl,hag⟩
  have ed : ∀ b,∀ x ∈ xs,dpv (fbE g b) x=dpv (fbE f b) x /\ (bk (fbE g b) (vd (fbE g b) x) ↔ bk (fbE f b) (vd (fbE f b) x)):=fun b x hx=>by
   have:=gh (eb b x hx).2
   unfold dpv
   rw [(eb b x hx).1]
   exact this
  have eo : ∀ b es',lR (fbE g b) xs es' ↔ lR (fbE f b) xs es':=fun b es'=>by
   unfold lR
   rw [List.all_eq_true,List.all_eq_true]
   exact or_congr ⟨fun h x hx=>by rw [<- (eb b x hx).1];exact h x hx,fun h x hx=>by rw [(eb b x hx).1];exact h x hx⟩ Iff.rfl
  simp only [aq,e0] at hr ⊢
  split at hr
  ·rename_i b k n hvx
   rw [hvx] at a0
   have hb : g b=f b:=a0.ref
   rw [hb,List.map_congr_left fun x hx=>(ed b x hx).1]
   simp only [eo]
   obtain ⟨h1,hr⟩:=hr
   refine ⟨h1,?_⟩
   split at hr
   ·exact ⟨hr.1,hr.2.1,fun x hx=>(ed b x hx).2.2 (hr.2.2.1 x hx),hr.2.2.2⟩
   ·exact hr.elim
  ·exact hr.elim
 | callN k x0 xs =>
  have e0:=hv x0 (by simp [ac]);have a0:=ha x0 (by simp [ac])
  have e : ∀ x ∈ xs,vd g x=vd f x:=fun x hx=>hv x (by simp [ac,hx])
  simp only [aq,e0] at hr ⊢
  split at hr
  ·rename_i b i o k n hvx
   rw [hvx] at a0
   have hb : g b=f b:=a0.ref
   rw [hb,List.map_congr_left e]
   obtain ⟨h1,hr⟩:=hr
   refine ⟨h1,?_⟩
   split at hr
   ·obtain ⟨row0,h2,sz,es,h3,h4,h5,h6⟩:=hr
    exact ⟨row0,h2,sz,es,h3,h4,fun x hx=>by rw [e x hx];exact h5 x hx,h6⟩
   ·exact hr.elim
  ·exact hr.elim
 | callA k xs =>
  have e : ∀ x ∈ xs,vd g x=vd f x:=fun x hx=>hv x (by simp [ac,hx])
  simp only [aq] at hr ⊢
  rw [List.map_congr_left e]
  exact ⟨fun x hx=>by rw [e x hx];exact hr.1 x hx,hr.2⟩
 | callL k x0 xs =>
  have e0:=hv x0 (by simp [ac]);have a0:=ha x0 (by simp [ac])
  have e : ∀ x ∈ xs,vd g x=vd f x:=fun x hx=>hv x (by simp [ac,hx])
  simp only [aq,e0] at hr ⊢
  split at hr
  ·rename_i b i o hvx
   rw [hvx] at a0
   have hb : g b=f b:=a0.adr
   rw [hb,List.map_congr_left e]
   obtain ⟨h1,h2,hr⟩:=hr
   refine ⟨h1,h2,?_⟩
   split at hr
   ·exact ⟨hr.1,fun x hx=>by rw [e x hx];exact hr.2.1 x hx,hr.2.2⟩
   ·exact hr.elim
  ·exact hr.elim
 | clr zs x0 =>
  have e0:=hv x0 (by simp [ac]);have a0:=ha x0 (by simp [ac])
  simp only [aq,e0] at hr ⊢
  split at hr
  ·exact hr
  ·rename_i b k n hvx
   rw [hvx] at a0
   have hb : g b=f b:=a0.ref
   rw [hb]
   exact hr
  ·rename_i b i o k n hvx
   rw [hvx] at a0
   have hb : g b=f b:=a0.ref
   rw [hb]
   exact hr
  ·exact hr.elim
 | callE k x0 xs =>
  have e0:=hv x0 (by simp [ac]);have a0:=ha x0 (by simp [ac])
  have e : ∀ x ∈ xs,jg g x=jg f x /\ ∀ b,j9 g b x ↔ j9 f b x:=fun x hx=>by
   have h1:=hv x (by simp [ac,hx])
   have h2:=ha x (by simp [ac,hx])
   unfold jg j9
   rw [h1]
   revert h2
   generalize vd f x=d
   intro h2
   cases d <;> first | exact ⟨rfl,fun _=>Iff.rfl⟩ | skip
   rename_i p k n
   cases p with
   | r c =>
    have hb : g c=f c:=h2.ref
    exact ⟨by simp only [hb],fun _=>by simp only [hb]⟩
   | n c i o=>exact ⟨rfl,fun _=>Iff.rfl⟩
  simp only [aq,e0] at hr ⊢
  split at hr
  ·split at hr
   ·rename_i p k n hvx
    rw [hvx] at a0
    have hb : g p.root=f p.root:=a0.ref
    have hd : cF g p=cF f p:=by
     cases p with
     | r c=>rfl
     | n c i o=>simp only [cF];rw [show g c=f c from hb]
    simp only [cG hb,hd]
    rw [List.map_congr_left fun x hx=>(e x hx).1]
    split at hr
    ·obtain ⟨h1,h2,h3,h4,h5,h6⟩:=hr
     exact ⟨h1,h2,h3,h4,fun x hx=>((e x hx).2 _).2 (h5 x hx),h6⟩
    ·exact hr.elim
   ·exact hr.elim
  ·exact hr.elim
 | callv x0 xs =>
  have e0:=hv x0 (by simp [ac]);have a0:=ha x0 (by simp [ac])
  have e : ∀ x ∈ xs,dpv g x=dpv f x /\ (bk g (vd g x) ↔ bk f (vd f x)):=fun x hx=>by
   have:=gh (ha x (by simp [ac,hx]))
   unfold dpv
   rw [hv x (by simp [ac,hx])]
   exact this
  simp only [aq,e0] at hr ⊢
  split at hr
  ·obtain ⟨h0,d,h1,h2,h3⟩:=hr
   refine ⟨fun x hx=>(e x hx).2.2 (h0 x hx),d,by rw [List.map_congr_left fun x hx=>(e x hx).1];exact h1,h2.imp id (fun h=>?_),h3⟩
   rw [List.all_eq_true] at h ⊢
   exact fun x hx=>by rw [hv x (by simp [ac,hx])];exact h x hx
  ·rename_i k cs ex
   rw [ex] at a0
   obtain ⟨h0,h0',d,h1,h2,h3⟩:=hr
   have ec : ∀ c ∈ cs,dp1 g c=dp1 f c /\ (aH g c ↔ aH f c):=fun c hc=>dG fun b hb=>a0 b (eu hc hb)
   exact ⟨fun x hx=>(e x hx).2.2 (h0 x hx),fun c hc=>(ec c hc).2.2 (h0' c hc),d,by rw [List.map_congr_left fun x hx=>(e x hx).1,List.map_congr_left fun c hc=>(ec c hc).1];exact h1,h2,h3⟩
  ·exact hr
 | _=>(simp only [aq] at hr ⊢;exact qX hv ha hr)
end
end Go.Gv

namespace Go.Gv
open Go.RowKit
def az : D -> List Nat
 | .ref p _ _=>[p.root]
 | .adr p _ _=>[p.root]
 | .ifa _ p _ _=>[p.root]
 | .mrf b=>[b]
 | _=>[]
def a8 : D -> List Nat
 | .agx ds=>ds.flatMap az
 | .tpx ds=>ds.flatMap az
 | .ptx ds=>ds.flatMap az
 | .rfx _ _ ds=>ds.flatMap az
 | .fnx _ ds=>ds.flatMap az
 | .fny _ ds cs=>ds.flatMap az++cs.flatMap az
 | d=>az d
theorem lb {b : Nat} {all : Bool} {p : Pa} (h : bg b all p=true) : b=p.root:=by
 cases p <;> simp [bg,Pa.root] at h ⊢ <;> simp_all
theorem jV {b : Nat} {all : Bool} {d : D} (h : ay b all d=true) : b ∈ az d:=by
 cases d <;> simp only [ay,Bool.false_eq_true] at h
 case ref p k n=>simp [az,lb h]
 case adr p i o=>simp [az,lb h]
 case ifa T p i o=>simp [az,lb h]
 case mrf c=>simp at h;simp [az,h.2]
theorem iq {b : Nat} {all : Bool} {d : D} (h : co b all d=true) : b ∈ a8 d:=by
 have part : ∀ ds : List D,ds.any (ay b all)=true -> b ∈ ds.flatMap az:=fun ds h=>by
  obtain ⟨d,h1,h2⟩:=List.any_eq_true.1 h
  exact List.mem_flatMap.2 ⟨d,h1,jV h2⟩
 cases d
 case agx ds=>exact part ds h
 case tpx ds=>exact part ds h
 case ptx ds=>exact part ds h
 case rfx n sz ds=>exact part ds h
 case fnx g ds=>exact part ds h
 case fny g ds cs =>
  simp only [co,Bool.or_eq_true] at h
  simp only [a8,List.mem_append]
  rcases h with h | h
  ·exact .inl (part ds h)
  ·exact .inr (part cs h)
 all_goals (simp only [co] at h;simp only [a8];exact jV h)
theorem jv (ks : List (Nat × Bool)) : aw ks .any=false:=by
 simp [aw,co,ay]
theorem la {ks : List (Nat × Bool)} {d : D} (h : aw ks d=true) : ∃ k ∈ ks,co k.1 k.2 d=true:=by
 simpa [aw] using h
theorem fP {ws : List (Nat × D)} {k : Nat} {d : D} (h : ws.lookup k=some d) : (k,d) ∈ ws:=by
 induction ws with
 | nil=>cases h
 | cons p ws ih =>
  obtain ⟨s,x⟩:=p
  rw [List.lookup_cons] at h
  cases e : k == s with
  | true=>rw [e] at h;simp at e h;subst e;subst h;simp
  | false=>rw [e] at h;simp [ih h]
theorem n9 {ws : List (Nat × D)} {k : Nat} (h : ws.lookup k=none) : k ∉ ws.map (·.1):=by
 induction ws with
 | nil=>simp
 | cons p ws ih =>
  obtain ⟨s,x⟩:=p
  rw [List.lookup_cons] at h
  cases e : k == s with
  | true=>rw [e] at h;cases h
  | false=>rw [e] at h;simp at e;simp only [List.map_cons,List.mem_cons,not_or];exact ⟨e,ih h⟩
theorem eG {ws : List (Nat × D)} {k : Nat} (h : k ∉ ws.map (·.1)) : ws.lookup k=none:=by
 refine oa fun d hd=>h (List.mem_map.2 ⟨_,hd,rfl⟩)
structure Fam where
 n : Nat
 ws : Nat -> List (Nat × D)
 ks : Nat -> List (Nat × Bool)
 rd : Nat -> List Nat
 mn : Nat -> List Nat
 fr : Nat -> List (Nat × Nat)
 bef : Nat -> Nat -> Bool
 f0 : Nat -> D
def Fam.W (A : Fam) (i : Nat) : List Nat:=(A.ws i).map (·.1)
def Fam.E (A : Fam) (i : Nat) : (Nat -> D) -> (Nat -> D):=eff (A.ws i) (A.ks i)
def Fam.G (A : Fam) (l : Nat -> Bool) : Nat -> (Nat -> D)
 | 0=>A.f0
 | m + 1=>if l m then A.E m (A.G l m) else A.G l m
def Fam.St (A : Fam) (m : Nat) : Nat -> D:=A.G (fun _=>true) m
def eO (m : Nat) : D -> Option (List (Option D))
 | .blk _ es=>some (es.map fun r=>r[m]?)
 | _=>none
def Fam.Pres (A : Fam) (i k m : Nat) : Prop:=eO m (A.St (i + 1) k)=eO m (A.St i k)
def Fam.Apart (A : Fam) (i j : Nat) : Prop:=(∀ k ∈ A.W i,k ∉ A.rd j /\ k ∉ A.W j /\ ∀ m,(k,m) ∈ A.fr j -> A.Pres i k m) /\ ∀ k ∈ A.ks i,k.1 ∉ A.mn j
def Fam.Ind (A : Fam) (i j : Nat) : Prop:=A.Apart i j /\ A.Apart j i
structure Fam.Ok (A : Fam) : Prop where
 kills : ∀ i,i < A.n -> ∀ k ∈ A.ks i,k.1 ∈ A.W i
 vals : ∀ i,i < A.n -> ∀ p ∈ A.ws i,∀ b all,co b all p.2=true -> b ∈ A.mn i \/ b ∈ A.W i
 closed : ∀ i,i < A.n -> ∀ k ∈ A.rd i,∀ b all,co b all (A.St i k)=true -> b ∈ A.mn i
 fine : ∀ i,i < A.n -> ∀ p ∈ A.fr i,p.1 ∉ A.W i
 known : ∀ i,i < A.n -> ∀ k ∈ A.rd i,A.St i k ≠ .any
 pairs : ∀ i j,i < j -> j < A.n -> A.bef j i=true \/ A.Ind i j
section
variable {A : Fam}
theorem dN {ws : List (Nat × D)} {ks : List (Nat × Bool)} {f : Nat -> D} {k : Nat} {d : D} (h : ws.lookup k=some d) : eff ws ks f k=d:=aA h
theorem cv {ws : List (Nat × D)} {ks : List (Nat × Bool)} {f : Nat -> D} {k : Nat} (h : ws.lookup k=none) : eff ws ks f k=if aw ks (f k) then .any else f k:=by
 unfold eff;rw [h]
theorem Fam.Ok.noKill (h : A.Ok) {i j : Nat} (hi : i < A.n) (hj : j < A.n) (hI : A.Apart j i) {p : Nat × D} (hp : p ∈ A.ws i) : aw (A.ks j) p.2=false:=by
 cases hm : aw (A.ks j) p.2 with
 | false=>rfl
 | true =>
  obtain ⟨k,h1,h2⟩:=la hm
  have h3:=h.kills j hj k h1
  have h5:=(hI.1 _ h3).2.1
  have h4:=hI.2 k h1
  rcases h.vals i hi p hp _ _ h2 with h6 | h6
  ·exact absurd h6 h4
  ·exact absurd h6 h5
theorem Fam.Ok.comm (h : A.Ok) {i j : Nat} (hi : i < A.n) (hj : j < A.n) (hI : A.Ind i j) (f : Nat -> D) : A.E i (A.E j f)=A.E j (A.E i f):=by
 funext k
 unfold Fam.E
 cases h1 : (A.ws i).lookup k with
 | some d =>
  have hk : k ∈ A.W i:=List.mem_map.2 ⟨_,fP h1,rfl⟩
  have h2 : (A.ws j).lookup k=none:=eG (hI.1.1 k hk).2.1
  have h3:=h.noKill hi hj hI.2 (fP h1)
  rw [dN h1,cv h2,dN h1]
  simp only at h3
  rw [h3];rfl
 | none =>
  cases h2 : (A.ws j).lookup k with
  | some d =>
   have h3:=h.noKill hj hi hI.1 (fP h2)
   rw [cv h1,dN h2,dN h2]
   simp only at h3
   rw [h3];rfl
  | none =>
   rw [cv h1,cv h2,cv h2,cv h1]
   cases e1 : aw (A.ks i) (f k) <;> cases e2 : aw (A.ks j) (f k) <;> simp [e1,e2,jv]
def rQ (A : Fam) (l : Nat -> Bool) : Prop:=∀ j,j < A.n -> l j=true -> ∀ i,i < j -> A.bef j i=true -> l i=true
open Classical in
noncomputable def cI (A : Fam) (l : Nat -> Bool) (m : Nat) (d : D) : D:=if ∃ u,u < m /\ l u=false /\ aw (A.ks u) d=true then .any else d
theorem mh (l : Nat -> Bool) (m : Nat) : cI A l m .any=.any:=by
 unfold cI;split <;> rfl
theorem xA (h : A.Ok) {l : Nat -> Bool} (hs : rQ A l) : ∀ m,m <= A.n -> ∀ k,(∀ u,u < m -> l u=false -> k ∉ A.W u) -> A.St m k=cI A l m (A.G l m k)
 | 0,_,k,_=>by
  unfold cI
  rw [if_neg (by rintro ⟨u,hu,_⟩;omega)]
  rfl
 | m + 1,hm,k,hk=>by
  have ih:=xA h hs m (by omega) k (fun u hu=>hk u (by omega))
  have e1 : A.St (m + 1) k=A.E m (A.St m) k:=by simp [Fam.St,Fam.G]
  rw [e1]
  cases hl : l m with
  | true =>
   have e2 : A.G l (m + 1) k=A.E m (A.G l m) k:=by simp [Fam.G,hl]
   rw [e2]
   unfold Fam.E
   cases h1 : (A.ws m).lookup k with
   | some d =>
    rw [dN h1,dN h1]
    unfold cI
    rw [if_neg]
    rintro ⟨u,hu,hlu,hmu⟩
    have hum : u < m:=by
     rcases Nat.lt_or_ge u m with h | h
     ·exact h
     ·have : u=m:=by omega
      subst this;rw [hl] at hlu;cases hlu
    rcases h.pairs u m hum (by omega) with h2 | h2
    ·rw [hs m (by omega) hl u hum h2] at hlu;cases hlu
    ·have:=h.noKill (i:=m) (j:=u) (by omega) (by omega) h2.1 (fP h1)
     simp only at this
     rw [this] at hmu;cases hmu
   | none =>
    rw [cv h1,cv h1,ih]
    have same : ∀ d,cI A l (m + 1) d=cI A l m d:=fun d=>by
     unfold cI
     congr 1
     refine propext ⟨fun ⟨u,h3,h4,h5⟩=>⟨u,?_,h4,h5⟩,fun ⟨u,h3,h4,h5⟩=>⟨u,by omega,h4,h5⟩⟩
     rcases Nat.lt_or_ge u m with h | h
     ·exact h
     ·have : u=m:=by omega
      subst this;rw [hl] at h4;cases h4
    rw [same]
    generalize A.G l m k=g
    by_cases hc : ∃ u,u < m /\ l u=false /\ aw (A.ks u) g=true
    ·have e3 : cI A l m g=.any:=by unfold cI;rw [if_pos hc]
     rw [e3,jv]
     cases hg : aw (A.ks m) g with
     | true=>simp only [if_true];rw [mh];rfl
     | false=>simp only [Bool.false_eq_true,if_false];rw [e3]
    ·have e3 : cI A l m g=g:=by unfold cI;rw [if_neg hc]
     rw [e3]
     cases hg : aw (A.ks m) g with
     | true=>simp only [if_true];rw [mh]
     | false=>simp only [Bool.false_eq_true,if_false];rw [e3]
  | false =>
   have e2 : A.G l (m + 1) k=A.G l m k:=by simp [Fam.G,hl]
   rw [e2]
   unfold Fam.E
   rw [cv (eG (hk m (by omega) hl)),ih]
   generalize A.G l m k=g
   by_cases hc : ∃ u,u < m /\ l u=false /\ aw (A.ks u) g=true
   ·have e3 : cI A l m g=.any:=by unfold cI;rw [if_pos hc]
    have e4 : cI A l (m + 1) g=.any:=by
     unfold cI
     obtain ⟨u,h1,h2⟩:=hc
     rw [if_pos ⟨u,by omega,h2⟩]
    rw [e3,e4,jv];rfl
   ·have e3 : cI A l m g=g:=by unfold cI;rw [if_neg hc]
    rw [e3]
    cases hg : aw (A.ks m) g with
    | true =>
     have e4 : cI A l (m + 1) g=.any:=by unfold cI;exact if_pos ⟨m,by omega,hl,hg⟩
     rw [e4];rfl
    | false =>
     have e4 : cI A l (m + 1) g=g:=by
      unfold cI
      refine if_neg ?_
      rintro ⟨u,h1,h2,h3⟩
      rcases Nat.lt_or_ge u m with h | h
      ·exact hc ⟨u,h,h2,h3⟩
      ·have : u=m:=by omega
       subst this;rw [hg] at h3;cases h3
     rw [e4];rfl
theorem Fam.Ok.reads (h : A.Ok) {l : Nat -> Bool} (hs : rQ A l) {j : Nat} (hj : j < A.n) (hlj : l j=false) (hb : ∀ i,i < j -> A.bef j i=true -> l i=true) : ∀ k ∈ A.rd j,A.G l A.n k=A.St j k:=by
 intro k hk
 have h1 : A.G l j k=A.St j k:=by
  have h2:=xA h hs j (by omega) k (fun u hu hlu=>by
   rcases h.pairs u j hu hj with h3 | h3
   ·rw [hb u hu h3] at hlu;cases hlu
   ·exact fun h4=>(h3.1.1 k h4).1 hk)
  have h3:=h.known j hj k hk
  rw [h2] at h3 ⊢
  unfold cI at h3 ⊢
  split at h3
  ·exact absurd rfl h3
  ·rename_i hc;rw [if_neg hc]
 have h2 : ∀ m,j <= m -> m <= A.n -> A.G l m k=A.St j k:=by
  intro m
  induction m with
  | zero=>intro h3 _;have : j=0:=(by omega);subst this;exact h1
  | succ m ih =>
   intro h3 h4
   rcases Nat.lt_or_ge m j with h5 | h5
   ·have : j=m + 1:=by omega
    rw [<- this];exact h1
   ·have ihm:=ih h5 (by omega)
    cases hl : l m with
    | false=>simp [Fam.G,hl,ihm]
    | true =>
     have hjm : j < m:=by
      rcases Nat.lt_or_ge j m with h | h
      ·exact h
      ·have : j=m:=by omega
       subst this;rw [hl] at hlj;cases hlj
     rcases h.pairs j m hjm (by omega) with h6 | h6
     ·rw [hs m (by omega) hl j hjm h6] at hlj;cases hlj
     ·have h7 : (A.ws m).lookup k=none:=eG (fun h8=>(h6.2.1 k h8).1 hk)
      have h8 : aw (A.ks m) (A.St j k)=false:=by
       cases hm : aw (A.ks m) (A.St j k) with
       | false=>rfl
       | true =>
        obtain ⟨q,h9,h10⟩:=la hm
        exact absurd (h.closed j hj k hk _ _ h10) (h6.2.2 q h9)
      simp only [Fam.G,hl,if_true,Fam.E]
      rw [cv h7,ihm,h8];rfl
 exact h2 A.n (by omega) (Nat.le_refl _)
theorem lZ (m : Nat) (ks : List (Nat × Bool)) (d : D) : eO m (if aw ks d then .any else d)=eO m d:=by
 cases d
 case blk sz es=>rw [mi rfl];rfl
 all_goals (split <;> rfl)
theorem gJ (A : Fam) (f g : Nat -> D) (i k m : Nat) (h : k ∉ A.W i) : eO m (A.E i f k)=eO m (f k):=by
 unfold Fam.E
 rw [cv (eG h),lZ]
theorem l5 (A : Fam) (f g : Nat -> D) (i k : Nat) (h : k ∈ A.W i) : A.E i f k=A.E i g k:=by
 unfold Fam.E
 cases h1 : (A.ws i).lookup k with
 | none=>exact absurd h (n9 h1)
 | some d=>rw [dN h1,dN h1]
theorem iE (A : Fam) (m : Nat) : A.St (m + 1)=A.E m (A.St m):=by simp [Fam.St,Fam.G]
theorem Fam.Ok.readsC (h : A.Ok) {l : Nat -> Bool} (hs : rQ A l) {j : Nat} (hj : j < A.n) (hlj : l j=false) (hb : ∀ i,i < j -> A.bef j i=true -> l i=true) : ∀ p ∈ A.fr j,eO p.2 (A.G l A.n p.1)=eO p.2 (A.St j p.1):=by
 rintro ⟨k,c⟩ hk
 simp only
 have hkj:=h.fine j hj _ hk
 simp only at hkj
 have low : ∀ m,m <= j -> eO c (A.G l m k)=eO c (A.St m k):=by
  intro m
  induction m with
  | zero=>intro _;rfl
  | succ m ih =>
   intro hm
   have ihm:=ih (by omega)
   rw [iE]
   by_cases hw : k ∈ A.W m
   ·cases hl : l m with
    | true =>
     simp only [Fam.G,hl,if_true]
     rw [l5 A _ (A.St m) m k hw]
    | false =>
     simp only [Fam.G,hl,Bool.false_eq_true,if_false]
     rcases h.pairs m j (by omega) hj with h1 | h1
     ·rw [hb m (by omega) h1] at hl;cases hl
     ·have h2:=(h1.1.1 k hw).2.2 c hk
      unfold Fam.Pres at h2
      rw [iE] at h2
      rw [h2,ihm]
   ·rw [gJ A _ (A.St m) m k c hw]
    cases hl : l m with
    | true =>
     simp only [Fam.G,hl,if_true]
     rw [gJ A _ (A.St m) m k c hw,ihm]
    | false=>simp only [Fam.G,hl,Bool.false_eq_true,if_false];exact ihm
 have run : ∀ m,j <= m -> m <= A.n -> (∀ u,j < u -> u < m -> k ∈ A.W u -> A.Pres u k c) -> eO c (A.St m k)=eO c (A.St j k):=by
  intro m
  induction m with
  | zero=>intro h1 _ _;have : j=0:=(by omega);subst this;rfl
  | succ m ih =>
   intro h1 h2 h3
   rcases Nat.lt_or_ge m j with h4 | h4
   ·have : j=m + 1:=by omega
    rw [<- this]
   ·have ihm:=ih h4 (by omega) (fun u h5 h6 h7=>h3 u h5 (by omega) h7)
    by_cases hw : k ∈ A.W m
    ·have hjm : j < m:=by
      rcases Nat.lt_or_ge j m with h | h
      ·exact h
      ·have : j=m:=by omega
       subst this;exact absurd hw hkj
     have:=h3 m hjm (by omega) hw
     unfold Fam.Pres at this
     rw [this,ihm]
    ·rw [iE,gJ A _ (A.St m) m k c hw,ihm]
 have high : ∀ m,j <= m -> m <= A.n -> eO c (A.G l m k)=eO c (A.St j k):=by
  intro m
  induction m with
  | zero=>intro h1 _;have : j=0:=(by omega);subst this;exact low 0 (Nat.le_refl _)
  | succ m ih =>
   intro h1 h2
   rcases Nat.lt_or_ge m j with h4 | h4
   ·have : j=m + 1:=by omega
    rw [<- this];exact low j (Nat.le_refl _)
   ·have ihm:=ih h4 (by omega)
    cases hl : l m with
    | false=>simp only [Fam.G,hl,Bool.false_eq_true,if_false];exact ihm
    | true =>
     simp only [Fam.G,hl,if_true]
     by_cases hw : k ∈ A.W m
     ·have hjm : j < m:=by
       rcases Nat.lt_or_ge j m with h | h
       ·exact h
       ·have : j=m:=by omega
        subst this;rw [hl] at hlj;cases hlj
      have pres : ∀ u,j < u -> u < A.n -> k ∈ A.W u -> l u=true -> A.Pres u k c:=fun u h5 h6 h7 h8=>by
       rcases h.pairs j u h5 h6 with h9 | h9
       ·rw [hs u h6 h8 j h5 h9] at hlj;cases hlj
       ·exact (h9.2.1 k h7).2.2 c hk
      have h5:=run m h4 (by omega) (fun u h5 h6 h7=>pres u h5 (by omega) h7 (by
       rcases h.pairs u m h6 (by omega) with h9 | h9
       ·exact hs m (by omega) hl u h6 h9
       ·exact absurd hw (h9.1.1 k h7).2.1))
      have h6:=pres m hjm (by omega) hw hl
      unfold Fam.Pres at h6
      rw [l5 A _ (A.St m) m k hw,<- iE,h6,h5]
     ·rw [gJ A _ (A.St m) m k c hw,ihm]
 exact high A.n (by omega) (Nat.le_refl _)
theorem Fam.Ok.more (h : A.Ok) {l l' : Nat -> Bool} (hs : rQ A l) {j : Nat} (hj : j < A.n) (hlj : l j=false) (hj' : l' j=true) (hl' : ∀ i,i ≠ j -> l' i=l i) : A.G l' A.n=A.E j (A.G l A.n):=by
 have low : ∀ m,m <= j -> A.G l' m=A.G l m:=by
  intro m
  induction m with
  | zero=>intro _;rfl
  | succ m ih =>
   intro hm
   simp only [Fam.G]
   rw [ih (by omega),hl' m (by omega)]
 have high : ∀ m,j < m -> m <= A.n -> A.G l' m=A.E j (A.G l m):=by
  intro m
  induction m with
  | zero=>intro h1;omega
  | succ m ih =>
   intro h1 h2
   rcases Nat.lt_or_ge j m with h3 | h3
   ·have ihm:=ih h3 (by omega)
    simp only [Fam.G]
    rw [hl' m (by omega),ihm]
    cases hl : l m with
    | false=>rfl
    | true =>
     simp only [if_true]
     rcases h.pairs j m h3 (by omega) with h4 | h4
     ·rw [hs m (by omega) hl j h3 h4] at hlj;cases hlj
     ·exact (h.comm hj (by omega) h4 _).symm
   ·have : m=j:=by omega
    subst this
    simp only [Fam.G]
    rw [hj',hlj,low m (Nat.le_refl _)]
    rfl
 exact high A.n hj (Nat.le_refl _)
end
end Go.Gv

namespace Go.Gv
open Go.RowKit
def gB : Opd -> List Nat
 | .t s=>[s]
 | .c _=>[]
def nV : Option (Nat × Bool) -> List Nat
 | some (s,_)=>[s]
 | none=>[]
def rdS (n : am) : List Nat:=(ac n.op).flatMap gB++nV n.guard
def zO : NOp -> List Opd
 | .mov _=>[]
 | .nck _=>[]
 | .pick _ _ _=>[]
 | .bin _ _ _=>[]
 | .un _ _=>[]
 | .conv _ _=>[]
 | .fld _ _ _ _=>[]
 | .ext _ _=>[]
 | .fad _ _=>[]
 | .ld _ _ _=>[]
 | .ldQ _ _=>[]
 | .mk _ _=>[]
 | .bld _ _=>[]
 | .boxF _=>[]
 | .blsF _ _ _ _=>[]
 | .blsX _ _ _ _=>[]
 | .len _=>[]
 | .iadA _ _ _ _=>[]
 | o=>ac o
def ldN : NOp -> List Opd
 | .ld _ _ x=>[x]
 | _=>[]
def rdR (f : Nat -> D) (n : am) : List Nat:=((zO n.op).flatMap fun x=>a8 (vd f x))++((ldN n.op).flatMap fun x=>az (vd f x))
def mnR (f : Nat -> D) (n : am) : List Nat:=(ac n.op).flatMap fun x=>a8 (vd f x)
def frR (f : Nat -> D) (n : am) : List (Nat × Nat):=match n.op with
 | .ldQ o x=>match vd f x with
  | .adr (.r c) _ _=>[(c,o)]
  | _=>[]
 | _=>[]
def fwR (f : Nat -> D) (n : am) : List (Nat × Nat):=match n.op with
 | .appQ o _ _ x _=>match vd f x with
  | .ref (.n c _ _) _ _=>[(c,o)]
  | _=>[]
 | _=>[]
abbrev Rds:=List Nat × List Nat × List (Nat × Nat) × List (Nat × Nat)
def fa (x : Rds) : List Nat:=x.1.map (4 * ·)++x.2.1.map (4 * · + 1)++x.2.2.1.map (fun p=>4 * (64 * p.1 + p.2 % 64) + 2)++x.2.2.2.map (fun p=>4 * (64 * p.1 + p.2 % 64) + 3)
def rdN (f : Nat -> D) (n : am) : Rds:=(rdS n++rdR f n,mnR f n,frR f n,fwR f n)
def gj (f : Nat -> D) (n : am) : List Nat:=fa (rdN f n)
def wrK (ws : List (Nat × D)) (ks : List (Nat × Bool)) : List Nat:=(ws.map fun p=>4 * p.1)++ks.map fun k=>4 * k.1 + 1
def b7 : D -> Bool
 | .any=>true
 | _=>false
def chk (f : Nat -> D) (n : am) : Bool:=((rdS n).all fun s=>!b7 (f s)) && ((rdR f n).all fun b=>isB (f b)) && ((frR f n).all fun p=>!(n.dst == some p.1)) && (fwR f n).all fun p=>!(n.dst == some p.1)
def wOk (R : List Nat) (ws : List (Nat × D)) (ks : List (Nat × Bool)) : Bool :=
 (ks.all fun k=>(ws.map (·.1)).contains k.1) && ws.all fun p=>(a8 p.2).all fun b=>R.contains (4 * b + 1) || (ws.map (·.1)).contains b
def se (q : Nat) (r0 : List Nat) : Bool:=r0.any fun z=>decide (z % 4=3) && decide (z / 256=q / 256) && !decide (z / 4 % 64=q / 4 % 64)
def oJ (x r0 : List Nat) (r w : List Nat) : Bool:=x.all fun k=>!r.contains k && !w.contains k && r.all fun q=>!(decide (q % 4=2) && decide (k=4 * (q / 256))) || se q r0
def iM (hs : List Nat) (rw : List (List Nat × List Nat)) : Bool :=
 rw.zipIdx.all fun p=>rw.zipIdx.all fun q=>!decide (p.2 < q.2) || (hs.getD q.2 0).testBit p.2 || (oJ p.1.2 p.1.1 q.1.1 q.1.2 && oJ q.1.2 q.1.1 p.1.1 p.1.2)
def qw : Option Nat -> List Nat
 | some t=>[4 * t]
 | none=>[]
def jJ (C : Nat -> List D -> D -> List D -> Prop) (hs : List Nat) (K : Env -> Prop) : List am -> Env -> List (List Nat × List Nat) -> Prop
 | [],e,acc=>iM hs acc.reverse=true /\ K e
 | o::os,e,acc=>chk (aa e) o=true /\ match o.guard with
  | none=>aq C (aa e) o.dst (fun ws ks=>wOk (gj (aa e) o) ws ks=true /\ jJ C hs K os (ws++dg ks e) ((gj (aa e) o,wrK ws ks)::acc)) o.op
  | some (s,want)=>match aa e s with
   | .bool b=>(b=want -> aq C (aa e) o.dst (fun ws ks=>wOk (gj (aa e) o) ws ks=true /\ jJ C hs K os (ws++dg ks e) ((gj (aa e) o,wrK ws ks)::acc)) o.op) /\
     (b=!want -> ic e o.dst fun e'=>jJ C hs K os e' ((gj (aa e) o,qw o.dst)::acc))
   | .tup []=>ic e o.dst fun e'=>jJ C hs K os e' ((gj (aa e) o,qw o.dst)::acc)
   | _=>False
def cZ (n : am) : Option (List (Nat × D) × List (Nat × Bool)) -> List (Nat × D)
 | some (ws,_)=>ws
 | none=>match n.dst with
  | some t=>[(t,.tup [])]
  | none=>[]
def dP : Option (List (Nat × D) × List (Nat × Bool)) -> List (Nat × Bool)
 | some (_,ks)=>ks
 | none=>[]
theorem uE (n : am) (x : Option (List (Nat × D) × List (Nat × Bool))) (f : Nat -> D) : lO n x f=eff (cZ n x) (dP x) f:=by
 cases x with
 | some y=>rfl
 | none =>
  unfold lO cZ dP
  cases n.dst with
  | some t=>rfl
  | none=>exact (gL f).symm
abbrev eP:=am × Option (List (Nat × D) × List (Nat × Bool)) × Rds
def Tr (C : Nat -> List D -> D -> List D -> Prop) : List eP -> (Nat -> D) -> (Nat -> D) -> Prop
 | [],f,f'=>f'=f
 | (n,x,rd)::ts,f,f'=>f8 C n f x /\ chk f n=true /\ wOk (gj f n) (cZ n x) (dP x)=true /\ rd=rdN f n /\ Tr C ts (eff (cZ n x) (dP x) f) f'
section
variable {C : Nat -> List D -> D -> List D -> Prop}
theorem xI {hs : List Nat} {K : Env -> Prop} : ∀ (ns : List am) (e : Env) (acc : List (List Nat × List Nat)),jJ C hs K ns e acc -> ∃ (ts : List eP) (e' : Env),ts.map (·.1)=ns /\ Tr C ts (aa e) (aa e') /\ iM hs (acc.reverse++ts.map fun t=>(fa t.2.2,wrK (cZ t.1 t.2.1) (dP t.2.1)))=true /\ K e'
 | [],e,acc,h=>⟨[],e,rfl,rfl,by simpa using h.1,h.2⟩
 | n::ns,e,acc,h=>by
  obtain ⟨h0,h⟩:=h
  have fin : ∀ (x : Option (List (Nat × D) × List (Nat × Bool))) (e1 : Env),f8 C n (aa e) x -> wOk (gj (aa e) n) (cZ n x) (dP x)=true -> aa e1=eff (cZ n x) (dP x) (aa e) -> jJ C hs K ns e1 ((gj (aa e) n,wrK (cZ n x) (dP x))::acc) ->
    ∃ (ts : List eP) (e' : Env),ts.map (·.1)=n::ns /\ Tr C ts (aa e) (aa e') /\ iM hs (acc.reverse++ts.map fun t=>(fa t.2.2,wrK (cZ t.1 t.2.1) (dP t.2.1)))=true /\ K e':=by
   intro x e1 h1 h2 h3 h4
   obtain ⟨ts,e',g1,g2,g3,g4⟩:=xI ns e1 _ h4
   refine ⟨(n,x,rdN (aa e) n)::ts,e',by simp [g1],⟨h1,h0,h2,rfl,by rw [<- h3];exact g2⟩,?_,g4⟩
   simpa [gj] using g3
  have run : (∀ s b,n.guard=some (s,b) -> aa e s=.bool b) -> aq C (aa e) n.dst (fun ws ks=>wOk (gj (aa e) n) ws ks=true /\ jJ C hs K ns (ws++dg ks e) ((gj (aa e) n,wrK ws ks)::acc)) n.op ->
    ∃ (ts : List eP) (e' : Env),ts.map (·.1)=n::ns /\ Tr C ts (aa e) (aa e') /\ iM hs (acc.reverse++ts.map fun t=>(fa t.2.2,wrK (cZ t.1 t.2.1) (dP t.2.1)))=true /\ K e':=by
   intro hg h1
   obtain ⟨ws,ks,⟨h2,h3⟩,h4⟩:=ox h1
   exact fin (some (ws,ks)) _ ⟨hg,h4 _ ⟨rfl,rfl⟩⟩ h2 (gz ws ks e) h3
  have skp : ∀ s want,n.guard=some (s,want) -> Skp want (aa e s) -> ic e n.dst (fun e'=>jJ C hs K ns e' ((gj (aa e) n,qw n.dst)::acc)) ->
    ∃ (ts : List eP) (e' : Env),ts.map (·.1)=n::ns /\ Tr C ts (aa e) (aa e') /\ iM hs (acc.reverse++ts.map fun t=>(fa t.2.2,wrK (cZ t.1 t.2.1) (dP t.2.1)))=true /\ K e':=by
   intro s want hg hb h1
   unfold ic at h1
   split at h1
   ·rename_i hd
    refine fin none e ⟨s,want,hg,hb⟩ (by simp [wOk,cZ,dP,hd]) (by simp [cZ,dP,hd,gL]) ?_
    simpa [cZ,dP,wrK,hd,qw] using h1
   ·rename_i t hd
    refine fin none ((t,.tup [])::e) ⟨s,want,hg,hb⟩ (by simp [wOk,cZ,dP,hd,a8,az]) ?_ ?_
    ·have:=gz [(t,.tup [])] [] e
     simp only [dg,if_true] at this
     simpa [cZ,dP,hd] using this
    ·simpa [cZ,dP,wrK,hd,qw] using h1
  split at h
  ·rename_i hg
   exact run (fun s b e'=>(by rw [hg] at e';cases e')) h
  ·rename_i s want hg
   split at h
   ·rename_i b hb
    by_cases hbw : b=want
    ·subst hbw
     exact run (fun s' b' e'=>(by rw [hg] at e';cases e';exact hb)) (h.1 rfl)
    ·have hb' : b=!want:=by cases b <;> cases want <;> simp_all
     have h1:=h.2 hb'
     rw [hb'] at hb
     exact skp s want hg (.inl hb) h1
   ·rename_i hb
    exact skp s want hg (.inr hb) h
   ·exact h.elim
def aO (hs : List Nat) (ts : List eP) (f : Nat -> D) : Fam where
 n:=ts.length
 ws i:=match ts[i]? with
  | some t=>cZ t.1 t.2.1
  | none=>[]
 ks i:=match ts[i]? with
  | some t=>dP t.2.1
  | none=>[]
 rd i:=match ts[i]? with
  | some t=>t.2.2.1
  | none=>[]
 mn i:=match ts[i]? with
  | some t=>t.2.2.2.1
  | none=>[]
 fr i:=match ts[i]? with
  | some t=>t.2.2.2.2.1
  | none=>[]
 bef j i:=(hs.getD j 0).testBit i
 f0:=f
theorem jl (hs : List Nat) (t : eP) (ts : List eP) (f : Nat -> D) : ∀ i,(aO hs (t::ts) f).St (i + 1)=(aO hs ts (eff (cZ t.1 t.2.1) (dP t.2.1) f)).St i
 | 0=>by simp [Fam.St,Fam.G,Fam.E,aO]
 | i + 1=>by
  have ih:=jl hs t ts f i
  have e1 : ∀ (A : Fam) (m : Nat),A.St (m + 1)=A.E m (A.St m):=fun A m=>by simp [Fam.St,Fam.G]
  rw [e1,ih,e1]
  simp [Fam.E,aO]
theorem nx (hs : List Nat) : ∀ (ts : List eP) (f f' : Nat -> D),Tr C ts f f' -> f'=(aO hs ts f).St ts.length /\ ∀ (i : Nat) (t : eP),ts[i]? = some t -> f8 C t.1 ((aO hs ts f).St i) t.2.1 /\ chk ((aO hs ts f).St i) t.1=true /\ wOk (fa t.2.2) (cZ t.1 t.2.1) (dP t.2.1)=true /\ t.2.2=rdN ((aO hs ts f).St i) t.1
 | [],f,f',h=>⟨h,fun i t h=>by simp at h⟩
 | (n,x,rd)::ts,f,f',h=>by
  obtain ⟨h1,h2,h3,rfl,h4⟩:=h
  obtain ⟨g1,g2⟩:=nx hs ts _ f' h4
  refine ⟨by rw [List.length_cons,jl];exact g1,fun i t hi=>?_⟩
  cases i with
  | zero=>simp at hi;subst hi;exact ⟨h1,h2,by simpa [gj] using h3,rfl⟩
  | succ i=>rw [jl];exact g2 i t (by simpa using hi)
theorem t6 {f : Nat -> D} {n : am} {x : Option (List (Nat × D) × List (Nat × Bool))} {c : Nat} (h2 : (n.dst == some c)=false) (hx : x=none \/ ∃ d ks,x=some ((match n.dst with | some t=>[(t,d)] | none=>[]),ks)) : c ∉ (cZ n x).map (·.1):=by
 have h3 : n.dst ≠ some c:=by simpa using h2
 rcases hx with rfl | ⟨d,ks,rfl⟩
 ·simp only [cZ]
  split
  ·rename_i t e
   rw [e] at h3
   simp only [List.map_cons,List.map_nil,List.mem_cons,List.not_mem_nil,or_false]
   exact fun e=>h3 (by rw [e])
  ·simp
 ·simp only [cZ]
  split
  ·rename_i t e
   rw [e] at h3
   simp only [List.map_cons,List.map_nil,List.mem_cons,List.not_mem_nil,or_false]
   exact fun e=>h3 (by rw [e])
  ·simp
theorem yt {f : Nat -> D} {n : am} {x : Option (List (Nat × D) × List (Nat × Bool))} (h : f8 C n f x) (h2 : chk f n=true) {p : Nat × Nat} (hp : p ∈ frR f n) : p.1 ∉ (cZ n x).map (·.1):=by
 have h3 : (n.dst == some p.1)=false:=by
  simp only [chk,Bool.and_eq_true,List.all_eq_true] at h2
  simpa using h2.1.2 p hp
 refine t6 (f:=f) h3 ?_
 cases x with
 | none=>exact .inl rfl
 | some y =>
  obtain ⟨ws,ks⟩:=y
  right
  have h:=h.2
  unfold frR at hp
  split at hp
  ·rename_i q x0 heq
   rw [heq] at h
   simp only [aq] at h
   split at h
   ·obtain ⟨_,h⟩:=h
    split at h
    ·obtain ⟨r,_,d,_,h⟩:=h
     unfold cA at h
     split at h
     ·rename_i t e
      obtain ⟨rfl,rfl⟩:=h
      exact ⟨_,_,by rw [e]⟩
     ·rename_i e
      obtain ⟨rfl,rfl⟩:=h
      exact ⟨.any,_,by rw [e]⟩
    ·exact h.elim
   ·exact h.elim
  ·cases hp
theorem qr {es : List (List D)} {sz i o m : Nat} {row : List D} (h : es[i]? = some row) (ho : o < row.length) (hm : o ≠ m) : eO m (.blk sz (aW es i o 1 [.any]))=eO m (.blk sz es):=by
 simp only [eO,aW,h,Option.getD_some,Option.some.injEq]
 apply List.ext_getElem?
 intro j
 rw [List.getElem?_map,List.getElem?_map,List.getElem?_set]
 split
 ·rename_i e
  subst e
  split
  ·rw [h]
   simp only [Option.map_some,Option.some.injEq]
   have hl : (row.take o).length=o:=by simp;omega
   rw [List.append_assoc]
   by_cases h1 : m < o
   ·rw [List.getElem?_append_left (by omega),List.getElem?_take_of_lt h1]
   ·rw [List.getElem?_append_right (by omega),hl,List.getElem?_append_right (by simp;omega),List.getElem?_drop]
    congr 1;simp only [List.length_cons,List.length_nil];omega
  ·rename_i h1
   rw [List.getElem?_eq_none (by omega)]
 ·rfl
theorem yr {f : Nat -> D} {n : am} {x : Option (List (Nat × D) × List (Nat × Bool))} (h : f8 C n f x) (h2 : chk f n=true) {p : Nat × Nat} (hp : p ∈ fwR f n) {m : Nat} (hm : p.2 ≠ m) : eO m (eff (cZ n x) (dP x) f p.1)=eO m (f p.1):=by
 have h3 : (n.dst == some p.1)=false:=by
  simp only [chk,Bool.and_eq_true,List.all_eq_true] at h2
  simpa using h2.2 p hp
 cases x with
 | none =>
  rw [cv (eG (t6 (f:=f) h3 (.inl rfl)))]
  exact lZ _ _ _
 | some y =>
  obtain ⟨ws,ks⟩:=y
  have h:=h.2
  have h30 : n.dst ≠ some p.1:=by simpa using h3
  unfold fwR at hp
  split at hp
  ·rename_i q sz by_ x0 y0 heq
   rw [heq] at h
   simp only [aq] at h
   split at h
   ·rename_i t hd
    split at h
    ·rename_i c i o' k n' ex
     rw [ex] at hp
     simp only [List.mem_cons,List.not_mem_nil,or_false] at hp
     subst hp
     simp only at hm h30 ⊢
     obtain ⟨rfl,h⟩:=h
     obtain ⟨rows,bs,⟨h4,h5,h⟩,_⟩:=dh h
     split at h
     ·rename_i sz0 es0 hf
      obtain ⟨row0,h6,es,h7,h8,h9,h10,h11⟩:=h
      subst h10 h11
      have e1 : (c == t)=false:=by simp only [beq_eq_false_iff_ne,ne_eq];exact fun e=>h30 (by rw [hd,e])
      have e2 : (c == rt t 0)=false:=by simpa using h5
      simp only [cZ]
      rw [aA (d:=.blk sz0 (aW es0 i o' 1 [.any])) (by simp [List.lookup_cons,e1,e2]),hf]
      exact qr h6 (List.getElem?_eq_some_iff.1 h7).1 hm
     ·exact h.elim
    ·exact h.elim
   ·exact h.elim
  ·cases hp
theorem yo {hs : List Nat} {ts : List eP} {f f' : Nat -> D} (h : Tr C ts f f') (hi : iM hs (ts.map fun t=>(fa t.2.2,wrK (cZ t.1 t.2.1) (dP t.2.1)))=true) : (aO hs ts f).Ok:=by
 obtain ⟨_,hs'⟩:=nx hs ts f f' h
 have get : ∀ i,i < ts.length -> ∃ t,ts[i]? = some t:=fun i hi=>⟨_,List.getElem?_eq_getElem hi⟩
 have e4 : ∀ {x : Rds} {z : Nat},z ∈ fa x -> (∃ k ∈ x.1,z=4 * k) \/ (∃ k ∈ x.2.1,z=4 * k + 1) \/ (∃ p ∈ x.2.2.1,z=4 * (64 * p.1 + p.2 % 64) + 2) \/ ∃ p ∈ x.2.2.2,z=4 * (64 * p.1 + p.2 % 64) + 3:=by
  intro x z hz
  simp only [fa,List.mem_append,List.mem_map] at hz
  rcases hz with ((⟨k,h1,h2⟩ | ⟨k,h1,h2⟩) | ⟨p,h1,h2⟩) | ⟨p,h1,h2⟩
  ·exact .inl ⟨k,h1,h2.symm⟩
  ·exact .inr (.inl ⟨k,h1,h2.symm⟩)
  ·exact .inr (.inr (.inl ⟨p,h1,h2.symm⟩))
  ·exact .inr (.inr (.inr ⟨p,h1,h2.symm⟩))
 have e1 : ∀ {x : Rds} {k : Nat},k ∈ x.1 -> 4 * k ∈ fa x:=fun {x k} hk=>by
  simp only [fa,List.mem_append,List.mem_map];exact .inl (.inl (.inl ⟨k,hk,rfl⟩))
 have e2 : ∀ {x : Rds} {k : Nat},k ∈ x.2.1 -> 4 * k + 1 ∈ fa x:=fun {x k} hk=>by
  simp only [fa,List.mem_append,List.mem_map];exact .inl (.inl (.inr ⟨k,hk,rfl⟩))
 have e3 : ∀ {x : Rds} {p : Nat × Nat},p ∈ x.2.2.1 -> 4 * (64 * p.1 + p.2 % 64) + 2 ∈ fa x:=fun {x p} hk=>by
  simp only [fa,List.mem_append,List.mem_map];exact .inl (.inr ⟨p,hk,rfl⟩)
 refine ⟨fun i hn k hk=>?_,fun i hn p hp b all hb=>?_,fun i hn k hk b all hb=>?_,fun i hn p hp hk=>?_,fun i hn k hk=>?_,fun i j hij hn=>?_⟩
 ·obtain ⟨t,ht⟩:=get i hn
  obtain ⟨_,_,h3,_⟩:=hs' i t ht
  simp only [aO,ht] at hk
  simp only [Fam.W,aO,ht]
  simp only [wOk,Bool.and_eq_true,List.all_eq_true] at h3
  exact List.contains_iff_mem.1 (h3.1 k hk)
 ·obtain ⟨t,ht⟩:=get i hn
  obtain ⟨_,_,h3,_⟩:=hs' i t ht
  simp only [aO,ht] at hp
  simp only [Fam.W,aO,ht]
  simp only [wOk,Bool.and_eq_true,List.all_eq_true,Bool.or_eq_true] at h3
  rcases h3.2 p hp b (iq hb) with h4 | h4
  ·left
   have h5:=List.contains_iff_mem.1 h4
   rcases e4 h5 with ⟨x,_,h6⟩ | ⟨x,h7,h6⟩ | ⟨x,_,h6⟩ | ⟨x,_,h6⟩
   ·omega
   ·have : x=b:=by omega
    subst this;exact h7
   ·omega
   ·omega
  ·exact .inr (List.contains_iff_mem.1 h4)
 ·obtain ⟨t,ht⟩:=get i hn
  obtain ⟨h1,h2,_,h4⟩:=hs' i t ht
  simp only [aO,ht] at hk ⊢
  rw [h4] at hk ⊢
  simp only [chk,Bool.and_eq_true,List.all_eq_true] at h2
  rcases List.mem_append.1 hk with h5 | h5
  ·simp only [rdS] at h5
   rcases List.mem_append.1 h5 with h6 | h6
   ·obtain ⟨x,h7,h8⟩:=List.mem_flatMap.1 h6
    cases x with
    | t s =>
     simp only [gB,List.mem_singleton] at h8
     subst h8
     refine List.mem_flatMap.2 ⟨_,h7,?_⟩
     exact iq hb
    | c d=>simp [gB] at h8
   ·
    have : (∃ bb,(aO hs ts f).St i k=.bool bb) \/ (aO hs ts f).St i k=.tup []:=by
     cases hg : t.1.guard with
     | none=>rw [hg] at h6;simp [nV] at h6
     | some q =>
      obtain ⟨s,want⟩:=q
      rw [hg] at h6
      simp only [nV,List.mem_singleton] at h6
      subst h6
      unfold f8 at h1
      split at h1
      ·exact .inl ⟨want,h1.1 k want hg⟩
      ·obtain ⟨s',b',h7,h8⟩:=h1
       rw [hg] at h7;cases h7
       exact h8.imp (fun h8=>⟨_,h8⟩) id
    simp only [aO] at this hb
    rcases this with ⟨bb,hbb⟩ | hbb <;> rw [hbb] at hb <;> simp [co,ay] at hb
  ·have h6:=h2.1.1.2 k h5
   simp only [aO] at h6 hb
   have h7 : ∀ d : D,isB d=true -> co b all d=false:=fun d hd=>by cases d <;> first | rfl | (simp [isB] at hd)
   rw [h7 _ h6] at hb;cases hb
 ·
  obtain ⟨t,ht⟩:=get i hn
  obtain ⟨h1,h2,h3,h4⟩:=hs' i t ht
  simp only [aO,ht] at hp
  simp only [Fam.W,aO,ht] at hk
  rw [h4] at hp
  simp only [rdN] at hp
  exact yt h1 h2 hp hk
 ·obtain ⟨t,ht⟩:=get i hn
  obtain ⟨h1,h2,_,h4⟩:=hs' i t ht
  simp only [aO,ht] at hk ⊢
  rw [h4] at hk
  simp only [chk,Bool.and_eq_true,List.all_eq_true] at h2
  rcases List.mem_append.1 hk with h5 | h5
  ·have:=h2.1.1.1 k h5
   intro e
   simp only [aO] at this
   rw [e] at this
   simp [b7] at this
  ·have:=h2.1.1.2 k h5
   intro e
   simp only [aO] at this
   rw [e] at this
   simp [isB] at this
 ·obtain ⟨t,ht⟩:=get i (Nat.lt_trans hij hn)
  obtain ⟨u,hu⟩:=get j hn
  simp only [iM,List.all_eq_true] at hi
  have h1:=hi ((fa t.2.2,wrK (cZ t.1 t.2.1) (dP t.2.1)),i) (List.mem_zipIdx_iff_getElem?.2 (by simp [ht])) ((fa u.2.2,wrK (cZ u.1 u.2.1) (dP u.2.1)),j) (List.mem_zipIdx_iff_getElem?.2 (by simp [hu]))
  simp only [Bool.or_eq_true,Bool.not_eq_true',decide_eq_false_iff_not,Bool.and_eq_true] at h1
  rcases h1 with (h1 | h1) | h1
  ·exact absurd hij h1
  ·exact .inl h1
  ·right
   simp only [oJ,List.all_eq_true,Bool.and_eq_true,Bool.not_eq_true'] at h1
   have nm : ∀ {l : List Nat} {k : Nat},l.contains k=false -> k ∉ l:=fun h hm=>by
    have:=List.contains_iff_mem.2 hm
    rw [h] at this;cases this
   have one : ∀ (a b : eP) (x y : Nat),ts[x]? = some a -> ts[y]? = some b -> (∀ k ∈ wrK (cZ a.1 a.2.1) (dP a.2.1),((fa b.2.2).contains k=false /\ (wrK (cZ b.1 b.2.1) (dP b.2.1)).contains k=false) /\ ∀ q ∈ fa b.2.2,(!(decide (q % 4=2) && decide (k=4 * (q / 256))) || se q (fa a.2.2))=true) -> (aO hs ts f).Apart x y:=by
    intro a b x y ha hb hab
    refine ⟨fun k hk=>?_,fun k hk hm=>?_⟩
    ·have hk0:=hk
     simp only [Fam.W,aO,ha] at hk
     obtain ⟨p,hp,rfl⟩:=List.mem_map.1 hk
     obtain ⟨⟨h2,h3⟩,h4⟩:=hab (4 * p.1) (List.mem_append.2 (.inl (List.mem_map.2 ⟨p,hp,rfl⟩)))
     refine ⟨fun hr=>nm h2 (e1 (by simp only [aO,hb] at hr;exact hr)),fun hw=>nm h3 (List.mem_append.2 (.inl ?_)),fun m hm=>?_⟩
     ·simp only [Fam.W,aO,hb] at hw
      obtain ⟨q,hq,e⟩:=List.mem_map.1 hw
      exact List.mem_map.2 ⟨q,hq,by rw [e]⟩
     ·simp only [aO,hb] at hm
      have h5:=h4 _ (e3 hm)
      have h6 : (4 * (64 * p.1 + m % 64) + 2) % 4=2:=by omega
      have h7 : (4 * (64 * p.1 + m % 64) + 2) / 256=p.1:=by omega
      have h8 : (4 * (64 * p.1 + m % 64) + 2) / 4 % 64=m % 64:=by omega
      simp only [h6,h7,decide_true,Bool.and_self,Bool.not_true,Bool.false_or,se,h8,List.any_eq_true,Bool.and_eq_true,decide_eq_true_eq,Bool.not_eq_true',decide_eq_false_iff_not] at h5
      obtain ⟨z,hz,⟨hz3,hzc⟩,hzo⟩:=h5
      obtain ⟨g1,g2,_,g4⟩:=hs' x a ha
      rcases e4 hz with ⟨_,_,h9⟩ | ⟨_,_,h9⟩ | ⟨_,_,h9⟩ | ⟨p',hp',h9⟩
      ·omega
      ·omega
      ·omega
      ·have e5 : p'.1=p.1:=by omega
       have e6 : p'.2 % 64 ≠ m % 64:=fun e=>hzo (by omega)
       rw [g4] at hp'
       simp only [rdN] at hp'
       have:=yr g1 g2 hp' (m:=m) (fun e=>e6 (by rw [e]))
       unfold Fam.Pres
       rw [iE]
       unfold Fam.E
       simp only [aO,ha] at this ⊢
       rw [e5] at this
       exact this
    ·simp only [aO,ha] at hk
     obtain ⟨⟨h2,_⟩,_⟩:=hab (4 * k.1 + 1) (List.mem_append.2 (.inr (List.mem_map.2 ⟨k,hk,rfl⟩)))
     refine nm h2 (e2 ?_)
     simp only [aO,hb] at hm;exact hm
   exact ⟨one t u i j ht hu h1.1,one u t j i hu ht h1.2⟩
end
def uH (ops : Array Oper) (H : Array Nat) (j : Nat) : Nat:=match ops[j]? with
 | some o=>o.after.toList.foldl (fun s e=>if Region.binds .any e then s ||| 2 ^ e.on ||| H.getD e.on 0 else s) 0
 | none=>0
def pM (ops : Array Oper) (j : Nat) : Bool:=match ops[j]? with
 | some o=>o.after.toList.all fun e=>!Region.binds .any e || decide (e.on < j)
 | none=>true
theorem kN (H : Array Nat) (i : Nat) : ∀ (l : List Edge) (s : Nat),(l.foldl (fun s e=>if Region.binds .any e then s ||| 2 ^ e.on ||| H.getD e.on 0 else s) s).testBit i=true ->
  s.testBit i=true \/ ∃ e ∈ l,Region.binds .any e=true /\ (i=e.on \/ (H.getD e.on 0).testBit i=true)
 | [],s,h=>.inl h
 | e::l,s,h=>by
  simp only [List.foldl_cons] at h
  rcases kN H i l _ h with h1 | ⟨e',h1,h2⟩
  ·split at h1
   ·rename_i hb
    simp only [Nat.testBit_or,Bool.or_eq_true,Nat.testBit_two_pow,decide_eq_true_eq] at h1
    rcases h1 with (h1 | h1) | h1
    ·exact .inl h1
    ·exact .inr ⟨e,by simp,hb,.inl h1.symm⟩
    ·exact .inr ⟨e,by simp,hb,.inr h1⟩
   ·exact .inl h1
  ·exact .inr ⟨e',by simp [h1],h2⟩
theorem wc {ops : Array Oper} {H : Array Nat} {j i : Nat} (h : (uH ops H j).testBit i=true) : ∃ o,ops[j]? = some o /\ ∃ e ∈ o.after.toList,Region.binds .any e=true /\ (i=e.on \/ (H.getD e.on 0).testBit i=true):=by
 unfold uH at h
 split at h
 ·rename_i o ho
  rcases kN H i _ 0 h with h1 | h1
  ·simp at h1
  ·exact ⟨o,ho,h1⟩
 ·simp at h
def oR (hs : List Nat) (ops : Array Oper) : Bool:=(List.range ops.size).all fun j=>hs.getD j 0 == uH ops hs.toArray j && pM ops j
def left (n : Nat) (l : Nat -> Bool) : Nat:=((List.range n).filter fun i=>!l i).length
theorem ma {p q : Nat -> Bool} {j : Nat} (hpq : ∀ i,q i=true -> p i=true) (hp : p j=true) (hq : q j=false) : ∀ (l : List Nat),j ∈ l -> (l.filter q).length < (l.filter p).length
 | [],h=>by simp at h
 | i::l,h=>by
  have hle : (l.filter q).length <= (l.filter p).length:=by
   clear h
   induction l with
   | nil=>simp
   | cons x l ih =>
    simp only [List.filter_cons]
    cases hqx : q x with
    | true=>simp [hpq x hqx,ih]
    | false=>cases p x <;> simp <;> omega
  by_cases hij : i=j
  ·subst hij
   simp [hp,hq]
   omega
  ·have:=ma hpq hp hq l (by simpa [Ne.symm hij] using h)
   simp only [List.filter_cons]
   cases hqx : q i with
   | true=>simp [hpq i hqx,this]
   | false=>cases p i <;> simp <;> omega
section
variable {P : Program} {F : Fid} {C : Nat -> List D -> D -> List D -> Prop} {nt : Nat} {S : Nat -> Prop} {L : Nat -> Option Loc} {w0 : World} {M0 : Mem} {f : Nat -> D} {M : Mem} {a : Act} {w : World} {Q : Exit -> Act -> World -> Prop}
def lst (listed : Array Bool) : Nat -> Bool:=fun i=>listed.getD i true
theorem ip {ops : Array Oper} {listed : Array Bool} {i : Nat} : i ∈ Region.ready .any ops listed ↔ i < ops.size /\ lst listed i=false /\ ∃ o,ops[i]? = some o /\ ∀ e ∈ o.after,Region.binds .any e=true -> listed.getD e.on false=true:=by
 simp only [Region.ready,List.mem_filter,List.mem_range,Bool.and_eq_true,Bool.not_eq_true',lst]
 constructor
 ·rintro ⟨h1,h2,h3⟩
  refine ⟨h1,h2,ops[i],Array.getElem?_eq_getElem h1,fun e he hb=>?_⟩
  rw [Array.getElem?_eq_getElem h1] at h3
  simp only [Option.map_some,Option.getD_some,Array.all_eq_true_iff_forall_mem,Bool.or_eq_true,Bool.not_eq_true'] at h3
  rcases h3 e he with h4 | h4
  ·rw [hb] at h4;cases h4
  ·exact h4
 ·rintro ⟨h1,h2,o,h3,h4⟩
  refine ⟨h1,h2,?_⟩
  rw [h3]
  simp only [Option.map_some,Option.getD_some,Array.all_eq_true_iff_forall_mem,Bool.or_eq_true,Bool.not_eq_true']
  intro e he
  cases hb : Region.binds .any e with
  | false=>exact .inl rfl
  | true=>exact .inr (h4 e he hb)
theorem sS (hs : List Nat) (j : Nat) : hs.toArray.getD j 0=hs.getD j 0:=by
 simp [Array.getD_eq_getD_getElem?,List.getD_eq_getElem?_getD]
theorem qW {f g : Nat -> D} {n : am} {dst : Option Nat} {K : List (Nat × D) -> List (Nat × Bool) -> Prop} (hv : ∀ x ∈ ac n.op,vd g x=vd f x) (hr : ∀ b ∈ rdR f n,g b=f b) (hc : ∀ p ∈ frR f n,eO p.2 (g p.1)=eO p.2 (f p.1)) (h : aq C f dst K n.op) : aq C g dst K n.op:=by
 obtain ⟨d0,o,g0⟩:=n
 simp only at hv h ⊢
 have full : (∀ x ∈ ac o,x ∈ zO o) -> aq C g dst K o:=fun hN=>pw hv (fun x hx b hb=>hr b (List.mem_append.2 (.inl (List.mem_flatMap.2 ⟨x,hN x hx,iq hb⟩)))) h
 cases o with
 | mov x=>simp only [aq,res,hv x (by simp [ac])] at h ⊢;exact h
 | nck x=>simp only [aq,res,hv x (by simp [ac])] at h ⊢;exact h
 | un op x=>simp only [aq,res,hv x (by simp [ac])] at h ⊢;exact h
 | conv k x=>simp only [aq,res,hv x (by simp [ac])] at h ⊢;exact h
 | fld a b c x=>simp only [aq,res,hv x (by simp [ac])] at h ⊢;exact h
 | ext i x=>simp only [aq,res,hv x (by simp [ac])] at h ⊢;exact h
 | fad i x=>simp only [aq,res,hv x (by simp [ac])] at h ⊢;exact h
 | boxF x=>simp only [aq,res,hv x (by simp [ac])] at h ⊢;exact h
 | blsF sz len zs ps =>
  have e : ∀ p ∈ ps,vd g p.2=vd f p.2:=fun p hp=>hv _ (List.mem_map.2 ⟨p,hp,rfl⟩)
  simp only [aq,res] at h ⊢
  rw [gl e]
  exact ⟨fun p hp=>by rw [e p hp];exact h.1 p hp,h.2⟩
 | blsX sz len zs ps =>
  have e : ∀ p ∈ ps,vd g p.2=vd f p.2:=fun p hp=>hv _ (List.mem_map.2 ⟨p,hp,rfl⟩)
  simp only [aq,res] at h ⊢
  rw [iF e]
  exact ⟨h.1,fun p hp=>by rw [e p hp];exact h.2.1 p hp,h.2.2⟩
 | len x=>simp only [aq,res,hv x (by simp [ac])] at h ⊢;exact h
 | pick c x y=>simp only [aq,res,hv c (by simp [ac]),hv x (by simp [ac]),hv y (by simp [ac])] at h ⊢;exact h
 | bin op x y=>simp only [aq,res,hv x (by simp [ac]),hv y (by simp [ac])] at h ⊢;exact h
 | iadA l s x i=>simp only [aq,res,hv x (by simp [ac]),hv i (by simp [ac])] at h ⊢;exact h
 | bld zs ps =>
  have e : ∀ p ∈ ps,vd g p.2.2=vd f p.2.2:=fun p hp=>hv _ (List.mem_map.2 ⟨p,hp,rfl⟩)
  simp only [aq,res] at h ⊢
  obtain ⟨h1,h2,h3⟩:=h
  have e2 : (ps.all fun p=>isV (vd g p.2.2))=(ps.all fun p=>isV (vd f p.2.2)):=by
   rw [Bool.eq_iff_iff,List.all_eq_true,List.all_eq_true]
   exact ⟨fun h p hp=>by rw [<- e p hp];exact h p hp,fun h p hp=>by rw [e p hp];exact h p hp⟩
  have m1 : (ps.map fun p=>(p.1,p.2.1,vd g p.2.2))=ps.map fun p=>(p.1,p.2.1,vd f p.2.2):=List.map_congr_left fun p hp=>by rw [e p hp]
  have m2 : (ps.map fun p=>(p.1,p.2.1,bJ (vd g p.2.2)))=ps.map fun p=>(p.1,p.2.1,bJ (vd f p.2.2)):=List.map_congr_left fun p hp=>by rw [e p hp]
  rw [e2,m1,m2]
  exact ⟨fun p hp=>by rw [e p hp];exact h1 p hp,h2,h3⟩
 | mk k xs =>
  have e : ∀ x ∈ xs,vd g x=vd f x:=fun x hx=>hv x hx
  simp only [aq,res] at h ⊢
  obtain ⟨h1,h2,h3⟩:=h
  have e2 : (xs.all fun x=>isV (vd g x))=(xs.all fun x=>isV (vd f x)):=by
   rw [Bool.eq_iff_iff,List.all_eq_true,List.all_eq_true]
   exact ⟨fun h p hp=>by rw [<- e p hp];exact h p hp,fun h p hp=>by rw [e p hp];exact h p hp⟩
  rw [e2,List.map_congr_left e]
  exact ⟨fun p hp=>by rw [e p hp];exact h1 p hp,h2,h3⟩
 | ldQ q x =>
  have e:=hv x (by simp [ac])
  simp only [aq,e] at h ⊢
  split at h
  ·rename_i c i off ex
   obtain ⟨rfl,h⟩:=h
   split at h
   ·rename_i sz es hf
    obtain ⟨r,h1,d,h2,h3⟩:=h
    have h4:=hc (c,off) (by simp [frR,ex])
    simp only [hf,eO] at h4
    refine ⟨rfl,?_⟩
    split at h4
    ·rename_i sz' es' hg
     simp only [Option.some.injEq] at h4
     have h5:=congrArg (fun l=>l[i]?) h4
     simp only [List.getElem?_map,h1,Option.map_some] at h5
     rw [Option.map_eq_some_iff] at h5
     obtain ⟨r',h6,h7⟩:=h5
     simp only [hg]
     exact ⟨r',h6,d,by rw [h7];exact h2,h3⟩
    ·cases h4
   ·exact h.elim
  ·exact h.elim
 | ld n ag x =>
  have e:=hv x (by simp [ac])
  simp only [aq,res,e] at h ⊢
  split at h
  ·rename_i p i off ex
   rw [cG (p:=p) (hr _ (List.mem_append.2 (.inr (List.mem_flatMap.2 ⟨x,by simp [ldN],by rw [ex];simp [az]⟩))))]
   exact h
  ·exact h
  ·exact h
  ·exact h
 | _=>exact full (fun x hx=>hx)
theorem ql (hC : bi P F C) (hL : NoL L) {hs : List Nat} {ops : Array Oper} {ts : List eP} {f' : Nat -> D} (htr : Tr C ts f f') (hok : (aO hs ts f).Ok) (hlen : ts.length=ops.size) (hb : ∀ j,j < ops.size -> hs.getD j 0=uH ops hs.toArray j) (hed : ∀ (j : Nat) (o : Oper),ops[j]? = some o -> ∀ e ∈ o.after,Region.binds .any e=true -> e.on < j)
  (hk : ∀ (j : Nat) (t : eP) (o : Oper),ts[j]? = some t -> ops[j]? = some o -> mo P F nt ops t.1 o=true)
  (hQ : ∀ M a w,SR F nt S L w0 M0 f' M a w -> Q .normal a w) : ∀ (fuel : Nat) (listed : Array Bool) (M : Mem) (a : Act) (w : World),listed.size=ops.size -> left ops.size (lst listed) <= fuel ->
   (∀ j,j < ops.size -> lst listed j=true -> ∀ i,(hs.getD j 0).testBit i=true -> i < ops.size /\ lst listed i=true) -> SR F nt S L w0 M0 ((aO hs ts f).G (lst listed) ts.length) M a w -> wpAny P .any ops Q fuel listed a w:=by
 obtain ⟨hf',hsp⟩:=nx hs ts f f' htr
 have hall : ∀ (listed : Array Bool),(∀ i,i < ops.size -> lst listed i=true) -> (aO hs ts f).G (lst listed) ts.length=f':=by
  intro listed h
  rw [hf']
  unfold Fam.St
  have : ∀ m,m <= ts.length -> (aO hs ts f).G (lst listed) m=(aO hs ts f).G (fun _=>true) m:=by
   intro m
   induction m with
   | zero=>intro _;rfl
   | succ m ih =>
    intro hm
    simp only [Fam.G]
    rw [h m (by omega),ih (by omega)]
    rfl
  exact this _ (Nat.le_refl _)
 intro fuel
 induction fuel with
 | zero =>
  intro listed M a w hs' hf hcl h
  have hal : ∀ i,i < ops.size -> lst listed i=true:=by
   intro i hi
   cases hl : lst listed i with
   | true=>rfl
   | false =>
    have : i ∈ (List.range ops.size).filter fun i=>!lst listed i:=by simp [hi,hl]
    have:=List.length_pos_of_mem this
    unfold left at hf
    omega
  refine ⟨?_,hQ M a w (by rw [<- hall listed hal];exact h)⟩
  rw [List.eq_nil_iff_forall_not_mem]
  intro i hi
  obtain ⟨h1,h2,_⟩:=ip.1 hi
  rw [hal i h1] at h2
  cases h2
 | succ fuel ih =>
  intro listed M a w hs' hf hcl h
  refine ⟨fun hr=>hQ M a w ?_,fun j hj=>?_⟩
  ·have hal : ∀ i,i < ops.size -> lst listed i=true:=by
    intro i
    induction i using Nat.strongRecOn with
    | _ i ihi =>
     intro hi
     cases hl : lst listed i with
     | true=>rfl
     | false =>
      have : i ∈ Region.ready .any ops listed:=ip.2 ⟨hi,hl,ops[i],Array.getElem?_eq_getElem hi,fun e he hb=>by
       have h1:=hed i _ (Array.getElem?_eq_getElem hi) e he hb
       have h2:=ihi e.on h1 (by omega)
       unfold lst at h2
       rw [Array.getD_eq_getD_getElem?] at h2 ⊢
       rw [Array.getElem?_eq_getElem (by omega)] at h2 ⊢
       simpa using h2⟩
      rw [hr] at this
      cases this
   rw [<- hall listed hal]
   exact h
  ·obtain ⟨h1,h2,o,h3,h4⟩:=ip.1 hj
   obtain ⟨t,ht⟩ : ∃ t,ts[j]? = some t:=⟨ts[j]'(by omega),List.getElem?_eq_getElem (by omega)⟩
   have hanc : ∀ i,(hs.getD j 0).testBit i=true -> i < ops.size /\ lst listed i=true:=by
    intro i hi
    rw [hb j h1] at hi
    obtain ⟨o',ho',e,he,hbd,h5⟩:=wc hi
    rw [h3] at ho'
    cases ho'
    have h6:=hed j o h3 e (by simpa using he) hbd
    have h7:=h4 e (by simpa using he) hbd
    have h8 : lst listed e.on=true:=by
     unfold lst
     rw [Array.getD_eq_getD_getElem?] at h7 ⊢
     rw [Array.getElem?_eq_getElem (by omega)] at h7 ⊢
     simpa using h7
    rcases h5 with rfl | h5
    ·exact ⟨by omega,h8⟩
    ·rw [sS] at h5
     exact hcl e.on (by omega) h8 i h5
   have hshut : rQ (aO hs ts f) (lst listed):=fun j' hj' hl' i _ hbf=>(hcl j' (by simpa [aO,hlen] using hj') hl' i hbf).2
   have hjn : j < (aO hs ts f).n:=by simp only [aO];omega
   have hreads:=hok.reads hshut hjn h2 (fun i _ hbf=>(hanc i hbf).2)
   have hcols:=hok.readsC hshut hjn h2 (fun i _ hbf=>(hanc i hbf).2)
   obtain ⟨g1,g2,g3,g4⟩:=hsp j t ht
   have hrd : (aO hs ts f).rd j=t.2.2.1:=by simp [aO,ht]
   have hn : (aO hs ts f).n=ts.length:=rfl
   rw [hrd,hn,g4] at hreads
   have hfr : (aO hs ts f).fr j=frR ((aO hs ts f).St j) t.1:=by
    have : (aO hs ts f).fr j=t.2.2.2.2.1:=by simp [aO,ht]
    rw [this,g4];rfl
   rw [hfr,hn] at hcols
   have hstep : f8 C t.1 ((aO hs ts f).G (lst listed) ts.length) t.2.1:=by
    have hv : ∀ x ∈ ac t.1.op,vd ((aO hs ts f).G (lst listed) ts.length) x=vd ((aO hs ts f).St j) x:=fun x hx=>by
     cases x with
     | t s=>exact hreads s (List.mem_append.2 (.inl (List.mem_append.2 (.inl (List.mem_flatMap.2 ⟨_,hx,by simp [gB]⟩)))))
     | c d=>rfl
    have ha : ∀ b ∈ rdR ((aO hs ts f).St j) t.1,(aO hs ts f).G (lst listed) ts.length b=(aO hs ts f).St j b:=fun b hb=>hreads b (List.mem_append.2 (.inr hb))
    have hg : ∀ s b,t.1.guard=some (s,b) -> (aO hs ts f).G (lst listed) ts.length s=(aO hs ts f).St j s:=fun s b e =>
     hreads s (List.mem_append.2 (.inl (List.mem_append.2 (.inr (by rw [e];simp [nV])))))
    unfold f8 at g1 ⊢
    split at g1
    ·exact ⟨fun s b e=>by rw [hg s b e];exact g1.1 s b e,qW hv ha hcols g1.2⟩
    ·obtain ⟨s,b,e1,e2⟩:=g1
     exact ⟨s,b,e1,by rw [hg s b e1];exact e2⟩
   have hlst : ∀ i,lst (listed.setIfInBounds j true) i=(if i=j then true else lst listed i):=by
    intro i
    unfold lst
    rw [Array.getD_eq_getD_getElem?,Array.getD_eq_getD_getElem?,Array.getElem?_setIfInBounds]
    by_cases hij : i=j
    ·subst hij;simp [show i < listed.size from by omega]
    ·simp [hij,Ne.symm hij]
   have hlst' : ∀ i,i ≠ j -> lst (listed.setIfInBounds j true) i=lst listed i:=fun i hi=>by rw [hlst,if_neg hi]
   have hlstj : lst (listed.setIfInBounds j true) j=true:=by rw [hlst,if_pos rfl]
   have hmore : (aO hs ts f).G (lst (listed.setIfInBounds j true)) ts.length=lO t.1 t.2.1 ((aO hs ts f).G (lst listed) ts.length):=by
    rw [uE]
    have:=hok.more hshut hjn h2 hlstj hlst'
    rw [hn] at this
    rw [this]
    simp [Fam.E,aO,ht]
   have hfin : ∀ M' a' w',SR F nt S L w0 M0 (lO t.1 t.2.1 ((aO hs ts f).G (lst listed) ts.length)) M' a' w' -> wpAny P .any ops Q fuel (listed.setIfInBounds j true) a' w':=by
    intro M' a' w' h'
    refine ih _ M' a' w' (by simpa using hs') ?_ (fun j' hj' hl' i hi=>?_) (by rw [hmore];exact h')
    ·have : left ops.size (lst (listed.setIfInBounds j true)) < left ops.size (lst listed):=by
      refine ma (j:=j) (fun i hi=>?_) (by simp [h2]) (by simp [hlstj]) _ (by simpa using h1)
      by_cases hij : i=j
      ·subst hij;simp [h2]
      ·rw [hlst' i hij] at hi;exact hi
     omega
    ·by_cases hjj : j'=j
     ·subst hjj
      obtain ⟨q1,q2⟩:=hanc i hi
      refine ⟨q1,?_⟩
      rw [hlst];split
      ·rfl
      ·exact q2
     ·rw [hlst' j' hjj] at hl'
      obtain ⟨q1,q2⟩:=hcl j' hj' hl' i hi
      refine ⟨q1,?_⟩
      rw [hlst];split
      ·rfl
      ·exact q2
   have:=xG hC hL (hk j t o ht h3) h hstep (R:=wpAny P .any ops Q fuel (listed.setIfInBounds j true)) hfin (Q:=Q)
   unfold wpOp
   rw [h3]
   exact this
theorem ot (hC : bi P F C) (hL : NoL L) (hm : P.follows .mixedOrders=true) {hs : List Nat} {ops : Array Oper} {ns : List am} (hk : j3 P F nt ns ops=true) (hdr : oR hs ops=true) {id : Nat} {K : Env -> Prop} {e : Env} (h : SR F nt S L w0 M0 (aa e) M a w) (hr : jJ C hs K ns e [])
  (hQ : ∀ e M a w,SR F nt S L w0 M0 (aa e) M a w -> K e -> Q .normal a w) : (Code.region id ops true).wp P Q a w:=by
 simp only [j3,Bool.and_eq_true,beq_iff_eq,List.all_eq_true] at hk
 obtain ⟨ts,e',g1,g2,g3,g4⟩:=xI ns e [] hr
 have hlen : ts.length=ops.size:=by
  have : ts.length=ns.length:=by rw [<- g1];simp
  rw [this];simpa using hk.1
 have hok:=yo g2 (by simpa using g3)
 simp only [oR,List.all_eq_true,List.mem_range,Bool.and_eq_true,beq_iff_eq] at hdr
 refine wp_region_any hm (ql hC hL (hs:=hs) g2 hok hlen (fun j hj=>(hdr j hj).1) (fun j o ho e he hb=>?_) (fun j t o ht ho=>?_) (fun M a w hs=>hQ e' M a w hs g4) _ _ M a _ (by simp) ?_ ?_ ?_)
 ·obtain ⟨hj,_⟩:=Array.getElem?_eq_some_iff.1 ho
  have:=(hdr j hj).2
  simp only [pM,ho,List.all_eq_true,Bool.or_eq_true,Bool.not_eq_true',decide_eq_true_eq] at this
  rcases this e (by simpa using he) with h5 | h5
  ·rw [hb] at h5;cases h5
  ·exact h5
 ·refine hk.2 (t.1,o) ?_
  rw [List.mem_iff_getElem?]
  refine ⟨j,?_⟩
  rw [List.getElem?_zip_eq_some]
  refine ⟨?_,by simpa using ho⟩
  rw [<- g1]
  simp [ht]
 ·have:=List.length_filter_le (fun i=>!lst (Array.replicate ops.size false) i) (List.range ops.size)
  simpa [left] using this
 ·intro j hj hl
  simp [lst,hj] at hl
 ·have h0 : ∀ m,m <= ts.length -> (aO hs ts (aa e)).G (lst (Array.replicate ops.size false)) m=aa e:=by
   intro m
   induction m with
   | zero=>intro _;rfl
   | succ m ih =>
    intro hm
    simp only [Fam.G]
    rw [ih (by omega)]
    have : lst (Array.replicate ops.size false) m=false:=by simp [lst,show m < ops.size from by omega]
    rw [this];rfl
  rw [h0 _ (Nat.le_refl _)]
  exact h.grow (Bel.drew _)
end
end Go.Gv
