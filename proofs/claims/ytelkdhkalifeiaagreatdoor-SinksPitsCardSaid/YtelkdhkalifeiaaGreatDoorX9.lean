/-
  Texts of the proof: HT3, SH1, RP4, RP5, SM0, SP1.
-/
import Derived.Test.YtelkdhkalifeiaaGreatDoorX8
set_option linter.all false
namespace Go.Gv
def B8 (C : CC) : Prop:=∀ (m : Msh) (cs : List D),0 < m.f.length -> m.f.length < 2 ^ 62 -> (∀ a b : Nat,a < m.f.length -> b < m.f.length -> C 847 (.int .i64 a::.int .i64 b::cs) (.int .i64 (dx m a - dx m b)) []) ->
 ∃ Q,jB m Q /\ C 374 [.own 1 (nfR (List.range m.f.length)),.fn 847 cs] .any [.own 1 (nfR Q),.nilp]
theorem ux (l : List Nat) : ∀ e ∈ nfR l,e.length=1 /\ ∀ c ∈ e,aH c=true:=by
 intro e he
 obtain ⟨x,_,rfl⟩:=x0s.1 he
 simp
def meT (n : Nat) (S : List Nat) : List Bool:=(List.range n).map fun i=>decide (i ∈ S)
theorem pu (n : Nat) (S : List Nat) : (meT n S).length=n:=by simp [meT]
theorem pt {n i : Nat} {S : List Nat} (h : i < n) : (meT n S).getD i false=decide (i ∈ S):=by simp [meT,h]
theorem zz {n i : Nat} {S : List Nat} (h : i < n) : (meT n S).set i true=meT n (S++[i]):=by
 unfold meT
 apply x0G (by simp)
 intro j h1 h2
 simp only [x1i,x1g,x1I,x0m,x1c]
 by_cases e : i=j
 ·subst e;simp
 ·rw [if_neg e,decide_eq_decide]
  exact ⟨.inl,fun h=>h.resolve_right fun h=>e h.symm⟩
theorem zu (n : Nat) : meT n []=List.replicate n false:=by
 unfold meT
 apply x0G (by simp)
 intro j h1 h2
 simp
noncomputable def spR (m : Msh) (a b : Nat) : D:=match dw m a b with
 | some v=>.tup [.int .i64 v,.int .i64 0]
 | none=>.tup [.int .i64 0,.int .i64 12]
variable {C : CC} (hC : aD prog C)
include hC
theorem Cu (m : Msh) (hv : au m=true) (a b : Nat) (ha : a < m.f.length) (hb : b < m.f.length) : C 847 [.int .i64 a,.int .i64 b,.ptr [.sl (inR (aS m))]] (.int .i64 (dx m a - dx m b)) []:=by
 have h1:=fE hv ha
 have h2:=fE hv hb
 have w : IntKind.wrap .i64 (suF m a - suF m b)=dx m a - dx m b:=af (by rw [d7 ha,d7 hb]) (by omega)
 refine aq hC (nf:=N847) rfl rfl ?_
 simp [N847,ap (eA ha),ap (eA hb),w]
 exact ai (by decide +kernel)
set_option maxHeartbeats 4000000 in
set_option maxRecDepth 8000 in
theorem yu (hS : B8 C) (dec : Nat -> List UInt8) (hI : ∀ n : Nat,n < 100 -> C 127 [.int .i64 n] (.str (dec n)) []) (m : Msh) (hz : cG m=true -> m.s.length <= 100 /\ m.f.length <= 100) (x y : Int) :
  C 845 [.agg (a6 m),.int .i64 x,.int .i64 y] (if au m then (if (0 <= x /\ x < m.f.length) /\ 0 <= y /\ y < m.f.length then spR m x.toNat y.toNat else .tup [.int .i64 0,.int .i64 2]) else .tup [.int .i64 0,.int .i64 1]) []:=by
 have k1:=gZ hC dec hI m hz
 have k2:=vr hC dec hI m hz
 simp only [ab] at k1 k2
 cases hv : au m
 ·simp only [hv,x0h,if_false] at k1 ⊢
  refine aq hC (nf:=N845) rfl rfl ?_
  simp [N845,ab]
  refine aa k1 (.inr rfl) ?_
  simp
 simp only [hv,if_true] at k1 k2 ⊢
 by_cases hx : 0 <= x /\ x < m.f.length
 rotate_left
 ·rw [if_neg fun h=>hx h.1]
  refine aq hC (nf:=N845) rfl rfl ?_
  simp [N845,ab]
  refine aa k1 (.inr rfl) ?_
  by_cases h0 : x < 0
  ·simp [h0]
  ·simp [h0,show (m.f.length : Int) <= x by omega]
 by_cases hy : 0 <= y /\ y < m.f.length
 rotate_left
 ·rw [if_neg fun h=>hy h.2]
  refine aq hC (nf:=N845) rfl rfl ?_
  simp [N845,ab]
  refine aa k1 (.inr rfl) ?_
  by_cases h0 : y < 0
  ·simp [show ¬ x < 0 by omega,show ¬ (m.f.length : Int) <= x by omega,h0]
  ·simp [show ¬ x < 0 by omega,show ¬ (m.f.length : Int) <= x by omega,h0,show (m.f.length : Int) <= y by omega]
 rw [if_pos ⟨hx,hy⟩]
 obtain ⟨a,rfl⟩ : ∃ a : Nat,x=a:=⟨x.toNat,by omega⟩
 obtain ⟨b,rfl⟩ : ∃ b : Nat,y=b:=⟨y.toNat,by omega⟩
 have ha : a < m.f.length:=by omega
 have hb : b < m.f.length:=by omega
 have hsz:=(cQ hv).2
 have hsl : slx true (inR (aS m))=.sl (inR (aS m)):=by
  cases h : inR (aS m) with
  | nil =>
   have:=congrArg List.length h
   rw [y9,AF] at this
   exact absurd (show m.f.length=0 from this) (by omega)
  | cons e r=>rfl
 rw [hsl] at k2
 obtain ⟨Q,hO,kS⟩:=hS m [.ptr [.sl (inR (aS m))]] (by omega) (by omega) fun a b ha hb=>Cu hC m hv a b ha hb
 have hQl:=hO.len
 have kf:=mU hC m.f.length (by omega)
 simp only [x0L]
 refine aq hC (nf:=N845) rfl rfl ?_
 simp [N845,ab]
 refine aa k1 (.inr rfl) ?_
 simp [show ¬ (a : Int) < 0 by omega,show ¬ m.f.length <= a by omega,show ¬ (b : Int) < 0 by omega,show ¬ m.f.length <= b by omega]
 refine aa k2 (.inr rfl) ?_
 simp
 refine ⟨by omega,?_⟩
 refine av Nat (fun i=>[(1,.int .i64 a),(2,.int .i64 b),(8,.sl (nbA m)),(10,.adr (.r 10160) 0 0),(11,.ref (.r 10176) 0 m.f.length),(57,.int .i64 m.f.length),(58,.int .i64 i),(10160,.blk 1 [[.sl (inR (aS m))]]),(10176,.blk 1 (nfR (frT m.f.length i)))])
  (fun i=>i <= m.f.length) (fun i=>m.f.length - i) 0 (by simp) (by simp [nfR,frT]) ?_
 rintro i hi
 have hw : IntKind.wrap .i64 ((i : Int) + 1)=((i + 1 : Nat) : Int):=af (by omega) (by omega)
 have hl:=tb hi
 simp
 refine aj (fun g1=>?_) (fun g1=>?_) <;> simp at g1 <;> simp [g1]
 ·have hil : i < (frT m.f.length i).length:=by omega
  have hs:=tc g1
  simp [iZ hil,jr,hs]
  exact ⟨i + 1,by omega,by omega,hw,rfl⟩
 ·have e : i=m.f.length:=by omega
  subst e
  have e2 : frT m.f.length m.f.length=List.range m.f.length:=by simp [frT]
  rw [e2]
  simp
  refine ⟨fun e he c hc=>pF _ e he c hc,?_⟩
  refine tW kS (.inr (iY Q)) (by simp [hQl]) (ux Q) ?_
  simp
  refine jj kf ?_
  simp
  refine ⟨by omega,?_⟩
  have hz0 : List.replicate m.f.length [D.bool false]=rcR (meT m.f.length (Q.take 0)):=by rw [List.take_zero,zu];simp [rcR]
  rw [hz0]
  obtain ⟨I1,I2,I3⟩:=jK.init (n:=m.f.length) (mR m (Q.take 0))
  refine av (Nat × List Nat) (fun s=>[(1,.int .i64 a),(2,.int .i64 b),(8,.sl (nbA m)),(10,.adr (.r 10160) 0 0),(13,.ref (.r 10208) 0 m.f.length),(14,.ref (.r 10224) 0 m.f.length),(75,.ref (.r 11200) 0 m.f.length),(76,.int .i64 m.f.length),(77,.int .i64 s.1),
   (10160,.blk 1 [[.sl (inR (aS m))]]),(10208,.blk 1 (nfR s.2)),(10224,.blk 1 (rcR (meT m.f.length (Q.take s.1)))),(11200,.blk 1 (nfR Q))])
   (fun s=>s.1 <= m.f.length /\ Fo m.f.length s.2 /\ jK m.f.length (mR m (Q.take s.1)) s.2 /\ (∀ i k,mR m (Q.take s.1) i k -> ftF s.2 i=ftF s.2 k) /\ vc m (Q.take s.1) a b)
   (fun s=>m.f.length - s.1) (0,List.range m.f.length) ⟨by simp,I1,I2,fun i k h=>by have:=h.2.2.1;simp at this,fun h=>by have:=h.1;simp at this⟩ (by simp) ?_
  rintro ⟨p,f⟩ ⟨hp,J1,J2,J3,J4⟩
  simp only at hp J1 J2 J3 J4
  have hwp : IntKind.wrap .i64 ((p : Int) + 1)=((p + 1 : Nat) : Int):=af (by omega) (by omega)
  simp
  refine aj (fun g2=>?_) (fun g2=>?_) <;> simp at g2 <;> simp [g2]
  ·have hpQ : p < Q.length:=by omega
   obtain ⟨i,hi0⟩ : ∃ i,i=Q[p]:=⟨_,rfl⟩
   have hin : i < m.f.length:=by rw [hi0];exact hO.lt hpQ
   have hQg : (nfR Q)[p]? = some [.int .i64 (i : Nat)]:=by rw [fy hpQ,hi0]
   have htk : Q.take (p + 1)=Q.take p++[i]:=by rw [hi0];exact x1f hpQ
   have hml:=pu m.f.length (Q.take p)
   have hmi : i < (meT m.f.length (Q.take p)).length:=by rw [hml];exact hin
   have hms:=zz (S:=Q.take p) hin
   rw [<- htk] at hms
   have iS : i ∈ Q.take (p + 1):=by rw [htk];simp
   have mono : ∀ x k,mR m (Q.take p) x k -> mR m (Q.take (p + 1)) x k:=fun x k h=>⟨h.1,h.2.1,by rw [htk];exact List.mem_append_left _ h.2.2.1,by rw [htk];exact List.mem_append_left _ h.2.2.2.1,h.2.2.2.2⟩
   simp [ar hQg,hin,bF hmi,d6,hms,ap (gj hin)]
   refine av (Nat × List Nat) (fun s=>[(1,.int .i64 a),(2,.int .i64 b),(8,.sl (nbA m)),(10,.adr (.r 10160) 0 0),(13,.ref (.r 10208) 0 m.f.length),(14,.ref (.r 10224) 0 m.f.length),(16,.int .i64 i),(75,.ref (.r 11200) 0 m.f.length),(76,.int .i64 m.f.length),(77,.int .i64 p),
    (87,.agg [.int .i64 (nbF m i 0),.int .i64 (nbF m i 1),.int .i64 (nbF m i 2)]),(88,.int .i64 s.1),(10160,.blk 1 [[.sl (inR (aS m))]]),(10208,.blk 1 (nfR s.2)),(10224,.blk 1 (rcR (meT m.f.length (Q.take (p + 1))))),(11200,.blk 1 (nfR Q))])
    (fun s=>s.1 <= 3 /\ Fo m.f.length s.2 /\ jK m.f.length (mR m (Q.take (p + 1))) s.2 /\ (∀ x k,mR m (Q.take p) x k -> ftF s.2 x=ftF s.2 k) /\ (∀ c k : Nat,c < s.1 -> nbF m i c=k -> k ∈ Q.take (p + 1) -> ftF s.2 i=ftF s.2 k))
    (fun s=>3 - s.1) (0,f) ⟨by simp,J1,fun x hx=>(J2 x hx).mono mono,J3,fun c k h=>by simp at h⟩ (by simp) ?_
   rintro ⟨j,g⟩ ⟨hj,K1,K2,K3,K4⟩
   simp only at hj K1 K2 K3 K4
   have hwj : IntKind.wrap .i64 ((j : Int) + 1)=((j + 1 : Nat) : Int):=af (by omega) (by omega)
   have hgl:=K1.len
   simp
   refine aj (fun g3=>?_) (fun g3=>?_) <;> simp at g3
   ·have hxj : ([.int .i64 (nbF m i 0),.int .i64 (nbF m i 1),.int .i64 (nbF m i 2)] : List D)[j]?.getD .any=.int .i64 (nbF m i j):=by
     rcases (by omega : j=0 \/ j=1 \/ j=2) with rfl | rfl | rfl <;> rfl
    have hbd:=cS m i j
    obtain ⟨kk,hkk⟩ : ∃ kk,kk=nbF m i j:=⟨_,rfl⟩
    rw [<- hkk] at hxj hbd
    simp [show (j : Int) < 3 by omega,hxj]
    refine ⟨by omega,?_⟩
    by_cases c1 : kk=-1
    ·simp [c1]
     refine ⟨j + 1,g,⟨by omega,K1,K2,K3,fun c k hc ec hk=>?_⟩,by omega,hwj,rfl⟩
     by_cases e : c=j
     ·subst e;omega
     ·exact K4 c k (by omega) ec hk
    ·obtain ⟨c,hc⟩ : ∃ c : Nat,kk=c:=⟨kk.toNat,by omega⟩
     subst hc
     have hcn : c < m.f.length:=by omega
     have hml2:=pu m.f.length (Q.take (p + 1))
     have hmc : c < (meT m.f.length (Q.take (p + 1))).length:=by rw [hml2];exact hcn
     have hmg:=pt (S:=Q.take (p + 1)) hcn
     have hrow : (rcR (meT m.f.length (Q.take (p + 1))))[c]? = some [.bool (decide (c ∈ Q.take (p + 1)))]:=by rw [bF hmc,hmg]
     by_cases c2 : c ∈ Q.take (p + 1)
     ·have hj2:=(eC K1 hin hcn).1
      simp [c1,hcn,ar hrow,c2]
      refine ⟨by omega,hgl,bJ (wz hC.1 m.f.length (by omega) g K1 i c hin hcn) (by have:=hj2.len;simp;omega) ?_⟩
      simp
      refine ⟨j + 1,gM g i c,⟨by omega,hj2,jK.join (th hv) K1 K2 hin hcn ⟨hin,hcn,iS,c2,j,by omega,hkk.symm⟩,fun x k h=>jq K1 hin hcn h.1 h.2.1 (K3 x k h),fun c' k hc ec hk=>?_⟩,by omega,hwj,rfl⟩
      by_cases e : c'=j
      ·subst e
       have : k=c:=by omega
       subst this
       exact oE K1 hin hcn
      ·have hkn : k < m.f.length:=by have:=cS m i c';omega
       exact jq K1 hin hcn hin hkn (K4 c' k (by omega) ec hk)
     ·simp [c1,hcn,ar hrow,c2]
      refine ⟨j + 1,g,⟨by omega,K1,K2,K3,fun c' k hc ec hk=>?_⟩,by omega,hwj,rfl⟩
      by_cases e : c'=j
      ·subst e
       have : k=c:=by omega
       subst this
       exact absurd hk c2
      ·exact K4 c' k (by omega) ec hk
   ·have e3 : j=3:=by omega
    subst e3
    have all : ∀ x k,mR m (Q.take (p + 1)) x k -> ftF g x=ftF g k:=by
     rintro x k ⟨h1,h2,h3,h4,c,hc,ec⟩
     by_cases ex : x=i
     ·subst ex
      exact K4 c k hc ec h4
     ·by_cases ek : k=i
      ·subst ek
       obtain ⟨c',hc',e'⟩:=iX hv h1 hc (by omega)
       rw [ec] at e'
       exact (K4 c' x hc' (by simpa using e') h3).symm
      ·rw [htk] at h3 h4
       have h3' : x ∈ Q.take p:=(x0m.1 h3).resolve_right fun h=>ex (by simpa using h)
       have h4' : k ∈ Q.take p:=(x0m.1 h4).resolve_right fun h=>ek (by simpa using h)
       exact K3 x k ⟨h1,h2,h3',h4',c,hc,ec⟩
    have hml2:=pu m.f.length (Q.take (p + 1))
    have hma : a < (meT m.f.length (Q.take (p + 1))).length:=by rw [hml2];exact ha
    have hmb : b < (meT m.f.length (Q.take (p + 1))).length:=by rw [hml2];exact hb
    have hra : (rcR (meT m.f.length (Q.take (p + 1))))[a]? = some [.bool (decide (a ∈ Q.take (p + 1)))]:=by rw [bF hma,pt ha]
    have hrb : (rcR (meT m.f.length (Q.take (p + 1))))[b]? = some [.bool (decide (b ∈ Q.take (p + 1)))]:=by rw [bF hmb,pt hb]
    simp [ha,ar hra]
    by_cases m1 : a ∈ Q.take (p + 1)
    ·by_cases m2 : b ∈ Q.take (p + 1)
     ·have kr1:=nH hC.1 m.f.length (by omega) g K1 a ha
      obtain ⟨L1,L2⟩:=fR K1 ha
      have kr2:=nH hC.1 m.f.length (by omega) (hlL g a) L1 b hb
      rw [L2 b hb] at kr2
      obtain ⟨M1,M2⟩:=fR L1 hb
      have ll1:=L1.len
      have ll2:=M1.len
      have same : ∀ x,x < m.f.length -> ftF (hlL (hlL g a) b) x=ftF g x:=fun x hx=>by rw [M2 x hx,L2 x hx]
      simp [m1,hb,ar hrb,m2]
      refine ⟨by omega,hgl,bJ kr1 (by simp;omega) ?_⟩
      simp
      refine ⟨by omega,ll1,bJ kr2 (by simp;omega) ?_⟩
      simp
      refine aj (fun h7=>?_) (fun h7=>?_)
      ·have hq : ftF g a=ftF g b:=by have:=of_decide_eq_true h7;omega
       have hcn : Cn (mR m (Q.take (p + 1))) a b:=by
        have q1:=K2 a ha
        have q2:=(K2 b hb).symm (th hv)
        rw [hq] at q1
        exact q1.trans q2
       have hfd:=found hO hpQ ha hb J4 m1 m2 hcn
       rw [<- hi0] at hfd
       simp [ap (eA hin)]
       unfold spR
       rw [hfd]
      ·have hq : ¬ ftF g a=ftF g b:=by have:=of_decide_eq_false h7;omega
       simp
       refine ⟨p + 1,hlL (hlL g a) b,⟨by omega,M1,fun x hx=>by rw [same x hx];exact K2 x hx,fun x k h=>by rw [same x h.1,same k h.2.1];exact all x k h,fun h=>hq (Cn.root all h.2.2)⟩,by omega,hwp,rfl,rfl⟩
     ·simp [m1,hb,ar hrb,m2]
      exact ⟨p + 1,g,⟨by omega,K1,K2,all,fun h=>m2 h.2.1⟩,by omega,hwp,rfl,rfl⟩
    ·simp [m1]
     exact ⟨p + 1,g,⟨by omega,K1,K2,all,fun h=>m1 h.1⟩,by omega,hwp,rfl,rfl⟩
  ·have e3 : p=m.f.length:=by omega
   subst e3
   rw [<- hQl,List.take_length] at J4
   unfold spR
   rw [Tb hO ha hb J4]
end Go.Gv

namespace Go.Gv
noncomputable def spV (m : Msh) (a b : Nat) : Int:=(dw m a b).getD 0
noncomputable def spE (m : Msh) (a b : Nat) : Int:=if (dw m a b).isSome then 0 else 12
theorem D4 (m : Msh) (a b : Nat) : spR m a b=.tup [.int .i64 (spV m a b),.int .i64 (spE m a b)]:=by
 unfold spR spV spE
 cases dw m a b <;> rfl
variable {C : CC} (hC : aD prog C)
include hC
end Go.Gv

namespace Go.Gv
def uP (m : Msh) (v : Int) : Nat:=List.countP (fun j=>decide (suF m j < v)) (List.range m.f.length)
theorem tu (m : Msh) (v : Int) : uP m v <= m.f.length:=by
 have:=List.countP_le_length (p:=fun j=>decide (suF m j < v)) (l:=List.range m.f.length)
 simpa [uP] using this
theorem z8 {m : Msh} {v w : Int} {j : Nat} (hj : j < m.f.length) (h : suF m j=v) (hvw : v < w) : uP m v < uP m w:=by
 unfold uP
 have h1 : List.countP (fun x=>decide (suF m x < w)) (List.range m.f.length)=List.countP (fun x=>decide (suF m x < v)) (List.range m.f.length) + List.countP (fun x=>decide (v <= suF m x) && decide (suF m x < w)) (List.range m.f.length):=by
  induction List.range m.f.length with
  | nil=>rfl
  | cons x l ihl =>
   simp only [List.countP_cons,ihl]
   by_cases c1 : suF m x < v
   ·have c2 : suF m x < w:=by omega
    have c3 : ¬ v <= suF m x:=by omega
    simp [c1,c2,c3];omega
   ·by_cases c2 : suF m x < w
    ·have c3 : v <= suF m x:=by omega
     simp [c1,c2,c3];omega
    ·have c3 : v <= suF m x:=by omega
     simp [c1,c2,c3]
 have h2 : 0 < List.countP (fun x=>decide (v <= suF m x) && decide (suF m x < w)) (List.range m.f.length):=List.countP_pos_iff.2 ⟨j,x0D.2 hj,by simp [h,hvw]⟩
 omega
def DB (m : Msh) (rc : List Bool) (lv : List Int) (i : Nat) : Nat:=if rc.getD i false=true then uP m (lv.getD i 0) else m.f.length + 1
def rB (f : Nat -> Nat) : Nat -> Nat
 | 0=>0
 | k + 1=>rB f k + f k
theorem tG {f g : Nat -> Nat} {i : Nat} (h : ∀ j,j ≠ i -> g j=f j) (hi : g i < f i) : ∀ n,(i < n -> rB g n < rB f n) /\ (n <= i -> rB g n=rB f n)
 | 0=>⟨fun h=>by omega,fun _=>rfl⟩
 | n + 1=>by
  obtain ⟨h1,h2⟩:=tG h hi n
  refine ⟨fun h3=>?_,fun h3=>?_⟩
  ·simp only [rB]
   by_cases e : n=i
   ·subst e
    have:=h2 (x0j _)
    omega
   ·have:=h1 (by omega)
    have:=h n e
    omega
  ·simp only [rB]
   rw [h2 (by omega),h n (by omega)]
def msr (m : Msh) (rc : List Bool) (lv : List Int) : Nat:=rB (DB m rc lv) m.f.length
structure SpI (m : Msh) (a : Nat) (rc : List Bool) (lv : List Int) : Prop where
 rl : rc.length=m.f.length
 ll : lv.length=m.f.length
 un : ∀ i,i < m.f.length -> rc.getD i false=false -> lv.getD i 0=0
 way : ∀ i,i < m.f.length -> rc.getD i false=true -> Way m (lv.getD i 0) a i
 sm : ∀ i,i < m.f.length -> rc.getD i false=true -> ∃ j,j < m.f.length /\ suF m j=lv.getD i 0
 a0 : rc.getD a false=true /\ lv.getD a 0 <= suF m a
theorem SpI.init {m : Msh} {a : Nat} (ha : a < m.f.length) : SpI m a ((List.replicate m.f.length false).set a true) ((List.replicate m.f.length 0).set a (suF m a)):=by
 have g1 : ∀ i,((List.replicate m.f.length false).set a true).getD i false=if i=a then true else false:=fun i=>by
  rw [a8 (by simpa using ha)]
  split
  ·rfl
  ·simp [x0N];split <;> rfl
 have g2 : ∀ i,((List.replicate m.f.length (0 : Int)).set a (suF m a)).getD i 0=if i=a then suF m a else 0:=fun i=>by
  rw [a8 (by simpa using ha)]
  split
  ·rfl
  ·simp [x0N];split <;> rfl
 refine ⟨by simp,by simp,fun i _ h=>?_,fun i _ h=>?_,fun i _ h=>?_,by rw [g1,if_pos rfl],by rw [g2,if_pos rfl];exact Int.le_refl _⟩
 ·rw [g1] at h
  split at h
  ·cases h
  ·rename_i e;rw [g2,if_neg e]
 ·rw [g1] at h
  split at h
  ·rename_i e;subst e;rw [g2,if_pos rfl];exact ⟨Int.le_refl _,Int.le_refl _,.refl _⟩
  ·cases h
 ·rw [g1] at h
  split at h
  ·rename_i e;subst e;rw [g2,if_pos rfl];exact ⟨i,ha,rfl⟩
  ·cases h
theorem SpI.fall {m : Msh} (hv : au m=true) {a i f c : Nat} {rc : List Bool} {lv : List Int} (h : SpI m a rc lv) (ha : a < m.f.length) (hi : i < m.f.length) (hc : c < 3) (hf : nbF m i c=f) (hr : rc.getD f false=true)
  (hlt : rc.getD i false=false \/ max (suF m i) (lv.getD f 0) < lv.getD i 0) : SpI m a (rc.set i true) (lv.set i (max (suF m i) (lv.getD f 0))) /\ msr m (rc.set i true) (lv.set i (max (suF m i) (lv.getD f 0))) < msr m rc lv:=by
 have hb:=cS m i c
 have hfn : f < m.f.length:=by omega
 have wf:=h.way f hfn hr
 obtain ⟨jf,hjf,ejf⟩:=h.sm f hfn hr
 obtain ⟨v,hvv⟩ : ∃ v,v=max (suF m i) (lv.getD f 0):=⟨_,rfl⟩
 rw [<- hvv] at hlt ⊢
 have g1 : ∀ k,(rc.set i true).getD k false=if k=i then true else rc.getD k false:=fun k=>a8 (by rw [h.rl];exact hi)
 have g2 : ∀ k,(lv.set i v).getD k 0=if k=i then v else lv.getD k 0:=fun k=>a8 (by rw [h.ll];exact hi)
 obtain ⟨c',hc',e'⟩:=iX hv hi hc (by omega)
 rw [hf] at e'
 have e'' : nbF m f c'=i:=by simpa using e'
 have wi : Way m v a i:=by
  have w:=wf.mono (k:=v) (by omega)
  exact ⟨w.1,by omega,.step w.2.2 ⟨hfn,hi,w.2.1,by omega,c',hc',e''⟩⟩
 have hsv : ∃ j,j < m.f.length /\ suF m j=v:=by
  by_cases hm : suF m i < lv.getD f 0
  ·exact ⟨jf,hjf,by omega⟩
  ·exact ⟨i,hi,by omega⟩
 refine ⟨⟨by simp [h.rl],by simp [h.ll],fun k hk hr9=>?_,fun k hk hr9=>?_,fun k hk hr9=>?_,?_,?_⟩,?_⟩
 ·rw [g1] at hr9
  split at hr9
  ·cases hr9
  ·rename_i e;rw [g2,if_neg e];exact h.un k hk hr9
 ·rw [g1] at hr9
  rw [g2]
  by_cases e : k=i
  ·rw [if_pos e,e];exact wi
  ·rw [if_neg e] at hr9 ⊢;exact h.way k hk hr9
 ·rw [g1] at hr9
  rw [g2]
  by_cases e : k=i
  ·rw [if_pos e];exact hsv
  ·rw [if_neg e] at hr9 ⊢;exact h.sm k hk hr9
 ·rw [g1];split;rfl;exact h.a0.1
 ·rw [g2]
  split
  ·rename_i e
   subst e
   rcases hlt with h1 | h1
   ·rw [h.a0.1] at h1;cases h1
   ·have:=h.a0.2;omega
  ·exact h.a0.2
 ·unfold msr
  refine (tG (i:=i) (fun j hj=>?_) ?_ m.f.length).1 hi
  ·unfold DB
   rw [g1,g2,if_neg hj,if_neg hj]
  ·unfold DB
   rw [g1,g2,if_pos rfl,if_pos rfl,if_pos rfl]
   rcases hlt with h1 | h1
   ·rw [h1,if_neg (by decide)]
    have:=tu m v
    omega
   ·cases hri : rc.getD i false
    ·rw [if_neg (by decide)]
     have:=tu m v
     omega
    ·rw [if_pos rfl]
     obtain ⟨j,hj,ej⟩:=hsv
     exact z8 hj ej h1
def jH (m : Msh) (rc : List Bool) (lv : List Int) (i c : Nat) : Prop:=∀ f : Nat,nbF m i c=f -> rc.getD f false=true -> rc.getD i false=true /\ lv.getD i 0 <= max (suF m i) (lv.getD f 0)
theorem SpI.least {m : Msh} (hv : au m=true) {a : Nat} {rc : List Bool} {lv : List Int} (h : SpI m a rc lv) (hs : ∀ i c,i < m.f.length -> c < 3 -> jH m rc lv i c) {k : Int} {b : Nat} (h0 : suF m a <= k) (w : Cn (hR m k) a b) : rc.getD b false=true /\ lv.getD b 0 <= k:=by
 induction w with
 | refl=>exact ⟨h.a0.1,by have:=h.a0.2;omega⟩
 | step _ r ih =>
  obtain ⟨r1,r2,r3,r4,c,hc,e⟩:=r
  obtain ⟨c',hc',e'⟩:=iX hv r1 hc (by omega)
  rw [e] at e'
  obtain ⟨q1,q2⟩:=hs _ c' r2 hc' _ (by simpa using e') ih.1
  exact ⟨q1,by omega⟩
theorem SpI.end {m : Msh} (hv : au m=true) {a b : Nat} (hb : b < m.f.length) {rc : List Bool} {lv : List Int} (h : SpI m a rc lv) (hs : ∀ i c,i < m.f.length -> c < 3 -> jH m rc lv i c) :
  lv.getD b 0=spV m a b /\ rc.getD b false=(dw m a b).isSome:=by
 cases hr : rc.getD b false
 ·have hn : dw m a b=none:=mh fun v w=>by
   have:=(h.least hv hs w.1 w.2.2).1
   rw [hr] at this;cases this
  unfold spV
  rw [hn]
  exact ⟨h.un b hb hr,rfl⟩
 ·have hl : Lst m a b (lv.getD b 0):=⟨h.way b hb hr,fun k w=>(h.least hv hs w.1 w.2.2).2⟩
  unfold spV
  rw [mi hl]
  exact ⟨rfl,rfl⟩
end Go.Gv

namespace Go.Gv
section
variable {C : CC} (hC : aD prog C)
include hC
set_option maxHeartbeats 4000000 in
set_option maxRecDepth 8000 in
theorem xk (m : Msh) (hv : au m=true) (hm : m.f.length <= 100) (a b : Nat) (ha : a < m.f.length) (hb : b < m.f.length) : C 873 [.agg (a6 m),.int .i64 a,.int .i64 b] (.tup [.int .i64 (spV m a b),.bool (dw m a b).isSome]) []:=by
 have k1:=gz hC m hm
 have k2:=mB hC m hv hm
 simp only [ab] at k1 k2
 obtain ⟨E1,hE1⟩ : ∃ e,e=spV m a b:=⟨_,rfl⟩
 obtain ⟨E2,hE2⟩ : ∃ e,e=(dw m a b).isSome:=⟨_,rfl⟩
 rw [<- hE1,<- hE2]
 refine aq hC (nf:=N873) rfl rfl ?_
 simp [N873,ab]
 refine aa k1 (.inr rfl) ?_
 simp
 refine aa k2 (.inr rfl) ?_
 simp
 refine ⟨ai (by decide +kernel),by omega,by omega,?_⟩
 obtain ⟨z1,hz1⟩ : ∃ z,z=List.replicate m.f.length false:=⟨_,rfl⟩
 obtain ⟨z2,hz2⟩ : ∃ z,z=List.replicate m.f.length (0 : Int):=⟨_,rfl⟩
 have hy1 : List.replicate m.f.length [D.bool false]=rcR z1:=by rw [hz1];simp [rcR]
 have hy2 : List.replicate m.f.length [D.int .i64 0]=inR z2:=by rw [hz2];simp [inR]
 have hr1 : a < z1.length:=by rw [hz1];simpa using ha
 have hr2 : a < z2.length:=by rw [hz2];simpa using ha
 rw [hy1,hy2]
 have sp0i:=SpI.init (m:=m) ha
 rw [<- hz1,<- hz2] at sp0i
 simp [ha,ap (eA ha),bF hr1,bx hr2,d6,ib]
 obtain ⟨r0,hr0⟩ : ∃ r,r=z1.set a true:=⟨_,rfl⟩
 obtain ⟨l0,hl0⟩ : ∃ r,r=z2.set a (suF m a):=⟨_,rfl⟩
 rw [<- hr0,<- hl0] at sp0i ⊢
 refine av (Nat × List Bool × List Int) (fun s=>[(2,.int .i64 b),(8,.sl (nbA m)),(9,.sl (inR (aS m))),(10,.int .i64 m.f.length),(11,.ref (.r 10176) 0 m.f.length),(12,.ref (.r 10192) 0 m.f.length),(13,.bool (decide (s.1=1))),(10176,.blk 1 (rcR s.2.1)),(10192,.blk 1 (inR s.2.2))])
  (fun s=>s.1 <= 1 /\ SpI m a s.2.1 s.2.2 /\ (s.1=0 -> ∀ i c,i < m.f.length -> c < 3 -> jH m s.2.1 s.2.2 i c)) (fun s=>2 * msr m s.2.1 s.2.2 + s.1) (1,r0,l0) ⟨by simp,sp0i,by simp⟩ (by simp) ?_
 rintro ⟨ch,rc,lv⟩ ⟨h1,h2,h3⟩
 simp only at h1 h2 h3
 simp
 by_cases hch : ch=1
 ·subst hch
  simp
  refine av ((Nat × List Bool × List Int) × Nat) (fun s=>[(2,.int .i64 b),(8,.sl (nbA m)),(9,.sl (inR (aS m))),(10,.int .i64 m.f.length),(11,.ref (.r 10176) 0 m.f.length),(12,.ref (.r 10192) 0 m.f.length),(13,.bool (decide (s.1.1=1))),(14,.int .i64 s.2),(10176,.blk 1 (rcR s.1.2.1)),(10192,.blk 1 (inR s.1.2.2))])
   (fun s=>(s.1.1 <= 1 /\ SpI m a s.1.2.1 s.1.2.2 /\ (s.1.1=0 -> (s.1.2.1=rc /\ s.1.2.2=lv) /\ ∀ i c,i < s.2 -> c < 3 -> jH m rc lv i c) /\ (s.1.1=1 -> msr m s.1.2.1 s.1.2.2 < msr m rc lv)) /\ s.2 <= m.f.length)
   (fun s=>m.f.length - s.2) ((0,rc,lv),0) ⟨⟨by simp,h2,fun _=>⟨⟨rfl,rfl⟩,fun i c h=>by simp at h⟩,by simp⟩,by simp⟩ (by simp) ?_
  rintro ⟨⟨ch1,rc1,lv1⟩,i⟩ ⟨⟨i1,i2,i3,i4⟩,i5⟩
  simp only at i1 i2 i3 i4 i5
  have hwi : IntKind.wrap .i64 ((i : Int) + 1)=((i + 1 : Nat) : Int):=af (by omega) (by omega)
  simp
  refine aj (fun g1=>?_) (fun g1=>?_) <;> simp at g1 <;> simp [g1]
  ·refine av ((Nat × List Bool × List Int) × Nat) (fun s=>[(2,.int .i64 b),(8,.sl (nbA m)),(9,.sl (inR (aS m))),(10,.int .i64 m.f.length),(11,.ref (.r 10176) 0 m.f.length),(12,.ref (.r 10192) 0 m.f.length),(13,.bool (decide (s.1.1=1))),(14,.int .i64 i),(15,.int .i64 s.2),(10176,.blk 1 (rcR s.1.2.1)),(10192,.blk 1 (inR s.1.2.2))])
    (fun s=>(s.1.1 <= 1 /\ SpI m a s.1.2.1 s.1.2.2 /\ (s.1.1=0 -> (s.1.2.1=rc /\ s.1.2.2=lv) /\ (∀ i9 c,i9 < i -> c < 3 -> jH m rc lv i9 c) /\ ∀ c,c < s.2 -> jH m rc lv i c) /\ (s.1.1=1 -> msr m s.1.2.1 s.1.2.2 < msr m rc lv)) /\ s.2 <= 3)
    (fun s=>3 - s.2) ((ch1,rc1,lv1),0) ⟨⟨i1,i2,fun h=>⟨(i3 h).1,(i3 h).2,fun c h9=>by simp at h9⟩,i4⟩,by simp⟩ (by simp) ?_
   rintro ⟨⟨ch2,rc2,lv2⟩,c⟩ ⟨⟨j1,j2,j3,j4⟩,j5⟩
   simp only at j1 j2 j3 j4 j5
   have hwc : IntKind.wrap .i64 ((c : Int) + 1)=((c + 1 : Nat) : Int):=af (by omega) (by omega)
   simp
   refine aj (fun g2=>?_) (fun g2=>?_) <;> simp at g2
   ·have hxj : ([.int .i64 (nbF m i 0),.int .i64 (nbF m i 1),.int .i64 (nbF m i 2)] : List D)[c]?.getD .any=.int .i64 (nbF m i c):=by
     rcases (by omega : c=0 \/ c=1 \/ c=2) with rfl | rfl | rfl <;> rfl
    have hbd:=cS m i c
    obtain ⟨kx,hkx⟩ : ∃ kx,kx=nbF m i c:=⟨_,rfl⟩
    rw [<- hkx] at hxj hbd
    have skip : jH m rc2 lv2 i c -> (ch2 <= 1 /\ SpI m a rc2 lv2 /\ (ch2=0 -> (rc2=rc /\ lv2=lv) /\ (∀ i9 c,i9 < i -> c < 3 -> jH m rc lv i9 c) /\ ∀ c9,c9 < c + 1 -> jH m rc lv i c9) /\ (ch2=1 -> msr m rc2 lv2 < msr m rc lv)) /\ c + 1 <= 3:=fun hst=>⟨⟨j1,j2,fun h0=>by
     obtain ⟨⟨q1,q2⟩,q3,q4⟩:=j3 h0
     refine ⟨⟨q1,q2⟩,q3,fun c9 h9=>?_⟩
     by_cases e : c9=c
     ·subst e;rw [<- q1,<- q2];exact hst
     ·exact q4 c9 (by omega),j4⟩,by omega⟩
    simp [show (c : Int) < 3 by omega,g1,ap (gj g1),hxj]
    by_cases k0 : kx < 0
    ·simp [k0]
     exact ⟨by omega,ch2,rc2,lv2,c + 1,skip fun f hf _=>by omega,by omega,Iff.rfl,hwc,rfl,rfl⟩
    ·obtain ⟨x,hx⟩ : ∃ x : Nat,kx=x:=⟨kx.toNat,by omega⟩
     subst hx
     have hxn : x < m.f.length:=by omega
     have hxr : x < rc2.length:=by rw [j2.rl];exact hxn
     have hxl : x < lv2.length:=by rw [j2.ll];exact hxn
     have hir : i < rc2.length:=by rw [j2.rl];exact g1
     have hil : i < lv2.length:=by rw [j2.ll];exact g1
     have hrow:=bF hxr
     cases hrx : rc2.getD x false
     ·rw [hrx] at hrow
      simp [k0,hxn,ar hrow]
      refine ⟨by omega,ch2,rc2,lv2,c + 1,skip fun f hf hr9=>?_,by omega,Iff.rfl,hwc,rfl,rfl⟩
      have : f=x:=by omega
      subst this
      rw [hrx] at hr9
      cases hr9
     ·rw [hrx] at hrow
      have kg:=nG hC (suF m i) (lv2.getD x 0)
      obtain ⟨v,hvv⟩ : ∃ v,v=max (suF m i) (lv2.getD x 0):=⟨_,rfl⟩
      rw [show (if lv2.getD x 0 < suF m i then suF m i else lv2.getD x 0)=v by rw [hvv];split <;> omega] at kg
      have fall:=fun hlt=>SpI.fall hv j2 ha g1 (by omega) hkx.symm hrx hlt
      rw [<- hvv] at fall
      have hlrow:=bx hxl
      obtain ⟨wv,hwv⟩ : ∃ w,w=lv2.getD x 0:=⟨_,rfl⟩
      rw [<- hwv] at hlrow kg
      simp [k0,hxn,ar hrow,ap (eA g1),ar hlrow]
      refine ⟨by omega,aa kg (.inl rfl) ?_⟩
      have hmle : msr m rc2 lv2 <= msr m rc lv:=by
       by_cases e : ch2=0
       ·obtain ⟨⟨q1,q2⟩,_⟩:=j3 e
        rw [q1,q2]
        exact x0j _
       ·exact Nat.le_of_lt (j4 (by omega))
      have hrowi:=bF hir
      have hlrowi:=bx hil
      cases hri : rc2.getD i false
      ·rw [hri] at hrowi
       obtain ⟨f1,f2⟩:=fall (.inl hri)
       simp [g1,ar hrowi]
       refine ⟨ai (by decide +kernel),?_⟩
       simp [g1,hrowi,hlrowi,d6,ib]
       exact ⟨1,rc2.set i true,lv2.set i v,c + 1,⟨⟨by omega,f1,fun h=>by omega,fun _=>by omega⟩,by omega⟩,by omega,rfl,hwc,rfl,rfl⟩
      ·rw [hri] at hrowi
       by_cases hlt : v < lv2.getD i 0
       ·obtain ⟨f1,f2⟩:=fall (.inr hlt)
        obtain ⟨wi,hwi9⟩ : ∃ w,w=lv2.getD i 0:=⟨_,rfl⟩
        rw [<- hwi9] at hlrowi hlt
        simp [g1,ar hrowi,ar hlrowi,hlt]
        refine ⟨ai (by decide +kernel),?_⟩
        simp [g1,hrowi,hlrowi,d6,ib]
        exact ⟨1,rc2.set i true,lv2.set i v,c + 1,⟨⟨by omega,f1,fun h=>by omega,fun _=>by omega⟩,by omega⟩,by omega,rfl,hwc,rfl,rfl⟩
       ·have hst : jH m rc2 lv2 i c:=fun f hf hr9=>by
         have : f=x:=by omega
         subst this
         exact ⟨hri,by omega⟩
        obtain ⟨wi,hwi9⟩ : ∃ w,w=lv2.getD i 0:=⟨_,rfl⟩
        rw [<- hwi9] at hlrowi hlt
        simp [g1,ar hrowi,ar hlrowi,hlt]
        exact ⟨ai (by decide +kernel),ch2,rc2,lv2,c + 1,skip hst,by omega,Iff.rfl,hwc,rfl,rfl⟩
   ·have e3 : c=3:=by omega
    subst e3
    simp
    refine ⟨ch2,rc2,lv2,i + 1,⟨⟨j1,j2,fun h0=>?_,j4⟩,by omega⟩,by omega,Iff.rfl,hwi,rfl,rfl⟩
    obtain ⟨q,q3,q4⟩:=j3 h0
    refine ⟨q,fun i9 c9 h9 hc9=>?_⟩
    by_cases e : i9=i
    ·subst e;exact q4 c9 hc9
    ·exact q3 i9 c9 (by omega) hc9
  ·have e5 : i=m.f.length:=by omega
   subst e5
   refine ⟨ch1,rc1,lv1,⟨i1,i2,fun h0=>?_⟩,?_,Iff.rfl,rfl,rfl⟩
   ·obtain ⟨⟨q1,q2⟩,q3⟩:=i3 h0
    rw [q1,q2]
    exact q3
   ·by_cases e : ch1=0
    ·obtain ⟨⟨q1,q2⟩,_⟩:=i3 e
     rw [q1,q2];omega
    ·have:=i4 (by omega)
     omega
 ·have hc0 : ch=0:=by omega
  subst hc0
  obtain ⟨e1,e2⟩:=h2.end hv hb (h3 rfl)
  have hbr : b < rc.length:=by rw [h2.rl];exact hb
  have hbl : b < lv.length:=by rw [h2.ll];exact hb
  rw [<- hE1] at e1
  rw [<- hE2] at e2
  have hlb : (inR lv)[b]? = some [.int .i64 E1]:=by rw [bx hbl,e1]
  have hrb : (rcR rc)[b]? = some [.bool E2]:=by rw [bF hbr,e2]
  simp
  simp [hb,ar hlb,ar hrb]
  exact ai (by decide +kernel)
end
end Go.Gv

namespace Go.Gv
theorem tm (l : List Nat) : nfR l=(l.map fun i : Nat=>(i : Int)).map fun n=>[.int .i64 n]:=by simp [nfR]
theorem wM {l k : List Nat} : (l.map fun i : Nat=>(i : Int))=(k.map fun i : Nat=>(i : Int)) ↔ l=k:=by
 constructor
 ·intro h
  have:=congrArg (List.map Int.toNat) h
  rw [List.map_map,List.map_map,show (Int.toNat ∘ fun i : Nat=>(i : Int))=id from funext fun i=>x0L i,List.map_id,List.map_id] at this
  exact this
 ·rintro rfl;rfl
theorem qU {l : List (List Nat)} {i : Nat} (h : i < l.length) : (fg l)[i]? = some [.sl (nfR l[i])]:=by simp [fg,h]
@[simp] theorem Mv (l : List (List Nat)) : (fg l).length=l.length:=by simp [fg]
variable {C : CC} (hC : aD prog C)
include hC
theorem Jb (xs ys : List Nat) (hx : xs.length < 2 ^ 62) (hy : ys.length < 2 ^ 62) : C 19 [.sl (nfR xs),.sl (nfR ys)] (.bool (decide (xs=ys))) []:=by
 have k:=s6 hC false false (xs.map fun i : Nat=>(i : Int)) (ys.map fun i : Nat=>(i : Int)) (by simpa using hx) (by simpa using hy)
 rw [decide_eq_decide.2 wM,<- tm,<- tm] at k
 simpa using k
theorem Jc (xs ys : List (List Nat)) (hx : xs.length < 2 ^ 62) (hy : ys.length < 2 ^ 62) (hxx : ∀ x ∈ xs,x.length < 2 ^ 62) (hyy : ∀ x ∈ ys,x.length < 2 ^ 62) :
  C 20 [.sl (fg xs),.sl (fg ys),.fn 19 []] (.bool (decide (xs=ys))) []:=by
 obtain ⟨r,hr⟩ : ∃ r,r=decide (xs=ys):=⟨_,rfl⟩
 rw [<- hr]
 refine aq hC (nf:=N20) rfl rfl ?_
 simp [N20]
 refine aj (fun h=>?_) (fun h=>?_) <;> simp at h <;> simp [h]
 ·rw [hr,decide_eq_false]
  intro e
  have:=congrArg List.length e
  omega
 have h' : xs.length=ys.length:=by omega
 refine av Nat (fun i=>[(1,.sl (fg ys)),(2,.fn 19 []),(15,.sl (fg xs)),(16,.int .i64 xs.length),(17,.int .i64 i)])
  (fun i=>i <= xs.length /\ ∀ (k : Nat) (h1 : k < xs.length) (h2 : k < ys.length),k < i -> xs[k]=ys[k]) (fun i=>xs.length - i) 0 (by simp) (by simp [h]) ?_
 rintro i ⟨hi,hok⟩
 simp
 refine aj (fun h1=>?_) (fun h1=>?_) <;> simp at h1 <;> simp [h1]
 ·have hw : IntKind.wrap .i64 ((i : Int) + 1)=((i + 1 : Nat) : Int):=af (by omega) (by omega)
  have hy1 : i < ys.length:=by omega
  have he:=Jb hC xs[i] ys[i] (hxx _ (x0u _)) (hyy _ (x0u _))
  simp [ap (qU h1),ap (qU hy1)]
  refine aa he (.inl rfl) ?_
  by_cases h2 : xs[i]=ys[i]
  ·simp [h2,hw]
   refine ⟨i + 1,⟨by omega,fun k k1 k2 hk=>?_⟩,by omega,rfl⟩
   rcases x0J.1 hk with h5 | rfl
   ·exact hok k k1 k2 h5
   ·exact h2
  ·simp [h2]
   rw [hr,decide_eq_false]
   intro e
   subst e
   exact h2 rfl
 ·rw [hr,decide_eq_true]
  refine x0G h' fun k k1 k2=>?_
  exact hok k k1 k2 (by omega)
end Go.Gv

namespace Go.Gv
theorem sS (m : Msh) (l : List Nat) : ∃ a b c : Int,qb m l=.tup [.agg [.int .i64 a,.int .i64 b],.int .i64 c]:=by
 unfold qb
 split
 ·exact ⟨_,_,_,rfl⟩
 ·exact ⟨_,_,_,rfl⟩
section
variable {C : CC} (hC : aD prog C)
include hC
set_option maxHeartbeats 4000000 in
set_option maxRecDepth 8000 in
theorem qe (hS : B8 C) (dec : Nat -> List UInt8) (hI : ∀ n : Nat,n < 100 -> C 127 [.int .i64 n] (.str (dec n)) []) (m : Msh) (p x y : Int) : C 853 [.agg (a6 m),.int .i64 p,.int .i64 x,.int .i64 y] (.bool true) []:=by
 have ka:=tU hC dec hI
 have kl:=um hC m
 simp only [ab] at kl
 refine aq hC (nf:=N853) rfl rfl ?_
 simp [N853,ab]
 refine aa ka (.inl rfl) ?_
 simp
 refine aa kl (.inl rfl) ?_
 simp
 refine aj (fun g1=>?_) (fun g1=>?_)
 ·simp
 ·simp at g1
  have hz : cG m=true -> m.s.length <= 100 /\ m.f.length <= 100:=fun _=>by omega
  have k1:=ve hC dec hI m hz
  have k2:=vt hC dec hI m hz p
  have k3:=yq hC dec hI m hz x
  have k4:=yu hC hS dec hI m hz x y
  have k5:=xm hC m hz
  simp only [ab] at k1 k2 k3 k4 k5
  simp
  refine aa k1 (.inr rfl) ?_
  cases hv : au m
  ·simp [hv,zSp] at k1 k2 k3 k4 k5 ⊢
   refine aa k2 (.inl rfl) ?_
   simp
   refine aa k3 (.inl rfl) ?_
   simp
   refine aa k4 (.inl rfl) ?_
   simp
   refine aa k5 (.inl rfl) ?_
   simp
  ·simp only [hv,if_true] at k2 k3 k4 k5
   have hpl : (bU m).length <= m.f.length:=by unfold bU;rw [fW];exact sQ m _
   have r1:=uM hC m hv (by omega) p
   have r2:=tq hC m hv (by omega)
   have r3:=oQ hC m x
   have r4:=pK hC m hv (by omega)
   have r6:=oQ hC m y
   have q2:=Jc hC (bU m) (bU m) (by omega) (by omega) (fun l hl=>by have:=(mA hl).2;omega) (fun l hl=>by have:=(mA hl).2;omega)
   simp only [ab] at r1 r2 r3 r4 r6
   simp at q2
   have hV : ∃ a b c : Int,(if 0 <= p /\ p < (bU m).length then qb m ((bU m)[p.toNat]?.getD []) else .tup [zSp,.int .i64 2])=.tup [.agg [.int .i64 a,.int .i64 b],.int .i64 c]:=by
    split
    ·exact sS m _
    ·exact ⟨0,0,2,rfl⟩
   obtain ⟨v1,v2,v3,hV⟩:=hV
   rw [hV] at k2 r1
   have ex : eX m.f.length x=true ↔ 0 <= x /\ x < m.f.length:=by unfold eX;simp
   have ey : eX m.f.length y=true ↔ 0 <= y /\ y < m.f.length:=by unfold eX;simp
   simp
   refine aa k2 (.inl rfl) ?_
   simp
   by_cases hx : 0 <= x /\ x < m.f.length
   ·rw [if_pos hx] at k3
    obtain ⟨a,rfl⟩ : ∃ a : Nat,x=a:=⟨x.toNat,by omega⟩
    have ha : a < m.f.length:=by omega
    have r5:=xf hC m hv a ha
    rw [ex.2 hx] at r3
    simp only [x0L] at k3
    simp only [ab] at r5
    have s1:=nR hv ha
    have s2:=fE hv ha
    have ws : IntKind.wrap .i64 (spF m a - dx m a)=spF m a - suF m a:=af (by rw [d7 ha]) (by rw [d7 ha];omega)
    refine aa k3 (.inl rfl) ?_
    by_cases hy : 0 <= y /\ y < m.f.length
    ·rw [if_pos ⟨hx,hy⟩] at k4
     obtain ⟨b,rfl⟩ : ∃ b : Nat,y=b:=⟨y.toNat,by omega⟩
     have hb : b < m.f.length:=by omega
     have r7:=xk hC m hv (by omega) a b ha hb
     rw [ey.2 hy] at r6
     simp only [ab] at r7
     simp only [x0L,D4] at k4
     have hE : (spE m a b=0 /\ (dw m a b).isSome=true) \/ (spE m a b=12 /\ (dw m a b).isSome=false /\ spV m a b=0):=by
      unfold spE spV
      cases dw m a b
      ·exact .inr ⟨rfl,rfl,rfl⟩
      ·exact .inl ⟨rfl,rfl⟩
     simp
     refine aa k4 (.inl rfl) ?_
     simp
     refine aa k5 (.inl rfl) ?_
     simp
     refine aa r1 (.inl rfl) ?_
     simp
     refine aa r2 (.inr rfl) ?_
     simp
     refine aa q2 (.inl rfl) ?_
     simp
     refine aa r3 (.inl rfl) ?_
     simp
     refine aa r4 (.inr rfl) ?_
     simp [ap (fa ha)]
     refine aa r5 (.inl rfl) ?_
     simp [ws]
     refine ⟨ai (by decide +kernel),?_⟩
     refine aa r6 (.inl rfl) ?_
     simp
     refine aa r7 (.inl rfl) ?_
     rcases hE with ⟨e1,e2⟩ | ⟨e1,e2,e3⟩
     ·simp [e1,e2]
     ·simp [e1,e2,e3]
    ·rw [if_neg fun h=>hy h.2] at k4
     have hyf : eX m.f.length y=false:=by
      cases h : eX m.f.length y
      ·rfl
      ·exact absurd (ey.1 h) hy
     rw [hyf] at r6
     simp
     refine aa k4 (.inl rfl) ?_
     simp
     refine aa k5 (.inl rfl) ?_
     simp
     refine aa r1 (.inl rfl) ?_
     simp
     refine aa r2 (.inr rfl) ?_
     simp
     refine aa q2 (.inl rfl) ?_
     simp
     refine aa r3 (.inl rfl) ?_
     simp
     refine aa r4 (.inr rfl) ?_
     simp [ap (fa ha)]
     refine aa r5 (.inl rfl) ?_
     simp [ws]
     refine ⟨ai (by decide +kernel),?_⟩
     refine aa r6 (.inl rfl) ?_
     simp
   ·rw [if_neg hx] at k3
    rw [if_neg fun h=>hx h.1] at k4
    have hxf : eX m.f.length x=false:=by
     cases h : eX m.f.length x
     ·rfl
     ·exact absurd (ex.1 h) hx
    rw [hxf] at r3
    refine aa k3 (.inl rfl) ?_
    simp
    refine aa k4 (.inl rfl) ?_
    simp
    refine aa k5 (.inl rfl) ?_
    simp
    refine aa r1 (.inl rfl) ?_
    simp
    refine aa r2 (.inr rfl) ?_
    simp
    refine aa q2 (.inl rfl) ?_
    simp
    refine aa r3 (.inl rfl) ?_
    simp
end
end Go.Gv
