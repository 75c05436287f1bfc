/-
  Texts of the proof: WL1, WL3, WL4.
-/
import Derived.Test.YtibmdjdddnkomaaGreatDoorX8
set_option linter.all false
namespace Go.Gv
def exW : Msh:=⟨false,[⟨0,0,5⟩,⟨30,0,9⟩,⟨30,30,5⟩,⟨0,30,0⟩],false,[⟨0,1,2,0⟩,⟨0,2,3,0⟩]⟩
theorem Il : ao exW=true:=by decide +kernel
theorem Ik : cS exW 0=1 /\ cS exW 1=-1:=by decide +kernel
theorem ve : twF exW 0=900 /\ twF exW 1=900:=by decide +kernel
theorem gR : inl [1] 0=-1 /\ inl [1] 1=0 /\ inl [1,0] 0=1 /\ inl [1,0] 1=0:=by decide +kernel
theorem oL {m : Msh} {w : List Int} {f : Nat} {l : List Nat} (h : TrR m w f none l) : laF m w f=(f::l).getLast (by simp):=by
 unfold laF
 simp only [wT h]
theorem oB : enF exW [1] 0=0 /\ enF exW [1] 1=0:=by
 have h1 : TrR exW [1] 1 none []:=.inlet (by rw [gR.2.1];decide)
 have h0 : TrR exW [1] 0 none [1]:=.run gR.1 Ik.1 h1
 unfold enF
 rw [oL h0,oL h1]
 exact ⟨gR.2.1,gR.2.1⟩
theorem vc : enF exW [1,0] 0=1 /\ enF exW [1,0] 1=0:=by
 have h1 : TrR exW [1,0] 1 none []:=.inlet (by rw [gR.2.2.2];decide)
 have h0 : TrR exW [1,0] 0 none []:=.inlet (by rw [gR.2.2.1];decide)
 unfold enF
 rw [oL h0,oL h1]
 exact ⟨gR.2.2.1,gR.2.2.2⟩
theorem Av : gvE exW [1] []=0 /\ gvE exW [1,0] []=0:=by
 unfold gvE
 rw [Il]
 decide +kernel
theorem Au : enL exW [1]=[0,0] /\ enL exW [1,0]=[1,0]:=by
 constructor
 ·show [enF exW [1] 0,enF exW [1] 1]=_
  rw [oB.1,oB.2]
 ·show [enF exW [1,0] 0,enF exW [1,0] 1]=_
  rw [vc.1,vc.2]
theorem Ij : arL exW [1]=[1800]:=by
 show [arF exW [1] 2 0]=_
 rw [jp,jp,oB.1,oB.2,ve.1,ve.2]
 rfl
theorem tS {m : Msh} {l : List Int} (h : ry m l=false) : l.length <= 600 /\ (bM m=true -> m.s.length <= 100 /\ m.f.length <= 100):=by
 simp [ry,bM] at *
 omega
variable {C : CC} (hC : ay prog C)
include hC
set_option maxHeartbeats 2000000 in
theorem tr (hW : SlW C) (dec : Nat -> List UInt8) (hI : ∀ n : Nat,n < 100 -> C 127 [.int .i64 n] (.str (dec n)) []) : C 854 [] (.bool true) []:=by
 have hz : bM exW=true -> exW.s.length <= 100 /\ exW.f.length <= 100:=fun _=>by simp [exW]
 have k1:=GS hC hW dec hI exW hz false [1] (by simp)
 have k2:=GS hC hW dec hI exW hz false [1,0] (by simp)
 have k3:=sd hC hW dec hI exW hz false [1] (by simp)
 have q1:=nQ hC false false [0,0] [0,0] (by simp) (by simp)
 have q2:=nQ hC false false [1,0] [1,0] (by simp) (by simp)
 have q3:=nQ hC false false [1800] [1800] (by simp) (by simp)
 unfold ofV at k1 k2
 rw [Av.1] at k1 k3
 rw [Av.2] at k2
 rw [Au.1] at k1
 rw [Au.2] at k2
 rw [Ij] at k3
 simp only [ab] at k1 k2 k3
 simp [exW,fb,eP,br] at k1 k2 k3 q1 q2 q3
 refine aw hC (nf:=N854) rfl rfl ?_
 simp (maxSteps:=2000000) [N854]
 refine aa k1 (.inr rfl) ?_
 simp
 refine aa k2 (.inr rfl) ?_
 simp
 refine aa k3 (.inr rfl) ?_
 simp
 refine aa q1 (.inl rfl) ?_
 simp
 refine aa q2 (.inl rfl) ?_
 simp
 refine aa q3 (.inl rfl) ?_
 simp
end Go.Gv

namespace Go.Gv
theorem pm {m : Msh} (hv : ao m=true) : bM m=true:=by
 unfold ao at hv
 simp only [x0a] at hv
 exact hv.1
theorem BX {m : Msh} {l ks : List Int} (hv : ao m=true) (h1 : l.length <= 300) (h2 : ∀ x ∈ l,inM m x=true) (h3 : ∀ k ∈ ks,dA l.length k=true) (h4 : l.Nodup) : gvE m l ks=0:=by
 unfold gvE
 rw [if_neg (by simp [hv]),if_neg (by omega),if_neg (by simpa using h2),if_neg (by simpa using h3),if_pos h4]
variable {C : CC} (hC : ay prog C)
include hC
end Go.Gv

namespace Go.Gv
theorem vA {m : Msh} (hv : ao m=true) (l : List Int) (d : Int) : ∀ {n : Nat},n <= m.f.length -> (lgN m l d n).length <= 60000000
 | 0,_=>by simp [lgN]
 | n + 1,h=>by
  have ih:=vA hv l d (n:=n) (by omega)
  have h1:=(en hv l (f:=n) (by omega)).2.2
  have h2:=jk hv n
  rw [lgN]
  split
  ·rw [x0K]
   omega
  ·exact ih
variable {C : CC} (hC : ay prog C)
include hC
set_option maxHeartbeats 8000000 in
theorem j5 (hW : SlW C) (dec : Nat -> List UInt8) (hI : ∀ n : Nat,n < 100 -> C 127 [.int .i64 n] (.str (dec n)) []) (m : Msh) (b : Bool) (l : List Int) (d : Int) : C 852 [.agg (aQ m),slx b (inR l),.int .i64 d] (.bool true) []:=by
 have ka:=tr hC hW dec hI
 have kl:=tO hC m b l
 rw [<- fb] at kl
 simp only [ab] at kl
 refine aw hC (nf:=N852) rfl rfl ?_
 simp [N852,ab]
 refine aa ka (.inl rfl) ?_
 simp
 refine aa kl (.inl rfl) ?_
 cases hL : ry m l
 ·obtain ⟨h1,hz⟩:=tS hL
  have k1:=sd hC hW dec hI m hz b l (by omega)
  have k2:=Bl hC hW dec hI m hz b l (by omega)
  have k5:=td hC hW dec hI m hz b l (by omega) d
  have k6:=te hC hW dec hI m hz b l (by omega) d
  have k3:=mU hC m hz b l (by omega) 0 false
  have k4:=mU hC m hz b l (by omega) d true
  unfold faV at k5
  unfold lgV at k6
  simp only [ab] at k1 k2 k3 k4 k5 k6
  simp at k3 k4 ⊢
  obtain ⟨E1,hE1⟩ : ∃ E,E=gvE m l []:=⟨_,rfl⟩
  obtain ⟨E2,hE2⟩ : ∃ E,E=gvE m l [d]:=⟨_,rfl⟩
  rw [<- hE1] at k1 k2 k3
  rw [<- hE2] at k4 k5 k6
  by_cases c1 : E1=0
  ·obtain ⟨hv,h2,h3,_,h4⟩:=mq (hE1.symm.trans c1)
   have hm : m.f.length <= 100:=(hz (pm hv)).2
   have r1:=v7 hC m hv hm b l (by omega)
   have r2:=o5 hC m hv hm b l (by omega)
   have r3:=sJ hC m hv l (-1)
   have q1:=nQ hC false false (arL m l) (arL m l) (by simp [arL];omega) (by simp [arL];omega)
   rw [<- fb] at q1
   simp only [ab] at r1 r2 r3
   simp at q1
   obtain ⟨xa,hxa⟩ : ∃ x,x=inR (arL m l):=⟨_,rfl⟩
   obtain ⟨xe,hxe⟩ : ∃ x,x=inR (enL m l):=⟨_,rfl⟩
   obtain ⟨lo,hlo⟩ : ∃ x,x=arF m l m.f.length (-1):=⟨_,rfl⟩
   rw [<- hxa] at k1 r1 q1
   rw [<- hxe] at r2 r3
   rw [<- hlo] at r3 k2
   rw [if_pos c1] at k1 k2
   refine aa k1 (.inr rfl) ?_
   simp
   refine aa k2 (.inr rfl) ?_
   simp
   by_cases c2 : E2=0
   ·obtain ⟨_,_,_,h5,_⟩:=mq (hE2.symm.trans c2)
    have hd:=h5 d (by simp)
    simp [dA] at hd
    obtain ⟨dn,hdn⟩ : ∃ n : Nat,d=n:=⟨d.toNat,by omega⟩
    have hdl : dn < l.length:=by omega
    have r4:=wa hC m hv hm b l (by omega) d
    have r5:=rG hC m hv hm b l (by omega) dn hdl h4
    rw [<- hdn] at r5
    have hfl:=qQ m l d m.f.length
    have q2:=nQ hC false false ((faN m l d m.f.length).map fun (x : Nat)=>(x : Int)) ((faN m l d m.f.length).map fun (x : Nat)=>(x : Int)) (by simp;omega) (by simp;omega)
    have hll : (lgN m l d m.f.length).length < 2 ^ 40:=by have:=vA hv l d (x0l m.f.length);omega
    have q3:=nQ hC true true ((lgN m l d m.f.length).map fun (x : Nat)=>(x : Int)) ((lgN m l d m.f.length).map fun (x : Nat)=>(x : Int)) (by simp;omega) (by simp;omega)
    rw [<- fb,KJ] at q2 q3
    simp only [ab] at r4 r5
    simp at q2 q3
    obtain ⟨xf,hxf⟩ : ∃ x,x=nR (faN m l d m.f.length):=⟨_,rfl⟩
    obtain ⟨xl,hxl⟩ : ∃ x,x=nR (lgN m l d m.f.length):=⟨_,rfl⟩
    rw [<- hxf] at k5 r4 q2
    rw [<- hxl] at k6 r5 q3
    rw [if_pos c2] at k5 k6
    refine aa k5 (.inr rfl) ?_
    simp
    refine aa k6 (.inr rfl) ?_
    simp
    refine aa k3 (.inl rfl) ?_
    simp [c1]
    refine aa r1 (.inr rfl) ?_
    simp
    refine aa q1 (.inl rfl) ?_
    simp
    refine aa r2 (.inr rfl) ?_
    simp
    refine aa r3 (.inl rfl) ?_
    simp
    refine ⟨ai (by decide +kernel),aa k4 (.inl rfl) ?_⟩
    simp [c2]
    refine aa r4 (.inr rfl) ?_
    simp
    refine aa q2 (.inl rfl) ?_
    simp
    refine aa r5 (.inr rfl) ?_
    simp
    refine aa q3 (.inl rfl) ?_
    simp
   ·rw [if_neg c2] at k5 k6
    refine aa k5 (.inr rfl) ?_
    simp
    refine aa k6 (.inr rfl) ?_
    simp
    refine aa k3 (.inl rfl) ?_
    simp [c1]
    refine aa r1 (.inr rfl) ?_
    simp
    refine aa q1 (.inl rfl) ?_
    simp
    refine aa r2 (.inr rfl) ?_
    simp
    refine aa r3 (.inl rfl) ?_
    simp
    refine ⟨ai (by decide +kernel),aa k4 (.inl rfl) ?_⟩
    simp [c2]
  ·rw [if_neg c1] at k1 k2
   refine aa k1 (.inr rfl) ?_
   simp
   refine aa k2 (.inr rfl) ?_
   simp
   have c2 : E2 ≠ 0:=fun h=>by
    obtain ⟨h1,h2,h3,_,h4⟩:=mq (hE2.symm.trans h)
    exact c1 (hE1.trans (BX h1 h2 h3 (by simp) h4))
   rw [if_neg c2] at k5 k6
   refine aa k5 (.inr rfl) ?_
   simp
   refine aa k6 (.inr rfl) ?_
   simp
   refine aa k3 (.inl rfl) ?_
   simp [c1]
   refine aa k4 (.inl rfl) ?_
   simp [c2]
 ·simp
end Go.Gv
