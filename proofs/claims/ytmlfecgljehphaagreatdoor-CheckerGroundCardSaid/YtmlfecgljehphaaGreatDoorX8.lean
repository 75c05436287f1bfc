/-
  Texts of the proof: H9, H11, H12, V3, V4, Z4, Z5, Z6, I3, Z7, Z8, A1, Q0, Q1, Q2, K2, K9, Q3, A4, Q4, Q5, B1, B2, K10, B3, B4, B5, Q6, Q7, Q12, Q22, Q28, S0, Q29, M1, P4, W4, K11, W5, P4b, Q8, Q30, Q9, Q10, K12, M2a, K13, M2, B6, B7, P5, M5, P1, P2, B8, P6, Q14, Q15, Q16, Q17, B9, P7, Q19, Q23, Q25, Q31, Q32, Q33, Q11, Q13, Q18, Q20, Q24, Q26, Q34, A2, A3, A5.
-/
import Derived.Test.YtmlfecgljehphaaGreatDoorX7
import Derived.Test.YtmlfecgljehphaaGreatDoorX6
import Derived.Lib.Bytealg
import Derived.Shelf.SlSortCmp.NoneTotal
import Derived.Lib.SlicesCompact
set_option linter.all false
namespace Go.Gv
theorem lA {s : Spt} (h : aY s=true) : -16777216 <= s.x /\ s.x <= 16777216 /\ -16777216 <= s.y /\ s.y <= 16777216 /\ -4194304 <= s.z /\ s.z <= 4194304:=by
 simp only [aY,Bool.and_eq_true,decide_eq_true_eq] at h
 omega
def spA (m : Msh) (i : Nat) : Spt:=spt m (fce m i).a.toNat
def spB (m : Msh) (i : Nat) : Spt:=spt m (fce m i).b.toNat
def spC (m : Msh) (i : Nat) : Spt:=spt m (fce m i).c.toNat
def qT (m : Msh) (i : Nat) : Int:=(spA m i).z + (spB m i).z + (spC m i).z
def vI (m : Msh) (i : Nat) : Int:=(spA m i).x + (spB m i).x + (spC m i).x
def vJ (m : Msh) (i : Nat) : Int:=(spA m i).y + (spB m i).y + (spC m i).y
theorem CD {m : Msh} (hv : bi m=true) {i : Nat} (hi : i < m.f.length) : aY (spA m i)=true /\ aY (spB m i)=true /\ aY (spC m i)=true:=by
 obtain ⟨⟨_,h1⟩,⟨_,h2⟩,⟨_,h3⟩⟩:=lj (hD hv hi)
 exact ⟨pD hv h1,pD hv h2,pD hv h3⟩
def smR (m : Msh) (i : Nat) : List (List D):=(List.range i).map fun j=>[.int .i64 (qT m j)]
def ctR (m : Msh) (i : Nat) : List (List D):=(List.range i).map fun j=>[.int .i64 (vI m j),.int .i64 (vJ m j)]
@[simp] theorem QF (m : Msh) (i : Nat) : (smR m i).length=i:=by simp [smR]
@[simp] theorem MQ (m : Msh) (i : Nat) : (ctR m i).length=i:=by simp [ctR]
@[simp] theorem Ml (m : Msh) (i : Nat) : List.take i (smR m i)=smR m i:=List.take_of_length_le (by simp)
@[simp] theorem Iy (m : Msh) (i : Nat) : List.take i (ctR m i)=ctR m i:=List.take_of_length_le (by simp)
@[simp] theorem QE (m : Msh) (i : Nat) (x : List D) : (∀ e,e ∈ smR m i \/ e=x -> ∀ c,c ∈ e -> aB c=true)=∀ c,c ∈ x -> aB c=true:=by
 apply propext
 constructor
 ·exact fun h=>h x (.inr rfl)
 ·rintro h e (he | rfl)
  ·obtain ⟨j,_,rfl⟩:=List.mem_map.1 he
   simp
  ·exact h
@[simp] theorem MP (m : Msh) (i : Nat) (x : List D) : (∀ e,e ∈ ctR m i \/ e=x -> ∀ c,c ∈ e -> aB c=true)=∀ c,c ∈ x -> aB c=true:=by
 apply propext
 constructor
 ·exact fun h=>h x (.inr rfl)
 ·rintro h e (he | rfl)
  ·obtain ⟨j,_,rfl⟩:=List.mem_map.1 he
   simp
  ·exact h
def cN (sz : Nat) (es : List (List D)) : D:=match es with
 | []=>.nils
 | e::r=>.own sz (e::r)
@[simp] theorem Ir (sz : Nat) (es : List (List D)) : aX (cN sz es)=slx true es:=by cases es <;> rfl
def grC (m : Msh) : List D:=[.sl (nbA m),slx true (smR m m.f.length),slx true (ctR m m.f.length)]
def mdE (m : Msh) (i : Nat) : Env:=[(1,.ptr (bz m)),(6,.adr (.r 10352) 0 0),(10352,.blk 3 [[.sl (nbA m),cN 1 (smR m i),cN 2 (ctR m i)]]),(24,slx m.fn (m.f.map bE)),(25,.int .i64 m.f.length),(26,.int .i64 i)]
variable {C : CC} (hC : ao prog C)
include hC
end Go.Gv

namespace Go.Gv
def bsd (m : Msh) (i : Nat) (o : Int) : Bool:=decide (o=nbF m i 0) || (decide (o=nbF m i 1) || decide (o=nbF m i 2))
def vO (m : Msh) (i j : Nat) : Int:=qT m i - qT m j
def Lx (m : Msh) (i j : Nat) : Int:=vO m i j * (if vO m i j < -vO m i j then -vO m i j else vO m i j)
def Iz (m : Msh) (i j : Nat) : Int:=(vI m i - vI m j) * (vI m i - vI m j) + (vJ m i - vJ m j) * (vJ m i - vJ m j)
def Iv (m : Msh) (i a b : Nat) : Int:=QZ (Lx m i a * Iz m i b) (Lx m i b * Iz m i a)
def SG (m : Msh) (i : Nat) (best n : Int) : Int:=if n < 0 \/ qT m i <= qT m n.toNat then best else if best < 0 then n else if 0 < Iv m i n.toNat best.toNat \/ (Iv m i n.toNat best.toNat=0 /\ n < best) then n else best
def upF (m : Msh) (i : Nat) : Nat -> Int
 | 0=>-2
 | k + 1=>SG m i (upF m i k) (nbF m i k)
def AK (m : Msh) (i : Nat) : Int:=if upF m i 3=-2 /\ bsd m i (-1)=true then -1 else upF m i 3
variable {C : CC} (hC : ao prog C)
include hC
end Go.Gv

namespace Go.Gv
def inR (l : List Int) : List (List D):=l.map fun n=>[.int .i64 n]
@[simp] theorem Nx (l : List Int) : (inR l).length=l.length:=by simp [inR]
@[simp] theorem Ju (l : List Int) : List.take l.length (inR l)=inR l:=List.take_of_length_le (by simp)
@[simp] theorem RG (l : List Int) : List.map (fun e=>List.map aX e) (inR l)=inR l:=by simp [inR]
@[simp] theorem Ny : inR []=[]:=rfl
def Tx (m : Msh) : List Int:=(List.range m.f.length).map fun j=>qT m j
def SU (m : Msh) : List Int:=(List.range m.f.length).map fun j=>AK m j
def flT (m : Msh) (i : Nat) : List Int:=(List.range i).map fun j=>AK m j
def flB (m : Msh) : Nat -> List (List D)
 | 0=>List.replicate m.f.length [.int .i64 0]
 | i + 1=>inR (flT m (i + 1))
def pth (m : Msh) : Nat -> Int -> List Int
 | 0,_=>[]
 | k + 1,f=>if f < 0 then [] else f::pth m k (AK m f.toNat)
def rnk (m : Msh) (i : Nat) : Nat:=((List.range m.f.length).filter fun j=>decide (qT m j < qT m i)).length
def SZ (m : Msh) (f : Int) : List Int:=pth m m.f.length f
def R8 (m : Msh) (i : Nat) : List Int:=((List.range i).filter fun j=>decide (AK m j=-2)).map fun (j : Nat)=>(j : Int)
def Ti (m : Msh) : List Int:=R8 m m.f.length
variable {C : CC} (hC : ao prog C)
include hC
theorem xT (m : Msh) (hz : fp m=true -> m.s.length <= 100 /\ m.f.length <= 100) : C 215 [.agg (bz m)] (.bool (bi m)) []:=by
 have ks:=x3 hC m
 rw [show (decide (m.s.length <= 2000) && decide (m.f.length <= 4000))=fp m from rfl] at ks
 refine start hC (nf:=N215) rfl rfl ?_
 simp only [aj] at ks
 simp [N215,aj]
 refine aa ks (.inl rfl) ?_
 cases hs : fp m
 ·simp [bi,hs]
 ·obtain ⟨h1,h2⟩:=hz hs
  have k:=xL hC m h1 h2
  have e : bi m=decide ((cC gz 0 (LL m)).length=0):=by
   rw [bi,hs,Bool.true_and,Bool.eq_iff_iff,decide_eq_true_eq,List.length_eq_zero_iff,mU]
  rw [e]
  obtain ⟨X,hX⟩ : ∃ X,X=cC gz 0 (LL m):=⟨_,rfl⟩
  rw [<- hX] at k ⊢
  simp only [aj] at k
  simp
  refine aa k (.inr rfl) ?_
  simp
end Go.Gv

namespace Go.Gv
def slE (m : Msh) (a b : Int) : Int:=if bi m=false then 1 else if gB m.f.length a=false \/ gB m.f.length b=false then 2 else if bsd m a.toNat b=false then 25 else 0
def stE (m : Msh) (i a b : Int) : Int:=if bi m=false then 1 else if gB m.f.length i=false \/ gB m.f.length a=false \/ gB m.f.length b=false then 2 else if bsd m i.toNat a=false \/ bsd m i.toNat b=false then 25 else 0
variable {C : CC} (hC : ao prog C)
include hC
end Go.Gv

namespace Go.Gv
theorem zX {α : Type} {p : α -> Bool} {xs : List α} {i : Nat} (h : bC p xs=(i : Int)) : ∃ h : i < xs.length,p xs[i]=true:=by
 unfold bC at h
 cases e : xs.findIdx? p with
 | none=>rw [e] at h;simp at h
 | some k =>
  rw [e] at h
  have h : k=i:=by have h : (k : Int)=(i : Int):=h;omega
  subst h
  rw [List.findIdx?_eq_some_iff_getElem] at e
  exact ⟨e.1,e.2.1⟩
def cpt (m : Msh) (f : Fce) (k : Nat) : Pnt:=ptS (spt m (crn f k).toNat)
end Go.Gv

namespace Go.Gv
def tn0 (m : Msh) (i : Nat) (p : Pnt) : Int:=cj (ptS (spA m i)) (ptS (spB m i)) p
def tn1 (m : Msh) (i : Nat) (p : Pnt) : Int:=cj (ptS (spB m i)) (ptS (spC m i)) p
def tn2 (m : Msh) (i : Nat) (p : Pnt) : Int:=cj (ptS (spC m i)) (ptS (spA m i)) p
def osF (m : Msh) (i : Nat) (p : Pnt) : Int:=if tn0 m i p < 0 then 0 else if tn1 m i p < 0 then 1 else if tn2 m i p < 0 then 2 else -1
def dx (m : Msh) (p : Pnt) : Int:=bC (fun i=>decide (osF m i p < 0)) (List.range m.f.length)
theorem o7 {m : Msh} {p : Pnt} (h : 0 <= dx m p) : (dx m p).toNat < m.f.length /\ osF m (dx m p).toNat p < 0:=by
 have e : dx m p=((dx m p).toNat : Int):=by omega
 obtain ⟨h1,h2⟩:=zX (p:=fun i=>decide (osF m i p < 0)) (xs:=List.range m.f.length) e
 simp at h1 h2
 exact ⟨h1,h2⟩
theorem Em {m : Msh} {i : Nat} {p : Pnt} (h : osF m i p < 0) : 0 <= tn0 m i p /\ 0 <= tn1 m i p /\ 0 <= tn2 m i p:=by
 unfold osF at h
 split at h
 ·omega
 ·split at h
  ·omega
  ·split at h
   ·omega
   ·omega
def tV (m : Msh) (i : Nat) : List D:=[.int .i64 (spA m i).x,.int .i64 (spA m i).y,.int .i64 (spA m i).z,.int .i64 (spB m i).x,.int .i64 (spB m i).y,.int .i64 (spB m i).z,.int .i64 (spC m i).x,.int .i64 (spC m i).y,.int .i64 (spC m i).z]
theorem cK (m : Msh) (i : Nat) : tV m i=[.int .i64 (spA m i).x,.int .i64 (spA m i).y,.int .i64 (spA m i).z,.int .i64 (spB m i).x,.int .i64 (spB m i).y,.int .i64 (spB m i).z,.int .i64 (spC m i).x,.int .i64 (spC m i).y,.int .i64 (spC m i).z]:=_root_.id rfl
theorem nk {m : Msh} (hv : bi m=true) {i : Nat} (hi : i < m.f.length) : okP (ptS (spA m i))=true /\ okP (ptS (spB m i))=true /\ okP (ptS (spC m i))=true:=by
 obtain ⟨h1,h2,h3⟩:=CD hv hi
 exact ⟨jS h1,jS h2,jS h3⟩
@[simp] theorem QB (p : Pnt) : (ptD p).length=2:=_root_.id rfl
@[simp] theorem LR (p : Pnt) : List.take 2 (ptD p)=ptD p:=_root_.id rfl
@[simp] theorem S3 (p : Pnt) : (∀ x,x ∈ ptD p -> isV x=true)=True:=by simp [ptD]
@[simp] theorem S2 (p : Pnt) : (∀ x,x ∈ ptD p -> aB x=true)=True:=by simp [ptD]
variable {C : CC} (hC : ao prog C)
include hC
theorem mM (m : Msh) (i : Nat) (hi : i < m.f.length) (h : inS m (fce m i)=true) : C 319 [.agg (bz m),.int .i64 i] (.agg (tV m i)) []:=by
 obtain ⟨⟨a1,a2⟩,⟨b1,b2⟩,⟨c1,c2⟩⟩:=lj h
 refine start hC (nf:=N319) rfl rfl ?_
 simp [N319,aj,hi,bg,a1,a2,b1,b2,c1,c2,bJ,tV,spA,spB,spC]
 exact ae (by decide +kernel)
theorem oi (s : Spt) : C 321 [.agg (fU s)] (.agg (ptD (ptS s))) []:=by
 refine start hC (nf:=N321) rfl rfl ?_
 simp [N321,fU,ptD,ptS]
theorem ik {a b c : Pnt} (ha : okP a=true) (hb : okP b=true) (hc : okP c=true) : C 320 [.agg (ptD a),.agg (ptD b),.agg (ptD c)] (.int .i64 (cj a b c)) []:=by
 have:=fo ha
 have:=fo hb
 have:=fo hc
 have h4:=mw ha hb hc
 refine start hC (nf:=N320) rfl rfl ?_
 have w1 : IntKind.wrap .i64 (b.1 - a.1)=b.1 - a.1:=ai rfl (by omega)
 have w2 : IntKind.wrap .i64 (c.2 - a.2)=c.2 - a.2:=ai rfl (by omega)
 have w3 : IntKind.wrap .i64 (b.2 - a.2)=b.2 - a.2:=ai rfl (by omega)
 have w4 : IntKind.wrap .i64 (c.1 - a.1)=c.1 - a.1:=ai rfl (by omega)
 have w5 : IntKind.wrap .i64 ((b.1 - a.1) * (c.2 - a.2))=(b.1 - a.1) * (c.2 - a.2):=ai rfl (by omega)
 have w6 : IntKind.wrap .i64 ((b.2 - a.2) * (c.1 - a.1))=(b.2 - a.2) * (c.1 - a.1):=ai rfl (by omega)
 have w7 : IntKind.wrap .i64 ((b.1 - a.1) * (c.2 - a.2) - (b.2 - a.2) * (c.1 - a.1))=cj a b c:=ai rfl (by rw [cj];omega)
 simp [N320,ptD,w1,w2,w3,w4,w5,w6,w7]
set_option maxHeartbeats 2000000 in
theorem xf (m : Msh) (hv : bi m=true) (i : Nat) (hi : i < m.f.length) (p : Pnt) (hp : okP p=true) : C 284 [.agg (bz m),.int .i64 i,.agg (ptD p)] (.int .i64 (osF m i p)) []:=by
 obtain ⟨oa,ob,oc⟩:=nk hv hi
 have k0:=mM hC m i hi (hD hv hi)
 have ka:=oi hC (spA m i)
 have kb:=oi hC (spB m i)
 have kc:=oi hC (spC m i)
 have t0 : C 320 [.agg (ptD (ptS (spA m i))),.agg (ptD (ptS (spB m i))),.agg (ptD p)] (.int .i64 (tn0 m i p)) []:=ik hC oa ob hp
 have t1 : C 320 [.agg (ptD (ptS (spB m i))),.agg (ptD (ptS (spC m i))),.agg (ptD p)] (.int .i64 (tn1 m i p)) []:=ik hC ob oc hp
 have t2 : C 320 [.agg (ptD (ptS (spC m i))),.agg (ptD (ptS (spA m i))),.agg (ptD p)] (.int .i64 (tn2 m i p)) []:=ik hC oc oa hp
 have w1 : IntKind.wrap .i64 1=1:=by decide
 have w2 : IntKind.wrap .i64 2=2:=by decide
 have w3 : IntKind.wrap .i64 3=3:=by decide
 have m1 : Int.tmod 1 3=1:=by decide
 have m2 : Int.tmod 2 3=2:=by decide
 have m3 : Int.tmod 3 3=0:=by decide
 simp only [aj,bJ,cK] at k0 ka kb kc
 refine start hC (nf:=N284) rfl rfl ?_
 simp [N284,aj]
 refine aa k0 (.inl rfl) ?_
 simp
 refine aq Nat (fun k=>[(5,.ptr (ptD p)),(7,.adr (.r 10112) 0 0),(12,.int .i64 k),(10112,.blk 9 [tV m i])]) (fun k=>k <= 3 /\ (1 <= k -> ¬ tn0 m i p < 0) /\ (2 <= k -> ¬ tn1 m i p < 0) /\ (3 <= k -> ¬ tn2 m i p < 0)) (fun k=>3 - k) 0 (by simp) (by simp [cK]) ?_
 rintro k ⟨hk,h0,h1,h2⟩
 rcases (by omega : k=0 \/ k=1 \/ k=2 \/ k=3) with rfl | rfl | rfl | rfl
 ·simp [cK,w1]
  refine aa ka (.inl rfl) ?_
  simp [w1,m1]
  refine aa kb (.inl rfl) ?_
  simp
  refine aa t0 (.inl rfl) ?_
  simp
  refine ⟨ae (by decide +kernel),?_⟩
  refine ab (fun c=>?_) (fun c=>?_) <;> simp at c
  ·simp [c,osF]
  ·simp [c]
   exact ⟨1,by omega,by omega,by simp [cK,w1]⟩
 ·have h0:=h0 (by omega)
  simp [cK,w2]
  refine aa kb (.inl rfl) ?_
  simp [w2,m2]
  refine aa kc (.inl rfl) ?_
  simp
  refine aa t1 (.inl rfl) ?_
  simp
  refine ⟨ae (by decide +kernel),?_⟩
  refine ab (fun c=>?_) (fun c=>?_) <;> simp at c
  ·simp [c,osF,h0]
  ·simp [c]
   exact ⟨2,by omega,by omega,by simp [cK,w2]⟩
 ·have h0:=h0 (by omega)
  have h1:=h1 (by omega)
  simp [cK,w3]
  refine aa kc (.inl rfl) ?_
  simp [w3,m3]
  refine aa ka (.inl rfl) ?_
  simp
  refine aa t2 (.inl rfl) ?_
  simp
  refine ⟨ae (by decide +kernel),?_⟩
  refine ab (fun c=>?_) (fun c=>?_) <;> simp at c
  ·simp [c,osF,h0,h1]
  ·simp [c]
   exact ⟨3,by omega,by omega,by simp [cK,w3]⟩
 ·have h0:=h0 (by omega)
  have h1:=h1 (by omega)
  have h2:=h2 (by omega)
  simp [osF,h0,h1,h2]
set_option maxHeartbeats 2000000 in
theorem Ad (m : Msh) (hv : bi m=true) (hm : m.f.length <= 100) (p : Pnt) (hp : okP p=true) : C 276 [.agg (bz m),.agg (ptD p)] (.int .i64 (dx m p)) []:=by
 have ko:=fun i hi=>xf hC m hv i hi p hp
 simp only [aj] at ko
 refine start hC (nf:=N276) rfl rfl ?_
 simp [N276,aj]
 refine aq Nat (fun i=>[(2,.ptr (bz m)),(3,.ptr (ptD p)),(8,.int .i64 m.f.length),(9,.int .i64 i)]) (fun i=>i <= m.f.length /\ ∀ j,j < i -> ¬ osF m j p < 0) (fun i=>m.f.length - i) 0 (by simp) (by simp [aj]) ?_
 rintro i ⟨hi,hj⟩
 simp [aj]
 refine ab (fun g1=>?_) (fun g1=>?_) <;> simp at g1 <;> simp [g1]
 ·have hw : IntKind.wrap .i64 ((i : Int) + 1)=((i + 1 : Nat) : Int):=ai (by omega) (by omega)
  refine aa (ko i g1) (.inl rfl) ?_
  simp
  refine ab (fun c=>?_) (fun c=>?_) <;> simp at c
  ·simp [c]
   refine (cz (fun j hl hji=>?_) (by simpa using g1) ?_).symm
   ·have:=hj j hji
    simpa using this
   ·simpa using c
  ·simp [c]
   refine ⟨i + 1,⟨by omega,fun j hji=>?_⟩,by omega,by simp [aj,hw]⟩
   rcases Nat.lt_succ_iff_lt_or_eq.1 hji with h | rfl
   ·exact Int.not_lt.1 (hj j h)
   ·exact c
 ·refine (cJ (fun j hl=>?_)).symm
  rw [List.length_range] at hl
  have:=hj j (by omega)
  simpa using this
theorem wJ {b : Bool} {xs : List Pnt} {g : Nat} {cs : List D} (p : Pnt -> Bool) (hs : xs.length < 2 ^ 62) (hp : ∀ x ∈ xs,C g (.agg (ptD x)::cs) (.bool (p x)) []) : C 278 [slx b (xs.map fun x=>ptD x),.fn g cs] (.int .i64 (bC p xs)) []:=by
 refine start hC (nf:=N278) rfl rfl ?_
 simp [N278]
 refine aq Nat (fun i=>[(0,slx b (xs.map fun x=>ptD x)),(1,.fn g cs),(7,.int .i64 xs.length),(8,.int .i64 i)]) (fun i=>i <= xs.length /\ ∀ (j : Nat) (h : j < xs.length),j < i -> p xs[j]=false) (fun i=>xs.length - i) 0 (by simp) (by simp) ?_
 rintro i ⟨hi,hj⟩
 simp
 refine ab (fun h=>?_) (fun h=>?_) <;> simp [h] <;> simp at h
 ·have hw : IntKind.wrap .i64 ((i : Int) + 1)=((i + 1 : Nat) : Int):=ai (by omega) (by omega)
  have hc:=hp _ (List.getElem_mem h)
  simp [h,ptD] at hc ⊢
  refine aa hc (.inl rfl) ?_
  simp
  refine ab (fun h1=>?_) (fun h1=>?_) <;> simp [h1,hw]
  ·rw [cz hj h h1]
  ·refine ⟨i + 1,⟨by omega,fun j hl hjj=>?_⟩,by omega,rfl⟩
   rcases Nat.lt_succ_iff_lt_or_eq.1 hjj with h2 | rfl
   ·exact hj j hl h2
   ·exact h1
 ·rw [cJ (fun j hl=>hj j hl (by omega))]
theorem wF {b : Bool} {xs : List Pnt} {g : Nat} {cs : List D} (p : Pnt -> Bool) (hs : xs.length < 2 ^ 62) (hp : ∀ x ∈ xs,C g (.agg (ptD x)::cs) (.bool (p x)) []) : C 239 [slx b (xs.map fun x=>ptD x),.fn g cs] (.bool (xs.any p)) []:=by
 refine start hC (nf:=N239) rfl rfl ?_
 simp [N239]
 refine aa (wJ hC p hs hp) (.inl rfl) ?_
 simp [ga]
theorem ux (p : Pnt) : C 312 [.agg (ptD p)] (.bool (!okP p)) []:=by
 have k:=qw hC p
 simp only [ptD] at k
 refine start hC (nf:=N312) rfl rfl ?_
 simp [N312,ptD]
 refine aa k (.inl rfl) ?_
 simp
end Go.Gv

namespace Go.Gv
def onE (m : Msh) (p : Pnt) : Int:=if bi m=true /\ okP p=true then (if dx m p < 0 then 12 else 0) else 1
def onV (m : Msh) (p : Pnt) : Int:=if onE m p=0 then dx m p else 0
theorem xw {m : Msh} {p : Pnt} (h : onE m p=0) : bi m=true /\ okP p=true /\ 0 <= dx m p:=by
 unfold onE at h
 split at h
 ·rename_i h1
  refine ⟨h1.1,h1.2,?_⟩
  split at h
  ·omega
  ·omega
 ·omega
def wlk (m : Msh) (p : Pnt) : Nat -> Nat -> Int × Int × Int
 | r,f=>if osF m f p < 0 then ((f : Int),((m.f.length - r : Nat) : Int),0) else if nbF m f (osF m f p).toNat < 0 then (0,0,12) else match r with
  | 0=>(0,0,6)
  | r + 1=>wlk m p r (nbF m f (osF m f p).toNat).toNat
def wkR (m : Msh) (from_ : Int) (p : Pnt) : Int × Int × Int:=if bi m=true /\ okP p=true then (if gB m.f.length from_=true then wlk m p m.f.length from_.toNat else (0,0,2)) else (0,0,1)
def Ty (t : Int × Int × Int) : D:=.tup [.int .i64 t.1,.int .i64 t.2.1,.int .i64 t.2.2]
variable {C : CC} (hC : ao prog C)
include hC
theorem xg (dec : Nat -> List UInt8) (hI : ∀ n : Nat,n < 100 -> C 127 [.int .i64 n] (.str (dec n)) []) (m : Msh) (hz : fp m=true -> m.s.length <= 100 /\ m.f.length <= 100) (b : Bool) (ps : List Pnt) (hp : ps.length < 2 ^ 62) :
  C 275 [.agg (bz m),slx b (ps.map fun x=>ptD x)] (.bool (bi m && ps.all okP)) []:=by
 have k1:=qk hC dec hI m hz
 have k2:=wF hC (b:=b) (xs:=ps) (g:=312) (cs:=[]) (fun x=>!okP x) hp (fun x _=>ux hC x)
 have e : (ps.any fun x=>!okP x)=!ps.all okP:=by rw [List.all_eq_not_any_not,Bool.not_not]
 rw [e] at k2
 refine start hC (nf:=N275) rfl rfl ?_
 simp only [aj] at k1
 simp [N275,aj]
 refine aa k1 (.inl rfl) ?_
 cases bi m
 ·simp
 ·simp
  refine aa k2 (.inl rfl) ?_
  simp
theorem KW (dec : Nat -> List UInt8) (hI : ∀ n : Nat,n < 100 -> C 127 [.int .i64 n] (.str (dec n)) []) (m : Msh) (hz : fp m=true -> m.s.length <= 100 /\ m.f.length <= 100) (p : Pnt) :
  C 274 [.agg (bz m),.agg (ptD p)] (.tup [.int .i64 (onV m p),.int .i64 (onE m p)]) []:=by
 have k1:=xg hC dec hI m hz false [p] (by simp)
 simp at k1
 refine start hC (nf:=N274) rfl rfl ?_
 simp only [aj] at k1
 simp only [ptD] at k1
 simp [N274,aj,ptD]
 refine aa k1 (.inl rfl) ?_
 by_cases hv : bi m=true /\ okP p=true
 ·have hm:=(hz (by have:=hv.1;simp only [bi,Bool.and_eq_true] at this;exact this.1)).2
  have k2:=Ad hC m hv.1 hm p hv.2
  simp only [aj,ptD] at k2
  simp [hv.1,hv.2]
  refine aa k2 (.inl rfl) ?_
  simp
  refine ab (fun c=>?_) (fun c=>?_) <;> simp at c <;> simp [c,onE,onV,hv.1,hv.2]
 ·have e : (bi m && okP p)=false:=by
   cases h1 : bi m <;> cases h2 : okP p <;> simp [h1,h2] at hv ⊢
  simp [e,onE,onV,hv]
end Go.Gv

namespace Go.Gv
open Go.Lib
def fG (m : Msh) (i : Nat) (p : Pnt) : Int:=(spA m i).z * tn1 m i p + (spB m i).z * tn2 m i p + (spC m i).z * tn0 m i p
def fN (m : Msh) (i : Nat) : Int:=cj (ptS (spA m i)) (ptS (spB m i)) (ptS (spC m i))
theorem EN (m : Msh) (i : Nat) (p : Pnt) : tn0 m i p + tn1 m i p + tn2 m i p=fN m i:=by
 unfold tn0 tn1 tn2 fN cj ptS
 grind
theorem tx (m : Msh) (i : Nat) (p : Pnt) : cj p (ptS (spB m i)) (ptS (spC m i))=tn1 m i p:=by
 unfold tn1 cj;grind
theorem Bo (m : Msh) (i : Nat) (p : Pnt) : cj p (ptS (spC m i)) (ptS (spA m i))=tn2 m i p:=by
 unfold tn2 cj;grind
theorem Bn (m : Msh) (i : Nat) (p : Pnt) : cj p (ptS (spA m i)) (ptS (spB m i))=tn0 m i p:=by
 unfold tn0 cj;grind
theorem Bp (m : Msh) (i : Nat) (p : Pnt) : cj (ptS (spA m i)) p (ptS (spC m i))=tn2 m i p:=by
 unfold tn2 cj;grind
theorem kR {a b c : Pnt} (ha : okP a=true) (hb : okP b=true) (hc : okP c=true) : -2251799813685248 <= cj a b c /\ cj a b c <= 2251799813685248:=by
 have:=mw ha hb hc
 unfold cj
 omega
structure OnF (m : Msh) (i : Nat) (p : Pnt) : Prop where
 z0 : -4194304 <= (spA m i).z /\ (spA m i).z <= 4194304
 z1 : -4194304 <= (spB m i).z /\ (spB m i).z <= 4194304
 z2 : -4194304 <= (spC m i).z /\ (spC m i).z <= 4194304
 t0 : 0 <= tn0 m i p /\ tn0 m i p <= 2251799813685248
 t1 : 0 <= tn1 m i p /\ tn1 m i p <= 2251799813685248
 t2 : 0 <= tn2 m i p /\ tn2 m i p <= 2251799813685248
 d : 0 < fN m i /\ fN m i <= 2251799813685248
theorem pm {m : Msh} (hv : bi m=true) {i : Nat} (hi : i < m.f.length) {p : Pnt} (hp : okP p=true) (h : osF m i p < 0) : OnF m i p:=by
 obtain ⟨oa,ob,oc⟩:=nk hv hi
 obtain ⟨r1,r2,r3⟩:=CD hv hi
 have:=lA r1
 have:=lA r2
 have:=lA r3
 obtain ⟨n0,n1,n2⟩:=Em h
 have b0 : tn0 m i p <= 2251799813685248:=(kR oa ob hp).2
 have b1 : tn1 m i p <= 2251799813685248:=(kR ob oc hp).2
 have b2 : tn2 m i p <= 2251799813685248:=(kR oc oa hp).2
 have bd : fN m i <= 2251799813685248:=(kR oa ob oc).2
 have hd : 0 < fN m i:=(pC hv hi).2
 exact ⟨by omega,by omega,by omega,by omega,by omega,by omega,by omega⟩
theorem fP {z t : Int} (hz : -4194304 <= z /\ z <= 4194304) (ht : 0 <= t) : -(4194304 * t) <= z * t /\ z * t <= 4194304 * t:=by
 have h1:=Int.mul_nonneg (show 0 <= 4194304 - z by omega) ht
 have h2:=Int.mul_nonneg (show 0 <= 4194304 + z by omega) ht
 rw [Int.sub_mul] at h1
 rw [Int.add_mul] at h2
 omega
theorem OnF.num {m : Msh} {i : Nat} {p : Pnt} (h : OnF m i p) : -(4194304 * fN m i) <= fG m i p /\ fG m i p <= 4194304 * fN m i:=by
 have e:=EN m i p
 have h1:=fP h.z0 h.t1.1
 have h2:=fP h.z1 h.t2.1
 have h3:=fP h.z2 h.t0.1
 unfold fG
 rw [<- e]
 omega
theorem vP {n d k : Int} (hd : 0 < d) (h : -(k * d) <= n /\ n <= k * d) : -k <= n / d /\ n / d <= k:=by
 constructor
 ·exact (Int.le_ediv_iff_mul_le hd).2 (by rw [Int.neg_mul];exact h.1)
 ·exact Int.le_of_lt_add_one ((Int.ediv_lt_iff_lt_mul hd).2 (by rw [Int.add_mul];omega))
def loF (m : Msh) (i : Nat) (p : Pnt) : Int:=fG m i p / fN m i
def hiF (m : Msh) (i : Nat) (p : Pnt) : Int:=-(-fG m i p / fN m i)
theorem OnF.lo {m : Msh} {i : Nat} {p : Pnt} (h : OnF m i p) : -4194304 <= loF m i p /\ loF m i p <= 4194304:=vP h.d.1 h.num
theorem OnF.hi {m : Msh} {i : Nat} {p : Pnt} (h : OnF m i p) : -4194304 <= hiF m i p /\ hiF m i p <= 4194304:=by
 have:=vP (n:=-fG m i p) (k:=4194304) h.d.1 (by have:=h.num;omega)
 unfold hiF
 omega
variable {C : CC} (hC : ao prog C)
include hC
theorem jI (z t : Int) (hz : -4194304 <= z /\ z <= 4194304) (ht : 0 <= t /\ t <= 2251799813685248) : C 99 [.int .i64 z,.int .i64 t] (.tup [wiS (z * t),.int .i64 0]) []:=by
 obtain ⟨n,rfl⟩ : ∃ n : Nat,t=n:=⟨t.toNat,by omega⟩
 have h3 : z.natAbs * n <= 4194304 * 2251799813685248:=Nat.mul_le_mul (by omega) (by omega)
 exact rf hC z n (by omega) (by omega) (by omega)
set_option maxHeartbeats 4000000 in
theorem wZ (m : Msh) (hv : bi m=true) (i : Nat) (hi : i < m.f.length) (p : Pnt) (hp : okP p=true) (h : osF m i p < 0) :
  C 300 [.agg (bz m),.int .i64 i,.agg (ptD p)] (.tup [wiS (fG m i p),.int .i64 (fN m i),.int .i64 0]) []:=by
 have H:=pm hv hi hp h
 obtain ⟨oa,ob,oc⟩:=nk hv hi
 have k0:=mM hC m i hi (hD hv hi)
 have ka:=oi hC (spA m i)
 have kb:=oi hC (spB m i)
 have kc:=oi hC (spC m i)
 have t1:=ik hC hp ob oc
 have t2:=ik hC hp oc oa
 have t0:=ik hC hp oa ob
 have td : C 320 _ (.int .i64 (fN m i)) []:=ik hC oa ob oc
 rw [tx] at t1
 rw [Bo] at t2
 rw [Bn] at t0
 have x1:=jI hC _ _ H.z0 H.t1
 have x2:=jI hC _ _ H.z1 H.t2
 have x0:=jI hC _ _ H.z2 H.t0
 have b1:=fP H.z0 H.t1.1
 have b2:=fP H.z1 H.t2.1
 have b0:=fP H.z2 H.t0.1
 have c0:=H.t0
 have c1:=H.t1
 have c2:=H.t2
 have en : fG m i p=(spA m i).z * tn1 m i p + (spB m i).z * tn2 m i p + (spC m i).z * tn0 m i p:=rfl
 obtain ⟨u1,hu1⟩ : ∃ u,u=(spA m i).z * tn1 m i p:=⟨_,rfl⟩
 obtain ⟨u2,hu2⟩ : ∃ u,u=(spB m i).z * tn2 m i p:=⟨_,rfl⟩
 obtain ⟨u0,hu0⟩ : ∃ u,u=(spC m i).z * tn0 m i p:=⟨_,rfl⟩
 rw [<- hu1] at x1 b1 en
 rw [<- hu2] at x2 b2 en
 rw [<- hu0] at x0 b0 en
 have y1:=rb hC 0 u1 (by omega) (by omega)
 have y2:=rb hC u1 u2 (by omega) (by omega)
 have y3:=rb hC (u1 + u2) u0 (by omega) (by omega)
 rw [Int.zero_add] at y1
 rw [<- en] at y3
 have ez : wiS 0=.agg [.int .i64 0,.int .i64 0]:=by simp [wiS]
 obtain ⟨p1,q1,_,_,e1⟩:=cp u1
 obtain ⟨p2,q2,_,_,e2⟩:=cp u2
 obtain ⟨p3,q3,_,_,e3⟩:=cp u0
 obtain ⟨p4,q4,_,_,e4⟩:=cp (u1 + u2)
 obtain ⟨p5,q5,_,_,e5⟩:=cp (fG m i p)
 rw [e1] at x1
 rw [e2] at x2
 rw [e3] at x0
 rw [ez,e1] at y1
 rw [e1,e2,e4] at y2
 rw [e4,e3,e5] at y3
 rw [e5]
 have w0 : IntKind.wrap .i64 0=0:=by decide
 have w1 : IntKind.wrap .i64 1=1:=by decide
 have w2 : IntKind.wrap .i64 2=2:=by decide
 have w3 : IntKind.wrap .i64 3=3:=by decide
 have w4 : IntKind.wrap .i64 4=4:=by decide
 have m1 : Int.tmod 1 3=1:=by decide
 have m2 : Int.tmod 2 3=2:=by decide
 have m3 : Int.tmod 3 3=0:=by decide
 have m4 : Int.tmod 4 3=1:=by decide
 clear e1 e2 e3 e4 e5 en hu0 hu1 hu2 b0 b1 b2 c0 c1 c2 H
 simp only [aj,bJ,cK] at k0 ka kb kc
 refine start hC (nf:=N300) rfl rfl ?_
 simp [N300,aj]
 refine aa k0 (.inl rfl) ?_
 simp
 refine aq Nat (fun k=>[(5,.ptr (ptD p)),(6,.adr (.r 10096) 0 0),(9,.adr (.r 10144) 0 0),(17,.agg (tV m i)),(18,.int .i64 k),(10144,.blk 9 [tV m i]),
  (10096,.blk 2 [if k=0 then [.int .i64 0,.int .i64 0] else if k=1 then [.int .i64 p1,.int .i64 q1] else if k=2 then [.int .i64 p4,.int .i64 q4] else [.int .i64 p5,.int .i64 q5]])]) (fun k=>k <= 3) (fun k=>3 - k) 0 (by simp) (by simp [cK]) ?_
 rintro k hk
 rcases (by omega : k=0 \/ k=1 \/ k=2 \/ k=3) with rfl | rfl | rfl | rfl
 ·simp [cK,w1,m1]
  refine aa kb (.inl rfl) ?_
  simp [w2,m2]
  refine aa kc (.inl rfl) ?_
  simp
  refine aa t1 (.inl rfl) ?_
  simp
  refine aa x1 (.inr rfl) ?_
  simp
  refine ⟨ae (by decide +kernel),?_⟩
  refine aa y1 (.inr rfl) ?_
  simp
  exact ⟨1,by omega,by omega,by simp [cK,w1]⟩
 ·simp [cK,w2,m2]
  refine aa kc (.inl rfl) ?_
  simp [w3,m3]
  refine aa ka (.inl rfl) ?_
  simp
  refine aa t2 (.inl rfl) ?_
  simp
  refine aa x2 (.inr rfl) ?_
  simp
  refine ⟨ae (by decide +kernel),?_⟩
  refine aa y2 (.inr rfl) ?_
  simp
  exact ⟨2,by omega,by omega,by simp [cK,w2]⟩
 ·simp [cK,w3,m3]
  refine aa ka (.inl rfl) ?_
  simp [w4,m4]
  refine aa kb (.inl rfl) ?_
  simp
  refine aa t0 (.inl rfl) ?_
  simp
  refine aa x0 (.inr rfl) ?_
  simp
  refine ⟨ae (by decide +kernel),?_⟩
  refine aa y3 (.inr rfl) ?_
  simp
  exact ⟨3,by omega,by omega,by simp [cK,w3]⟩
 ·simp [cK]
  refine aa ka (.inl rfl) ?_
  simp
  refine aa kb (.inl rfl) ?_
  simp
  refine aa kc (.inl rfl) ?_
  simp
  refine aa td (.inl rfl) ?_
  simp
  exact ae (by decide +kernel)
theorem pW (v : Int) (d : Nat) (up : Bool) (hd0 : 0 < d) (hd : d <= 2251799813685248) (hv : v.natAbs <= 4194304 * d) : C 301 [wiS v,.int .i64 d,.bool up] (.tup [.int .i64 (if up then -(-v / d) else v / d),.int .i64 0]) []:=by
 have k1:=lE hC v (by omega)
 have k2:=nA hC v (by omega)
 obtain ⟨Q,hQ⟩ : ∃ Q,Q=(if up then -(-v / (d : Int)) else v / (d : Int)):=⟨_,rfl⟩
 have hdiv : v.natAbs / d <= 4194304:=Nat.div_le_of_le_mul (by rw [Nat.mul_comm];exact hv)
 have k3 : C 104 [cF v,.int .i64 d,.bool up] (.tup [.int .i64 Q,.int .i64 0]) []:=by
  by_cases v0 : v < 0
  ·obtain ⟨n,rfl⟩ : ∃ n : Nat,v=-(n : Int):=⟨v.natAbs,by omega⟩
   rw [Int.natAbs_neg,Int.natAbs_natCast] at hv hdiv
   have k:=qC hC n d up (if up then n / d else if n % d=0 then n / d else n / d + 1) (by omega) (by omega) (by omega) (by split;omega;split <;> omega) rfl (by omega)
   have e1 : cF (-(n : Int))=cH n true:=bR (by omega) (decide_eq_true v0)
   have e2 : Q=-((if up then n / d else if n % d=0 then n / d else n / d + 1 : Nat) : Int):=by
    rw [hQ]
    cases up
    ·simp only [Bool.false_eq_true,if_false]
     exact go n d hd0
    ·simp
   rw [e1,e2]
   exact k
  ·obtain ⟨n,rfl⟩ : ∃ n : Nat,v=(n : Int):=⟨v.natAbs,by omega⟩
   rw [Int.natAbs_natCast] at hv hdiv
   have hle : (n + d - 1) / d <= n / d + 1:=by
    have : (n + d - 1) / d <= (n + d) / d:=Nat.div_le_div_right (by omega)
    rw [Nat.add_div_right _ hd0] at this
    exact this
   have k:=rY hC n d up (if up then (n + d - 1) / d else n / d) (by omega) (by omega) (by split <;> omega) rfl (by omega)
   have e1 : cF (n : Int)=cH n false:=bR (by omega) (decide_eq_false v0)
   have e2 : Q=((if up then (n + d - 1) / d else n / d : Nat) : Int):=by
    rw [hQ]
    cases up
    ·simp
    ·simp only [if_true]
     rw [go n d hd0,Int.neg_neg]
     congr 1
     have h1:=Nat.div_add_mod n d
     have h2:=Nat.mod_lt n hd0
     split
     ·rename_i h
      have : n + d - 1=d * (n / d) + (d - 1):=by omega
      rw [this,Nat.mul_add_div hd0,Nat.div_eq_of_lt (show d - 1 < d by omega)]
      rfl
     ·rename_i h
      have : n + d - 1=d * (n / d) + (d + (n % d - 1)):=by omega
      rw [this,Nat.mul_add_div hd0,Nat.add_div_left _ hd0,Nat.div_eq_of_lt (show n % d - 1 < d by omega)]
   rw [e1,e2]
   exact k
 rw [<- hQ]
 obtain ⟨a1,a2,_,_,ea⟩:=cp v
 obtain ⟨f1,f2,f3,ef⟩ : ∃ (a1 a2 : Nat) (a3 : Bool),cF v=.agg [.int .u64 a1,.int .u64 a2,.bool a3]:=⟨_,_,_,rfl⟩
 rw [ea] at k1 k2 ⊢
 rw [ef] at k2 k3
 have h1 : ¬ d=0:=by omega
 clear hQ ea ef
 refine start hC (nf:=N301) rfl rfl ?_
 simp [N301]
 refine aa k1 (.inl rfl) ?_
 simp [h1]
 refine aa k2 (.inl rfl) ?_
 simp
 refine aa k3 (.inr rfl) ?_
 simp
theorem yO (v : Int) (d : Nat) (hd0 : 0 < d) (hd : d <= 2251799813685248) (hv : v.natAbs <= 4194304 * d) : C 271 [wiS v,.int .i64 d] (.tup [.int .i64 (v / d),.int .i64 0]) []:=by
 have k:=pW hC v d false hd0 hd hv
 simp at k
 obtain ⟨Q,hQ⟩ : ∃ Q,Q=v / (d : Int):=⟨_,rfl⟩
 rw [<- hQ] at k ⊢
 obtain ⟨a1,a2,_,_,ea⟩:=cp v
 rw [ea] at k ⊢
 refine start hC (nf:=N271) rfl rfl ?_
 simp [N271]
 refine aa k (.inl rfl) ?_
 simp
theorem CK (v : Int) (d : Nat) (hd0 : 0 < d) (hd : d <= 2251799813685248) (hv : v.natAbs <= 4194304 * d) : C 272 [wiS v,.int .i64 d] (.tup [.int .i64 (-(-v / d)),.int .i64 0]) []:=by
 have k:=pW hC v d true hd0 hd hv
 simp only [if_true] at k
 obtain ⟨Q,hQ⟩ : ∃ Q,Q=-(-v / (d : Int)):=⟨_,rfl⟩
 rw [<- hQ] at k ⊢
 obtain ⟨a1,a2,_,_,ea⟩:=cp v
 rw [ea] at k ⊢
 refine start hC (nf:=N272) rfl rfl ?_
 simp [N272]
 refine aa k (.inl rfl) ?_
 simp
def wz : D:=.agg [.int .i64 0,.int .i64 0]
theorem wV (dec : Nat -> List UInt8) (hI : ∀ n : Nat,n < 100 -> C 127 [.int .i64 n] (.str (dec n)) []) (m : Msh) (hz : fp m=true -> m.s.length <= 100 /\ m.f.length <= 100) (p : Pnt) :
  C 269 [.agg (bz m),.agg (ptD p)] (if onE m p=0 then .tup [wiS (fG m (dx m p).toNat p),.int .i64 (fN m (dx m p).toNat),.int .i64 0] else .tup [wz,.int .i64 0,.int .i64 (onE m p)]) []:=by
 have k1:=KW hC dec hI m hz p
 by_cases h0 : onE m p=0
 ·obtain ⟨hv,hp,hf⟩:=xw h0
  obtain ⟨hi,ho⟩:=o7 hf
  have k2:=wZ hC m hv _ hi p hp ho
  rw [if_pos h0]
  have e : onV m p=dx m p:=by rw [onV,if_pos h0]
  rw [h0,e] at k1
  rw [show (((dx m p).toNat : Nat) : Int)=dx m p by omega] at k2
  obtain ⟨a1,a2,_,_,ea⟩:=cp (fG m (dx m p).toNat p)
  rw [ea] at k2 ⊢
  simp only [aj,ptD] at k1 k2
  refine start hC (nf:=N269) rfl rfl ?_
  simp [N269,aj,ptD]
  refine aa k1 (.inl rfl) ?_
  simp
  refine aa k2 (.inr rfl) ?_
  simp
 ·rw [if_neg h0]
  simp only [aj,ptD] at k1
  refine start hC (nf:=N269) rfl rfl ?_
  simp [N269,aj,ptD]
  refine aa k1 (.inl rfl) ?_
  simp [h0,wz]
theorem wW (dec : Nat -> List UInt8) (hI : ∀ n : Nat,n < 100 -> C 127 [.int .i64 n] (.str (dec n)) []) (m : Msh) (hz : fp m=true -> m.s.length <= 100 /\ m.f.length <= 100) (p : Pnt) :
  C 233 [.agg (bz m),.agg (ptD p)] (if onE m p=0 then .tup [.agg [.int .i64 (loF m (dx m p).toNat p),.int .i64 (hiF m (dx m p).toNat p)],.int .i64 0] else .tup [wz,.int .i64 (onE m p)]) []:=by
 have k1:=wV hC dec hI m hz p
 by_cases h0 : onE m p=0
 ·obtain ⟨hv,hp,hf⟩:=xw h0
  obtain ⟨hi,ho⟩:=o7 hf
  have H:=pm hv hi hp ho
  obtain ⟨i,hi2⟩ : ∃ i,i=(dx m p).toNat:=⟨_,rfl⟩
  rw [if_pos h0] at k1 ⊢
  rw [<- hi2] at k1 H ⊢
  obtain ⟨d,hd⟩ : ∃ d : Nat,fN m i=d:=⟨(fN m i).toNat,by have:=H.d;omega⟩
  have b1:=H.num
  have b2:=H.d
  rw [hd] at b1 b2
  have k2:=yO hC (fG m i p) d (by omega) (by omega) (by omega)
  have k3:=CK hC (fG m i p) d (by omega) (by omega) (by omega)
  rw [show fG m i p / (d : Int)=loF m i p by rw [loF,hd]] at k2
  rw [show -(-fG m i p / (d : Int))=hiF m i p by rw [hiF,hd]] at k3
  rw [hd] at k1
  obtain ⟨a1,a2,_,_,ea⟩:=cp (fG m i p)
  rw [ea] at k1 k2 k3
  simp only [aj,ptD] at k1
  clear b1 b2 H
  refine start hC (nf:=N233) rfl rfl ?_
  simp [N233,aj,ptD]
  refine aa k1 (.inr rfl) ?_
  simp
  refine aa k2 (.inl rfl) ?_
  simp
  refine aa k3 (.inl rfl) ?_
  simp
 ·rw [if_neg h0] at k1 ⊢
  simp only [aj,ptD,wz] at k1
  refine start hC (nf:=N233) rfl rfl ?_
  simp [N233,aj,ptD]
  refine aa k1 (.inr rfl) ?_
  simp [h0,wz]
end Go.Gv

namespace Go.Gv
def SA (m : Msh) (a b : Int) : Int:=if tn m a b < 0 then 0 else bC (fun j=>decide (crn (fce m (tn m a b).toNat) j=a) && decide (crn (fce m (tn m a b).toNat) (j + 1)=b)) (List.range 3)
def acK (m : Msh) (i k : Nat) : Int:=SA m (crn (fce m i) (k + 1)) (crn (fce m i) k)
def nbT (m : Msh) (i : Nat) : List (List D):=(List.range i).map fun j=>[.int .i64 (nbF m j 0),.int .i64 (nbF m j 1),.int .i64 (nbF m j 2)]
@[simp] theorem PY (m : Msh) (i : Nat) : (nbT m i).length=i:=by simp [nbT]
@[simp] theorem Lf (m : Msh) (i : Nat) : List.take i (nbT m i)=nbT m i:=List.take_of_length_le (by simp)
@[simp] theorem Sl (m : Msh) (i : Nat) : List.map (fun e=>List.map aX e) (nbT m i)=nbT m i:=by simp [nbT]
variable {C : CC} (hC : ao prog C)
include hC
end Go.Gv

namespace Go.Gv
open Go.Lib
def tr3 (m : Msh) (i : Nat) : List (List D):=[ptD (ptS (spA m i)),ptD (ptS (spB m i)),ptD (ptS (spC m i))]
theorem jZ (m : Msh) (i : Nat) : tr3 m i=[ptD (ptS (spA m i)),ptD (ptS (spB m i)),ptD (ptS (spC m i))]:=_root_.id rfl
def sdF (m : Msh) (i : Nat) (p : Pnt) (k : Nat) : Int:=if 0 <= osF m i p /\ osF m i p < k then osF m i p else -1
variable {C : CC} (hC : ao prog C)
include hC
theorem xK (m : Msh) (hv : bi m=true) (i : Nat) (hi : i < m.f.length) : C 285 [.agg (bz m),.agg (bE (fce m i))] (.sl (tr3 m i)) []:=pt hC m (fce m i) (hD hv hi)
set_option maxHeartbeats 2000000 in
theorem LT (m : Msh) (hv : bi m=true) (i : Nat) (hi : i < m.f.length) (p : Pnt) (hp : okP p=true) : C 277 [.agg (bz m),.int .i64 i,.agg (ptD p)] (.bool (decide (osF m i p < 0))) []:=by
 obtain ⟨oa,ob,oc⟩:=nk hv hi
 have k0:=xK hC m hv i hi
 have t0 : C 286 [.agg (ptD (ptS (spA m i))),.agg (ptD (ptS (spB m i))),.agg (ptD p)] (.int .i64 (tn0 m i p)) []:=gq hC oa ob hp
 have t1 : C 286 [.agg (ptD (ptS (spB m i))),.agg (ptD (ptS (spC m i))),.agg (ptD p)] (.int .i64 (tn1 m i p)) []:=gq hC ob oc hp
 have t2 : C 286 [.agg (ptD (ptS (spC m i))),.agg (ptD (ptS (spA m i))),.agg (ptD p)] (.int .i64 (tn2 m i p)) []:=gq hC oc oa hp
 have w1 : IntKind.wrap .i64 1=1:=by decide
 have w2 : IntKind.wrap .i64 2=2:=by decide
 have w3 : IntKind.wrap .i64 3=3:=by decide
 have m1 : Int.tmod 1 3=1:=by decide
 have m2 : Int.tmod 2 3=2:=by decide
 have m3 : Int.tmod 3 3=0:=by decide
 simp only [aj,bg] at k0
 refine start hC (nf:=N277) rfl rfl ?_
 simp [N277,aj,hi,bg]
 refine aa k0 (.inr rfl) ?_
 simp
 refine ⟨ae (by decide +kernel),?_⟩
 refine aq Nat (fun k=>[(5,.ptr (ptD p)),(7,.sl (tr3 m i)),(8,.int .i64 k)]) (fun k=>k <= 3 /\ (1 <= k -> ¬ tn0 m i p < 0) /\ (2 <= k -> ¬ tn1 m i p < 0) /\ (3 <= k -> ¬ tn2 m i p < 0)) (fun k=>3 - k) 0 (by simp) (by simp) ?_
 rintro k ⟨hk,h0,h1,h2⟩
 rcases (by omega : k=0 \/ k=1 \/ k=2 \/ k=3) with rfl | rfl | rfl | rfl
 ·simp [jZ,w1,m1]
  refine aa t0 (.inl rfl) ?_
  simp
  refine ⟨ae (by decide +kernel),?_⟩
  refine ab (fun c=>?_) (fun c=>?_) <;> simp at c
  ·simp [c,osF]
  ·simp [c]
   exact ⟨1,by omega,by omega,by simp [jZ,w1]⟩
 ·have h0:=h0 (by omega)
  simp [jZ,w2,m2]
  refine aa t1 (.inl rfl) ?_
  simp
  refine ⟨ae (by decide +kernel),?_⟩
  refine ab (fun c=>?_) (fun c=>?_) <;> simp at c
  ·simp [c,osF,h0]
  ·simp [c]
   exact ⟨2,by omega,by omega,by simp [jZ,w2]⟩
 ·have h0:=h0 (by omega)
  have h1:=h1 (by omega)
  simp [jZ,w3,m3]
  refine aa t2 (.inl rfl) ?_
  simp
  refine ⟨ae (by decide +kernel),?_⟩
  refine ab (fun c=>?_) (fun c=>?_) <;> simp at c
  ·simp [c,osF,h0,h1]
  ·simp [c]
   exact ⟨3,by omega,by omega,by simp [jZ,w3]⟩
 ·have h0:=h0 (by omega)
  have h1:=h1 (by omega)
  have h2:=h2 (by omega)
  simp [osF,h0,h1,h2]
theorem Av (m : Msh) (hv : bi m=true) (hm : m.f.length <= 100) (p : Pnt) (hp : okP p=true) : C 238 [.agg (bz m),.agg (ptD p)] (.int .i64 (dx m p)) []:=by
 have ko:=fun i hi=>LT hC m hv i hi p hp
 simp only [aj] at ko
 refine start hC (nf:=N238) rfl rfl ?_
 simp [N238,aj]
 refine aq Nat (fun i=>[(2,.ptr (bz m)),(3,.ptr (ptD p)),(5,.int .i64 i)]) (fun i=>i <= m.f.length /\ ∀ j,j < i -> ¬ osF m j p < 0) (fun i=>m.f.length - i) 0 (by simp) (by simp [aj]) ?_
 rintro i ⟨hi,hj⟩
 simp [aj]
 refine ab (fun g1=>?_) (fun g1=>?_) <;> simp at g1 <;> simp [g1]
 ·have hw : IntKind.wrap .i64 ((i : Int) + 1)=((i + 1 : Nat) : Int):=ai (by omega) (by omega)
  refine aa (ko i g1) (.inl rfl) ?_
  simp
  refine ab (fun c=>?_) (fun c=>?_) <;> simp at c
  ·simp [c]
   refine (cz (fun j hl hji=>?_) (by simpa using g1) ?_).symm
   ·have:=hj j hji
    simpa using this
   ·simpa using c
  ·simp [c]
   refine ⟨i + 1,⟨by omega,fun j hji=>?_⟩,by omega,by simp [aj,hw]⟩
   rcases Nat.lt_succ_iff_lt_or_eq.1 hji with h | rfl
   ·exact Int.not_lt.1 (hj j h)
   ·exact c
 ·refine (cJ (fun j hl=>?_)).symm
  rw [List.length_range] at hl
  have:=hj j (by omega)
  simpa using this
def Te (m : Msh) : Bool:=decide ((m.s.length : Int) <= 60) && decide ((m.f.length : Int) <= 60)
end Go.Gv

namespace Go.Gv
open Go.Lib
theorem di (v : Int) : ∃ (a b : Nat) (c : Bool),cF v=.agg [.int .u64 a,.int .u64 b,.bool c]:=⟨_,_,_,rfl⟩
def exL : Msh:=⟨false,[⟨0,0,100⟩,⟨1000,0,200⟩,⟨0,1000,400⟩],false,[⟨0,1,2,0⟩]⟩
variable {C : CC} (hC : ao prog C)
include hC
theorem xJ (m : Msh) (hv : bi m=true) (i : Nat) (hi : i < m.f.length) : C 350 [.agg (bz m),.int .i64 i] (.int .i64 (fN m i)) []:=by
 have k : C 293 [.agg (bz m),.agg (bE (fce m i))] (.int .i64 (fN m i)) []:=tk hC m (fce m i) (hD hv hi) (cW (pC hv hi).1)
 simp only [aj,bg] at k
 refine start hC (nf:=N350) rfl rfl ?_
 simp [N350,aj,hi,bg]
 refine aa k (.inl rfl) ?_
 simp
 exact ae (by decide +kernel)
set_option maxHeartbeats 4000000 in
theorem xE (m : Msh) (hv : bi m=true) (i : Nat) (hi : i < m.f.length) (p : Pnt) (hp : okP p=true) (h : osF m i p < 0) :
  C 348 [.agg (bz m),.int .i64 i,.agg (ptD p)] (.tup [cF (fG m i p),.int .i64 (fN m i)]) []:=by
 have H:=pm hv hi hp h
 obtain ⟨⟨a1,a2⟩,⟨b1,b2⟩,⟨c1,c2⟩⟩:=lj (hD hv hi)
 obtain ⟨oa,ob,oc⟩:=nk hv hi
 have kt:=xK hC m hv i hi
 have kw:=xJ hC m hv i hi
 have t1:=gq hC hp ob oc
 have t2:=gq hC oa hp oc
 have t0 : C 286 [.agg (ptD (ptS (spA m i))),.agg (ptD (ptS (spB m i))),.agg (ptD p)] (.int .i64 (tn0 m i p)) []:=gq hC oa ob hp
 rw [tx] at t1
 rw [Bp] at t2
 have z0:=H.z0
 have z1:=H.z1
 have z2:=H.z2
 have d0:=H.t0
 have d1:=H.t1
 have d2:=H.t2
 have x1:=lz hC (spA m i).z (tn1 m i p) (by omega) (by omega)
 have x2:=lz hC (spB m i).z (tn2 m i p) (by omega) (by omega)
 have x0:=lz hC (spC m i).z (tn0 m i p) (by omega) (by omega)
 have e1:=fP z0 d1.1
 have e2:=fP z1 d2.1
 have e0:=fP z2 d0.1
 have en : (spA m i).z * tn1 m i p + ((spB m i).z * tn2 m i p + (spC m i).z * tn0 m i p)=fG m i p:=by unfold fG;omega
 obtain ⟨u1,hu1⟩ : ∃ u,u=(spA m i).z * tn1 m i p:=⟨_,rfl⟩
 obtain ⟨u2,hu2⟩ : ∃ u,u=(spB m i).z * tn2 m i p:=⟨_,rfl⟩
 obtain ⟨u0,hu0⟩ : ∃ u,u=(spC m i).z * tn0 m i p:=⟨_,rfl⟩
 rw [<- hu1] at x1 e1 en
 rw [<- hu2] at x2 e2 en
 rw [<- hu0] at x0 e0 en
 have y1:=tg hC u2 u0 (by omega) (by omega)
 have y2:=tg hC u1 (u2 + u0) (by omega) (by omega)
 rw [en] at y2
 obtain ⟨f1,g1,h1,s1⟩:=di u1
 obtain ⟨f2,g2,h2,s2⟩:=di u2
 obtain ⟨f3,g3,h3,s3⟩:=di u0
 obtain ⟨f4,g4,h4,s4⟩:=di (u2 + u0)
 obtain ⟨f5,g5,h5,s5⟩:=di (fG m i p)
 rw [s1] at x1
 rw [s2] at x2
 rw [s3] at x0
 rw [s2,s3,s4] at y1
 rw [s1,s4,s5] at y2
 rw [s5]
 clear s1 s2 s3 s4 s5 en hu0 hu1 hu2 e0 e1 e2 d0 d1 d2 z0 z1 z2 H
 simp only [aj,bg,jZ] at kt
 simp only [aj] at kw
 have sa : spt m (fce m i).a.toNat=spA m i:=rfl
 have sb : spt m (fce m i).b.toNat=spB m i:=rfl
 have sc : spt m (fce m i).c.toNat=spC m i:=rfl
 refine start hC (nf:=N348) rfl rfl ?_
 simp [N348,aj,hi,bg]
 refine aa kt (.inr rfl) ?_
 simp [a1,a2,bJ,sa]
 refine aa t1 (.inl rfl) ?_
 simp
 refine aa x1 (.inl rfl) ?_
 simp
 refine ⟨ae (by decide +kernel),?_⟩
 simp [b1,b2,bJ,sb]
 refine aa t2 (.inl rfl) ?_
 simp
 refine aa x2 (.inl rfl) ?_
 simp
 refine ⟨ae (by decide +kernel),?_⟩
 simp [c1,c2,bJ,sc]
 refine aa t0 (.inl rfl) ?_
 simp
 refine aa x0 (.inl rfl) ?_
 simp
 refine ⟨ae (by decide +kernel),?_⟩
 refine aa y1 (.inl rfl) ?_
 simp
 refine aa y2 (.inl rfl) ?_
 simp
 refine aa kw (.inl rfl) ?_
 simp
 exact ae (by decide +kernel)
theorem xG (m : Msh) (hv : bi m=true) (i : Nat) (hi : i < m.f.length) (p : Pnt) (hp : okP p=true) (h : osF m i p < 0) :
  C 349 [.agg (bz m),.int .i64 i,.agg (ptD p)] (.agg [.int .i64 (loF m i p),.int .i64 (hiF m i p)]) []:=by
 have H:=pm hv hi hp h
 have k1:=xE hC m hv i hi p hp h
 have b1:=H.num
 have b2:=H.d
 have b3:=H.lo
 have b4:=H.hi
 have k2:=uN hC (fN m i) (by omega)
 obtain ⟨d,hd⟩ : ∃ d : Nat,fN m i=d:=⟨(fN m i).toNat,by omega⟩
 rw [hd] at b1 b2
 have k3:=qz hC (fG m i p) d (by omega) (by omega) (by omega)
 have k4:=Et hC (fG m i p) d (by omega) (by omega) (by omega)
 rw [<- hd] at k3 k4
 rw [show fG m i p / fN m i=loF m i p from rfl] at k3
 rw [show -(-fG m i p / fN m i)=hiF m i p from rfl] at k4
 have k5:=ox hC (loF m i p) (by omega)
 have k6:=ox hC (hiF m i p) (by omega)
 obtain ⟨f1,g1,h1,s1⟩:=di (fG m i p)
 obtain ⟨f2,g2,h2,s2⟩:=di (fN m i)
 obtain ⟨f3,g3,h3,s3⟩:=di (loF m i p)
 obtain ⟨f4,g4,h4,s4⟩:=di (hiF m i p)
 rw [s1] at k1
 rw [s2] at k2
 rw [s1,s2,s3] at k3
 rw [s1,s2,s4] at k4
 rw [s3] at k5
 rw [s4] at k6
 clear s1 s2 s3 s4 b1 b2 b3 b4 H hd
 simp only [aj,ptD] at k1
 refine start hC (nf:=N349) rfl rfl ?_
 simp [N349,aj,ptD]
 refine aa k1 (.inr rfl) ?_
 simp
 refine aa k2 (.inl rfl) ?_
 simp
 refine aa k3 (.inl rfl) ?_
 simp
 refine aa k5 (.inl rfl) ?_
 simp
 refine ⟨ae (by decide +kernel),?_⟩
 refine aa k2 (.inl rfl) ?_
 simp
 refine aa k4 (.inl rfl) ?_
 simp
 refine aa k6 (.inl rfl) ?_
 simp
 exact ae (by decide +kernel)
end Go.Gv

namespace Go.Gv
open Go.Lib Go.Sort Go.Proofs
abbrev Fnd:=Int × List UInt8
def fj (x : Fnd) : List D:=[.int .i64 x.1,.str x.2]
structure TC {α : Type} (c : α -> α -> Int) : Prop where
 eq0 : ∀ x y,c x y=0 -> x=y
 anti : ∀ x y,c y x=- c x y
 trans : ∀ x y z,c x y < 0 -> c y z < 0 -> c x z < 0
section
variable {α : Type} {c : α -> α -> Int}
theorem TC.refl (h : TC c) (x : α) : c x x=0:=by have:=h.anti x x;omega
theorem TC.swo (h : TC c) : SWO (ltOf c) where
 irrefl x:=by simp [ltOf,h.refl x]
 trans x y z h1 h2:=by
  simp only [ltOf,decide_eq_true_eq] at *
  exact h.trans x y z h1 h2
 ntrans x y z h1 h2:=by
  simp only [ltOf,decide_eq_false_iff_not] at *
  by_cases e1 : c x y=0
  ·rw [h.eq0 _ _ e1];exact h2
  by_cases e2 : c y z=0
  ·rw [<- h.eq0 _ _ e2];exact h1
  have a1:=h.anti x y
  have a2:=h.anti y z
  have a3:=h.anti x z
  have:=h.trans z y x (by omega) (by omega)
  omega
theorem TC.tot (h : TC c) (x y : α) (h1 : (ltOf c) x y=false) (h2 : (ltOf c) y x=false) : x=y:=by
 simp only [ltOf,decide_eq_false_iff_not] at *
 have:=h.anti x y
 exact h.eq0 x y (by omega)
end
theorem oH {a b : UInt8} : (a < b) ↔ a.toNat < b.toNat:=UInt8.lt_iff_toNat_lt
theorem CI {a b : UInt8} (h : a.toNat=b.toNat) : a=b:=UInt8.toNat_inj.1 h
theorem sI : ∀ a b : List UInt8,compareBytes b a=- compareBytes a b
 | [],[]=>rfl
 | [],_::_=>rfl
 | _::_,[]=>rfl
 | a::xs,b::ys=>by
  simp only [compareBytes,oH]
  by_cases h1 : a.toNat < b.toNat
  ·rw [if_neg (show ¬ b.toNat < a.toNat by omega),if_pos h1,if_pos h1];rfl
  ·by_cases h2 : b.toNat < a.toNat
   ·rw [if_pos h2,if_neg h1,if_pos h2]
   ·rw [if_neg h2,if_neg h1,if_neg h1,if_neg h2,sI xs ys]
theorem vD : ∀ a b : List UInt8,compareBytes a b=0 -> a=b
 | [],[],_=>rfl
 | [],_::_,h=>by simp [compareBytes] at h
 | _::_,[],h=>by simp [compareBytes] at h
 | a::xs,b::ys,h=>by
  simp only [compareBytes,oH] at h
  by_cases h1 : a.toNat < b.toNat
  ·rw [if_pos h1] at h;cases h
  ·by_cases h2 : b.toNat < a.toNat
   ·rw [if_neg h1,if_pos h2] at h;cases h
   ·rw [if_neg h1,if_neg h2] at h
    rw [vD xs ys h,CI (show a.toNat=b.toNat by omega)]
theorem pJ : ∀ a b d : List UInt8,compareBytes a b < 0 -> compareBytes b d < 0 -> compareBytes a d < 0
 | [],_,[],_,h2=>by
  rename_i b _
  cases b with
  | nil=>exact h2
  | cons x xs=>simp [compareBytes] at h2
 | [],_,_::_,_,_=>by simp [compareBytes]
 | _::_,[],_,h1,_=>by simp [compareBytes] at h1
 | _::_,_::_,[],_,h2=>by simp [compareBytes] at h2
 | a::xs,b::ys,d::zs,h1,h2=>by
  simp only [compareBytes,oH] at h1 h2 ⊢
  by_cases e1 : a.toNat < b.toNat
  ·by_cases e2 : b.toNat < d.toNat
   ·rw [if_pos (show a.toNat < d.toNat by omega)];decide
   ·by_cases e3 : d.toNat < b.toNat
    ·rw [if_neg e2,if_pos e3] at h2;exact absurd h2 (by decide)
    ·rw [if_pos (show a.toNat < d.toNat by omega)];decide
  ·by_cases e4 : b.toNat < a.toNat
   ·rw [if_neg e1,if_pos e4] at h1;exact absurd h1 (by decide)
   ·rw [if_neg e1,if_neg e4] at h1
    by_cases e2 : b.toNat < d.toNat
    ·rw [if_pos (show a.toNat < d.toNat by omega)];decide
    ·by_cases e3 : d.toNat < b.toNat
     ·rw [if_neg e2,if_pos e3] at h2;exact absurd h2 (by decide)
     ·rw [if_neg e2,if_neg e3] at h2
      rw [if_neg (show ¬ a.toNat < d.toNat by omega),if_neg (show ¬ d.toNat < a.toNat by omega)]
      exact pJ xs ys zs h1 h2
def lV (a b : Int) : Int:=if a < b then -1 else if b < a then 1 else 0
def bP (x y : Fnd) : Int:=if lV x.1 y.1=0 then compareBytes x.2 y.2 else lV x.1 y.1
theorem km : TC lV:=by
 refine ⟨fun x y h=>?_,fun x y=>?_,fun x y z h1 h2=>?_⟩ <;> unfold lV at * <;> (repeat' split at *) <;> first | omega | (simp at *;done) | (simp at *;omega)
theorem fq : TC bP:=by
 refine ⟨fun x y h=>?_,fun x y=>?_,fun x y z h1 h2=>?_⟩
 ·unfold bP at h
  split at h
  ·rename_i e
   exact Prod.ext (km.eq0 _ _ e) (vD _ _ h)
  ·rename_i e;exact absurd h e
 ·unfold bP
  rw [km.anti x.1 y.1,sI x.2 y.2]
  by_cases e : lV x.1 y.1=0
  ·rw [if_pos e,if_pos (by omega)]
  ·rw [if_neg e,if_neg (by omega)]
 ·unfold bP at *
  by_cases e1 : lV x.1 y.1=0
  ·rw [if_pos e1] at h1
   rw [<- km.eq0 _ _ e1] at h2
   by_cases e2 : lV x.1 z.1=0
   ·rw [if_pos e2] at h2 ⊢
    exact pJ _ _ _ h1 h2
   ·rw [if_neg e2] at h2 ⊢
    exact h2
  ·rw [if_neg e1] at h1
   by_cases e2 : lV y.1 z.1=0
   ·rw [if_pos e2] at h2
    rw [<- km.eq0 _ _ e2,if_neg e1]
    exact h1
   ·rw [if_neg e2] at h2
    have h3:=km.trans _ _ _ h1 h2
    rw [if_neg (by omega)]
    exact h3
section
variable {α : Type} {c : α -> α -> Int}
def jJ (c : α -> α -> Int) (l : List α) : Prop:=l.Pairwise fun x y=>c x y < 0
theorem jJ.nodup (h : TC c) {l : List α} (hs : jJ c l) : l.Nodup:=hs.imp fun {x y} hxy e=>by subst e;have:=h.refl x;omega
theorem jJ.unique (h : TC c) : ∀ {l l' : List α},jJ c l -> jJ c l' -> (∀ x,x ∈ l ↔ x ∈ l') -> l=l'
 | [],[],_,_,_=>rfl
 | [],y::_,_,_,hm=>absurd ((hm y).2 (by simp)) (by simp)
 | x::_,[],_,_,hm=>absurd ((hm x).1 (by simp)) (by simp)
 | x::l,y::l',hs,hs',hm=>by
  obtain ⟨a1,a2⟩:=List.pairwise_cons.1 hs
  obtain ⟨b1,b2⟩:=List.pairwise_cons.1 hs'
  have e : x=y:=by
   rcases List.mem_cons.1 ((hm x).1 (by simp)) with e | e
   ·exact e
   ·rcases List.mem_cons.1 ((hm y).2 (by simp)) with e' | e'
    ·exact e'.symm
    ·have h1:=b1 x e
     have h2:=a1 y e'
     have:=h.anti x y
     omega
  subst e
  rw [jJ.unique h a2 b2 (fun z=>⟨fun hz=>?_,fun hz=>?_⟩)]
  ·rcases List.mem_cons.1 ((hm z).1 (by simp [hz])) with e | e
   ·subst e;have:=a1 z hz;have:=h.refl z;omega
   ·exact e
  ·rcases List.mem_cons.1 ((hm z).2 (by simp [hz])) with e | e
   ·subst e;have:=b1 z hz;have:=h.refl z;omega
   ·exact e
def ddL [DecidableEq α] : List α -> List α
 | []=>[]
 | [x]=>[x]
 | x::y::r=>if x=y then ddL (y::r) else x::ddL (y::r)
theorem gL [DecidableEq α] (x y : α) (r : List α) : ddL (x::y::r)=if x=y then ddL (y::r) else x::ddL (y::r):=rfl
theorem oV [DecidableEq α] : ∀ (l : List α) (x : α),x ∈ ddL l ↔ x ∈ l
 | [],x=>by simp [ddL]
 | [y],x=>by simp [ddL]
 | y::z::r,x=>by
  rw [gL]
  have ih:=oV (z::r) x
  by_cases e : y=z
  ·rw [if_pos e,ih];subst e;simp
  ·rw [if_neg e,List.mem_cons,ih];simp
theorem sL [DecidableEq α] (h : TC c) : ∀ {l : List α},(l.Pairwise fun x y=>¬ c y x < 0) -> jJ c (ddL l)
 | [],_=>List.Pairwise.nil
 | [y],_=>by simp [ddL,jJ]
 | y::z::r,hp=>by
  obtain ⟨a1,a2⟩:=List.pairwise_cons.1 hp
  have ih:=sL h a2
  rw [gL]
  by_cases e : y=z
  ·rw [if_pos e];exact ih
  ·rw [if_neg e]
   refine List.pairwise_cons.2 ⟨fun w hw=>?_,ih⟩
   have hw2:=(oV _ _).1 hw
   have h1:=a1 w hw2
   have hyz : c y z < 0:=by
    have h2:=a1 z (by simp)
    have h3:=h.anti y z
    have : c y z ≠ 0:=fun e'=>e (h.eq0 _ _ e')
    omega
   rcases List.mem_cons.1 hw2 with e1 | e1
   ·subst e1;exact hyz
   ·have h4:=(List.pairwise_cons.1 a2).1 w e1
    have h5:=h.anti z w
    by_cases e2 : c z w=0
    ·rw [<- h.eq0 _ _ e2];exact hyz
    ·exact h.trans y z w hyz (by omega)
def nl (c : α -> α -> Int) (l : List α) : List α:=l.mergeSort fun x y=>!(ltOf c) y x
theorem yk {l : List α} {x : α} : x ∈ nl c l ↔ x ∈ l:=by unfold nl;exact List.mem_mergeSort
theorem je {l : List α} : (nl c l).length=l.length:=by unfold nl;exact List.length_mergeSort l
theorem Bl (h : TC c) (l : List α) : (nl c l).Pairwise fun x y=>¬ c y x < 0:=by
 have h1:=List.pairwise_mergeSort (le:=fun x y : α=>!(ltOf c) y x) (fun a b d h1 h2=>by
  simp only [Bool.not_eq_true'] at *
  exact h.swo.ntrans _ _ _ h2 h1) (fun a b=>by
  simp only [Bool.or_eq_true,Bool.not_eq_true',ltOf,decide_eq_false_iff_not]
  have:=h.anti a b
  omega) l
 exact h1.imp fun {x y} hxy=>by simpa [ltOf] using hxy
def dQ [DecidableEq α] (c : α -> α -> Int) (l : List α) : List α:=ddL (nl c l)
theorem mE [DecidableEq α] {l : List α} {x : α} : x ∈ dQ c l ↔ x ∈ l:=by unfold dQ;rw [oV,yk]
theorem mF [DecidableEq α] (h : TC c) (l : List α) : jJ c (dQ c l):=sL h (Bl h l)
theorem sK [DecidableEq α] (h : TC c) {l l' : List α} (hs : jJ c l') (hm : ∀ x,x ∈ l ↔ x ∈ l') : dQ c l=l':=(mF h l).unique h hs fun x=>by rw [mE];exact hm x
def nK (c : α -> α -> Int) (l : List α) (x : α) : List α:=l.filter (fun y=>decide (c y x < 0))++x::l.filter (fun y=>decide (c x y < 0))
theorem mY (h : TC c) {l : List α} {x y : α} : y ∈ nK c l x ↔ y ∈ l \/ y=x:=by
 unfold nK
 simp only [List.mem_append,List.mem_filter,List.mem_cons,decide_eq_true_eq]
 constructor
 ·rintro (h1 | h1 | h1)
  ·exact .inl h1.1
  ·exact .inr h1
  ·exact .inl h1.1
 ·rintro (h1 | h1)
  ·by_cases e : c y x=0
   ·exact .inr (.inl (h.eq0 _ _ e))
   ·have:=h.anti y x
    by_cases e2 : c y x < 0
    ·exact .inl ⟨h1,e2⟩
    ·exact .inr (.inr ⟨h1,by omega⟩)
  ·exact .inr (.inl h1)
theorem mZ (h : TC c) {l : List α} (hs : jJ c l) (x : α) : jJ c (nK c l x):=by
 unfold nK
 refine List.pairwise_append.2 ⟨hs.sublist List.filter_sublist,List.pairwise_cons.2 ⟨fun y hy=>?_,hs.sublist List.filter_sublist⟩,fun a ha b hb=>?_⟩
 ·simpa using (List.mem_filter.1 hy).2
 ·have h1 : c a x < 0:=by simpa using (List.mem_filter.1 ha).2
  rcases List.mem_cons.1 hb with rfl | hb
  ·exact h1
  ·exact h.trans _ _ _ h1 (by simpa using (List.mem_filter.1 hb).2)
theorem At (h : TC c) {l : List α} (hs : jJ c l) {x : α} (hx : x ∈ l) : nK c l x=l:=(mZ h hs x).unique h hs fun y=>by rw [mY h];exact ⟨fun h1=>h1.elim id (fun e=>e ▸ hx),.inl⟩
end
end Go.Gv

namespace Go.Gv
abbrev Edg:=Nat × Nat
def edK (e : Edg) : List D:=knD ((e.1 : Int),(e.2 : Int))
def edI (e : Edg) : Int × Int:=((e.1 : Int),(e.2 : Int))
theorem ze (es : List Edg) : es.map edK=(es.map edI).map knD:=by simp [edK,edI]
def dK (l : List Nat) : List (List D):=l.map fun k : Nat=>[.int .i64 (k : Int)]
def inG (n : Nat) (es : List Edg) : Prop:=∀ e ∈ es,e.1 < n /\ e.2 < n
def nxt (n : Nat) (es : List Edg) (i : Nat) : List Nat:=(List.range n).filter fun k=>es.contains (i,k)
theorem mh {n : Nat} {es : List Edg} {i k : Nat} : k ∈ nxt n es i ↔ k < n /\ (i,k) ∈ es:=by simp [nxt]
theorem ta (n : Nat) (es : List Edg) (i : Nat) : (nxt n es i).length <= n:=by
 have:=List.length_filter_le (fun k=>es.contains (i,k)) (List.range n)
 simpa [nxt] using this
theorem lC {α : Type} {n k : Nat} {f : Nat -> α} (x : α) : ((List.range n).map f).set k x=(List.range n).map fun v=>if v=k then x else f v:=by
 apply List.ext_getElem
 ·simp
 ·intro i h1 h2
  simp only [List.getElem_set,List.getElem_map,List.getElem_range]
  by_cases e : k=i
  ·rw [if_pos e,if_pos e.symm]
  ·rw [if_neg e,if_neg (Ne.symm e)]
def tgs (es : List Edg) (i : Nat) : List Nat:=(es.filter fun e=>e.1 == i).map (·.2)
theorem s6 {es : List Edg} {i k : Nat} : k ∈ tgs es i ↔ (i,k) ∈ es:=by
 unfold tgs
 simp only [List.mem_map,List.mem_filter,beq_iff_eq]
 constructor
 ·rintro ⟨⟨a,b⟩,⟨h1,h2⟩,h3⟩
  simp only at h2 h3
  subst h2 h3
  exact h1
 ·intro h
  exact ⟨(i,k),⟨h,rfl⟩,rfl⟩
theorem yq {es : List Edg} {j : Nat} (hj : j < es.length) (v : Nat) : tgs (es.take (j + 1)) v=tgs (es.take j) v++(if es[j].1=v then [es[j].2] else []):=by
 unfold tgs
 rw [List.take_succ_eq_append_getElem hj,List.filter_append,List.map_append]
 congr 1
 by_cases h : es[j].1=v <;> simp [h]
theorem tw (es : List Edg) (i : Nat) : (tgs es i).length <= es.length:=by
 unfold tgs
 rw [List.length_map]
 exact List.length_filter_le _ _
def rW (es : List Edg) (out : List Nat) (v : Nat) : Bool:=es.all fun e=>!(e.2 == v) || out.contains e.1
theorem xD {es : List Edg} {out : List Nat} {v : Nat} : rW es out v=true ↔ ∀ u,(u,v) ∈ es -> u ∈ out:=by
 unfold rW
 simp only [List.all_eq_true,Bool.or_eq_true,Bool.not_eq_true',beq_eq_false_iff_ne,List.contains_iff_mem]
 constructor
 ·intro h u hu
  rcases h _ hu with h | h
  ·exact absurd rfl h
  ·exact h
 ·rintro h ⟨a,b⟩ he
  by_cases e : b=v
  ·subst e;exact .inr (h a he)
  ·exact .inl e
def AC (n : Nat) (es : List Edg) (out : List Nat) : List Nat:=(List.range n).filter fun v=>!out.contains v && rW es out v
theorem xm {n : Nat} {es : List Edg} {out : List Nat} {v : Nat} : v ∈ AC n es out ↔ v < n /\ v ∉ out /\ ∀ u,(u,v) ∈ es -> u ∈ out:=by
 simp only [AC,List.mem_filter,List.mem_range,Bool.and_eq_true,Bool.not_eq_true',<- xD]
 simp
def Mr (n : Nat) (es : List Edg) (out : List Nat) : List Nat:=match AC n es out with
 | []=>out
 | v::_=>out++[v]
def LO (n : Nat) (es : List Edg) : Nat -> List Nat
 | 0=>[]
 | m + 1=>Mr n es (LO n es m)
def qv (n : Nat) (es : List Edg) : List Nat:=LO n es n
def Di (n : Nat) (es : List Edg) (out : List Nat) (k : Nat) : Nat:=((List.range n).filter fun u=>es.contains (u,k) && !out.contains u).length
def Ra (es : List Edg) (i k : Nat) : Nat:=((List.range i).filter fun u=>es.contains (u,k)).length
end Go.Gv

namespace Go.Gv
structure SlC (C : CC) : Prop where
 sort : ∀ zs : List Int,zs.length < 2 ^ 40 -> C 366 [.own 1 (zs.map fun n=>[.int .i64 n])] .any [.own 1 ((zs.mergeSort fun x y=>decide (x <= y)).map fun n=>[.int .i64 n]),.nilp]
 compact : ∀ zs : List Int,zs.length < 2 ^ 40 -> C 523 [.own 1 (zs.map fun n=>[.int .i64 n])] .any [.own 1 ((Lib.compact zs).map fun n=>[.int .i64 n]),.nils,.nils]
 insert : ∀ (zs : List Int) (i : Nat) (x : Int),i <= zs.length -> zs.length < 2 ^ 40 -> C 519 [.own 1 (zs.map fun n=>[.int .i64 n]),.int .i64 i,.own 1 [[.int .i64 x]]] .any [.own 1 ((zs.take i++x::zs.drop i).map fun n=>[.int .i64 n]),.nils,.nils]
theorem nv : ∀ {l l' : List Int},l.Pairwise (· < ·) -> l'.Pairwise (· < ·) -> (∀ x,x ∈ l ↔ x ∈ l') -> l=l'
 | [],[],_,_,_=>rfl
 | [],b::_,_,_,h=>by simpa using (h b).2 (by simp)
 | a::_,[],_,_,h=>by simpa using (h a).1 (by simp)
 | a::l,b::l',h1,h2,h=>by
  rw [List.pairwise_cons] at h1 h2
  have e : a=b:=by
   have x1:=(h a).1 (by simp)
   have x2:=(h b).2 (by simp)
   simp only [List.mem_cons] at x1 x2
   rcases x1 with x1 | x1
   ·exact x1
   ·rcases x2 with x2 | x2
    ·exact x2.symm
    ·have:=h2.1 a x1;have:=h1.1 b x2;omega
  subst e
  congr 1
  refine nv h1.2 h2.2 fun x=>?_
  have:=h x
  simp only [List.mem_cons] at this
  constructor
  ·intro hx
   have h3:=h1.1 x hx
   rcases this.1 (.inr hx) with h4 | h4
   ·omega
   ·exact h4
  ·intro hx
   have h3:=h2.1 x hx
   rcases this.2 (.inr hx) with h4 | h4
   ·omega
   ·exact h4
theorem j4 {d : Array Int} (hs : ∀ j,0 < j -> j < d.size -> d[j - 1]! <= d[j]!) : ∀ m,m <= d.size -> (Lib.compactUpTo d m).Pairwise (· < ·) /\ (∀ x,x ∈ Lib.compactUpTo d m ↔ ∃ j,j < m /\ d[j]! = x) /\ ∀ x ∈ Lib.compactUpTo d m,x <= d[m - 1]!
 | 0,_=>by simp [Lib.compactUpTo]
 | m + 1,hm=>by
  obtain ⟨h1,h2,h3⟩:=j4 hs m (by omega)
  rw [Lib.compactUpTo_succ]
  by_cases hk : Lib.keeps d m=true
  ·rw [if_pos hk]
   have hlt : ∀ x ∈ Lib.compactUpTo d m,x < d[m]!:=fun x hx=>by
    have h4:=h3 x hx
    simp only [Lib.keeps,decide_eq_true_eq] at hk
    rcases hk with rfl | hk
    ·obtain ⟨j,hj,_⟩:=(h2 x).1 hx;omega
    ·rcases Nat.eq_zero_or_pos m with h0 | h0
     ·subst h0;obtain ⟨j,hj,_⟩:=(h2 x).1 hx;omega
     ·have:=hs m h0 (by omega);omega
   refine ⟨List.pairwise_append.2 ⟨h1,by simp,fun a ha b hb=>by simp at hb;subst hb;exact hlt a ha⟩,fun x=>?_,fun x hx=>?_⟩
   ·simp only [List.mem_append,List.mem_singleton,h2]
    constructor
    ·rintro (⟨j,hj,rfl⟩ | rfl)
     ·exact ⟨j,by omega,rfl⟩
     ·exact ⟨m,by omega,rfl⟩
    ·rintro ⟨j,hj,rfl⟩
     by_cases e : j=m
     ·exact .inr (by rw [e])
     ·exact .inl ⟨j,by omega,rfl⟩
   ·simp only [List.mem_append,List.mem_singleton] at hx
    rcases hx with hx | hx
    ·exact Int.le_of_lt (hlt x hx)
    ·rw [hx];exact Int.le_refl _
  ·rw [if_neg hk,List.append_nil]
   have hm0 : 0 < m:=by
    rcases Nat.eq_zero_or_pos m with h | h
    ·subst h;exact absurd (Lib.keeps_lt_one d 0 (by omega)) hk
    ·exact h
   have he : d[m]! = d[m - 1]!:=by
    apply Classical.byContradiction
    intro h
    exact hk (Lib.keeps_pos h)
   refine ⟨h1,fun x=>?_,fun x hx=>?_⟩
   ·rw [h2]
    constructor
    ·rintro ⟨j,hj,rfl⟩;exact ⟨j,by omega,rfl⟩
    ·rintro ⟨j,hj,rfl⟩
     by_cases e : j=m
     ·subst e;exact ⟨j - 1,by omega,he.symm⟩
     ·exact ⟨j,by omega,rfl⟩
   ·have:=h3 x hx
    simp only [Nat.add_sub_cancel,he]
    exact this
theorem oU {n : Nat} {es : List Edg} (hg : inG n es) (i : Nat) : Lib.compact (((tgs es i).map fun k : Nat=>(k : Int)).mergeSort fun x y=>decide (x <= y))=(nxt n es i).map fun k : Nat=>(k : Int):=by
 obtain ⟨zs,hz⟩ : ∃ zs,zs=((tgs es i).map fun k : Nat=>(k : Int)).mergeSort fun x y=>decide (x <= y):=⟨_,rfl⟩
 rw [<- hz]
 have hp : zs.Pairwise (· <= ·):=by
  have h:=List.pairwise_mergeSort (le:=fun x y : Int=>decide (x <= y)) (fun a b c h1 h2=>by simp at *;omega) (fun a b=>by simp;omega) ((tgs es i).map fun k : Nat=>(k : Int))
  rw [<- hz] at h
  exact h.imp fun h=>by simpa using h
 have hm : ∀ x,x ∈ zs ↔ ∃ k : Nat,(i,k) ∈ es /\ (k : Int)=x:=fun x=>by
  rw [hz,List.mem_mergeSort,List.mem_map]
  simp only [s6]
 have hs : ∀ j,0 < j -> j < zs.toArray.size -> zs.toArray[j - 1]! <= zs.toArray[j]!:=fun j h1 h2=>by
  have h3 : j < zs.length:=by simpa using h2
  rw [getElem!_pos zs.toArray (j - 1) (by simpa using (by omega : j - 1 < zs.length)),getElem!_pos zs.toArray j h2]
  exact List.pairwise_iff_getElem.1 hp (j - 1) j (by omega) h3 (by omega)
 obtain ⟨h1,h2,_⟩:=j4 hs zs.length (by simp)
 refine nv h1 ?_ fun x=>?_
 ·rw [List.pairwise_map]
  have : (nxt n es i).Pairwise (· < ·):=List.Pairwise.filter _ List.pairwise_lt_range
  exact this.imp fun h=>by omega
 ·unfold Lib.compact
  rw [h2,List.mem_map]
  constructor
  ·rintro ⟨j,hj,rfl⟩
   rw [getElem!_pos zs.toArray j (by simpa using hj)]
   obtain ⟨k,k1,k2⟩:=(hm _).1 (List.getElem_mem (l:=zs) hj)
   exact ⟨k,mh.2 ⟨(hg _ k1).2,k1⟩,by simpa using k2⟩
  ·rintro ⟨k,hk,rfl⟩
   obtain ⟨j,hj,e⟩:=List.mem_iff_getElem.1 ((hm k).2 ⟨k,(mh.1 hk).2,rfl⟩)
   exact ⟨j,hj,by rw [getElem!_pos zs.toArray j (by simpa using hj)];simpa using e⟩
variable {C : CC} (hC : ao prog C)
include hC
theorem KG (n i : Int) : C 516 [.int .i64 n,.int .i64 i] (.bool (decide (0 <= i) && decide (i < n))) []:=by
 refine start hC (nf:=N516) rfl rfl ?_
 simp [N516]
 refine ab (fun h=>?_) (fun h=>?_) <;> simp at h <;> simp [h] <;> omega
theorem zY {b : Bool} {xs : List (Int × Int)} {g : Nat} {cs : List D} (p : (Int × Int) -> Bool) (hs : xs.length < 2 ^ 62) (hp : ∀ x ∈ xs,C g (.agg (knD x)::cs) (.bool (p x)) []) : C 522 [slx b (xs.map fun x=>knD x),.fn g cs] (.int .i64 (bC p xs)) []:=by
 refine start hC (nf:=N522) rfl rfl ?_
 simp [N522]
 refine aq Nat (fun i=>[(0,slx b (xs.map fun x=>knD x)),(1,.fn g cs),(7,.int .i64 xs.length),(8,.int .i64 i)]) (fun i=>i <= xs.length /\ ∀ (j : Nat) (h : j < xs.length),j < i -> p xs[j]=false) (fun i=>xs.length - i) 0 (by simp) (by simp) ?_
 rintro i ⟨hi,hj⟩
 simp
 refine ab (fun h=>?_) (fun h=>?_) <;> simp [h] <;> simp at h
 ·have hw : IntKind.wrap .i64 ((i : Int) + 1)=((i + 1 : Nat) : Int):=ai (by omega) (by omega)
  have hc:=hp _ (List.getElem_mem h)
  simp [h,knD] at hc ⊢
  refine aa hc (.inl rfl) ?_
  simp
  refine ab (fun h1=>?_) (fun h1=>?_) <;> simp [h1,hw]
  ·rw [cz hj h h1]
  ·refine ⟨i + 1,⟨by omega,fun j hl hjj=>?_⟩,by omega,rfl⟩
   rcases Nat.lt_succ_iff_lt_or_eq.1 hjj with h2 | rfl
   ·exact hj j hl h2
   ·exact h1
 ·rw [cJ (fun j hl=>hj j hl (by omega))]
theorem zR {b : Bool} {xs : List (Int × Int)} {g : Nat} {cs : List D} (p : (Int × Int) -> Bool) (hs : xs.length < 2 ^ 62) (hp : ∀ x ∈ xs,C g (.agg (knD x)::cs) (.bool (p x)) []) : C 514 [slx b (xs.map fun x=>knD x),.fn g cs] (.bool (xs.any p)) []:=by
 refine start hC (nf:=N514) rfl rfl ?_
 simp [N514]
 refine aa (zY hC p hs hp) (.inl rfl) ?_
 simp [ga]
def pR (n : Int) (e : Int × Int) : Bool:=!((decide (0 <= e.1) && decide (e.1 < n)) && (decide (0 <= e.2) && decide (e.2 < n)))
theorem za (n : Int) (e : Int × Int) : C 515 [.agg (knD e),.ptr [.int .i64 n]] (.bool (pR n e)) []:=by
 refine start hC (nf:=N515) rfl rfl ?_
 simp [N515,knD]
 refine aa (KG hC n e.1) (.inl rfl) ?_
 unfold pR
 cases h : (decide (0 <= e.1) && decide (e.1 < n))
 ·simp
 ·simp
  refine aa (KG hC n e.2) (.inl rfl) ?_
  simp
def gOk (n : Int) (es : List (Int × Int)) : Bool:=decide (0 <= n) && decide (n <= 300) && decide (es.length <= 1000) && !es.any (pR n)
theorem wA (b : Bool) (n : Int) (es : List (Int × Int)) (hl : es.length < 2 ^ 62) : C 503 [.int .i64 n,slx b (es.map knD)] (.bool (gOk n es)) []:=by
 have k1:=zR hC (b:=b) (xs:=es) (g:=515) (cs:=[.ptr [.int .i64 n]]) (pR n) hl (fun x _=>za hC n x)
 refine start hC (nf:=N503) rfl rfl ?_
 simp [N503]
 by_cases h1 : n < 0
 ·simp [h1,gOk,show ¬ 0 <= n by omega]
 by_cases h2 : 300 < n
 ·simp [h1,h2,gOk,show ¬ n <= 300 by omega]
 by_cases h3 : (1000 : Int) < es.length
 ·simp [h1,h2,h3,gOk,show ¬ es.length <= 1000 by omega]
 simp [h1,h2,h3]
 refine aa k1 (.inl rfl) ?_
 simp [gOk,show 0 <= n by omega,show n <= 300 by omega,show es.length <= 1000 by omega]
theorem Dy {n : Nat} {es : List Edg} (hn : n <= 300) (he : es.length <= 1000) (hg : inG n es) : gOk n (es.map edI)=true:=by
 unfold gOk
 simp only [Bool.and_eq_true,decide_eq_true_eq,List.length_map,Bool.not_eq_true',List.any_eq_false,List.mem_map]
 refine ⟨⟨⟨by omega,by omega⟩,he⟩,?_⟩
 rintro x ⟨e,h1,rfl⟩
 obtain ⟨h2,h3⟩:=hg e h1
 simp only [pR,edI,Bool.not_eq_true',Bool.not_eq_false',Bool.and_eq_true,decide_eq_true_eq]
 simp
 omega
end Go.Gv

namespace Go.Gv
theorem ml {α : Type} (n : Nat) (x : α) : List.replicate n x=(List.range n).map fun _=>x:=by simp [List.map_const']
theorem oe (l : List Nat) : dK l=(l.map fun k : Nat=>(k : Int)).map fun n=>[.int .i64 n]:=by simp [dK]
theorem Aa {l : List Int} : ∀ e ∈ (l.map fun n=>[D.int .i64 n]),e.length=1 /\ ∀ c ∈ e,aB c=true:=by
 intro e he
 simp only [List.mem_map] at he
 obtain ⟨k,_,rfl⟩:=he
 simp [aB]
theorem Ab {l : List Int} : ∀ e ∈ (l.map fun n=>[D.int .i64 n]),e.length=1 /\ ∀ c ∈ e,bx c=true:=by
 intro e he
 simp only [List.mem_map] at he
 obtain ⟨k,_,rfl⟩:=he
 simp [bx]
def ndD (l : List Nat) : D:=.sl (dK l)
def uF (n : Nat) (es : List Edg) : D:=.sl ((List.range n).map fun v=>[ndD (nxt n es v)])
def lZ (n : Nat) (es : List Edg) (j : Nat) : List (List D):=(List.range n).map fun v=>[.own 1 (dK (tgs (es.take j) v))]
def l9 (n : Nat) (es : List Edg) (j : Nat) : List (List D):=(List.range n).map fun v=>[.own 1 (dK (if v < j then nxt n es v else tgs es v))]
theorem eO (l : List Nat) : (dK l).length=l.length:=by simp [dK]
theorem og (l : List Nat) : (dK l).take l.length=dK l:=by rw [<- eO l];exact List.take_length
theorem p9 (l : List Nat) (k : Nat) : dK l++[[.int .i64 (k : Int)]]=dK (l++[k]):=by simp [dK]
theorem sV {l : List Nat} : ∀ e ∈ dK l,e.length=1 /\ ∀ c ∈ e,aB c=true:=by
 intro e he
 simp only [dK,List.mem_map] at he
 obtain ⟨k,_,rfl⟩:=he
 simp [aB]
theorem z7 {l : List Nat} : ∀ e ∈ dK l,e.length=1 /\ ∀ c ∈ e,bx c=true:=by
 intro e he
 simp only [dK,List.mem_map] at he
 obtain ⟨k,_,rfl⟩:=he
 simp [bx]
variable {C : CC} (hC : ao prog C)
include hC
theorem Ef (hS : SlC C) {b : Bool} {n : Nat} {es : List Edg} (hn : n <= 300) (he : es.length <= 1000) (hg : inG n es) : C 517 [.int .i64 n,slx b (es.map edK)] (uF n es) []:=by
 refine start hC (nf:=N517) rfl rfl ?_
 simp [N517]
 refine ⟨by omega,?_⟩
 refine aq Nat (fun j=>[(5,.ref (.r 10080) 0 n),(10080,.blk 1 (lZ n es j)),(11,slx b (es.map edK)),(12,.int .i64 es.length),(13,.int .i64 j)]) (fun j=>j <= es.length) (fun j=>es.length - j) 0 (by simp) (by simp [lZ,tgs,dK,ml]) ?_
 rintro j hj
 simp
 refine ab (fun h=>?_) (fun h=>?_) <;> simp [h] <;> simp at h
 ·have hw : IntKind.wrap .i64 ((j : Int) + 1)=((j + 1 : Nat) : Int):=ai (by omega) (by omega)
  have hin:=hg _ (List.getElem_mem h)
  have hr : (lZ n es j)[es[j].1]? = some [.own 1 (dK (tgs (es.take j) es[j].1))]:=by simp [lZ,hin.1]
  have hlt:=tw (es.take j) es[j].1
  have hb : (tgs (es.take j) es[j].1).length <= 1000:=by simp at hlt;omega
  have hrl : (lZ n es j).length=n:=by simp [lZ]
  have hr2 : es[j].1 < (lZ n es j).length:=by omega
  simp [h,edK,knD,aF hr,hin,hr,eO]
  refine ⟨by omega,?_⟩
  simp only [og,p9]
  have e1 : ∀ e,e ∈ dK (tgs (es.take j) es[j].1) \/ e=[.int .i64 (es[j].2 : Int)] -> ∀ c ∈ e,aB c=true:=by
   rintro e (h1 | rfl)
   ·exact (sV e h1).2
   ·simp [aB]
  have e2 : (((lZ n es j).set es[j].1 [.any]).set es[j].1 [.own 1 (dK (tgs (es.take j) es[j].1++[es[j].2]))])=lZ n es (j + 1):=by
   rw [List.set_set]
   unfold lZ
   rw [lC]
   apply List.map_congr_left
   intro v _
   rw [yq h]
   by_cases e : v=es[j].1
   ·subst e;simp
   ·rw [if_neg e,if_neg (Ne.symm e),List.append_nil]
  refine ⟨e1,?_⟩
  simp [hr2,e2]
  refine ⟨ae (by decide +kernel),?_⟩
  simp [hw]
  refine ⟨j + 1,by omega,by omega,?_,by simp⟩
  simp only [og,p9]
  rw [<- e2,List.set_set]
 ·have e0 : lZ n es j=l9 n es 0:=by
   unfold lZ l9
   rw [List.take_of_length_le h]
   simp
  rw [e0]
  refine aq Nat (fun j=>[(5,.ref (.r 10080) 0 n),(10080,.blk 1 (l9 n es j)),(32,.int .i64 n),(33,.int .i64 j)]) (fun j=>j <= n) (fun j=>n - j) 0 (by simp) (by simp) ?_
  clear e0 h hj j
  rintro j hj
  simp
  refine ab (fun h=>?_) (fun h=>?_) <;> simp [h] <;> simp at h
  ·have hw : IntKind.wrap .i64 ((j : Int) + 1)=((j + 1 : Nat) : Int):=ai (by omega) (by omega)
   have hr : (l9 n es j)[j]? = some [.own 1 (dK (tgs es j))]:=by simp [l9,h]
   have hl:=tw es j
   simp [h,aF hr,hr,eO]
   have ks:=hS.sort ((tgs es j).map fun k : Nat=>(k : Int)) (by simp;omega)
   have kc:=hS.compact (((tgs es j).map fun k : Nat=>(k : Int)).mergeSort fun x y=>decide (x <= y)) (by simp [List.length_mergeSort];omega)
   rw [oU hg,<- oe] at kc
   rw [<- oe] at ks
   have hsl : (((tgs es j).map fun k : Nat=>(k : Int)).mergeSort fun x y=>decide (x <= y)).length=(tgs es j).length:=by simp [List.length_mergeSort]
   obtain ⟨zs,hz⟩ : ∃ zs,zs=((tgs es j).map fun k : Nat=>(k : Int)).mergeSort fun x y=>decide (x <= y):=⟨_,rfl⟩
   rw [<- hz] at ks kc hsl
   have hjl : j < (l9 n es j).length:=by simp [l9,h]
   have e1 : (((l9 n es j).set j [.own 1 (zs.map fun n=>[.int .i64 n])]).set j [.any]).set j [.own 1 (dK (nxt n es j))]=l9 n es (j + 1):=by
    rw [List.set_set,List.set_set]
    unfold l9
    rw [lC]
    apply List.map_congr_left
    intro v _
    by_cases e : v=j
    ·subst e;simp
    ·rw [if_neg e]
     by_cases e2 : v < j
     ·rw [if_pos e2,if_pos (by omega)]
     ·rw [if_neg e2,if_neg (by omega)]
   refine vH ks (by rw [List.length_map,hsl,eO]) Aa ?_
   have hset : ∀ x,((l9 n es j).set j x)[j]? = some x:=fun x=>by simp [hjl]
   simp [hr,h,aF (hset _),hset]
   refine ⟨fun e he=>(Ab e (List.mem_of_mem_take he)).2,?_⟩
   have e3 : (zs.map fun n=>[D.int .i64 n]).take zs.length=zs.map fun n=>[D.int .i64 n]:=List.take_of_length_le (by simp)
   rw [e3]
   refine md kc z7 ?_
   simp [hr,h,aF (hset _),hset]
   rw [List.set_set,List.set_set] at e1
   exact ⟨fun e he=>(sV e he).2,j + 1,by omega,by omega,e1,hw⟩
  ·have e : j=n:=by omega
   subst e
   simp [l9]
   unfold uF
   rw [List.take_of_length_le (by simp)]
   congr 1
   apply List.map_congr_left
   intro v hv
   have : v < j:=by simpa using hv
   simp [this,aX,ndD]
end Go.Gv

namespace Go.Gv
def kB (t : List (Int × Int)) (i : Nat) : Bool:=fO t[i]!.1 && fO t[i]!.2 && (i == 0 || (t[i - 1]!.1 < t[i]!.1 && t[i - 1]!.2 <= t[i]!.2))
def aD (t : List (Int × Int)) : Bool:=1 <= t.length && t.length <= 100 && (List.range t.length).all (kB t)
variable {C : CC} (hC : ao prog C)
include hC
theorem kQ (b : Bool) (t : List (Int × Int)) : C 72 [slx b (t.map knD)] (.bool (aD t)) []:=by
 refine start hC (nf:=N72) rfl rfl ?_
 simp [N72]
 refine ab (fun h=>?_) (fun h=>?_) <;> simp at h
 ·simp [aD,show t.length=0 by omega]
 simp [h]
 refine ab (fun h2=>?_) (fun h2=>?_) <;> simp at h2
 ·simp [aD,h,h2]
  omega
 simp
 refine aq Nat (fun i=>[(0,slx b (t.map knD)),(13,slx b (t.map knD)),(14,.int .i64 t.length),(15,.int .i64 i)]) (fun i=>i <= t.length /\ ∀ j < i,kB t j=true) (fun i=>t.length - i) 0 (by simp) (by simp) ?_
 rintro i ⟨hi,hj⟩
 simp
 refine ab (fun h3=>?_) (fun h3=>?_) <;> simp at h3
 ·have bad : kB t i=false -> aD t=false:=fun hb=>by
   simp only [aD,Bool.and_eq_false_iff,List.all_eq_false]
   exact .inr ⟨i,by simpa using h3,by simp [hb]⟩
  have e1 : t[i]! = t[i]:=getElem!_pos t i h3
  have e2 : t[i - 1]! = t[i - 1]:=getElem!_pos t (i - 1) (by omega)
  simp only [kB,e1,e2] at bad
  have hw1 : IntKind.wrap .i64 ((i : Int) + 1)=((i + 1 : Nat) : Int):=ai (by omega) (by omega)
  have next : kB t i=true -> ∃ s' : Nat,(s' <= t.length /\ ∀ j < s',kB t j=true) /\ t.length - s' < t.length - i /\ s'=i + 1:=fun ho =>
   ⟨i + 1,⟨by omega,fun j hjj=>by
    rcases Nat.lt_succ_iff_lt_or_eq.1 hjj with h | rfl
    ·exact hj j h
    ·exact ho⟩,by omega,rfl⟩
  simp only [kB,e1,e2] at next
  simp [h3,knD]
  refine aa (wm hC _) (.inl rfl) ?_
  cases f1 : fO t[i].1
  ·simp
   exact ⟨ae (by decide +kernel),bad (by simp [f1])⟩
  simp
  refine aa (wm hC _) (.inl rfl) ?_
  cases f2 : fO t[i].2
  ·simp
   exact ⟨ae (by decide +kernel),bad (by simp [f2])⟩
  simp
  refine ab (fun h4=>?_) (fun h4=>?_) <;> simp at h4
  ·have hw : IntKind.wrap .i64 ((i : Int) - 1)=((i - 1 : Nat) : Int):=ai (by omega) (by omega)
   have h5 : i - 1 < t.length:=by omega
   simp [h4,hw,h5,knD]
   refine ab (fun h6=>?_) (fun h6=>?_) <;> simp [h6,hw,h5,knD] <;> simp at h6
   ·refine ⟨ae (by decide +kernel),bad ?_⟩
    simp [f1,f2]
    omega
   ·refine ⟨ae (by decide +kernel),ab (fun h7=>?_) (fun h7=>?_)⟩ <;> simp [h7,hw1] <;> simp at h7
    ·refine bad ?_
     simp [f1,f2]
     omega
    ·obtain ⟨s',g1,g2,rfl⟩:=next (by simp [f1,f2,h6,h7])
     exact ⟨_,g1,g2,rfl⟩
  ·have hi0 : i=0:=by omega
   subst hi0
   simp at hw1
   simp [hw1]
   refine ⟨ae (by decide +kernel),?_⟩
   obtain ⟨s',g1,g2,rfl⟩:=next (by simp [f1,f2])
   exact ⟨_,g1,g2,rfl⟩
 ·have : i=t.length:=by omega
  subst this
  simp [aD,h,h2]
  exact ⟨⟨by omega,by omega⟩,hj⟩
end Go.Gv

namespace Go.Gv
theorem fZ {t : List (Int × Int)} (h : aD t=true) : 1 <= t.length /\ t.length <= 100:=by
 simp only [aD,Bool.and_eq_true,decide_eq_true_eq] at h
 exact h.1
theorem qW {t : List (Int × Int)} (h : aD t=true) {i : Nat} (hi : i < t.length) : fO t[i].1=true /\ fO t[i].2=true /\ ∀ j,(hj : j + 1=i) -> t[j].1 < t[i].1 /\ t[j].2 <= t[i].2:=by
 simp only [aD,Bool.and_eq_true,List.all_eq_true,List.mem_range] at h
 have:=h.2 i hi
 simp only [kB,getElem!_pos t i hi,Bool.and_eq_true,Bool.or_eq_true,beq_iff_eq,decide_eq_true_eq] at this
 refine ⟨this.1.1,this.1.2,fun j hj=>?_⟩
 subst hj
 have h2:=this.2
 rw [Nat.add_sub_cancel,getElem!_pos t j (by omega)] at h2
 rcases h2 with h2 | h2
 ·omega
 ·exact h2
theorem vb {t : List (Int × Int)} (h : aD t=true) : ∀ (j i : Nat) (hi : i < t.length) (hj : j < i),t[j].1 < t[i].1:=by
 intro j i
 induction i with
 | zero=>intro _ hj;omega
 | succ i ih =>
  intro hi hj
  have h1:=((qW h hi).2.2 i rfl).1
  by_cases e : j=i
  ·subst e;exact h1
  ·have:=ih (by omega) (by omega)
   omega
variable {C : CC} (hC : ao prog C)
include hC
end Go.Gv

namespace Go.Gv
def Tw (l : List Nat) (x : Nat) : Nat:=l.findIdx fun k=>decide (x <= k)
structure oM (n : Nat) (es : List Edg) (out : List Nat) : Prop where
 lt : ∀ v ∈ out,v < n
 nd : out.Nodup
 pre : ∀ v ∈ out,∀ u,(u,v) ∈ es -> u ∈ out
theorem oM.nil (n : Nat) (es : List Edg) : oM n es []:=⟨by simp,by simp,by simp⟩
theorem oM.len {n : Nat} {es : List Edg} {out : List Nat} (h : oM n es out) : out.length <= n:=by
 have:=(List.nodup_range (n:=n)).sublist (List.Sublist.refl _)
 have hsub : out ⊆ List.range n:=fun v hv=>by simpa using h.lt v hv
 have:=List.Nodup.length_le_of_subset h.nd hsub
 simpa using this
theorem oM.step {n : Nat} {es : List Edg} {out : List Nat} (h : oM n es out) {i : Nat} (hi : i ∈ AC n es out) : oM n es (out++[i]):=by
 obtain ⟨h1,h2,h3⟩:=xm.1 hi
 refine ⟨fun v hv=>?_,?_,fun v hv u hu=>?_⟩
 ·rcases List.mem_append.1 hv with hv | hv
  ·exact h.lt v hv
  ·simp at hv;omega
 ·rw [List.nodup_append]
  refine ⟨h.nd,by simp,fun a ha b hb=>?_⟩
  simp at hb
  subst hb
  rintro rfl
  exact h2 ha
 ·rcases List.mem_append.1 hv with hv | hv
  ·exact List.mem_append.2 (.inl (h.pre v hv u hu))
  ·simp at hv
   subst hv
   exact List.mem_append.2 (.inl (h3 u hu))
variable {C : CC} (hC : ao prog C)
include hC
theorem vE (x : Int) : C 299 [.int .i64 x] (.bool false) []:=by
 refine start hC (nf:=N299) rfl rfl ?_
 simp [N299]
end Go.Gv

namespace Go.Gv
open Go.Lib
def aP (L : List Fnd) : List (List D):=L.map fj
theorem aH (L : List Fnd) : (aP L).length=L.length:=by simp [aP]
theorem j9 {L : List Fnd} {j : Nat} (h : j < L.length) : (aP L)[j]? = some [.int .i64 L[j].1,.str L[j].2]:=by simp [aP,h,fj]
theorem wv {L : List Fnd} {j : Nat} (x : Fnd) : (aP L).set j [.int .i64 x.1,.str x.2]=aP (L.set j x):=by simp [aP,fj]
theorem nX (L : List Fnd) (k : Nat) : (aP L).take k=aP (L.take k):=by simp [aP]
theorem eN (L : List Fnd) : ∀ e ∈ aP L,∀ c ∈ e,aB c=true:=by
 intro e he c hc
 obtain ⟨x,_,rfl⟩:=List.mem_map.1 he
 simp [fj] at hc
 rcases hc with rfl | rfl <;> rfl
theorem dX (L : List Fnd) : ∀ e ∈ aP L,∀ c ∈ e,bx c=true:=by
 intro e he c hc
 obtain ⟨x,_,rfl⟩:=List.mem_map.1 he
 simp [fj] at hc
 rcases hc with rfl | rfl <;> rfl
theorem cM (L : List Fnd) : ∀ e ∈ aP L,e.length=2:=by
 intro e he
 obtain ⟨x,_,rfl⟩:=List.mem_map.1 he
 rfl
structure re (C : CC) : Prop where
 scmp : ∀ a b : List UInt8,C 632 [.str a,.str b] (.int .i64 (compareBytes a b)) []
 sort : ∀ L : List Fnd,L.length < 2 ^ 62 -> (∀ x y : Fnd,C 631 [.agg (fj x),.agg (fj y)] (.int .i64 (bP x y)) []) -> C 630 [.own 2 (aP L),.fn 631 []] .any [.own 2 (aP (nl bP L)),.nilp]
section
variable {α : Type} [DecidableEq α]
theorem pO : ∀ (l : List α) (x : α),ddL (l++[x])=if l.getLast? = some x then ddL l else ddL l++[x]
 | [],x=>by simp [ddL]
 | [y],x=>by
  simp only [List.cons_append,List.nil_append,gL,List.getLast?_singleton,Option.some.injEq]
  by_cases e : y=x
  ·rw [if_pos e,if_pos e];subst e;rfl
  ·rw [if_neg e,if_neg e];rfl
 | y::z::r,x=>by
  have ih:=pO (z::r) x
  have e0 : y::z::r++[x]=y::z::(r++[x]):=rfl
  have e1 : z::r++[x]=z::(r++[x]):=rfl
  have e2 : (y::z::r).getLast? = (z::r).getLast?:=rfl
  rw [e0,gL,<- e1,ih,e2,gL]
  by_cases e : y=z
  ·rw [if_pos e,if_pos e]
  ·rw [if_neg e,if_neg e]
   split
   ·rfl
   ·rfl
theorem pP (l : List α) {m : Nat} (hm : m < l.length) (h0 : 0 < m) : ddL (l.take (m + 1))=if l[m - 1]=l[m] then ddL (l.take m) else ddL (l.take m)++[l[m]]:=by
 have e : l.take (m + 1)=l.take m++[l[m]]:=by rw [List.take_succ_eq_append_getElem hm]
 have e2 : (l.take m).getLast? = some l[m - 1]:=by
  rw [List.getLast?_eq_getElem?]
  simp only [List.length_take,Nat.min_eq_left (Nat.le_of_lt hm)]
  rw [List.getElem?_take_of_lt (by omega),List.getElem?_eq_getElem (by omega)]
 rw [e,pO,e2]
 simp only [Option.some.injEq]
theorem y7 (l : List α) : (ddL l).length <= l.length:=by
 induction l with
 | nil=>simp [ddL]
 | cons x l ih =>
  cases l with
  | nil=>simp [ddL]
  | cons y r =>
   rw [gL]
   split
   ·simp at ih ⊢;omega
   ·simp at ih ⊢;omega
end
variable {C : CC} (hC : ao prog C)
include hC
theorem vx (L : List Fnd) (k : Int) (nm : List UInt8) (hl : L.length < 2 ^ 40) : C 628 [.blk 1 [[.own 2 (aP L)]],.int .i64 k,.str nm] (.tup []) [.blk 1 [[.own 2 (aP (L++[(k,nm)]))]]]:=by
 refine sr hC (nf:=N628) rfl rfl ?_
 simp [N628,aH]
 have e : List.take L.length (aP L)=aP L:=List.take_of_length_le (by rw [aH];exact Nat.le_refl _)
 refine ⟨by omega,fun e' he c hc=>?_,by rw [e];simp [aP,fj]⟩
 rw [e] at he
 rcases he with he | rfl
 ·exact eN L e' he c hc
 ·simp at hc;rcases hc with rfl | rfl <;> rfl
theorem C5 (a b : Int) : C 267 [.int .i64 a,.int .i64 b] (.int .i64 (lV a b)) []:=by
 have k1:=vE hC a
 have k2:=vE hC b
 refine start hC (nf:=N267) rfl rfl ?_
 simp [N267]
 refine aa k1 (.inl rfl) ?_
 simp
 refine aa k2 (.inl rfl) ?_
 simp
 unfold lV
 refine ab (fun h=>?_) (fun h=>?_) <;> simp at h
 ·simp [h]
 ·have h' : ¬ a < b:=by omega
  simp [h']
  refine ab (fun h2=>?_) (fun h2=>?_) <;> simp at h2
  ·simp [h2];omega
  ·have h2' : ¬ b < a:=by omega
   simp [h2'];omega
theorem Ix (a b : Int) : C 266 [.sl [[.int .i64 a],[.int .i64 b]]] (.int .i64 (if a=0 then b else a)) []:=by
 refine start hC (nf:=N266) rfl rfl ?_
 simp [N266]
 refine aq Nat (fun j=>[(3,.int .i64 0),(6,.sl [[.int .i64 a],[.int .i64 b]]),(7,.int .i64 2),(8,.int .i64 j)]) (fun j=>j <= 2 /\ (j=1 -> a=0) /\ (j=2 -> a=0 /\ b=0)) (fun j=>2 - j) 0 (by simp) (by simp) ?_
 rintro j ⟨hj,h1,h2⟩
 simp
 rcases (show j=0 \/ j=1 \/ j=2 by omega) with rfl | rfl | rfl
 ·simp [av (show [[D.int .i64 a],[D.int .i64 b]][0]? = some [D.int .i64 a] from rfl)]
  refine ab (fun h=>?_) (fun h=>?_) <;> simp at h
  ·simp [h]
  ·simp [h]
   have hw : IntKind.wrap .i64 (1 : Int)=1:=ai (by omega) (by omega)
   simp [hw]
   exact ⟨1,by simp,by simp⟩
 ·have ha:=h1 rfl
  simp [av (show [[D.int .i64 a],[D.int .i64 b]][1]? = some [D.int .i64 b] from rfl)]
  refine ab (fun h=>?_) (fun h=>?_) <;> simp at h
  ·simp [h,ha]
  ·simp [h,ha]
   have hw : IntKind.wrap .i64 (2 : Int)=2:=ai (by omega) (by omega)
   simp [hw]
   exact ⟨2,by simp,by simp⟩
 ·obtain ⟨ha,hb⟩:=h2 rfl
  simp [ha,hb]
theorem Dt (hK : re C) (x y : Fnd) : C 631 [.agg (fj x),.agg (fj y)] (.int .i64 (bP x y)) []:=by
 have k1:=C5 hC x.1 y.1
 have k2:=hK.scmp x.2 y.2
 have k3:=Ix hC (lV x.1 y.1) (compareBytes x.2 y.2)
 refine start hC (nf:=N631) rfl rfl ?_
 simp [N631,fj]
 refine aa k1 (.inl rfl) ?_
 simp
 refine aa k2 (.inl rfl) ?_
 simp
 refine aa k3 (.inl rfl) ?_
 simp
 refine ⟨ae (by decide +kernel),?_⟩
 unfold bP
 split <;> rfl
set_option maxHeartbeats 1000000 in
theorem y5 (L : List Fnd) (hl : L.length < 2 ^ 40) : C 633 [.own 2 (aP L)] .any [.own 2 (aP (ddL L)),.nils,.nils]:=by
 refine ym hC (nf:=N633) rfl rfl (by simp) (by omega) ?_
 simp [N633,aH]
 refine ab (fun h=>?_) (fun h=>?_) <;> simp at h
 ·simp [h,aH]
  have e : ddL L=L:=by
   match L,h with
   | [],_=>rfl
   | [x],_=>rfl
   | x::y::r,h=>simp at h;omega
  rw [e]
  exact ⟨dX L,List.take_of_length_le (by rw [aH];exact Nat.le_refl _)⟩
 ·simp [h]
  refine aq Nat (fun k=>[(0,.ref (.r 10015) 0 L.length),(3,.int .i64 k),(10015,.blk 2 (aP L))]) (fun k=>1 <= k /\ k <= L.length /\ ddL (L.take k)=L.take k) (fun k=>L.length - k) 1 ⟨by omega,by omega,?_⟩ (by simp) ?_
  ·match L,h with
   | x::r,h=>simp [ddL]
  rintro k ⟨h1,h2,h3⟩
  simp
  refine ab (fun h4=>?_) (fun h4=>?_) <;> simp at h4
  ·have hw : IntKind.wrap .i64 ((k : Int) - 1)=((k - 1 : Nat) : Int):=by
    rw [show (k : Int) - 1=((k - 1 : Nat) : Int) by omega]
    exact ai (by omega) (by omega)
   have hw2 : IntKind.wrap .i64 ((k : Int) + 1)=((k + 1 : Nat) : Int):=ai (by omega) (by omega)
   simp [h4,hw,aF (j9 h4),aF (j9 (show k - 1 < L.length by omega))]
   refine ⟨by omega,ae (by decide +kernel),?_⟩
   have ht:=pP L h4 (by omega)
   refine ab (fun h5=>?_) (fun h5=>?_)
   ·have h6 : L[k - 1]=L[k]:=by
     simp only [Bool.and_eq_true,decide_eq_true_eq] at h5
     exact Prod.ext h5.1.symm h5.2.symm
    rw [if_pos h6,h3] at ht
    have h5' : (decide (L[k].1=L[k - 1].1) && decide (L[k].2=L[k - 1].2))=true:=h5
    rw [h5']
    clear h5 h5'
    simp [h4,h2,aH]
    refine aq (Nat × Nat × List Fnd) (fun s=>[(0,.ref (.r 10015) 0 L.length),(3,.int .i64 s.2.1),(4,.ref (.r 10015) k (L.length - k)),(5,.int .i64 s.1),(10015,.blk 2 (aP s.2.2))])
     (fun s=>1 <= s.1 /\ s.1 + k <= L.length /\ k <= s.2.1 /\ s.2.1 + 1 <= k + s.1 /\ s.2.2.length=L.length /\ s.2.2.take s.2.1=ddL (L.take (k + s.1)) /\ ∀ j,k + s.1 <= j + 1 -> s.2.2[j]? = L[j]?)
     (fun s=>L.length - s.1) (1,k,L) ⟨by simp,by simp;omega,by simp,by simp,rfl,by simp [ht],by simp⟩ (by simp) ?_
    rintro ⟨j,q,W⟩ ⟨a1,a2,a3,a4,a5,a6,a7⟩
    simp only at a1 a2 a3 a4 a5 a6 a7
    simp
    refine ab (fun h7=>?_) (fun h7=>?_) <;> simp at h7
    ·have hkj : k + j < L.length:=by omega
     have w1 : W[k + j]? = L[k + j]?:=a7 _ (by omega)
     have w2 : W[k + (j - 1)]? = L[k + (j - 1)]?:=a7 _ (by omega)
     have g1 : (aP W)[k + j]? = some [.int .i64 L[k + j].1,.str L[k + j].2]:=by
      unfold aP
      rw [List.getElem?_map,w1,List.getElem?_eq_getElem hkj];rfl
     have g2 : (aP W)[k + (j - 1)]? = some [.int .i64 L[k + (j - 1)].1,.str L[k + (j - 1)].2]:=by
      unfold aP
      rw [List.getElem?_map,w2,List.getElem?_eq_getElem (show k + (j - 1) < L.length by omega)];rfl
     have hv : IntKind.wrap .i64 ((j : Int) - 1)=((j - 1 : Nat) : Int):=ai (by omega) (by omega)
     have hv2 : IntKind.wrap .i64 ((j : Int) + 1)=((j + 1 : Nat) : Int):=ai (by omega) (by omega)
     have hv3 : IntKind.wrap .i64 ((q : Int) + 1)=((q + 1 : Nat) : Int):=ai (by omega) (by omega)
     simp [h7,hv,aF g1,aF g2]
     refine ⟨by omega,ae (by decide +kernel),?_⟩
     have ht2:=pP L hkj (by omega)
     refine ab (fun h8=>?_) (fun h8=>?_)
     ·have hne : L[k + j - 1] ≠ L[k + j]:=fun e=>by
       have e2 : L[k + (j - 1)]=L[k + j]:=by
        rw [<- e]
        congr 1
        omega
       rw [e2] at h8
       simp at h8
      rw [if_neg hne] at ht2
      rw [h8]
      have hq : q < L.length:=by omega
      have hqW : q < W.length:=by omega
      have e9 : (aP W)[q]'(by rw [aH];exact hqW)=[.int .i64 W[q].1,.str W[q].2]:=(List.getElem?_eq_some_iff.1 (j9 hqW)).2
      simp [h7,hv,hv2,hv3,aF g1,aH,a5,hq,e9]
      refine ⟨j + 1,q + 1,W.set q L[k + j],⟨by omega,by omega,by omega,by omega,by simp [a5],?_,fun i hi=>?_⟩,by omega,by omega,by omega,wv _⟩
      ·rw [List.take_succ_eq_append_getElem (by simp;exact hqW),List.take_set_of_le (Nat.le_refl _),a6,show k + (j + 1)=k + j + 1 by omega,ht2]
       simp
      ·rw [List.getElem?_set,if_neg (by omega)]
       exact a7 i (by omega)
     ·have heq : L[k + j - 1]=L[k + j]:=by
       have e2 : L[k + j]=L[k + (j - 1)]:=by
        simp only [Bool.or_eq_false_iff,Bool.not_eq_false',decide_eq_true_eq] at h8
        exact Prod.ext h8.1 h8.2
       rw [e2]
       congr 1
       omega
      rw [if_pos heq] at ht2
      rw [h8]
      simp [h7,hv2]
      exact ⟨j + 1,q,W,⟨by omega,by omega,by omega,by omega,a5,by rw [a6,show k + (j + 1)=k + j + 1 by omega,ht2],fun i hi=>a7 i (by omega)⟩,by omega,rfl,by omega,rfl⟩
    ·have hj : k + j=L.length:=by omega
     have a6' : W.take q=ddL L:=by rw [a6,hj,List.take_length]
     have hq : q < L.length:=by omega
     have hqW : q <= W.length:=by omega
     simp [h7,aH,a5]
     have hz : (dN (aP W) q (L.length - q) [.int .i64 0,.str []]).length=L.length:=by rw [jw (by rw [aH];omega),aH,a5]
     refine ⟨by omega,by omega,eN W,by omega,dX _,by omega,?_⟩
     unfold dN
     rw [List.append_assoc,List.take_append_of_le_length (by simp [aH];omega),List.take_take,Nat.min_self,nX,a6']
   ·have h6 : L[k - 1] ≠ L[k]:=fun e=>by
     rw [e] at h5
     simp at h5
    rw [if_neg h6,h3] at ht
    rw [h5]
    simp [h4,hw2]
    exact ⟨k + 1,by refine ⟨by omega,by omega,?_⟩;rw [ht,List.take_succ_eq_append_getElem h4],by omega,rfl⟩
  ·have ek : k=L.length:=by omega
   subst ek
   rw [List.take_length] at h3
   simp [h3,aH]
   exact ⟨dX L,List.take_of_length_le (by rw [aH];exact Nat.le_refl _)⟩
theorem tt (hK : re C) (L : List Fnd) (hl : L.length < 2 ^ 40) : C 590 [.own 2 (aP L)] .any [.own 2 (aP (dQ bP L)),.nils,.nils]:=by
 have k1:=hK.sort L (by omega) (Dt hC hK)
 have k2:=y5 hC (nl bP L) (by rw [je];exact hl)
 refine ym hC (nf:=N590) rfl rfl (by simp) (by omega) ?_
 simp [N590,aH]
 refine ⟨eN L,?_⟩
 refine tN k1 (.inl rfl) (by simp [aH,je]) (fun e he=>⟨cM _ e he,eN _ e he⟩) ?_
 simp [aH,je]
 have e : List.take L.length (aP (nl bP L))=aP (nl bP L):=List.take_of_length_le (by rw [aH,je];exact Nat.le_refl _)
 rw [e]
 refine ⟨dX _,?_⟩
 refine md k2 (fun e he=>⟨cM _ e he,dX _ e he⟩) ?_
 simp [aH]
 exact ⟨dX _,List.take_of_length_le (by rw [aH];exact Nat.le_refl _)⟩
end Go.Gv

namespace Go.Gv
def wtA (n : Nat) (f : Nat -> Nat) : List (List D):=(List.range n).map fun v=>[.int .i64 (f v : Int)]
def wt1 (n : Nat) (es : List Edg) (i j v : Nat) : Nat:=Ra es i v + (if v ∈ (nxt n es i).take j then 1 else 0)
def rd0 (n : Nat) (es : List Edg) (i : Nat) : List Nat:=(List.range i).filter fun v=>decide (Di n es [] v=0)
def wt2 (n : Nat) (es : List Edg) (out : List Nat) (i j v : Nat) : Nat:=if v ∈ (nxt n es i).take j then Di n es (out++[i]) v else Di n es out v
def rdp (n : Nat) (es : List Edg) (out : List Nat) (i j v : Nat) : Bool:=(!out.contains v && rW es out v && !(v == i)) || (((nxt n es i).take j).contains v && rW es (out++[i]) v)
def rd2 (n : Nat) (es : List Edg) (out : List Nat) (i j : Nat) : List Nat:=(List.range n).filter (rdp n es out i j)
end Go.Gv

namespace Go.Gv
def ndR (n : Nat) (es : List Edg) : List (List D):=(List.range n).map fun v=>[ndD (nxt n es v)]
variable {C : CC} (hC : ao prog C)
include hC
end Go.Gv

namespace Go.Gv
structure Lnk where
 name : List UInt8
 src : List UInt8
 dst : List UInt8
 kind : Int
 len : Int
 up : Int
 down : Int
 sect : List UInt8
 width : Int
 height : Int
 curveN : Bool
 curve : List (Int × Int)
 deriving Inhabited
def aS (l : Lnk) : List D:=[.str l.name,.str l.src,.str l.dst,.int .i64 l.kind,.int .i64 l.len,.int .i64 l.up,.int .i64 l.down,.str l.sect,.int .i64 l.width,.int .i64 l.height,slx l.curveN (l.curve.map knD)]
structure Nod where
 name : List UInt8
 kind : Int
 x : Int
 y : Int
 invert : Int
 ground : Int
 shapeN : Bool
 shape : List (Int × Int)
 prot : Bool
 reserve : Int
 deriving Inhabited
def bk (n : Nod) : List D:=[.str n.name,.int .i64 n.kind,.int .i64 n.x,.int .i64 n.y,.int .i64 n.invert,.int .i64 n.ground,slx n.shapeN (n.shape.map knD),.bool n.prot,.int .i64 n.reserve]
def cQ (n : Int) : Bool:=decide (-4194304 <= n) && decide (n <= 4194304)
variable {C : CC} (hC : ao prog C)
include hC
theorem dJ (n a b : Int) : C 172 [.int .i64 n,.int .i64 a,.int .i64 b] (.bool (decide (a <= n) && decide (n <= b))) []:=by
 refine start hC (nf:=N172) rfl rfl ?_
 simp [N172]
 refine ab (fun h=>?_) (fun h=>?_) <;> simp at h <;> simp [h] <;> omega
theorem xi (n : Int) : C 183 [.int .i64 n] (.bool (!cQ n)) []:=by
 have e : (!cQ n)=(decide (n < -4194304) || decide (4194304 < n)):=by
  rw [cQ,Bool.eq_iff_iff]
  simp only [Bool.not_eq_true',Bool.and_eq_false_iff,decide_eq_false_iff_not,Bool.or_eq_true,decide_eq_true_eq]
  omega
 rw [e]
 refine start hC (nf:=N183) rfl rfl ?_
 simp [N183]
 refine ab (fun h=>?_) (fun h=>?_) <;> simp at h <;> simp [h]
 intro _;omega
theorem pe (xs : List Int) (hl : xs.length < 2 ^ 62) : C 173 [.sl (xs.map fun n=>[.int .i64 n])] (.bool (xs.all cQ)) []:=by
 refine start hC (nf:=N173) rfl rfl ?_
 simp [N173]
 have h:=pY hC (b:=false) (xs:=xs) (g:=183) (cs:=[]) (fun n=>!cQ n) hl (fun n _=>xi hC n)
 rw [bI] at h
 refine aa h (.inl rfl) ?_
 simp
 rw [Bool.eq_iff_iff];simp
end Go.Gv

namespace Go.Gv
def cT (nm : List UInt8) (n : Nod) : Bool:=n.name == nm
def ku (nm : List UInt8) (l : Lnk) : Bool:=l.name == nm
variable {C : CC} (hC : ao prog C)
include hC
theorem p6 {b : Bool} {xs : List Nod} {g : Nat} {cs : List D} (p : Nod -> Bool) (hs : xs.length < 2 ^ 62) (hp : ∀ x ∈ xs,C g (.agg (bk x)::cs) (.bool (p x)) []) : C 175 [slx b (xs.map fun x=>bk x),.fn g cs] (.int .i64 (bC p xs)) []:=by
 refine start hC (nf:=N175) rfl rfl ?_
 simp [N175]
 refine aq Nat (fun i=>[(0,slx b (xs.map fun x=>bk x)),(1,.fn g cs),(7,.int .i64 xs.length),(8,.int .i64 i)]) (fun i=>i <= xs.length /\ ∀ (j : Nat) (h : j < xs.length),j < i -> p xs[j]=false) (fun i=>xs.length - i) 0 (by simp) (by simp) ?_
 rintro i ⟨hi,hj⟩
 simp
 refine ab (fun h=>?_) (fun h=>?_) <;> simp [h] <;> simp at h
 ·have hw : IntKind.wrap .i64 ((i : Int) + 1)=((i + 1 : Nat) : Int):=ai (by omega) (by omega)
  have hc:=hp _ (List.getElem_mem h)
  simp [h,bk] at hc ⊢
  refine aa hc (.inl rfl) ?_
  simp
  refine ab (fun h1=>?_) (fun h1=>?_) <;> simp [h1,hw]
  ·rw [cz hj h h1]
  ·refine ⟨i + 1,⟨by omega,fun j hl hjj=>?_⟩,by omega,rfl⟩
   rcases Nat.lt_succ_iff_lt_or_eq.1 hjj with h2 | rfl
   ·exact hj j hl h2
   ·exact h1
 ·rw [cJ (fun j hl=>hj j hl (by omega))]
theorem pZ {b : Bool} {xs : List Lnk} {g : Nat} {cs : List D} (p : Lnk -> Bool) (hs : xs.length < 2 ^ 62) (hp : ∀ x ∈ xs,C g (.agg (aS x)::cs) (.bool (p x)) []) : C 181 [slx b (xs.map fun x=>aS x),.fn g cs] (.int .i64 (bC p xs)) []:=by
 refine start hC (nf:=N181) rfl rfl ?_
 simp [N181]
 refine aq Nat (fun i=>[(0,slx b (xs.map fun x=>aS x)),(1,.fn g cs),(7,.int .i64 xs.length),(8,.int .i64 i)]) (fun i=>i <= xs.length /\ ∀ (j : Nat) (h : j < xs.length),j < i -> p xs[j]=false) (fun i=>xs.length - i) 0 (by simp) (by simp) ?_
 rintro i ⟨hi,hj⟩
 simp
 refine ab (fun h=>?_) (fun h=>?_) <;> simp [h] <;> simp at h
 ·have hw : IntKind.wrap .i64 ((i : Int) + 1)=((i + 1 : Nat) : Int):=ai (by omega) (by omega)
  have hc:=hp _ (List.getElem_mem h)
  simp [h,aS] at hc ⊢
  refine aa hc (.inl rfl) ?_
  simp
  refine ab (fun h1=>?_) (fun h1=>?_) <;> simp [h1,hw]
  ·rw [cz hj h h1]
  ·refine ⟨i + 1,⟨by omega,fun j hl hjj=>?_⟩,by omega,rfl⟩
   rcases Nat.lt_succ_iff_lt_or_eq.1 hjj with h2 | rfl
   ·exact hj j hl h2
   ·exact h1
 ·rw [cJ (fun j hl=>hj j hl (by omega))]
theorem zZ {b : Bool} {xs : List (Int × Int)} {g : Nat} {cs : List D} (p : (Int × Int) -> Bool) (hs : xs.length < 2 ^ 62) (hp : ∀ x ∈ xs,C g (.agg (knD x)::cs) (.bool (p x)) []) : C 185 [slx b (xs.map fun x=>knD x),.fn g cs] (.int .i64 (bC p xs)) []:=by
 refine start hC (nf:=N185) rfl rfl ?_
 simp [N185]
 refine aq Nat (fun i=>[(0,slx b (xs.map fun x=>knD x)),(1,.fn g cs),(7,.int .i64 xs.length),(8,.int .i64 i)]) (fun i=>i <= xs.length /\ ∀ (j : Nat) (h : j < xs.length),j < i -> p xs[j]=false) (fun i=>xs.length - i) 0 (by simp) (by simp) ?_
 rintro i ⟨hi,hj⟩
 simp
 refine ab (fun h=>?_) (fun h=>?_) <;> simp [h] <;> simp at h
 ·have hw : IntKind.wrap .i64 ((i : Int) + 1)=((i + 1 : Nat) : Int):=ai (by omega) (by omega)
  have hc:=hp _ (List.getElem_mem h)
  simp [h,knD] at hc ⊢
  refine aa hc (.inl rfl) ?_
  simp
  refine ab (fun h1=>?_) (fun h1=>?_) <;> simp [h1,hw]
  ·rw [cz hj h h1]
  ·refine ⟨i + 1,⟨by omega,fun j hl hjj=>?_⟩,by omega,rfl⟩
   rcases Nat.lt_succ_iff_lt_or_eq.1 hjj with h2 | rfl
   ·exact hj j hl h2
   ·exact h1
 ·rw [cJ (fun j hl=>hj j hl (by omega))]
theorem zS {b : Bool} {xs : List (Int × Int)} {g : Nat} {cs : List D} (p : (Int × Int) -> Bool) (hs : xs.length < 2 ^ 62) (hp : ∀ x ∈ xs,C g (.agg (knD x)::cs) (.bool (p x)) []) : C 179 [slx b (xs.map fun x=>knD x),.fn g cs] (.bool (xs.any p)) []:=by
 refine start hC (nf:=N179) rfl rfl ?_
 simp [N179]
 refine aa (zZ hC p hs hp) (.inl rfl) ?_
 simp [ga]
theorem mS (b1 b2 : Bool) (ns : List Nod) (ls : List Lnk) (nm : List UInt8) (hn : ns.length < 2 ^ 62) : C 169 [.agg [slx b1 (ns.map bk),slx b2 (ls.map aS)],.str nm] (.int .i64 (bC (cT nm) ns)) []:=by
 have h1 : ∀ x ∈ ns,C 176 (.agg (bk x)::[.ptr [.str nm]]) (.bool (cT nm x)) []:=fun x _=>by
  refine start hC (nf:=N176) rfl rfl ?_
  simp [N176,bk,cT]
  rw [Bool.eq_iff_iff];simp
 refine start hC (nf:=N169) rfl rfl ?_
 simp [N169]
 refine aa (p6 hC (b:=b1) _ hn h1) (.inl rfl) ?_
 simp
theorem DN (b1 b2 : Bool) (ns : List Nod) (ls : List Lnk) (nm : List UInt8) (hn : ls.length < 2 ^ 62) : C 171 [.agg [slx b1 (ns.map bk),slx b2 (ls.map aS)],.str nm] (.int .i64 (bC (ku nm) ls)) []:=by
 have h1 : ∀ x ∈ ls,C 182 (.agg (aS x)::[.ptr [.str nm]]) (.bool (ku nm x)) []:=fun x _=>by
  refine start hC (nf:=N182) rfl rfl ?_
  simp [N182,aS,ku]
  rw [Bool.eq_iff_iff];simp
 refine start hC (nf:=N171) rfl rfl ?_
 simp [N171]
 refine aa (pZ hC (b:=b2) _ hn h1) (.inl rfl) ?_
 simp
theorem Dq (b b' : Bool) (xs ys : List (Int × Int)) (hx : xs.length < 2 ^ 62) (hy : ys.length < 2 ^ 62) : C 184 [slx b (xs.map knD),slx b' (ys.map knD)] (.bool (decide (xs=ys))) []:=by
 obtain ⟨r,hr⟩ : ∃ r,r=decide (xs=ys):=⟨_,rfl⟩
 rw [<- hr]
 refine start hC (nf:=N184) rfl rfl ?_
 simp [N184]
 refine ab (fun h=>?_) (fun h=>?_) <;> simp at h <;> simp [h]
 ·rw [hr,decide_eq_false]
  intro e
  exact h (by rw [e])
 have h' : xs.length=ys.length:=by omega
 refine aq Nat (fun i=>[(0,slx b (xs.map knD)),(1,slx b' (ys.map knD)),(12,.int .i64 xs.length),(13,.int .i64 i)])
  (fun i=>i <= xs.length /\ ∀ (k : Nat) (h1 : k < xs.length) (h2 : k < ys.length),k < i -> xs[k]=ys[k]) (fun i=>xs.length - i) 0 (by simp) (by simp [h']) ?_
 rintro i ⟨hi,hok⟩
 simp
 refine ab (fun h1=>?_) (fun h1=>?_) <;> simp at h1 <;> simp [h1]
 ·have hw : IntKind.wrap .i64 ((i : Int) + 1)=((i + 1 : Nat) : Int):=ai (by omega) (by omega)
  have hy1 : i < ys.length:=by omega
  simp [h1,hy1,knD]
  refine ⟨ae (by decide +kernel),?_⟩
  by_cases h2 : xs[i]=ys[i]
  ·simp [h2,hw]
   refine ⟨i + 1,⟨by omega,fun k k1 k2 hk=>?_⟩,by omega,rfl⟩
   rcases Nat.lt_succ_iff_lt_or_eq.1 hk with h5 | rfl
   ·exact hok k k1 k2 h5
   ·exact h2
  ·have h3 : ¬ (xs[i].1=ys[i].1 /\ xs[i].2=ys[i].2):=fun e=>h2 (Prod.ext e.1 e.2)
   refine ab (fun h4=>?_) (fun h4=>?_) <;> simp at h4 <;> simp [h4]
   ·rw [hr,decide_eq_false]
    intro e
    exact h2 (by simp [e])
   ·exact absurd h4 h3
 ·rw [hr,decide_eq_true]
  exact List.ext_getElem h' fun k k1 k2=>hok k k1 k2 (by omega)
end Go.Gv

namespace Go.Gv
def iU (t : List (Int × Int)) : Int × Int:=t[t.length - 1]!
def df (t : List (Int × Int)) (hgt most : Int) : Bool:=aD t && (t[0]!.1 == 0 && t[0]!.2 == 0) && (iU t).1 == hgt && (iU t).2 <= most
def dI (s : Sec) : Bool:=br s.name && 1 <= s.height && s.height <= 32768 && 0 <= s.price && s.price <= 1073741824 && df s.area s.height 1073741824 && df s.conv s.height 1099511627776
def ip (n l : Int) : Bool:=0 <= n && n <= 4194304 && 1 <= l && l <= 16777216
def Ip (s : Sec) (fall len : Int) : Nat:=Cw ((iU s.conv).2.toNat * (iU s.conv).2.toNat * fall.toNat / len.toNat)
def wy (s : Sec) (fall len : Int) : Int × Int:=if dI s then (if ip fall len then (if 1099511627776 < Ip s fall len then (0,5) else (Ip s fall len,0)) else (0,2)) else (0,1)
theorem fW {t : List (Int × Int)} {n : Nat} (hn : n + 1=t.length) : iU t=t[n]:=by
 unfold iU
 rw [show t.length - 1=n by omega,getElem!_pos t n (by omega)]
variable {C : CC} (hC : ao prog C)
include hC
end Go.Gv

namespace Go.Gv
def aI (n a b : Int) : Bool:=decide (a <= n) && decide (n <= b)
def ja (l : Lnk) : Lnk where
 name:=l.name
 src:=l.src
 dst:=l.dst
 kind:=l.kind
 len:=if l.kind=1 then l.len else 0
 up:=l.up
 down:=if l.kind=1 \/ l.kind=4 then l.down else 0
 sect:=if l.kind=1 then l.sect else []
 width:=if l.kind=2 \/ l.kind=3 then l.width else 0
 height:=if l.kind=3 then l.height else 0
 curveN:=if l.kind=4 then l.curveN else true
 curve:=if l.kind=4 then l.curve else []
def gd (a b : Lnk) : Bool:=decide (a.name=b.name) && decide (a.src=b.src) && decide (a.dst=b.dst) && decide (a.kind=b.kind) && decide (a.len=b.len) && decide (a.up=b.up) && decide (a.down=b.down) && decide (a.sect=b.sect) && decide (a.width=b.width) && decide (a.height=b.height) && decide (a.curve=b.curve)
def gD (k : Int × Int) : Bool:=aI k.1 0 4194304 && aI k.2 0 1099511627776
def jO (l : Lnk) : Bool :=
 if l.kind=1 then aI l.len 1 16777216 && cQ l.down && br l.sect
 else if l.kind=2 then aI l.width 1 1048576
 else if l.kind=3 then aI l.width 1 32768 && aI l.height 1 32768
 else if l.kind=4 then cQ l.down && decide (l.down < l.up) && aD l.curve && !(l.curve.any fun k=>!gD k)
 else false
def dg (l : Lnk) : Bool:=br l.name && br l.src && br l.dst && !decide (l.src=l.dst) && cQ l.up && gd l (ja l) && jO l
variable {C : CC} (hC : ao prog C)
include hC
theorem Ar (l : Lnk) : C 178 [.agg (aS l)] (.agg (aS (ja l))) []:=by
 have hs : slx l.curveN (l.curve.map knD)=.nils \/ slx l.curveN (l.curve.map knD)=.sl (l.curve.map knD):=by
  unfold slx;split
  ·exact .inl rfl
  ·exact .inr rfl
 have e0 : D.nils=slx true []:=rfl
 refine start hC (nf:=N178) rfl rfl ?_
 simp [N178,aS,ja]
 refine ab (fun h=>?_) (fun h=>?_) <;> simp at h <;> simp [h]
 ·exact ⟨ae (by decide +kernel),e0⟩
 refine ab (fun h2=>?_) (fun h2=>?_) <;> simp at h2 <;> simp [h,h2]
 ·exact e0
 refine ab (fun h3=>?_) (fun h3=>?_) <;> simp at h3 <;> simp [h,h2,h3]
 ·exact ⟨ae (by decide +kernel),e0⟩
 refine ab (fun h4=>?_) (fun h4=>?_) <;> simp at h4 <;> simp [h,h2,h3,h4]
 ·rcases hs with hs | hs <;> rw [hs] <;> simp
  ·refine ⟨ae (by decide +kernel),?_⟩
   simp [h4,hs]
  ·refine ⟨ae (by decide +kernel),?_⟩
   simp [h4,hs]
 ·exact e0
set_option maxRecDepth 8000 in
set_option maxHeartbeats 2000000 in
theorem AM (a b : Lnk) (ha : a.curve.length < 2 ^ 62) (hb : b.curve.length < 2 ^ 62) : C 177 [.agg (aS a),.agg (aS b)] (.bool (gd a b)) []:=by
 have he:=Dq hC a.curveN b.curveN a.curve b.curve ha hb
 refine start hC (nf:=N177) rfl rfl ?_
 simp [N177,aS]
 refine ab (fun h0=>?_) (fun h0=>?_) <;> simp at h0 <;> simp [h0]
 rotate_left
 ·simp [gd,h0]
 refine ab (fun h1=>?_) (fun h1=>?_) <;> simp at h1 <;> simp [h1]
 rotate_left
 ·simp [gd,h1]
 refine ab (fun h2=>?_) (fun h2=>?_) <;> simp at h2 <;> simp [h2]
 rotate_left
 ·simp [gd,h2]
 refine ab (fun h3=>?_) (fun h3=>?_) <;> simp at h3 <;> simp [h3]
 rotate_left
 ·simp [gd,h3]
 refine ab (fun h4=>?_) (fun h4=>?_) <;> simp at h4 <;> simp [h4]
 rotate_left
 ·simp [gd,h4]
 refine ab (fun h5=>?_) (fun h5=>?_) <;> simp at h5 <;> simp [h5]
 rotate_left
 ·simp [gd,h5]
 refine ab (fun h6=>?_) (fun h6=>?_) <;> simp at h6 <;> simp [h6]
 rotate_left
 ·simp [gd,h6]
 refine ab (fun h7=>?_) (fun h7=>?_) <;> simp at h7 <;> simp [h7]
 rotate_left
 ·simp [gd,h7]
 refine ab (fun h8=>?_) (fun h8=>?_) <;> simp at h8 <;> simp [h8]
 rotate_left
 ·simp [gd,h8]
 refine ab (fun h9=>?_) (fun h9=>?_) <;> simp at h9 <;> simp [h9]
 rotate_left
 ·simp [gd,h9]
 refine aa he (.inl rfl) ?_
 simp [gd,h0,h1,h2,h3,h4,h5,h6,h7,h8,h9]
theorem uM (k : Int × Int) : C 180 [.agg (knD k)] (.bool (!gD k)) []:=by
 refine start hC (nf:=N180) rfl rfl ?_
 simp [N180,knD]
 refine aa (dJ hC k.1 0 4194304) (.inl rfl) ?_
 have e1 : (decide (0 <= k.1) && decide (k.1 <= 4194304))=aI k.1 0 4194304:=rfl
 rw [e1]
 cases h : aI k.1 0 4194304
 ·simp [gD,h]
 simp
 refine aa (dJ hC k.2 0 1099511627776) (.inl rfl) ?_
 have e2 : (decide (0 <= k.2) && decide (k.2 <= 1099511627776))=aI k.2 0 1099511627776:=rfl
 rw [e2]
 simp [gD,h]
theorem w8 (l : Lnk) (hc : l.curve.length < 2 ^ 62) : C 170 [.agg (aS l)] (.bool (dg l)) []:=by
 have hp : (ja l).curve.length < 2 ^ 62:=by
  simp only [ja];split
  ·exact hc
  ·simp
 have k1:=gG hC l.name
 have k2:=gG hC l.src
 have k3:=gG hC l.dst
 have k4:=pe hC [l.up] (by simp)
 have k5:=Ar hC l
 have k6:=AM hC l (ja l) hc hp
 obtain ⟨q,hq⟩ : ∃ q,q=gd l (ja l):=⟨_,rfl⟩
 rw [<- hq] at k6
 simp only [aS] at k5 k6
 have kf : ∀ b,jO l=b -> (b=false \/ (br l.name=true /\ br l.src=true /\ br l.dst=true /\ ¬ l.src=l.dst /\ cQ l.up=true /\ q=true)) -> dg l=b:=fun b h1 h2=>by
  rcases h2 with rfl | ⟨a1,a2,a3,a4,a5,a6⟩
  ·simp [dg,h1]
  ·simp [dg,h1,a1,a2,a3,a4,a5,<- hq,a6]
 refine start hC (nf:=N170) rfl rfl ?_
 simp [N170,aS]
 refine aa k1 (.inl rfl) ?_
 cases h1 : br l.name
 ·simp
  refine ⟨ae (by decide +kernel),?_⟩
  simp [dg,h1]
 simp
 refine aa k2 (.inl rfl) ?_
 cases h2 : br l.src
 ·simp
  refine ⟨ae (by decide +kernel),?_⟩
  simp [dg,h2]
 simp
 refine aa k3 (.inl rfl) ?_
 cases h3 : br l.dst
 ·simp
  refine ⟨ae (by decide +kernel),?_⟩
  simp [dg,h3]
 simp
 refine ab (fun h4=>?_) (fun h4=>?_) <;> simp at h4 <;> simp [h4]
 ·refine ⟨ae (by decide +kernel),?_⟩
  simp [dg,h4]
 refine aa k4 (.inl rfl) ?_
 cases h5 : cQ l.up
 ·simp [h5]
  refine ⟨ae (by decide +kernel),?_⟩
  simp [dg,h5]
 simp [h5]
 refine aa k5 (.inr rfl) ?_
 simp
 refine aa k6 (.inl rfl) ?_
 cases h6 : q
 ·simp
  refine ⟨ae (by decide +kernel),?_⟩
  simp [dg,<- hq,h6]
 simp
 refine ⟨ae (by decide +kernel),?_⟩
 have hk : dg l=jO l:=kf _ rfl (.inr ⟨h1,h2,h3,h4,h5,h6⟩)
 rw [hk]
 obtain ⟨r,hr⟩ : ∃ r,r=jO l:=⟨_,rfl⟩
 rw [<- hr]
 unfold jO at hr
 clear k1 k2 k3 k4 k5 k6 hk kf
 have lh : ∀ n a b : Int,(decide (a <= n) && decide (n <= b))=aI n a b:=fun _ _ _=>rfl
 have kd:=pe hC [l.down] (by simp)
 refine ab (fun h7=>?_) (fun h7=>?_) <;> simp at h7 <;> simp [h7]
 ·rw [if_pos h7] at hr
  refine aa (dJ hC l.len 1 16777216) (.inl rfl) ?_
  rw [lh]
  cases a1 : aI l.len 1 16777216
  ·simp [hr,a1]
  simp
  refine aa kd (.inl rfl) ?_
  cases a2 : cQ l.down
  ·simp [a2,hr]
  simp [a2]
  refine aa (gG hC l.sect) (.inl rfl) ?_
  simp [hr,a1,a2]
 rw [if_neg h7] at hr
 refine ab (fun h8=>?_) (fun h8=>?_) <;> simp at h8 <;> simp [h8]
 ·rw [if_pos h8] at hr
  refine aa (dJ hC l.width 1 1048576) (.inl rfl) ?_
  rw [lh]
  simp [hr]
 rw [if_neg h8] at hr
 refine ab (fun h9=>?_) (fun h9=>?_) <;> simp at h9 <;> simp [h9]
 ·rw [if_pos h9] at hr
  refine aa (dJ hC l.width 1 32768) (.inl rfl) ?_
  rw [lh]
  cases a1 : aI l.width 1 32768
  ·simp [hr,a1]
  simp
  refine aa (dJ hC l.height 1 32768) (.inl rfl) ?_
  rw [lh]
  simp [hr,a1]
 rw [if_neg h9] at hr
 refine ab (fun h10=>?_) (fun h10=>?_) <;> simp at h10 <;> simp [h10]
 ·rw [if_pos h10] at hr
  refine aa kd (.inl rfl) ?_
  cases a2 : cQ l.down
  ·simp [a2,hr]
  simp [a2]
  refine ab (fun h11=>?_) (fun h11=>?_) <;> simp at h11 <;> simp [h11]
  ·refine aa (kQ hC l.curveN l.curve) (.inl rfl) ?_
   cases a3 : aD l.curve
   ·simp [hr,a3]
   simp
   refine aa (zS hC (b:=l.curveN) (xs:=l.curve) (g:=180) (cs:=[]) (fun k=>!gD k) hc (fun k _=>uM hC k)) (.inl rfl) ?_
   simp [hr,a2,h11,a3]
  ·have : ¬ l.down < l.up:=by omega
   simp [hr,this]
 ·rw [if_neg h10] at hr
  simp [hr]
end Go.Gv

namespace Go.Gv
def mq (n : Nod) : Bool:=!(decide (n.ground <= n.invert)) && df n.shape (n.ground - n.invert) 1125899906842624 && !(decide (n.kind=1) && n.prot) && (if n.prot then aI n.reserve 0 (iU n.shape).2 else decide (n.reserve=0))
def xz (n : Nod) : Bool:=decide (n.invert <= n.ground) && decide (n.shape.length=0) && !n.prot && decide (n.reserve=0)
def iz (n : Nod) : Bool:=br n.name && aI n.x (-16777216) 16777216 && aI n.y (-16777216) 16777216 && cQ n.invert && cQ n.ground && (if n.kind=1 \/ n.kind=2 then mq n else if n.kind=3 then xz n else false)
variable {C : CC} (hC : ao prog C)
include hC
theorem qP (b : Bool) (t : List (Int × Int)) (hgt : Int) : C 174 [slx b (t.map knD),.int .i64 hgt] (.bool (df t hgt 1125899906842624)) []:=by
 refine start hC (nf:=N174) rfl rfl ?_
 simp [N174]
 refine aa (kQ hC b t) (.inl rfl) ?_
 cases hv : aD t
 ·simp [df,hv]
 obtain ⟨l1,l2⟩:=fZ hv
 obtain ⟨n,hn⟩ : ∃ n,n + 1=t.length:=⟨t.length - 1,by omega⟩
 have e1 : IntKind.wrap .i64 ((t.length : Int) - 1)=(n : Int):=ai (by omega) (by omega)
 have hnl : n < t.length:=by omega
 have h0 : 0 < t.length:=by omega
 have e0 : t[0]! = t[0]:=getElem!_pos t 0 h0
 simp [e1,hnl,h0,knD]
 rw [df,fW hn,e0,hv]
 have ez : (decide (t[0].fst=0) && decide (t[0].snd=0))=(t[0].1 == 0 && t[0].2 == 0):=by rw [Bool.eq_iff_iff];simp
 rw [<- ez]
 cases hz : (decide (t[0].fst=0) && decide (t[0].snd=0))
 ·simp
 simp
 refine ab (fun c=>?_) (fun c=>?_)
 ·simp at c
  simp [c]
 ·simp at c
  simp [c]
theorem Am (n : Nod) : C 168 [.agg (bk n)] (.bool (iz n)) []:=by
 have lh : ∀ n a b : Int,(decide (a <= n) && decide (n <= b))=aI n a b:=fun _ _ _=>rfl
 have k1:=gG hC n.name
 have k2:=dJ hC n.x (-16777216) 16777216
 have k3:=dJ hC n.y (-16777216) 16777216
 have k4:=pe hC [n.invert,n.ground] (by simp)
 rw [lh] at k2 k3
 obtain ⟨q,hq⟩ : ∃ q,q=iz n:=⟨_,rfl⟩
 rw [<- hq]
 unfold iz at hq
 refine start hC (nf:=N168) rfl rfl ?_
 simp [N168,bk]
 refine aa k1 (.inl rfl) ?_
 cases h1 : br n.name
 ·simp [hq,h1]
 simp
 refine aa k2 (.inl rfl) ?_
 cases h2 : aI n.x (-16777216) 16777216
 ·simp [hq,h2]
 simp
 refine aa k3 (.inl rfl) ?_
 cases h3 : aI n.y (-16777216) 16777216
 ·simp [hq,h3]
 simp
 refine aa k4 (.inl rfl) ?_
 cases h4 : cQ n.invert
 ·simp [hq,h4]
 cases h5 : cQ n.ground
 ·simp [hq,h4,h5]
 simp [h4,h5]
 rw [h1,h2,h3,h4,h5] at hq
 simp only [Bool.true_and] at hq
 have b1 : -4194304 <= n.invert /\ n.invert <= 4194304:=by simpa [cQ] using h4
 have b2 : -4194304 <= n.ground /\ n.ground <= 4194304:=by simpa [cQ] using h5
 have e1 : IntKind.wrap .i64 (n.ground - n.invert)=n.ground - n.invert:=ai rfl (by omega)
 refine ab (fun hk1=>?_) (fun hk1=>?_) <;> simp at hk1 <;> simp [hk1]
 ·rw [if_pos (by omega),mq] at hq
  refine ab (fun c1=>?_) (fun c1=>?_) <;> simp at c1 <;> simp [c1]
  ·simp [hq,c1]
  have c1' : ¬ n.ground <= n.invert:=by omega
  simp [e1]
  refine aa (qP hC n.shapeN n.shape (n.ground - n.invert)) (.inl rfl) ?_
  cases c2 : df n.shape (n.ground - n.invert) 1125899906842624
  ·simp [hq,c2]
  simp [hk1]
  cases c3 : n.prot
  ·simp [hq,c1',c2,c3]
  ·simp [hq,c3,hk1]
 refine ab (fun hk2=>?_) (fun hk2=>?_) <;> simp at hk2 <;> simp [hk2,hk1]
 ·rw [if_pos (by omega),mq] at hq
  refine ab (fun c1=>?_) (fun c1=>?_) <;> simp at c1 <;> simp [c1]
  ·simp [hq,c1]
  have c1' : ¬ n.ground <= n.invert:=by omega
  simp [e1]
  refine aa (qP hC n.shapeN n.shape (n.ground - n.invert)) (.inl rfl) ?_
  cases c2 : df n.shape (n.ground - n.invert) 1125899906842624
  ·simp [hq,c2]
  simp [hk2]
  cases c3 : n.prot
  ·simp [hq,c1',c2,c3]
  have hv : aD n.shape=true:=by
   simp only [df,Bool.and_eq_true] at c2
   exact c2.1.1.1
  obtain ⟨l1,l2⟩:=fZ hv
  obtain ⟨m,hm⟩ : ∃ m,m + 1=n.shape.length:=⟨n.shape.length - 1,by omega⟩
  have e2 : IntKind.wrap .i64 ((n.shape.length : Int) - 1)=(m : Int):=ai (by omega) (by omega)
  have hml : m < n.shape.length:=by omega
  simp [e2,hml,knD]
  have kb:=dJ hC n.reserve 0 n.shape[m].2
  rw [lh] at kb
  refine aa kb (.inl rfl) ?_
  simp
  refine ⟨ae (by decide +kernel),?_⟩
  simp [hq,c1',c2,c3,hk2,fW hm]
 rw [if_neg (by omega)] at hq
 refine ab (fun hk3=>?_) (fun hk3=>?_) <;> simp at hk3 <;> simp [hk3]
 ·rw [if_pos hk3,xz] at hq
  refine ab (fun c1=>?_) (fun c1=>?_) <;> simp at c1 <;> simp [c1]
  ·refine ab (fun c2=>?_) (fun c2=>?_) <;> simp at c2 <;> simp [c2]
   ·cases c3 : n.prot
    ·simp [hq,c1,c2,c3]
    ·simp [hq,c3]
   ·simp [hq,c2]
  ·have : ¬ n.invert <= n.ground:=by omega
   simp [hq,this]
 ·rw [if_neg hk3] at hq
  simp [hq]
end Go.Gv

namespace Go.Gv
def iy (ns : List Nod) (i : Nat) : Bool:=iz ns[i]! && decide (bC (cT ns[i]!.name) ns=(i : Int))
def iQ (ns : List Nod) (nm : List UInt8) : Bool:=decide (0 <= bC (cT nm) ns) && !decide (ns[(bC (cT nm) ns).toNat]!.kind=3)
def fK (ns : List Nod) (ls : List Lnk) (i : Nat) : Bool:=dg ls[i]! && decide (bC (ku ls[i]!.name) ls=(i : Int)) && iQ ns ls[i]!.src && decide (0 <= bC (cT ls[i]!.dst) ns)
def bZ (ns : List Nod) (ls : List Lnk) : Bool:=decide (ns.length <= 300) && decide (ls.length <= 400) && (List.range ns.length).all (iy ns) && (List.range ls.length).all (fK ns ls)
theorem mg {α : Type} {p : α -> Bool} {xs : List α} (h : 0 <= bC p xs) : (bC p xs).toNat < xs.length:=by
 unfold bC at h ⊢
 cases e : xs.findIdx? p with
 | none=>rw [e] at h;simp at h
 | some i =>
  simp
  obtain ⟨h1,_⟩:=List.findIdx?_eq_some_iff_getElem.1 e
  exact h1
variable {C : CC} (hC : ao prog C)
include hC
theorem mi (b1 b2 : Bool) (ns : List Nod) (ls : List Lnk) (hcv : ∀ l ∈ ls,l.curve.length < 2 ^ 62) : C 164 [.agg [slx b1 (ns.map bk),slx b2 (ls.map aS)]] (.bool (bZ ns ls)) []:=by
 obtain ⟨r,hr⟩ : ∃ r,r=bZ ns ls:=⟨_,rfl⟩
 rw [<- hr]
 unfold bZ at hr
 refine start hC (nf:=N164) rfl rfl ?_
 simp [N164]
 refine ab (fun c=>?_) (fun c=>?_) <;> simp at c <;> simp [c]
 ·simp [hr,show ¬ ns.length <= 300 by omega]
 refine ab (fun c2=>?_) (fun c2=>?_) <;> simp at c2 <;> simp [c2]
 ·simp [hr,show ¬ ls.length <= 400 by omega]
 rw [decide_eq_true (show ns.length <= 300 by omega),decide_eq_true (show ls.length <= 400 by omega)] at hr
 simp only [Bool.true_and] at hr
 have badN : ∀ i,i < ns.length -> iy ns i=false -> r=false:=fun i hi h=>by
  rw [hr,Bool.and_eq_false_iff]
  exact .inl (List.all_eq_false.2 ⟨i,by simpa using hi,by simp [h]⟩)
 have badL : ∀ i,i < ls.length -> fK ns ls i=false -> r=false:=fun i hi h=>by
  rw [hr,Bool.and_eq_false_iff]
  exact .inr (List.all_eq_false.2 ⟨i,by simpa using hi,by simp [h]⟩)
 refine aq Nat (fun i=>[(1,.ptr [slx b1 (ns.map bk),slx b2 (ls.map aS)]),(19,slx b1 (ns.map bk)),(20,.int .i64 ns.length),(21,.int .i64 i)]) (fun i=>i <= ns.length /\ ∀ j < i,iy ns j=true) (fun i=>ns.length - i) 0 (by simp) (by simp) ?_
 rintro i ⟨hi,hj⟩
 simp
 refine ab (fun h=>?_) (fun h=>?_) <;> simp at h <;> simp [h]
 ·have hw : IntKind.wrap .i64 ((i : Int) + 1)=((i + 1 : Nat) : Int):=ai (by omega) (by omega)
  have bad:=badN i h
  have e1 : ns[i]! = ns[i]:=getElem!_pos ns i h
  simp only [iy,e1] at bad
  have k1:=Am hC ns[i]
  have k2:=mS hC b1 b2 ns ls ns[i].name (by omega)
  simp only [bk] at k1
  simp [bk,h]
  refine aa k1 (.inl rfl) ?_
  cases g1 : iz ns[i]
  ·simp
   exact bad (by simp [g1])
  simp
  refine aa k2 (.inl rfl) ?_
  simp
  refine ab (fun g2=>?_) (fun g2=>?_) <;> simp at g2 <;> simp [g2]
  ·exact bad (by simp [g2])
  ·simp [hw]
   refine ⟨i + 1,⟨by omega,fun k hk=>?_⟩,by omega,by simp⟩
   rcases Nat.lt_succ_iff_lt_or_eq.1 hk with h5 | rfl
   ·exact hj k h5
   ·simp [iy,e1,g1,g2]
 have hall : (List.range ns.length).all (iy ns)=true:=by
  rw [List.all_eq_true]
  intro k hk
  exact hj k (by simp at hk;omega)
 rw [hall,Bool.true_and] at hr
 clear badN hall hj
 refine aq Nat (fun i=>[(1,.ptr [slx b1 (ns.map bk),slx b2 (ls.map aS)]),(39,slx b2 (ls.map aS)),(40,.int .i64 ls.length),(41,.int .i64 i)]) (fun i=>i <= ls.length /\ ∀ j < i,fK ns ls j=true) (fun i=>ls.length - i) 0 (by simp) (by simp) ?_
 clear h hi i
 rintro i ⟨hi,hj⟩
 simp
 refine ab (fun h=>?_) (fun h=>?_) <;> simp at h <;> simp [h]
 ·have hw : IntKind.wrap .i64 ((i : Int) + 1)=((i + 1 : Nat) : Int):=ai (by omega) (by omega)
  have bad:=badL i h
  have e1 : ls[i]! = ls[i]:=getElem!_pos ls i h
  simp only [fK,e1] at bad
  have k1:=w8 hC ls[i] (hcv _ (List.getElem_mem h))
  have k2:=DN hC b1 b2 ns ls ls[i].name (by omega)
  have k3:=mS hC b1 b2 ns ls ls[i].src (by omega)
  have k4:=mS hC b1 b2 ns ls ls[i].dst (by omega)
  have next : fK ns ls i=true -> ∃ s' : Nat,(s' <= ls.length /\ ∀ j < s',fK ns ls j=true) /\ ls.length - s' < ls.length - i /\ (i : Int) + 1=s':=fun hl=>by
   refine ⟨i + 1,⟨by omega,fun k hk=>?_⟩,by omega,by simp⟩
   rcases Nat.lt_succ_iff_lt_or_eq.1 hk with h5 | rfl
   ·exact hj k h5
   ·exact hl
  simp only [fK,e1] at next
  simp only [aS] at k1
  simp [aS,h]
  refine aa k1 (.inl rfl) ?_
  cases g1 : dg ls[i]
  ·simp
   exact bad (by simp [g1])
  simp
  refine aa k2 (.inl rfl) ?_
  simp
  refine ab (fun g2=>?_) (fun g2=>?_) <;> simp at g2 <;> simp [g2]
  ·exact bad (by simp [g2])
  refine aa k3 (.inl rfl) ?_
  simp
  refine ab (fun g3=>?_) (fun g3=>?_) <;> simp at g3 <;> simp [g3]
  ·exact bad (by simp [iQ,show ¬ 0 <= bC (cT ls[i].src) ns by omega])
  have g3' : ¬ bC (cT ls[i].src) ns < 0:=by omega
  refine aa k4 (.inl rfl) ?_
  simp
  refine ab (fun g4=>?_) (fun g4=>?_) <;> simp at g4 <;> simp [g4]
  ·exact bad (by simp [show ¬ 0 <= bC (cT ls[i].dst) ns by omega])
  have g4' : ¬ bC (cT ls[i].dst) ns < 0:=by omega
  have hf:=mg g3
  obtain ⟨f,hfe⟩:=Int.eq_ofNat_of_zero_le g3
  rw [hfe] at hf ⊢
  simp at hf
  have e2 : ns[f]! = ns[f]:=getElem!_pos ns f hf
  have hfo : iQ ns ls[i].src=!decide (ns[f].kind=3):=by
   simp [iQ,hfe,e2]
  simp [hf,bk]
  refine ab (fun g5=>?_) (fun g5=>?_) <;> simp at g5 <;> simp [g5]
  ·exact bad (by simp [hfo,g5])
  ·simp [hw]
   exact next (by simp [hfo,g5,g1,g2,g4])
 ·have hall : (List.range ls.length).all (fK ns ls)=true:=by
   rw [List.all_eq_true]
   intro k hk
   exact hj k (by simp at hk;omega)
  rw [hr,hall]
end Go.Gv

namespace Go.Gv
def Tu (n : Nat) (es : List Edg) : Int:=if (qv n es).length < n then 22 else 0
def Tv (n : Nat) (es : List Edg) : D:=if (qv n es).length < n then .nils else ndD (qv n es)
def Mw (n : Nat) (es : List Edg) : Bool:=decide ((es.map (·.1)).Nodup) && decide ((qv n es).length=n)
def Mn (es : List Edg) (j : Nat) : List Nat:=(es.take j).map (·.1)
@[simp] theorem SF (es : List Edg) : Mn es 0=[]:=rfl
def edT (es : List Edg) (j : Nat) : List (List D):=(es.take j).map edK
theorem vU {es : List Edg} {j : Nat} (h : j < es.length) : edT es (j + 1)=edT es j++[edK es[j]]:=by
 unfold edT
 rw [List.take_succ_eq_append_getElem h,List.map_append]
 rfl
@[simp] theorem SQ (es : List Edg) : edT es 0=[]:=rfl
theorem sM {es : List Edg} {j : Nat} (h : j <= es.length) : (edT es j).length=j:=by simp [edT];omega
theorem zj (es : List Edg) : edT es es.length=es.map edK:=by simp [edT]
theorem IZ (es : List Edg) (j : Nat) : (edT es j).map (fun e=>e.map aX)=edT es j:=by
 unfold edT
 rw [List.map_map]
 apply List.map_congr_left
 intro e _
 simp [edK,knD,aX]
def S5 (n : Nat) (es : List Edg) (j : Nat) : List (List D):=(List.range n).map fun v=>[.bool (decide (v ∈ Mn es j))]
def dD (ns : List Nod) (ls : List Lnk) : List Edg:=ls.map fun l=>((bC (cT l.src) ns).toNat,(bC (cT l.dst) ns).toNat)
theorem gM (ns : List Nod) (ls : List Lnk) : (dD ns ls).length=ls.length:=by simp [dD]
theorem cZ {ns : List Nod} {ls : List Lnk} (h : bZ ns ls=true) : ns.length <= 300 /\ ls.length <= 400:=by
 simp only [bZ,Bool.and_eq_true,decide_eq_true_eq] at h
 exact ⟨h.1.1.1,h.1.1.2⟩
theorem lv {ns : List Nod} {ls : List Lnk} (h : bZ ns ls=true) {i : Nat} (hi : i < ls.length) : dg ls[i]=true /\ bC (ku ls[i].name) ls=(i : Int) /\ 0 <= bC (cT ls[i].src) ns /\ 0 <= bC (cT ls[i].dst) ns:=by
 simp only [bZ,Bool.and_eq_true,List.all_eq_true,List.mem_range] at h
 have:=h.2 i hi
 simp only [fK,getElem!_pos ls i hi,iQ,Bool.and_eq_true,decide_eq_true_eq] at this
 exact ⟨this.1.1.1,this.1.1.2,this.1.2.1,this.2⟩
theorem ot {ns : List Nod} {ls : List Lnk} (h : bZ ns ls=true) {i : Nat} (hi : i < ns.length) : iz ns[i]=true /\ bC (cT ns[i].name) ns=(i : Int):=by
 simp only [bZ,Bool.and_eq_true,List.all_eq_true,List.mem_range] at h
 have:=h.1.2 i hi
 simpa only [iy,getElem!_pos ns i hi,Bool.and_eq_true,decide_eq_true_eq] using this
theorem oZ {ns : List Nod} {ls : List Lnk} (h : bZ ns ls=true) : inG ns.length (dD ns ls):=by
 intro e he
 simp only [dD,List.mem_map] at he
 obtain ⟨l,hl,rfl⟩:=he
 obtain ⟨i,hi,rfl⟩:=List.mem_iff_getElem.1 hl
 obtain ⟨_,_,h1,h2⟩:=lv h hi
 exact ⟨mg h1,mg h2⟩
variable {C : CC} (hC : ao prog C)
include hC
theorem xq (b1 b2 : Bool) (ns : List Nod) (ls : List Lnk) (hv : bZ ns ls=true) : C 499 [.agg [slx b1 (ns.map bk),slx b2 (ls.map aS)]] (.sl ((dD ns ls).map edK)) []:=by
 obtain ⟨hl1,hl2⟩:=cZ hv
 refine start hC (nf:=N499) rfl rfl ?_
 simp [N499]
 refine aq Nat (fun j=>[(1,.ptr [slx b1 (ns.map bk),slx b2 (ls.map aS)]),(3,.ref (.r 10048) 0 j),(10048,.blk 2 (edT (dD ns ls) j)),(7,slx b2 (ls.map aS)),(8,.int .i64 ls.length),(9,.int .i64 j)]) (fun j=>j <= ls.length) (fun j=>ls.length - j) 0 (by simp) (by simp) ?_
 rintro j hj
 simp
 refine ab (fun h=>?_) (fun h=>?_) <;> simp [h] <;> simp at h
 ·have hw : IntKind.wrap .i64 ((j : Int) + 1)=((j + 1 : Nat) : Int):=ai (by omega) (by omega)
  obtain ⟨_,_,g1,g2⟩:=lv hv h
  have k1:=mS hC b1 b2 ns ls ls[j].src (by omega)
  have k2:=mS hC b1 b2 ns ls ls[j].dst (by omega)
  have hjl : j < (dD ns ls).length:=by rw [gM];exact h
  have el:=sM (es:=dD ns ls) (j:=j) (by omega)
  simp [h,aS,el]
  refine aa k1 (.inl rfl) ?_
  simp
  refine aa k2 (.inl rfl) ?_
  simp [el]
  refine ⟨by omega,ae (by decide +kernel),j + 1,by omega,by omega,rfl,?_,hw⟩
  have e2 : (edT (dD ns ls) j).take j=edT (dD ns ls) j:=List.take_of_length_le (by omega)
  rw [e2,vU hjl]
  congr 2
  simp only [dD,List.getElem_map,edK,knD]
  rw [Int.toNat_of_nonneg g1,Int.toNat_of_nonneg g2]
 ·have ej : j=ls.length:=by omega
  subst ej
  have e0:=zj (dD ns ls)
  have el:=sM (es:=dD ns ls) (j:=ls.length) (by rw [gM];exact Nat.le_refl _)
  rw [gM] at e0
  simp [IZ,el]
  rw [<- e0,List.take_of_length_le (by omega)]
theorem vk (b1 b2 : Bool) (ns : List Nod) (ls : List Lnk) (hcv : ∀ l ∈ ls,l.curve.length < 2 ^ 62) : C 471 [.agg [slx b1 (ns.map bk),slx b2 (ls.map aS)]] (.tup (if bZ ns ls then [.sl ((dD ns ls).map edK),.int .i64 0] else [.nils,.int .i64 1])) []:=by
 refine start hC (nf:=N471) rfl rfl ?_
 simp [N471]
 refine aa (mi hC b1 b2 ns ls hcv) (.inl rfl) ?_
 cases hv : bZ ns ls
 ·simp
 ·simp
  refine aa (xq hC b1 b2 ns ls hv) (.inr rfl) ?_
  simp
theorem wD {b : Bool} {xs : List Lnk} {g : Nat} {cs : List D} (p : Lnk -> Bool) (hs : xs.length < 2 ^ 62) (hp : ∀ x ∈ xs,C g (.agg (aS x)::cs) (.bool (p x)) []) : C 455 [slx b (xs.map fun x=>aS x),.fn g cs] (.bool (xs.any p)) []:=by
 refine start hC (nf:=N455) rfl rfl ?_
 simp [N455]
 refine aa (pZ hC p hs hp) (.inl rfl) ?_
 simp [ga]
theorem wE {b : Bool} {xs : List Nod} {g : Nat} {cs : List D} (p : Nod -> Bool) (hs : xs.length < 2 ^ 62) (hp : ∀ x ∈ xs,C g (.agg (bk x)::cs) (.bool (p x)) []) : C 453 [slx b (xs.map fun x=>bk x),.fn g cs] (.bool (xs.any p)) []:=by
 refine start hC (nf:=N453) rfl rfl ?_
 simp [N453]
 refine aa (p6 hC p hs hp) (.inl rfl) ?_
 simp [ga]
def CH (ns : List Nod) (ls : List Lnk) : Bool:=bZ ns ls && ls.all (fun l=>decide (l.kind=1)) && Mw ns.length (dD ns ls)
end Go.Gv

namespace Go.Gv
abbrev Sp:=Int × Int
def I7 (n : Int) : Bool:=decide (-72057594037927936 <= n) && decide (n <= 72057594037927936)
def SB (s : Sp) : Bool:=decide (s.1 <= s.2) && I7 s.1 && I7 s.2
def SC (s : Sp) : Bool:=decide (s.1 < 0) || decide (1099511627776 < s.2)
def Bi (l : List Sp) (count : Int) : Int:=if l.any (fun s=>!SB s) then 1 else if (l.length : Int)=count then (if l.any SC then 2 else 0) else 3
def Mm (a b : Sp) : Sp:=(IntKind.wrap .i64 (a.1 + b.1),IntKind.wrap .i64 (a.2 + b.2))
abbrev FSt:=(Nat -> Sp) × (Nat -> Sp)
def I4 (i k : Nat) (e : Edg) (s : FSt) : FSt:=if e.1=i then (fun v=>if v=e.2 then Mm (s.1 e.2) (s.1 i) else s.1 v,fun q=>if q=k then s.1 i else s.2 q) else s
def flI (es : List Edg) (i : Nat) (s : FSt) : Nat -> FSt
 | 0=>s
 | k + 1=>I4 i k es[k]! (flI es i s k)
def flO (es : List Edg) (ord : List Nat) (s : FSt) : Nat -> FSt
 | 0=>s
 | m + 1=>flI es ord[m]! (flO es ord s m) es.length
def flS (l : List Sp) : FSt:=(fun v=>l[v]!,fun _=>(0,0))
def mJ (n : Nat) (es : List Edg) (l : List Sp) : List Sp:=(List.range es.length).map (flO es (qv n es) (flS l) (qv n es).length).2
def Ic (l : List Sp) : Bool:=l.any fun s=>decide (1099511627776 < s.2)
def wt (n : Nat) (es : List Edg) (l : List Sp) : Int:=if Ic (mJ n es l) then 5 else 0
def RE (n : Nat) (es : List Edg) (l : List Sp) : D:=if Ic (mJ n es l) then .nils else .sl ((mJ n es l).map knD)
def spR (n : Nat) (f : Nat -> Sp) : List (List D):=(List.range n).map fun v=>knD (f v)
variable {C : CC} (hC : ao prog C)
include hC
def CM (ns : List Nod) (ls : List Lnk) (l : List Sp) : Int:=if CH ns ls then (if Bi l ns.length=0 then wt ns.length (dD ns ls) l else Bi l ns.length) else 1
def QR (ns : List Nod) (ls : List Lnk) (l : List Sp) : D:=if CM ns ls l=0 then .sl ((mJ ns.length (dD ns ls) l).map knD) else .nils
end Go.Gv

namespace Go.Gv
def wS (s : Sp) : Sp:=(IntKind.wrap .i64 s.1,IntKind.wrap .i64 s.2)
def adS (a b : Sp) : Sp:=(a.1 + b.1,a.2 + b.2)
def Ms (P : Nat -> Bool) (o : Nat -> Sp) : Nat -> Sp
 | 0=>(0,0)
 | k + 1=>if P k then adS (Ms P o k) (o k) else Ms P o k
theorem yj {es : List Edg} (h : (es.map (·.1)).Nodup) {k k' : Nat} (hk : k < es.length) (hk' : k' < es.length) (e : es[k].1=es[k'].1) : k=k':=by
 have h1 : k < (es.map (·.1)).length:=by simpa using hk
 have h2 : k' < (es.map (·.1)).length:=by simpa using hk'
 have:=(List.getElem_inj (xs:=es.map (·.1)) (i:=k) (j:=k') (h₀:=h1) (h₁:=h2) h).1 (by simpa using e)
 exact this
def inT (es : List Edg) (v : Nat) (done : List Nat) (k : Nat) : Bool:=decide (es[k]!.2=v) && done.contains es[k]!.1
def Ia (es : List Edg) (fl : List Sp) (s0 : Sp) (v : Nat) : Nat -> Sp
 | 0=>s0
 | k + 1=>if es[k]!.2=v then Mm (Ia es fl s0 v k) fl[k]! else Ia es fl s0 v k
end Go.Gv

namespace Go.Gv
def qU (f : Nat -> Int) : Nat -> Int
 | 0=>0
 | k + 1=>qU f k + f k
def stp (es : List Edg) (v : Nat) : Option Nat:=(es.find? fun e=>e.1 == v).map (·.2)
def wat (es : List Edg) : Nat -> Nat -> Option Nat
 | 0,v=>some v
 | m + 1,v=>(wat es m v).bind (stp es)
def upB (n : Nat) (es : List Edg) (v x : Nat) : Bool:=(List.range n).any fun m=>wat es m v == some x
theorem EK {es : List Edg} (hnd : (es.map (·.1)).Nodup) {y z : Nat} (h : (y,z) ∈ es) : stp es y=some z:=by
 unfold stp
 cases e : es.find? (fun e=>e.1 == y) with
 | none =>
  have:=List.find?_eq_none.1 e _ h
  simp at this
 | some p =>
  have h1:=List.find?_some e
  have h2:=List.mem_of_find?_eq_some e
  obtain ⟨a,b⟩:=p
  simp at h1
  subst h1
  obtain ⟨k,hk,ek⟩:=List.getElem_of_mem h
  obtain ⟨j,hj,ej⟩:=List.getElem_of_mem h2
  have:=yj hnd hk hj (by rw [ek,ej])
  subst this
  rw [ek] at ej
  cases ej
  rfl
def TB (n : Nat) (es : List Edg) (g : Nat -> Int) (m x : Nat) : Int:=qU (fun v=>if wat es m v=some x then g v else 0) n
def upS (n : Nat) (es : List Edg) (g : Nat -> Int) (x : Nat) : Int:=qU (fun v=>if upB n es v x=true then g v else 0) n
end Go.Gv

namespace Go.Gv
inductive Pth (es : List Edg) : Nat -> Nat -> Prop
 | refl (v : Nat) : Pth es v v
 | step {u v w : Nat} : (u,v) ∈ es -> Pth es v w -> Pth es u w
theorem Pth.snoc {es : List Edg} {u v w : Nat} (h : Pth es u v) (e : (v,w) ∈ es) : Pth es u w:=by
 induction h with
 | refl v=>exact .step e (.refl _)
 | step e' _ ih=>exact .step e' (ih e)
theorem Pth.trans {es : List Edg} {u v w : Nat} (h : Pth es u v) (h2 : Pth es v w) : Pth es u w:=by
 induction h with
 | refl v=>exact h2
 | step e _ ih=>exact .step e (ih h2)
def RR (es : List Edg) (fr : List Nat) (v : Nat) : Prop:=∃ s ∈ fr,Pth es s v
noncomputable def rB (es : List Edg) (fr : List Nat) (v : Nat) : Bool:=@decide (RR es fr v) (Classical.propDecidable _)
theorem rZ {es : List Edg} {fr : List Nat} {v : Nat} : rB es fr v=true ↔ RR es fr v:=by
 unfold rB
 exact @decide_eq_true_iff _ (Classical.propDecidable _)
theorem uO {es : List Edg} {fr : List Nat} {out : Nat -> Bool} (h1 : ∀ v,out v=true -> RR es fr v) (h2 : ∀ s ∈ fr,out s=true) (h3 : ∀ u w,(u,w) ∈ es -> out u=true -> out w=true) (v : Nat) : out v=rB es fr v:=by
 have key : ∀ {u w : Nat},Pth es u w -> out u=true -> out w=true:=fun {u w} h=>by
  induction h with
  | refl v=>exact _root_.id
  | step e _ ih=>exact fun hu=>ih (h3 _ _ e hu)
 rw [Bool.eq_iff_iff,rZ]
 refine ⟨h1 v,fun ⟨s,hs,hp⟩=>key hp (h2 s hs)⟩
def bu (n : Nat) (f : Nat -> Bool) : List (List D):=(List.range n).map fun v=>[.bool (f v)]
theorem cm (n : Nat) (f : Nat -> Bool) : (bu n f).length=n:=by simp [bu]
theorem cY {n v : Nat} (f : Nat -> Bool) (h : v < n) : (bu n f)[v]? = some [.bool (f v)]:=by simp [bu,h]
theorem gJ {n v : Nat} (f : Nat -> Bool) (x : Bool) : (bu n f).set v [.bool x]=bu n fun u=>if u=v then x else f u:=by
 unfold bu
 rw [lC]
 apply List.map_congr_left
 intro u _
 by_cases h : u=v <;> simp [h]
theorem gk {n : Nat} {f g : Nat -> Bool} (h : ∀ v,v < n -> f v=g v) : bu n f=bu n g:=by
 unfold bu
 apply List.map_congr_left
 intro v hv
 rw [h v (by simpa using hv)]
theorem yU (n : Nat) (f : Nat -> Bool) : (bu n f).map (fun e=>e.map aX)=bu n f:=by
 unfold bu
 rw [List.map_map]
 apply List.map_congr_left
 intro v _
 simp [aX]
def wtS (f : Nat -> Nat) : Nat -> Nat
 | 0=>0
 | k + 1=>wtS f k + f k
theorem oJ {f g : Nat -> Nat} : ∀ {K : Nat},(∀ k,k < K -> f k=g k) -> wtS f K=wtS g K
 | 0,_=>rfl
 | K + 1,h=>by unfold wtS;rw [oJ (K:=K) (fun k hk=>h k (by omega)),h K (by omega)]
theorem tz {f g : Nat -> Nat} {i : Nat} : ∀ {K : Nat},i < K -> (∀ k,k ≠ i -> g k=f k) -> g i=0 -> wtS f K=wtS g K + f i
 | 0,h,_,_=>by omega
 | K + 1,h,h1,h2=>by
  unfold wtS
  by_cases e : K=i
  ·subst e
   rw [oJ (f:=g) (g:=f) (fun k hk=>h1 k (by omega)),h2]
   omega
  ·rw [tz (f:=f) (g:=g) (K:=K) (by omega) h1 h2,h1 K e]
   omega
theorem yw {f : Nat -> Nat} {B : Nat} : ∀ {K : Nat},(∀ k,k < K -> f k <= B) -> wtS f K <= K * B
 | 0,_=>by simp [wtS]
 | K + 1,h=>by
  have:=yw (K:=K) (fun k hk=>h k (by omega))
  have:=h K (by omega)
  unfold wtS
  rw [Nat.add_mul]
  omega
end Go.Gv

namespace Go.Gv
variable {C : CC} (hC : ao prog C)
include hC
theorem yN (b : Bool) (xs : List Int) (h2 : xs.length < 2 ^ 40) : C 42 [slx b (xs.map fun n=>[.int .i64 n])] .any [.own 1 (xs.map fun n=>[.int .i64 n])]:=by
 cases xs with
 | nil =>
  cases b with
  | true =>
   show C 42 [.nils] .any [.own 1 []]
   refine sq hC (nf:=N42) rfl rfl ?_
   simp [N42]
  | false =>
   show C 42 [.sl []] .any [.own 1 []]
   refine sq hC (nf:=N42) rfl rfl ?_
   simp [N42]
 | cons x xs =>
  have e : slx b ((x::xs).map fun n=>[D.int .i64 n])=.sl ((x::xs).map fun n=>[D.int .i64 n]):=by cases b <;> rfl
  rw [e]
  obtain ⟨l,hl⟩ : ∃ l,l=x::xs:=⟨_,rfl⟩
  rw [<- hl] at h2 ⊢
  have h : 0 < l.length:=by rw [hl];simp
  refine sq hC (nf:=N42) rfl rfl ?_
  simp [N42]
  refine ⟨fun _=>?_,fun h0=>?_⟩
  ·have : l.length < 1099511627776:=h2
   omega
  ·subst h0
   simp at h
end Go.Gv

namespace Go.Gv
def uo (n : Nat) (es : List Edg) (out : Nat -> Bool) : Nat:=wtS (fun v=>if out v=true then 0 else 1 + (nxt n es v).length) n
theorem uq {n : Nat} {es : List Edg} {out : Nat -> Bool} {i : Nat} (hi : i < n) (ho : out i=false) : uo n es out=uo n es (fun u=>if u=i then true else out u) + (1 + (nxt n es i).length):=by
 unfold uo
 rw [tz (f:=fun v=>if out v=true then 0 else 1 + (nxt n es v).length) (g:=fun v=>if (if v=i then true else out v)=true then 0 else 1 + (nxt n es v).length) hi (fun k hk=>by simp only [if_neg hk]) (by simp)]
 simp [ho]
theorem Ae (n : Nat) (es : List Edg) (out : Nat -> Bool) : uo n es out <= n * (1 + n):=by
 refine yw fun k _=>?_
 have:=ta n es k
 split <;> omega
theorem wQ (l : List Nat) : dK l=(l.map fun k : Nat=>(k : Int)).map fun n=>[.int .i64 n]:=by simp [dK]
variable {C : CC} (hC : ao prog C)
include hC
set_option maxHeartbeats 2000000 in
theorem AD {b : Bool} {n : Nat} {es : List Edg} (hn : n <= 300) (hg : inG n es) (fr : List Nat) (hf : ∀ s ∈ fr,s < n) (hl : fr.length <= 1000) : C 521 [uF n es,slx b (dK fr)] (.sl (bu n (rB es fr))) []:=by
 have k1:=yN hC b (fr.map fun k : Nat=>(k : Int)) (by simp;omega)
 rw [<- wQ] at k1
 obtain ⟨R,hR,hRg⟩ : ∃ R,uF n es=.sl R /\ ∀ v,v < n -> R[v]? = some [ndD (nxt n es v)]:=⟨_,rfl,fun v hv=>by simp [hv]⟩
 have hRl : R.length=n:=by
  have:=congrArg (fun d=>match d with | .sl r=>r.length | _=>0) hR
  simpa [uF] using this.symm
 rw [hR]
 refine start hC (nf:=N521) rfl rfl ?_
 simp [N521,hRl]
 refine ⟨by omega,?_⟩
 refine tM k1 ?_
 simp [eO]
 refine aq ((Nat -> Bool) × List Nat × List (List D)) (fun s=>[(0,.sl R),(5,.ref (.r 10080) 0 n),(10080,.blk 1 (bu n s.1)),(6,.ref (.r 10096) 0 s.2.1.length),(10096,.blk 1 s.2.2)])
  (fun s=>s.2.2.take s.2.1.length=dK s.2.1 /\ (∀ v,s.1 v=true -> RR es fr v) /\ (∀ v ∈ s.2.1,v < n /\ RR es fr v) /\ (∀ v ∈ fr,s.1 v=true \/ v ∈ s.2.1) /\ (∀ u w,(u,w) ∈ es -> s.1 u=true -> s.1 w=true \/ w ∈ s.2.1) /\ s.2.1.length + uo n es s.1 <= 1000 + n * (1 + n))
  (fun s=>s.2.1.length + uo n es s.1) ((fun _=>false),fr,dK fr) ⟨by simp [<- eO fr],by simp,fun v hv=>⟨hf v hv,v,hv,.refl v⟩,fun v hv=>.inr hv,by simp,by have:=Ae n es (fun _=>false);simp only;omega⟩ (by simp [bu,ml]) ?_
 rintro ⟨out,st,rows⟩ ⟨i1,i2,i3,i4,i5,i6⟩
 simp only at i1 i2 i3 i4 i5 i6
 simp
 refine ab (fun h=>?_) (fun h=>?_) <;> simp at h
 ·obtain ⟨st',i,rfl⟩ : ∃ st' i,st=st'++[i]:=by
   rcases List.eq_nil_or_concat st with e | ⟨l,x,e⟩
   ·rw [e] at h;simp at h
   ·exact ⟨l,x,by simpa using e⟩
  obtain ⟨m,hm⟩ : ∃ m,m=st'.length:=⟨_,rfl⟩
  have hlen : (st'++[i]).length=m + 1:=by simp [hm]
  rw [hlen] at i1 i6
  have hrl : m + 1 <= rows.length:=by
   have:=congrArg List.length i1
   rw [List.length_take,eO,hlen] at this
   omega
  have hg1 : rows[m]? = some [.int .i64 (i : Int)]:=by
   have:=congrArg (fun l=>l[m]?) i1
   simp only [List.getElem?_take,if_pos (Nat.lt_succ_self m)] at this
   rw [this]
   simp [dK,hm]
  have hg2 : rows.take m=dK st':=by
   have:=congrArg (List.take m) i1
   rw [List.take_take,Nat.min_eq_left (by omega)] at this
   rw [this]
   simp [dK,hm,List.take_left' ]
  have hi:=i3 i (by simp)
  have h300 : n * (1 + n) <= 300 * 301:=Nat.mul_le_mul hn (by omega)
  have hwm : IntKind.wrap .i64 (m : Int)=(m : Int):=ai rfl (by omega)
  simp only [hlen]
  simp [hwm,aF hg1,hg1]
  refine ⟨hi.1,?_⟩
  simp [aF (cY out hi.1),cY out hi.1]
  refine ab (fun ho=>?_) (fun ho=>?_) <;> simp at ho
  ·have hstep:=uq (es:=es) hi.1 ho
   have hnl:=ta n es i
   simp [hi.1,cm,aF (cY out hi.1),cY out hi.1,av (hRg i hi.1),hRg i hi.1,hRl,ndD]
   have hb1 : 1 <= ((bu n out)[i]'(by rw [cm];exact hi.1)).length:=by simp [bu]
   have hfl : ∀ e ∈ dK (nxt n es i),e.length=1 /\ ∀ c ∈ e,aB c=true:=fun e he=>by
    obtain ⟨k,_,rfl⟩:=List.mem_map.1 he
    simp [aB]
   refine ⟨hb1,hfl,by omega,by rw [eO];omega,fun u=>if u=i then true else out u,st'++nxt n es i,rows.take m++dK (nxt n es i),⟨?_,fun v hv=>?_,fun v hv=>?_,fun v hv=>?_,fun u w e hu=>?_,?_⟩,?_,?_,?_,?_⟩
   ·rw [hg2,List.take_of_length_le (by simp [dK])];simp [dK]
   ·by_cases e : v=i
    ·rw [e];exact hi.2
    ·simp only [if_neg e] at hv;exact i2 v hv
   ·rcases List.mem_append.1 hv with h1 | h1
    ·exact i3 v (by simp [h1])
    ·obtain ⟨h2,h3⟩:=mh.1 h1
     obtain ⟨s0,hs0,hp⟩:=hi.2
     exact ⟨h2,s0,hs0,hp.snoc h3⟩
   ·rcases i4 v hv with h1 | h1
    ·left;simp only;split <;> simp [h1]
    ·rcases List.mem_append.1 h1 with h2 | h2
     ·exact .inr (by simp [h2])
     ·rw [List.mem_singleton.1 h2];exact .inl (by simp)
   ·by_cases e2 : u=i
    ·subst e2
     exact .inr (List.mem_append.2 (.inr (mh.2 ⟨(hg _ e).2,e⟩)))
    ·simp only [if_neg e2] at hu
     rcases i5 u w e hu with h1 | h1
     ·left;simp only;split <;> simp [h1]
     ·rcases List.mem_append.1 h1 with h2 | h2
      ·exact .inr (by simp [h2])
      ·rw [List.mem_singleton.1 h2];exact .inl (by simp)
   ·rw [List.length_append];omega
   ·rw [List.length_append];omega
   ·have e9 : ((bu n out)[i]'(by rw [cm];exact hi.1)).tail=[]:=by simp [bu]
    rw [e9]
    exact gJ out true
   ·rw [eO,List.length_append,hm]
   ·trivial
  ·simp
   refine ⟨out,st',rows,⟨by rw [<- hm];exact hg2,i2,fun v hv=>i3 v (by simp [hv]),fun v hv=>?_,fun u w e hu=>?_,by omega⟩,by omega,rfl,by omega,rfl⟩
   ·rcases i4 v hv with h1 | h1
    ·exact .inl h1
    ·rcases List.mem_append.1 h1 with h2 | h2
     ·exact .inr h2
     ·rw [List.mem_singleton.1 h2];exact .inl ho
   ·rcases i5 u w e hu with h1 | h1
    ·exact .inl h1
    ·rcases List.mem_append.1 h1 with h2 | h2
     ·exact .inr h2
     ·rw [List.mem_singleton.1 h2];exact .inl ho
 ·have hst : st=[]:=by
   cases st with
   | nil=>rfl
   | cons x l=>simp at h
  subst hst
  simp at i4 i5
  have hcl:=uO i2 (fun s hs=>i4 s hs) (fun u w e hu=>i5 u w e hu)
  simp [h]
  rw [yU,List.take_of_length_le (by rw [cm];exact Nat.le_refl _)]
  exact ⟨by simp [cm],gk fun v _=>hcl v⟩
end Go.Gv

namespace Go.Gv
variable {C : CC} (hC : ao prog C)
include hC
theorem xN (c : Int) : C 78 [.int .u8 c] (.bool (ii c)) []:=by
 refine start hC (nf:=N78) rfl rfl ?_
 simp [N78,ii]
 refine ab (fun h=>?_) (fun h=>?_) <;> simp at h <;> simp [h] <;> omega
theorem oA (c : Int) : C 62 [.int .u8 c] (.bool (eS c)) []:=by
 refine start hC (nf:=N62) rfl rfl ?_
 simp [N62,eS]
 repeat' (refine ab (fun h=>?_) (fun h=>?_) <;> simp at h <;> simp [h] <;> try omega)
theorem AL (s : List UInt8) (hs : s.length < 2 ^ 62) : C 63 [.str s,.int .i64 0] (.int .i64 (ce s)) []:=by
 refine start hC (nf:=N63) rfl rfl ?_
 simp [N63]
 refine aq Nat (fun i=>[(0,.str s),(1,.int .i64 i)]) (fun i=>i <= ce s) (fun i=>ce s - i) 0 (by simp) (by simp) ?_
 intro i hi
 have hle : ce s <= s.length:=nB s
 by_cases hl : i < s.length
 ·simp [hl]
  refine aa (oA hC _) (.inl rfl) ?_
  have hstep : eT s[i]=true -> i + 1 <= ce s:=kU hl hi
  have hstop : eT s[i]=false -> i=ce s:=kV hl hi
  simp only [eT] at hstep hstop
  have hw : IntKind.wrap .i64 ((i : Int) + 1)=((i + 1 : Nat) : Int):=ai (by omega) (by omega)
  cases h1 : eS s[i].toNat with
  | true =>
   simp [h1,hw] at hstep ⊢
   exact ⟨i + 1,by omega,by omega,rfl⟩
  | false =>
   simp [h1,hl]
   refine aa (xN hC _) (.inl rfl) ?_
   cases h2 : ii s[i].toNat with
   | true =>
    simp [h1,h2,hw] at hstep ⊢
    exact ⟨i + 1,by omega,by omega,rfl⟩
   | false =>
    simp [hl]
    refine ab (fun h3=>?_) (fun h3=>?_) <;> simp at h3
    ·simp [hw,hl]
     have:=hstep (by simp [show s[i].toNat=95 by omega])
     exact ⟨i + 1,this,by omega,rfl⟩
    ·have h4 : ¬ s[i].toNat=95:=by omega
     simp [h1,h2,h4] at hstop ⊢
     omega
 ·simp [hl]
  have : i=ce s:=by omega
  omega
theorem gT (s : List UInt8) : C 54 [.str s] (.bool (br s)) []:=by
 refine start hC (nf:=N54) rfl rfl ?_
 simp [N54]
 refine ab (fun h=>?_) (fun h=>?_) <;> simp at h
 ·subst h
  simp [br]
 ·have hp : 0 < s.length:=List.length_pos_iff.2 h
  simp [h,hp]
  refine ab (fun h2=>?_) (fun h2=>?_) <;> simp at h2
  ·simp [h2,br]
   omega
  ·simp [h2,hp]
   refine aa (oA hC _) (.inl rfl) ?_
   simp
   cases h3 : eS s[0].toNat
   ·simp [h3,br,h,hp]
   ·simp [h3,h2]
    refine aa (AL hC s (by omega)) (.inl rfl) ?_
    simp [br,h,h3,show s.length <= 20 by omega,hp,Int.ofNat_inj]
    rw [Bool.eq_iff_iff];simp
theorem oB (n : Int) : C 79 [.int .i64 n] (.bool (fO n)) []:=by
 refine start hC (nf:=N79) rfl rfl ?_
 simp [N79,fO]
 refine ab (fun h=>?_) (fun h=>?_) <;> simp at h <;> simp [h] <;> omega
theorem qD (b : Bool) (t : List (Int × Int)) : C 64 [slx b (t.map knD)] (.bool (aD t)) []:=by
 refine start hC (nf:=N64) rfl rfl ?_
 simp [N64]
 refine ab (fun h=>?_) (fun h=>?_) <;> simp at h
 ·simp [aD,show t.length=0 by omega]
 simp [h]
 refine ab (fun h2=>?_) (fun h2=>?_) <;> simp at h2
 ·simp [aD,h,h2]
  omega
 simp
 refine aq Nat (fun i=>[(0,slx b (t.map knD)),(3,.int .i64 i)]) (fun i=>i <= t.length /\ ∀ j < i,kB t j=true) (fun i=>t.length - i) 0 (by simp) (by simp) ?_
 rintro i ⟨hi,hj⟩
 simp
 refine ab (fun h3=>?_) (fun h3=>?_) <;> simp at h3
 ·have bad : kB t i=false -> aD t=false:=fun hb=>by
   simp only [aD,Bool.and_eq_false_iff,List.all_eq_false]
   exact .inr ⟨i,by simpa using h3,by simp [hb]⟩
  have e1 : t[i]! = t[i]:=getElem!_pos t i h3
  have e2 : t[i - 1]! = t[i - 1]:=getElem!_pos t (i - 1) (by omega)
  simp only [kB,e1,e2] at bad
  have hw1 : IntKind.wrap .i64 ((i : Int) + 1)=((i + 1 : Nat) : Int):=ai (by omega) (by omega)
  have next : kB t i=true -> ∃ s' : Nat,(s' <= t.length /\ ∀ j < s',kB t j=true) /\ t.length - s' < t.length - i /\ s'=i + 1:=fun ho =>
   ⟨i + 1,⟨by omega,fun j hjj=>by
    rcases Nat.lt_succ_iff_lt_or_eq.1 hjj with h | rfl
    ·exact hj j h
    ·exact ho⟩,by omega,rfl⟩
  simp only [kB,e1,e2] at next
  simp [h3,knD]
  refine aa (oB hC _) (.inl rfl) ?_
  cases f1 : fO t[i].1
  ·simp
   exact bad (by simp [f1])
  simp [h3,knD]
  refine aa (oB hC _) (.inl rfl) ?_
  cases f2 : fO t[i].2
  ·simp
   exact bad (by simp [f2])
  simp [h3,knD]
  refine ab (fun h4=>?_) (fun h4=>?_) <;> simp at h4
  ·have hw : IntKind.wrap .i64 ((i : Int) - 1)=((i - 1 : Nat) : Int):=ai (by omega) (by omega)
   have h5 : i - 1 < t.length:=by omega
   simp [h4,hw,h5,h3,knD]
   refine ab (fun h6=>?_) (fun h6=>?_) <;> simp [h6,hw,h5,h3,knD] <;> simp at h6
   ·refine ⟨ae (by decide +kernel),bad ?_⟩
    simp [f1,f2]
    omega
   ·refine ⟨ae (by decide +kernel),?_⟩
    refine ab (fun h7=>?_) (fun h7=>?_) <;> simp [h7,hw1] <;> simp at h7
    ·refine bad ?_
     simp [f1,f2]
     omega
    ·obtain ⟨s',g1,g2,rfl⟩:=next (by simp [f1,f2,h6,h7])
     exact ⟨_,g1,g2,rfl⟩
  ·have hi0 : i=0:=by omega
   subst hi0
   simp at hw1
   simp [hw1]
   refine ⟨ae (by decide +kernel),?_⟩
   obtain ⟨s',g1,g2,rfl⟩:=next (by simp [f1,f2])
   exact ⟨_,g1,g2,rfl⟩
 ·have : i=t.length:=by omega
  subst this
  simp [aD,h,h2]
  exact ⟨⟨by omega,by omega⟩,hj⟩
end Go.Gv

namespace Go.Gv
def jL (l : List (Int × Int)) : Bool:=aD l && decide (0 <= l[0]!.1) && decide ((iU l).1 <= 4194304) && decide (0 <= l[0]!.2) && decide ((iU l).2 <= 1099511627776)
def wU (l : Lnk) : Bool :=
 if l.kind=1 then aI l.len 1 16777216 && br l.sect && decide (l.width=0) && decide (l.height=0) && decide (l.curve.length=0)
 else if l.kind=2 then decide (l.len=0) && decide (l.down=0) && decide (l.sect=[]) && aI l.width 1 1048576 && decide (l.height=0) && decide (l.curve.length=0)
 else if l.kind=3 then decide (l.len=0) && decide (l.down=0) && decide (l.sect=[]) && aI l.width 1 32768 && aI l.height 1 32768 && decide (l.curve.length=0)
 else if l.kind=4 then decide (l.len=0) && decide (l.down < l.up) && decide (l.sect=[]) && decide (l.width=0) && decide (l.height=0) && jL l.curve
 else false
def oj (l : Lnk) : Bool:=br l.name && br l.src && br l.dst && !decide (l.src=l.dst) && cQ l.up && cQ l.down && wU l
variable {C : CC} (hC : ao prog C)
include hC
theorem kG (n : Int) : C 199 [.int .i64 n] (.bool (cQ n)) []:=by
 refine start hC (nf:=N199) rfl rfl ?_
 simp [N199,cQ]
 refine ab (fun h=>?_) (fun h=>?_) <;> simp at h <;> simp [h] <;> omega
theorem jo (n a : Int) : C 200 [.int .i64 n,.int .i64 a] (.bool (aI n 1 a)) []:=by
 refine start hC (nf:=N200) rfl rfl ?_
 simp [N200,aI]
 refine ab (fun h=>?_) (fun h=>?_) <;> simp at h <;> simp [h] <;> omega
theorem xM (b : Bool) (t : List (Int × Int)) : C 201 [slx b (t.map knD)] (.bool (jL t)) []:=by
 refine start hC (nf:=N201) rfl rfl ?_
 simp [N201]
 refine aa (qD hC b t) (.inl rfl) ?_
 cases hv : aD t
 ·simp [jL,hv]
 obtain ⟨l1,l2⟩:=fZ hv
 obtain ⟨n,hn⟩ : ∃ n,n + 1=t.length:=⟨t.length - 1,by omega⟩
 have e1 : IntKind.wrap .i64 ((t.length : Int) - 1)=(n : Int):=ai (by omega) (by omega)
 have hnl : n < t.length:=by omega
 have h0 : 0 < t.length:=by omega
 have e0 : t[0]! = t[0]:=getElem!_pos t 0 h0
 rw [jL,hv,e0,fW hn]
 simp [h0,knD]
 refine ab (fun c1=>?_) (fun c1=>?_) <;> simp at c1 <;> simp [c1,e1,hnl,knD,h0]
 ·refine ab (fun c2=>?_) (fun c2=>?_) <;> simp at c2 <;> simp [c2,e1,hnl,knD,h0]
  ·refine ab (fun c3=>?_) (fun c3=>?_) <;> simp at c3 <;> simp [c3,e1,hnl,knD,h0]
   ·omega
   ·intro _ _ _;omega
  ·omega
 ·omega
theorem Af (l : Lnk) : C 194 [.agg (aS l)] (.bool (oj l)) []:=by
 have k1:=gT hC l.name
 have k2:=gT hC l.src
 have k3:=gT hC l.dst
 have k4:=kG hC l.up
 have k5:=kG hC l.down
 have k6:=gT hC l.sect
 obtain ⟨r,hr⟩ : ∃ r,r=oj l:=⟨_,rfl⟩
 rw [<- hr]
 unfold oj at hr
 refine start hC (nf:=N194) rfl rfl ?_
 simp [N194,aS]
 refine aa k1 (.inl rfl) ?_
 cases h1 : br l.name
 ·simp [hr,h1]
 simp
 refine aa k2 (.inl rfl) ?_
 cases h2 : br l.src
 ·simp [hr,h2]
 simp
 refine aa k3 (.inl rfl) ?_
 cases h3 : br l.dst
 ·simp [hr,h3]
 simp
 refine ab (fun h4=>?_) (fun h4=>?_) <;> simp at h4 <;> simp [h4]
 ·simp [hr,h4]
 refine aa k4 (.inl rfl) ?_
 cases h5 : cQ l.up
 ·simp [hr,h5]
 simp
 refine aa k5 (.inl rfl) ?_
 cases h6 : cQ l.down
 ·simp [hr,h6]
 simp
 rw [h1,h2,h3,decide_eq_false h4,h5,h6] at hr
 simp only [Bool.true_and,Bool.not_false] at hr
 unfold wU at hr
 clear k1 k2 k3 k4 k5 h1 h2 h3 h4 h5 h6
 refine ab (fun h7=>?_) (fun h7=>?_) <;> simp at h7 <;> simp [h7]
 ·rw [if_pos h7] at hr
  refine aa (jo hC l.len 16777216) (.inl rfl) ?_
  cases a1 : aI l.len 1 16777216
  ·simp [hr,a1]
  simp
  refine aa k6 (.inl rfl) ?_
  cases a2 : br l.sect
  ·simp [hr,a2]
  simp
  refine ab (fun a3=>?_) (fun a3=>?_) <;> simp at a3 <;> simp [a3]
  rotate_left
  ·simp [hr,a3]
  refine ab (fun a4=>?_) (fun a4=>?_) <;> simp at a4 <;> simp [a4]
  rotate_left
  ·simp [hr,a4]
  simp [hr,a1,a2,a3,a4]
 rw [if_neg h7] at hr
 refine ab (fun h8=>?_) (fun h8=>?_) <;> simp at h8 <;> simp [h8]
 ·rw [if_pos h8] at hr
  refine ab (fun a1=>?_) (fun a1=>?_) <;> simp at a1 <;> simp [a1]
  rotate_left
  ·simp [hr,a1]
  refine ab (fun a2=>?_) (fun a2=>?_) <;> simp at a2 <;> simp [a2]
  rotate_left
  ·simp [hr,a2]
  refine ab (fun a3=>?_) (fun a3=>?_) <;> simp at a3 <;> simp [a3]
  rotate_left
  ·simp [hr,a3]
  refine aa (jo hC l.width 1048576) (.inl rfl) ?_
  cases a4 : aI l.width 1 1048576
  ·simp [hr,a4]
  simp
  refine ab (fun a5=>?_) (fun a5=>?_) <;> simp at a5 <;> simp [a5]
  rotate_left
  ·simp [hr,a5]
  simp [hr,a1,a2,a3,a4,a5]
 rw [if_neg h8] at hr
 refine ab (fun h9=>?_) (fun h9=>?_) <;> simp at h9 <;> simp [h9]
 ·rw [if_pos h9] at hr
  refine ab (fun a1=>?_) (fun a1=>?_) <;> simp at a1 <;> simp [a1]
  rotate_left
  ·simp [hr,a1]
  refine ab (fun a2=>?_) (fun a2=>?_) <;> simp at a2 <;> simp [a2]
  rotate_left
  ·simp [hr,a2]
  refine ab (fun a3=>?_) (fun a3=>?_) <;> simp at a3 <;> simp [a3]
  rotate_left
  ·simp [hr,a3]
  refine aa (jo hC l.width 32768) (.inl rfl) ?_
  cases a4 : aI l.width 1 32768
  ·simp [hr,a4]
  simp
  refine aa (jo hC l.height 32768) (.inl rfl) ?_
  cases a5 : aI l.height 1 32768
  ·simp [hr,a5]
  simp [hr,a1,a2,a3,a4,a5]
 rw [if_neg h9] at hr
 refine ab (fun h10=>?_) (fun h10=>?_) <;> simp at h10 <;> simp [h10]
 ·rw [if_pos h10] at hr
  refine ab (fun a1=>?_) (fun a1=>?_) <;> simp at a1 <;> simp [a1]
  rotate_left
  ·simp [hr,a1]
  refine ab (fun a2=>?_) (fun a2=>?_) <;> simp at a2 <;> simp [a2]
  rotate_left
  ·simp [hr,show ¬ l.down < l.up by omega]
  refine ab (fun a3=>?_) (fun a3=>?_) <;> simp at a3 <;> simp [a3]
  rotate_left
  ·simp [hr,a3]
  refine ab (fun a4=>?_) (fun a4=>?_) <;> simp at a4 <;> simp [a4]
  rotate_left
  ·simp [hr,a4]
  refine ab (fun a5=>?_) (fun a5=>?_) <;> simp at a5 <;> simp [a5]
  rotate_left
  ·simp [hr,a5]
  refine aa (xM hC l.curveN l.curve) (.inl rfl) ?_
  simp [hr,a1,a2,a3,a4,a5]
 ·rw [if_neg h10] at hr
  simp [hr]
end Go.Gv

namespace Go.Gv
def lx (t : List (Int × Int)) (x : Int) : Nat:=t.findIdx fun k=>decide (x <= k.1)
def atK (t : List (Int × Int)) (x : Int) : Bool:=decide (lx t x < t.length) && decide (t[lx t x]!.1=x)
def Ib (a b : Int × Int) (x : Int) : Int × Int × Int:=(a.2 + (b.2 - a.2) * (x - a.1) / (b.1 - a.1),(b.2 - a.2) * (x - a.1) % (b.1 - a.1),b.1 - a.1)
def xC (t : List (Int × Int)) (x : Int) : Int × Int × Int :=
 if atK t x || decide (lx t x=0) then (t[lx t x]!.2,0,1)
 else if lx t x=t.length then (t[lx t x - 1]!.2,0,1)
 else Ib t[lx t x - 1]! t[lx t x]! x
theorem qV {t : List (Int × Int)} (h : aD t=true) {j i : Nat} (hi : i < t.length) (hj : j <= i) : t[j].1 <= t[i].1:=by
 rcases Nat.lt_or_eq_of_le hj with h1 | rfl
 ·have:=vb h j i hi h1;omega
 ·exact Int.le_refl _
variable {C : CC} (hC : ao prog C)
include hC
end Go.Gv

namespace Go.Gv
variable {C : CC} (hC : ao prog C)
include hC
end Go.Gv

namespace Go.Gv
def bis (p : Nat -> Bool) : Nat -> Nat -> Nat -> Nat
 | 0,lo,_=>lo
 | f + 1,lo,hi=>if lo < hi then (if p ((lo + hi) / 2) then bis p f lo ((lo + hi) / 2) else bis p f ((lo + hi) / 2 + 1) hi) else lo
theorem oI {t : List (Int × Int)} (h : aD t=true) : ∀ {i j : Nat} (hi : i < t.length) (hj : j <= i),t[j].2 <= t[i].2:=by
 intro i
 induction i with
 | zero=>intro j hi hj;have : j=0:=(by omega);subst this;exact Int.le_refl _
 | succ i ih =>
  intro j hi hj
  rcases Nat.lt_or_eq_of_le hj with h1 | rfl
  ·have h2:=((qW h hi).2.2 i rfl).2
   have:=ih (by omega) (show j <= i by omega)
   omega
  ·exact Int.le_refl _
def tQ (s : Sec) (depth fall len : Int) : Nat:=Cw ((xC s.conv depth).1.toNat * (xC s.conv depth).1.toNat * fall.toNat / len.toNat)
def sO (s : Sec) (flow fall len : Int) (m : Nat) : Bool:=decide (flow <= (tQ s m fall len : Int))
def wX (s : Sec) (flow fall len : Int) : Nat:=bis (sO s flow fall len) 40 0 (s.height.toNat + 1)
def oX (s : Sec) (flow fall len : Int) : Int × Int :=
 if dI s then (if 0 <= flow /\ flow <= 1099511627776 /\ ip fall len=true then (if s.height.toNat < wX s flow fall len then (0,28) else (wX s flow fall len,0)) else (0,2)) else (0,1)
variable {C : CC} (hC : ao prog C)
include hC
end Go.Gv

namespace Go.Gv
theorem As (l : List (Int × Int)) : (aD l && !(l.any fun k=>!gD k))=jL l:=by
 by_cases hv : aD l=true
 ·obtain ⟨l1,l2⟩:=fZ hv
  obtain ⟨n,hn⟩ : ∃ n,n + 1=l.length:=⟨l.length - 1,by omega⟩
  have h0 : 0 < l.length:=by omega
  have hnl : n < l.length:=by omega
  have hany : (!(l.any fun k=>!gD k))=l.all gD:=by rw [Bool.eq_iff_iff];simp
  rw [hany,jL,hv,fW hn,getElem!_pos l 0 h0,Bool.eq_iff_iff]
  simp only [Bool.true_and,List.all_eq_true,Bool.and_eq_true,decide_eq_true_eq]
  constructor
  ·intro h
   have ha:=h l[0] (List.getElem_mem h0)
   have hb:=h l[n] (List.getElem_mem hnl)
   simp only [gD,aI,Bool.and_eq_true,decide_eq_true_eq] at ha hb
   omega
  ·intro h k hk
   obtain ⟨i,hi,rfl⟩:=List.getElem_of_mem hk
   have a1:=qV hv hi (show 0 <= i by omega)
   have a2:=qV hv hnl (show i <= n by omega)
   have a3:=oI hv hi (show 0 <= i by omega)
   have a4:=oI hv hnl (show i <= n by omega)
   simp only [gD,aI,Bool.and_eq_true,decide_eq_true_eq]
   omega
 ·simp [jL,hv]
theorem w9 (l : Lnk) : oj l=dg l:=by
 have hcur : ∀ x : List (Int × Int),decide (x.length=0)=decide (x=[]):=fun x=>by
  rw [Bool.eq_iff_iff];simp
 have hp:=As l.curve
 unfold oj dg wU jO gd ja
 simp only [hcur]
 have l0 : cQ 0=true:=by decide
 by_cases h1 : l.kind=1
 ·simp [h1]
  ac_rfl
 by_cases h2 : l.kind=2
 ·by_cases hd : l.down=0
  ·simp [h2,hd,l0]
   ac_rfl
  ·simp [h2,hd]
 by_cases h3 : l.kind=3
 ·by_cases hd : l.down=0
  ·simp [h3,hd,l0]
   ac_rfl
  ·simp [h3,hd]
 by_cases h4 : l.kind=4
 ·simp [h4]
  rw [<- hp]
  ac_rfl
 ·simp [h1,h2,h3,h4]
end Go.Gv

namespace Go.Gv
variable {C : CC} (hC : ao prog C)
include hC
theorem xP (n : Int) : C 507 [.int .i64 n] (.bool (aI n (-16777216) 16777216)) []:=by
 refine start hC (nf:=N507) rfl rfl ?_
 simp [N507,aI]
 refine ab (fun h=>?_) (fun h=>?_) <;> simp at h <;> simp [h] <;> omega
theorem xS (b : Bool) (t : List (Int × Int)) (hgt : Int) : C 508 [slx b (t.map knD),.int .i64 hgt] (.bool (df t hgt 1125899906842624)) []:=by
 refine start hC (nf:=N508) rfl rfl ?_
 simp [N508]
 refine aa (qD hC b t) (.inl rfl) ?_
 cases hv : aD t
 ·simp [df,hv]
 obtain ⟨l1,l2⟩:=fZ hv
 obtain ⟨n,hn⟩ : ∃ n,n + 1=t.length:=⟨t.length - 1,by omega⟩
 have e1 : IntKind.wrap .i64 ((t.length : Int) - 1)=(n : Int):=ai (by omega) (by omega)
 have hnl : n < t.length:=by omega
 have h0 : 0 < t.length:=by omega
 have e0 : t[0]! = t[0]:=getElem!_pos t 0 h0
 rw [df,fW hn,e0,hv]
 simp [e1,hnl,h0,knD]
 refine ab (fun c=>?_) (fun c=>?_) <;> simp at c
 ·simp [c,h0,knD]
  refine ab (fun c2=>?_) (fun c2=>?_) <;> simp at c2
  ·simp [c2]
   refine ab (fun c3=>?_) (fun c3=>?_) <;> simp at c3 <;> simp [c3,c,c2]
  ·simp [c2]
 ·simp [c]
theorem Eh (n : Nod) : C 488 [.agg (bk n)] (.bool (iz n)) []:=by
 have k1:=gT hC n.name
 have k2:=xP hC n.x
 have k3:=xP hC n.y
 have k4:=kG hC n.invert
 have k5:=kG hC n.ground
 obtain ⟨q,hq⟩ : ∃ q,q=iz n:=⟨_,rfl⟩
 rw [<- hq]
 unfold iz at hq
 refine start hC (nf:=N488) rfl rfl ?_
 simp [N488,bk]
 refine aa k1 (.inl rfl) ?_
 cases h1 : br n.name
 ·simp [hq,h1]
 simp
 refine aa k2 (.inl rfl) ?_
 cases h2 : aI n.x (-16777216) 16777216
 ·simp [hq,h2]
 simp
 refine aa k3 (.inl rfl) ?_
 cases h3 : aI n.y (-16777216) 16777216
 ·simp [hq,h3]
 simp
 refine aa k4 (.inl rfl) ?_
 cases h4 : cQ n.invert
 ·simp [hq,h4]
 simp
 refine aa k5 (.inl rfl) ?_
 cases h5 : cQ n.ground
 ·simp [hq,h5]
 simp
 rw [h1,h2,h3,h4,h5] at hq
 simp only [Bool.true_and] at hq
 have b1 : -4194304 <= n.invert /\ n.invert <= 4194304:=by simpa [cQ] using h4
 have b2 : -4194304 <= n.ground /\ n.ground <= 4194304:=by simpa [cQ] using h5
 have e1 : IntKind.wrap .i64 (n.ground - n.invert)=n.ground - n.invert:=ai rfl (by omega)
 by_cases hk3 : n.kind=3
 ·rw [if_neg (by omega),if_pos hk3,xz] at hq
  simp [hk3]
  refine ab (fun c1=>?_) (fun c1=>?_) <;> simp at c1
  ·simp [c1]
   refine ab (fun c2=>?_) (fun c2=>?_) <;> simp at c2
   ·cases c3 : n.prot
    ·simp [hq,c1,c2,c3]
    ·simp [hq,c2,c3]
   ·simp [hq,c2]
  ·have : ¬ n.invert <= n.ground:=by omega
   simp [hq,this]
 ·by_cases hk : n.kind=1 \/ n.kind=2
  ·rw [if_pos hk,mq] at hq
   have kb:=xS hC n.shapeN n.shape (n.ground - n.invert)
   rcases hk with hk | hk
   ·simp [hk]
    refine ab (fun c1=>?_) (fun c1=>?_) <;> simp at c1
    ·simp [c1,hq]
    have c1' : ¬ n.ground <= n.invert:=by omega
    simp [c1',e1]
    refine aa kb (.inl rfl) ?_
    cases c2 : df n.shape (n.ground - n.invert) 1125899906842624
    ·simp [hq,c2]
    simp [hk]
    cases c3 : n.prot
    ·simp [hq,c1',c2,c3,hk]
    ·simp [hq,c3,hk]
     exact ae (by decide +kernel)
   ·simp [hk]
    refine ab (fun c1=>?_) (fun c1=>?_) <;> simp at c1
    ·simp [c1,hq]
    have c1' : ¬ n.ground <= n.invert:=by omega
    simp [c1',e1]
    refine aa kb (.inl rfl) ?_
    cases c2 : df n.shape (n.ground - n.invert) 1125899906842624
    ·simp [hq,c2]
    simp [hk]
    cases c3 : n.prot
    ·simp [hq,c1',c2,c3,hk]
    have hv : aD n.shape=true:=by
     simp only [df,Bool.and_eq_true] at c2
     exact c2.1.1.1
    obtain ⟨l1,l2⟩:=fZ hv
    obtain ⟨m,hm⟩ : ∃ m,m + 1=n.shape.length:=⟨n.shape.length - 1,by omega⟩
    have e2 : IntKind.wrap .i64 ((n.shape.length : Int) - 1)=(m : Int):=ai (by omega) (by omega)
    have hml : m < n.shape.length:=by omega
    have e3:=fW hm
    by_cases c4 : 0 <= n.reserve
    ·simp [hq,c1',c2,c3,c4,hk,e2,hml,knD,e3,aI]
     exact ae (by decide +kernel)
    ·simp [hq,c1',c2,c3,c4,hk,e2,hml,knD,e3,aI]
     exact ae (by decide +kernel)
  ·rw [if_neg hk,if_neg hk3] at hq
   have a1 : ¬ n.kind=1:=fun e=>hk (.inl e)
   have a2 : ¬ n.kind=2:=fun e=>hk (.inr e)
   simp [hk3,a1,a2,hq]
theorem pp (b1 b2 : Bool) (ns : List Nod) (ls : List Lnk) (nm : List UInt8) (hn : ns.length < 2 ^ 62) : C 462 [.agg [slx b1 (ns.map bk),slx b2 (ls.map aS)],.str nm] (.int .i64 (bC (cT nm) ns)) []:=by
 refine start hC (nf:=N462) rfl rfl ?_
 simp [N462]
 refine aq Nat (fun i=>[(1,.str nm),(2,.ptr [slx b1 (ns.map bk),slx b2 (ls.map aS)]),(5,.int .i64 i)]) (fun i=>i <= ns.length /\ ∀ (j : Nat) (h : j < ns.length),j < i -> cT nm ns[j]=false) (fun i=>ns.length - i) 0 (by simp) (by simp) ?_
 rintro i ⟨hi,hj⟩
 simp
 refine ab (fun h=>?_) (fun h=>?_) <;> simp [h] <;> simp at h
 ·have hw : IntKind.wrap .i64 ((i : Int) + 1)=((i + 1 : Nat) : Int):=ai (by omega) (by omega)
  simp [h,bk]
  refine ab (fun h1=>?_) (fun h1=>?_) <;> simp at h1 <;> simp [h1,hw]
  ·rw [cz hj h (by simpa [cT] using h1)]
  ·refine ⟨i + 1,⟨by omega,fun j hl hjj=>?_⟩,by omega,rfl⟩
   rcases Nat.lt_succ_iff_lt_or_eq.1 hjj with h2 | rfl
   ·exact hj j hl h2
   ·simpa [cT] using h1
 ·rw [cJ (fun j hl=>hj j hl (by omega))]
theorem AA (b1 b2 : Bool) (ns : List Nod) (ls : List Lnk) (nm : List UInt8) (hn : ls.length < 2 ^ 62) : C 467 [.agg [slx b1 (ns.map bk),slx b2 (ls.map aS)],.str nm] (.int .i64 (bC (ku nm) ls)) []:=by
 refine start hC (nf:=N467) rfl rfl ?_
 simp [N467]
 refine aq Nat (fun i=>[(1,.str nm),(2,.ptr [slx b1 (ns.map bk),slx b2 (ls.map aS)]),(5,.int .i64 i)]) (fun i=>i <= ls.length /\ ∀ (j : Nat) (h : j < ls.length),j < i -> ku nm ls[j]=false) (fun i=>ls.length - i) 0 (by simp) (by simp) ?_
 rintro i ⟨hi,hj⟩
 simp
 refine ab (fun h=>?_) (fun h=>?_) <;> simp [h] <;> simp at h
 ·have hw : IntKind.wrap .i64 ((i : Int) + 1)=((i + 1 : Nat) : Int):=ai (by omega) (by omega)
  simp [h,aS]
  refine ab (fun h1=>?_) (fun h1=>?_) <;> simp at h1 <;> simp [h1,hw]
  ·rw [cz hj h (by simpa [ku] using h1)]
  ·refine ⟨i + 1,⟨by omega,fun j hl hjj=>?_⟩,by omega,rfl⟩
   rcases Nat.lt_succ_iff_lt_or_eq.1 hjj with h2 | rfl
   ·exact hj j hl h2
   ·simpa [ku] using h1
 ·rw [cJ (fun j hl=>hj j hl (by omega))]
end Go.Gv

namespace Go.Gv
variable {C : CC} (hC : ao prog C)
include hC
end Go.Gv

namespace Go.Gv
def S7 (n : Nat) (out : List Nat) : List (List D):=(List.range n).map fun v=>[.bool (decide (v ∈ out))]
def K0 (es : List Edg) (out : List Nat) : Nat -> Int
 | 0=>-1
 | v + 1=>if K0 es out v < 0 then (if !out.contains v && rW es out v then (v : Int) else -1) else K0 es out v
def prT (es : List Edg) (out : List Nat) (v j : Nat) : Bool:=rW (es.take j) out v
variable {C : CC} (hC : ao prog C)
include hC
theorem uQ (b1 b2 : Bool) (ns : List Nod) (ls : List Lnk) : C 458 [.agg [slx b1 (ns.map bk),slx b2 (ls.map aS)]] (.bool (bZ ns ls)) []:=by
 obtain ⟨r,hr⟩ : ∃ r,r=bZ ns ls:=⟨_,rfl⟩
 rw [<- hr]
 unfold bZ at hr
 refine start hC (nf:=N458) rfl rfl ?_
 simp [N458]
 by_cases c : (300 : Int) < ns.length
 ·simp [c,hr,show ¬ ns.length <= 300 by omega]
 by_cases c2 : (400 : Int) < ls.length
 ·simp [c,c2,hr,show ¬ ls.length <= 400 by omega]
 simp [c,c2]
 rw [decide_eq_true (show ns.length <= 300 by omega),decide_eq_true (show ls.length <= 400 by omega)] at hr
 simp only [Bool.true_and] at hr
 have badN : ∀ i,i < ns.length -> iy ns i=false -> r=false:=fun i hi h=>by
  rw [hr,Bool.and_eq_false_iff]
  exact .inl (List.all_eq_false.2 ⟨i,by simpa using hi,by simp [h]⟩)
 have badL : ∀ i,i < ls.length -> fK ns ls i=false -> r=false:=fun i hi h=>by
  rw [hr,Bool.and_eq_false_iff]
  exact .inr (List.all_eq_false.2 ⟨i,by simpa using hi,by simp [h]⟩)
 refine aq Nat (fun i=>[(1,.ptr [slx b1 (ns.map bk),slx b2 (ls.map aS)]),(3,.int .i64 i)]) (fun i=>i <= ns.length /\ ∀ j < i,iy ns j=true) (fun i=>ns.length - i) 0 (by simp) (by simp) ?_
 rintro i ⟨hi,hj⟩
 simp
 refine ab (fun h=>?_) (fun h=>?_) <;> simp at h <;> simp [h]
 ·have hw : IntKind.wrap .i64 ((i : Int) + 1)=((i + 1 : Nat) : Int):=ai (by omega) (by omega)
  have bad:=badN i h
  have e1 : ns[i]! = ns[i]:=getElem!_pos ns i h
  simp only [iy,e1] at bad
  have k1:=Eh hC ns[i]
  have k2:=pp hC b1 b2 ns ls ns[i].name (by omega)
  simp only [bk] at k1
  simp [bk,h]
  refine aa k1 (.inl rfl) ?_
  cases g1 : iz ns[i]
  ·simp
   refine ⟨ae (by decide +kernel),?_⟩
   exact bad (by simp [g1])
  simp [bk,h]
  refine aa k2 (.inl rfl) ?_
  simp
  refine ⟨ae (by decide +kernel),?_⟩
  refine ab (fun g2=>?_) (fun g2=>?_) <;> simp at g2 <;> simp [g2]
  ·exact bad (by simp [g2])
  ·simp [hw]
   refine ⟨i + 1,⟨by omega,fun k hk=>?_⟩,by omega,by simp⟩
   rcases Nat.lt_succ_iff_lt_or_eq.1 hk with h5 | rfl
   ·exact hj k h5
   ·simp [iy,e1,g1,g2]
 have hall : (List.range ns.length).all (iy ns)=true:=by
  rw [List.all_eq_true]
  intro k hk
  exact hj k (by simp at hk;omega)
 rw [hall,Bool.true_and] at hr
 clear badN hall hj
 refine aq Nat (fun i=>[(1,.ptr [slx b1 (ns.map bk),slx b2 (ls.map aS)]),(4,.int .i64 i)]) (fun i=>i <= ls.length /\ ∀ j < i,fK ns ls j=true) (fun i=>ls.length - i) 0 (by simp) (by simp) ?_
 clear h hi i
 rintro i ⟨hi,hj⟩
 simp
 refine ab (fun h=>?_) (fun h=>?_) <;> simp at h <;> simp [h]
 ·have hw : IntKind.wrap .i64 ((i : Int) + 1)=((i + 1 : Nat) : Int):=ai (by omega) (by omega)
  have bad:=badL i h
  have e1 : ls[i]! = ls[i]:=getElem!_pos ls i h
  simp only [fK,e1] at bad
  have k1:=Af hC ls[i]
  rw [w9] at k1
  have k2:=AA hC b1 b2 ns ls ls[i].name (by omega)
  have k3:=pp hC b1 b2 ns ls ls[i].src (by omega)
  have k4:=pp hC b1 b2 ns ls ls[i].dst (by omega)
  have next : fK ns ls i=true -> ∃ s' : Nat,(s' <= ls.length /\ ∀ j < s',fK ns ls j=true) /\ ls.length - s' < ls.length - i /\ (i : Int) + 1=s':=fun hl=>by
   refine ⟨i + 1,⟨by omega,fun k hk=>?_⟩,by omega,by simp⟩
   rcases Nat.lt_succ_iff_lt_or_eq.1 hk with h5 | rfl
   ·exact hj k h5
   ·exact hl
  simp only [fK,e1] at next
  simp only [aS] at k1
  simp [aS,h]
  refine aa k1 (.inl rfl) ?_
  cases g1 : dg ls[i]
  ·simp
   exact bad (by simp [g1])
  simp
  refine aa k2 (.inl rfl) ?_
  simp
  refine ab (fun g2=>?_) (fun g2=>?_) <;> simp at g2 <;> simp [g2]
  ·exact bad (by simp [g2])
  refine aa k4 (.inl rfl) ?_
  simp
  refine ab (fun g4=>?_) (fun g4=>?_) <;> simp at g4 <;> simp [g4]
  ·exact bad (by simp [show ¬ 0 <= bC (cT ls[i].dst) ns by omega])
  have g4' : ¬ bC (cT ls[i].dst) ns < 0:=by omega
  refine aa k3 (.inl rfl) ?_
  simp
  by_cases g3 : bC (cT ls[i].src) ns < 0
  ·simp [g3]
   exact bad (by simp [iQ,show ¬ 0 <= bC (cT ls[i].src) ns by omega])
  have g3' : 0 <= bC (cT ls[i].src) ns:=by omega
  have hf:=mg g3'
  obtain ⟨f,hfe⟩:=Int.eq_ofNat_of_zero_le g3'
  rw [hfe] at hf ⊢
  simp at hf
  have e2 : ns[f]! = ns[f]:=getElem!_pos ns f hf
  have hfo : iQ ns ls[i].src=!decide (ns[f].kind=3):=by
   simp [iQ,hfe,e2]
  have g3'' : ¬ (f : Int) < 0:=by omega
  simp [hf,bk,g3'']
  refine ab (fun g5=>?_) (fun g5=>?_) <;> simp at g5 <;> simp [g5]
  ·exact bad (by simp [hfo,g5])
  ·simp [hw]
   exact next (by simp [hfo,g5,g1,g2,g4])
 ·have hall : (List.range ls.length).all (fK ns ls)=true:=by
   rw [List.all_eq_true]
   intro k hk
   exact hj k (by simp at hk;omega)
  rw [hr,hall]
end Go.Gv

namespace Go.Gv
def S4 (n : Nat) (es : List Edg) : D:=if (qv n es).length=n then ndD (qv n es) else .nils
variable {C : CC} (hC : ao prog C)
include hC
end Go.Gv

namespace Go.Gv
def fu (l : List Sec) : Bool:=decide (l.length <= 40) && l.all dI && decide ((l.map (·.name)).Nodup)
def gC (l : List Sec) : List D:=((l.map (·.name)).reverse).map D.str
theorem om : ∀ (xs : List (List UInt8)) (n : Nat),n=xs.length -> ∀ s,(dz (xs.map D.str) (List.replicate n (.bool true)) (.str s)).getD (.bool false)=.bool (decide (s ∈ xs))
 | [],n,h,s=>by simp [dz]
 | x::xs,n,h,s=>by
  obtain ⟨m,rfl⟩ : ∃ m,n=m + 1:=⟨n - 1,by simp at h;omega⟩
  have ih:=om xs m (by simpa using h) s
  simp only [List.map_cons,List.replicate_succ,dz,eqD,nE,decide_eq_true_eq]
  by_cases e : s=x
  ·subst e;simp
  ·rw [if_neg e,ih];simp [e]
variable {C : CC} (hC : ao prog C)
include hC
end Go.Gv

namespace Go.Gv
variable {C : CC} (hC : ao prog C)
include hC
end Go.Gv

namespace Go.Gv
structure Job where
 below : SlI
 lengths : SlI
 flows : SlI
 falls : SlI
 room : SlI
 secN : Bool
 secs : List Sec
 deriving Inhabited
def Th (j : Job) : List D:=[slI j.below,slI j.lengths,slI j.flows,slI j.falls,slI j.room,slx j.secN (j.secs.map jB)]
def Ah (s : Sec) : Bool:=decide (20 < s.area.length) || decide (20 < s.conv.length) || decide (60 < s.name.length)
def Lb (l : List Sec) : Bool:=decide (8 < l.length) || l.any Ah
def R9 (j : Job) : Bool:=decide (12 < j.below.l.length) || decide (12 < j.lengths.l.length) || decide (12 < j.flows.l.length) || decide (12 < j.falls.l.length) || decide (12 < j.room.l.length) || Lb j.secs
def z6 (n a b : Int) : Bool:=a <= n && n <= b
def Er (j : Job) (i : Nat) : Bool:=(j.below.l[i]! == -1 || (decide ((i : Int) < j.below.l[i]!) && decide (j.below.l[i]! < j.below.l.length))) && z6 j.lengths.l[i]! 1 16777216 && z6 j.flows.l[i]! 0 1099511627776 && z6 j.falls.l[i]! 0 4194304 && z6 j.room.l[i]! 0 4194304
def KH (j : Job) : Bool:=decide (j.below.l.length <= 400) && decide (j.lengths.l.length=j.below.l.length) && decide (j.flows.l.length=j.below.l.length) && decide (j.falls.l.length=j.below.l.length) && decide (j.room.l.length=j.below.l.length) && decide (0 < j.secs.length) && fu j.secs && (List.range j.below.l.length).all (Er j)
@[simp] theorem QC {x : SlI} : slI x=slx x.n (x.l.map fun n=>[.int .i64 n]):=_root_.id rfl
variable {C : CC} (hC : ao prog C)
include hC
end Go.Gv

namespace Go.Gv
def iY (nm : List UInt8) (s : Sec) : Bool:=s.name == nm
theorem oR (l : List Sec) : fu l=true ↔ l.length <= 40 /\ (∀ (i : Nat) (h : i < l.length),dI l[i]=true /\ bC (iY l[i].name) l=i):=by
 simp only [fu,Bool.and_eq_true,decide_eq_true_eq,List.all_eq_true]
 constructor
 ·rintro ⟨⟨h1,h2⟩,h3⟩
  refine ⟨h1,fun i h=>⟨h2 _ (List.getElem_mem h),?_⟩⟩
  refine cz (fun k hk hki=>?_) h (by simp [iY])
  rw [iY,beq_eq_false_iff_ne]
  intro e
  exact List.pairwise_iff_getElem.1 h3 k i (by simpa using hk) (by simpa using h) hki (by simpa using e)
 ·rintro ⟨h1,h2⟩
  refine ⟨⟨h1,fun x hx=>?_⟩,?_⟩
  ·obtain ⟨i,h,rfl⟩:=List.getElem_of_mem hx
   exact (h2 i h).1
  ·refine List.pairwise_iff_getElem.2 fun a b ha hb hab e=>?_
   simp only [List.length_map] at ha hb
   simp only [List.getElem_map] at e
   have h3:=(h2 b hb).2
   have h4 : ∃ k,k <= a /\ bC (iY l[b].name) l=(k : Int):=by
    unfold bC
    cases hf : l.findIdx? (iY l[b].name) with
    | none =>
     rw [List.findIdx?_eq_none_iff] at hf
     have:=hf l[a] (List.getElem_mem _)
     simp [iY,e] at this
    | some k =>
     refine ⟨k,?_,rfl⟩
     rw [List.findIdx?_eq_some_iff_getElem] at hf
     obtain ⟨q1,q2,q3⟩:=hf
     rcases Nat.lt_or_ge a k with hak | hak
     ·exact absurd (by simp [iY,e]) (q3 a hak)
     ·exact hak
   obtain ⟨k,h5,h6⟩:=h4
   omega
variable {C : CC} (hC : ao prog C)
include hC
end Go.Gv

namespace Go.Gv
def Ts (nm : List UInt8) : Nod:={ name:=nm,kind:=1,x:=0,y:=0,invert:=0,ground:=1,shapeN:=false,shape:=[(0,0),(1,1)],prot:=false,reserve:=0 }
def Tt (nm : List UInt8) : Nod:={ name:=nm,kind:=3,x:=0,y:=0,invert:=0,ground:=0,shapeN:=true,shape:=[],prot:=false,reserve:=0 }
def tb (l : Lnk) (s : Sec) : Int:=if dg l && dI s then (if l.kind=1 then (if l.sect=s.name then 0 else 25) else 11) else 1
variable {C : CC} (hC : ao prog C)
include hC
end Go.Gv

namespace Go.Gv
def sP (k flow len n : Nat) : Bool:=decide (flow * flow * len <= k * k * n)
def KY (k flow len : Nat) : Int × Int:=if flow=0 then (0,0) else if k=0 then (0,16) else if sP k flow len 1073741824 then (bis (sP k flow len) 40 0 1073741824,0) else (0,5)
def qi (l : Lnk) (s : Sec) (flow : Int) : Int × Int:=KY (iU s.conv).2.toNat flow.toNat l.len.toNat
variable {C : CC} (hC : ao prog C)
include hC
end Go.Gv

namespace Go.Gv
def Bw (x b : Nat) : Nat:=if x % b=0 then x / b else x / b + 1
def KZ (k f n : Nat) : Int × Int:=if f=0 then (0,0) else if k=0 then (0,16) else if 1073741824 < Bw (f * f * n) (k * k) then (0,5) else (Bw (f * f * n) (k * k),0)
def qj (l : Lnk) (s : Sec) (flow : Int) : Int × Int:=KZ (iU s.conv).2.toNat flow.toNat l.len.toNat
variable {C : CC} (hC : ao prog C)
include hC
end Go.Gv

namespace Go.Gv
variable {C : CC} (hC : ao prog C)
include hC
end Go.Gv

namespace Go.Gv
def TA (t : List (Int × Int)) (x : Int) : Int :=
 if lx t (x + 1)=0 then t[0]!.2 else if lx t (x + 1)=t.length then t[lx t (x + 1) - 1]!.2 else (Ib t[lx t (x + 1) - 1]! t[lx t (x + 1)]! x).1
variable {C : CC} (hC : ao prog C)
include hC
end Go.Gv

namespace Go.Gv
def vN (s : Sec) (flow fall len : Int) : Int × Int :=
 if dI s then (if 0 <= flow /\ flow <= 1099511627776 /\ ip fall len=true then (if (tQ s s.height fall len : Int) < flow then (0,28) else (bis (sO s flow fall len) 40 0 s.height.toNat,0)) else (0,2)) else (0,1)
variable {C : CC} (hC : ao prog C)
include hC
end Go.Gv

namespace Go.Gv
def mxI (a b : Int) : Int:=if a < b then b else a
def gQ (l : Lnk) : Int:=if 4194304 < l.up - l.down then 4194304 else l.up - l.down
def Sf (l : Lnk) (s : Sec) (flow level : Int) : Bool:=decide (level < l.down + s.height) && (decide ((wy s (gQ l) l.len).2=5) || (decide ((wy s (gQ l) l.len).2=0) && decide (flow <= (wy s (gQ l) l.len).1)))
def Jg (l : Lnk) (s : Sec) (flow level : Int) : Int × Int :=
 if (qi l s flow).2=0 then (if 1099511627776 < mxI (l.up + s.height) (level + (qi l s flow).1) then (0,5) else (mxI (l.up + s.height) (level + (qi l s flow).1),0)) else (0,(qi l s flow).2)
def Sg (l : Lnk) (s : Sec) (flow level : Int) : Int × Int :=
 if (oX s flow (gQ l) l.len).2=0 then (mxI (l.up + (oX s flow (gQ l) l.len).1) level,0) else (0,(oX s flow (gQ l) l.len).2)
def CO (l : Lnk) (s : Sec) (flow level : Int) : Int × Int:=if Sf l s flow level then Sg l s flow level else Jg l s flow level
def Tz (l : Lnk) (s : Sec) (flow level : Int) : Int × Int :=
 if tb l s=0 then (if l.up < l.down then (0,23) else if aI flow 0 1099511627776 && aI level (-4194304) 1099511627776 then CO l s flow level else (0,2)) else (0,tb l s)
def SX (l : Lnk) (s : Sec) (flow : Int) : Int × Int :=
 if tb l s=0 then (if aI flow 0 1099511627776 then qi l s flow else (0,2)) else (0,tb l s)
variable {C : CC} (hC : ao prog C)
include hC
end Go.Gv

namespace Go.Gv
def grI (a b : Int) : Int:=if b < a then a else b
def pa (l : Lnk) (s : Sec) : Int:=if oj l && dI s then (if l.kind=1 then (if l.sect=s.name then 0 else 25) else 11) else 1
def Jh (l : Lnk) (s : Sec) (flow level : Int) : Int × Int :=
 if (qj l s flow).2=0 then (if 1099511627776 < grI (l.up + s.height) (level + (qj l s flow).1) then (0,5) else (grI (l.up + s.height) (level + (qj l s flow).1),0)) else (0,(qj l s flow).2)
def CP (l : Lnk) (s : Sec) (flow level : Int) : Int × Int :=
 if (vN s flow (gQ l) l.len).2=0 /\ level < l.down + s.height then (grI (l.up + (vN s flow (gQ l) l.len).1) level,0) else Jh l s flow level
def upR (l : Lnk) (s : Sec) (flow level : Int) : Int × Int :=
 if pa l s=0 then (if l.up < l.down then (0,23) else if aI flow 0 1099511627776 && aI level (-4194304) 1099511627776 then CP l s flow level else (0,2)) else (0,pa l s)
def SW (l : Lnk) (s : Sec) (flow : Int) : Int × Int :=
 if pa l s=0 then (if aI flow 0 1099511627776 then qj l s flow else (0,2)) else (0,pa l s)
variable {C : CC} (hC : ao prog C)
include hC
end Go.Gv

namespace Go.Gv
def sm (ss : List Sec) (nm : List UInt8) : Int:=bC (iY nm) ss
def BV (ss : List Sec) (nm : List UInt8) : Int × Int:=if fu ss then (if 0 <= sm ss nm then (sm ss nm,0) else (0,9)) else (0,1)
def Lw (ss : List Sec) (l : Lnk) : Bool:=decide (sm ss l.sect < 0)
def ER (l : Lnk) : Bool:=decide (l.up < l.down)
def Sw (ls : List Lnk) (ss : List Sec) : Int:=if ls.any (Lw ss) then 9 else if ls.any ER then 23 else 0
def uf (ns : List Nod) (ls : List Lnk) (ss : List Sec) (q : List Sp) (count : Int) : Int:=if CH ns ls && fu ss then (if Bi q count=0 then Sw ls ss else Bi q count) else 1
structure jD (ss : List Sec) (l : Lnk) : Prop where
 idx : ∃ k,sm ss l.sect=(k : Nat) /\ k < ss.length
 le : l.down <= l.up
 up : -4194304 <= l.up /\ l.up <= 4194304
 down : -4194304 <= l.down /\ l.down <= 4194304
 len : 1 <= l.len /\ l.len <= 16777216
theorem jD.fall {ss : List Sec} {l : Lnk} (h : jD ss l) : ip (gQ l) l.len=true:=by
 have:=h.le;have:=h.len;have:=h.up;have:=h.down
 by_cases h : 4194304 < l.up - l.down <;> simp [ip,gQ,h] <;> omega
theorem oS {ss : List Sec} (h : fu ss=true) {k : Nat} (hk : k < ss.length) : dI ss[k]=true:=((oR ss).1 h).2 k hk |>.1
variable {C : CC} (hC : ao prog C)
include hC
end Go.Gv

namespace Go.Gv
def tP (s : Sec) (depth fall len : Int) : Int × Int:=if dI s then (if 0 <= depth /\ depth <= s.height /\ ip fall len=true then (if 1099511627776 < (tQ s depth fall len : Int) then (0,5) else (tQ s depth fall len,0)) else (0,2)) else (0,1)
def qN (ss : List Sec) (l : Lnk) : Sec:=ss[(sm ss l.sect).toNat]?.getD ⟨[],0,0,true,[],true,[]⟩
def wx (ss : List Sec) (l : Lnk) : Int:=if (tP (qN ss l) (qN ss l).height (gQ l) l.len).2=5 then 1099511627776 else (tP (qN ss l) (qN ss l).height (gQ l) l.len).1
theorem jD.sec {ss : List Sec} {l : Lnk} (h : jD ss l) : ∃ k,sm ss l.sect=(k : Nat) /\ ∃ hk : k < ss.length,qN ss l=ss[k]:=by
 obtain ⟨k,hk,hl⟩:=h.idx
 refine ⟨k,hk,hl,?_⟩
 simp [qN,hk,hl]
theorem jD.find {ss : List Sec} {l : Lnk} (hv : fu ss=true) (h : jD ss l) : BV ss l.sect=(sm ss l.sect,0):=by
 obtain ⟨k,hk,hl⟩:=h.idx
 simp [BV,hv,hk]
theorem jD.valid {ss : List Sec} {l : Lnk} (hv : fu ss=true) (h : jD ss l) : dI (qN ss l)=true:=by
 obtain ⟨k,hk,hl,e⟩:=h.sec
 rw [e]
 exact oS hv hl
theorem jD.wrap {ss : List Sec} {l : Lnk} (h : jD ss l) : IntKind.wrap .i64 (l.up - l.down)=l.up - l.down:=by
 have:=h.up;have:=h.down
 exact ai rfl (by omega)
variable {C : CC} (hC : ao prog C)
include hC
end Go.Gv

namespace Go.Gv
variable {C : CC} (hC : ao prog C)
include hC
end Go.Gv

namespace Go.Gv
def y6 (ss : List Sec) (l : Lnk) (n : Int) : Int × Int:=oX (qN ss l) n (gQ l) l.len
def Rb (ss : List Sec) (l : Lnk) (s : Sp) : Bool:=!decide ((y6 ss l s.1).2=0) || !decide ((y6 ss l s.2).2=0)
def dSp (ss : List Sec) (l : Lnk) (s : Sp) : Sp:=((y6 ss l s.1).1,(y6 ss l s.2).1)
def CX (ss : List Sec) (ls : List Lnk) (q : List Sp) : Bool:=(ls.zip q).any fun p=>Rb ss p.1 p.2
def Rc (ss : List Sec) (ls : List Lnk) (q : List Sp) : List Sp:=List.zipWith (dSp ss) ls q
def QQ (ns : List Nod) (ls : List Lnk) (ss : List Sec) (q : List Sp) : Int:=if uf ns ls ss q ls.length=0 then (if CX ss ls q then 28 else 0) else uf ns ls ss q ls.length
def Tb (ns : List Nod) (ls : List Lnk) (ss : List Sec) (q : List Sp) : D:=if QQ ns ls ss q=0 then .sl ((Rc ss ls q).map knD) else .nils
def spT (l : List Sp) (j : Nat) : List (List D):=(l.take j).map knD
variable {C : CC} (hC : ao prog C)
include hC
end Go.Gv

namespace Go.Gv
end Go.Gv

namespace Go.Gv
end Go.Gv

namespace Go.Gv
def Sa (ss : List Sec) (l : Lnk) (s : Sp) : Sp:=(1000 * s.1 / wx ss l,(1000 * s.2 + wx ss l - 1) / wx ss l)
def MD (ss : List Sec) (l : Lnk) : Bool:=decide (wx ss l=0)
def ldL (ss : List Sec) (ls : List Lnk) (q : List Sp) : List Sp:=List.zipWith (Sa ss) ls q
def QS (ss : List Sec) (ls : List Lnk) : Bool:=ls.any (MD ss)
def LdE (ns : List Nod) (ls : List Lnk) (ss : List Sec) (q : List Sp) : Int:=if uf ns ls ss q ls.length=0 then (if QS ss ls then 16 else 0) else uf ns ls ss q ls.length
def LdV (ns : List Nod) (ls : List Lnk) (ss : List Sec) (q : List Sp) : D:=if LdE ns ls ss q=0 then .sl ((ldL ss ls q).map knD) else .nils
variable {C : CC} (hC : ao prog C)
include hC
end Go.Gv

namespace Go.Gv
def ovG (ss : List Sec) (f : Sp -> Int) (p : Lnk × Sp) : Option (List UInt8):=if wx ss p.1 < f p.2 then some p.1.name else none
def Sv (ss : List Sec) (f : Sp -> Int) (ls : List Lnk) (fl : List Sp) (i : Nat) : List (List UInt8):=((ls.zip fl).take i).filterMap (ovG ss f)
def fz (l : List (List UInt8)) : List (List D):=l.map fun s=>[.str s]
theorem nu (l : List (List UInt8)) : (fz l).length=l.length:=by simp [fz]
theorem EL (l : List (List UInt8)) : (fz l).map (fun e=>e.map aX)=fz l:=by
 unfold fz
 rw [List.map_map]
 apply List.map_congr_left
 intro v _
 simp [aX]
def OvE (ns : List Nod) (ls : List Lnk) (ss : List Sec) (q : List Sp) : Int:=if uf ns ls ss q ns.length=0 then wt ns.length (dD ns ls) q else uf ns ls ss q ns.length
def OvV (f : Sp -> Int) (ns : List Nod) (ls : List Lnk) (ss : List Sec) (q : List Sp) : D:=if OvE ns ls ss q=0 then .sl (fz (Sv ss f ls (mJ ns.length (dD ns ls) q) ls.length)) else .nils
variable {C : CC} (hC : ao prog C)
include hC
end Go.Gv

namespace Go.Gv
variable {C : CC} (hC : ao prog C)
include hC
theorem zM (b b' : Bool) (xs ys : List (List UInt8)) (hx : xs.length < 2 ^ 62) (hy : ys.length < 2 ^ 62) : C 435 [slx b (fz xs),slx b' (fz ys)] (.bool (decide (xs=ys))) []:=by
 obtain ⟨r,hr⟩ : ∃ r,r=decide (xs=ys):=⟨_,rfl⟩
 rw [<- hr]
 refine start hC (nf:=N435) rfl rfl ?_
 simp [N435,fz]
 refine ab (fun h=>?_) (fun h=>?_) <;> simp at h <;> simp [h]
 ·rw [hr,decide_eq_false]
  intro e
  exact h (by rw [e])
 have h' : xs.length=ys.length:=by omega
 refine aq Nat (fun i=>[(0,slx b (fz xs)),(1,slx b' (fz ys)),(12,.int .i64 xs.length),(13,.int .i64 i)])
  (fun i=>i <= xs.length /\ ∀ (k : Nat) (h1 : k < xs.length) (h2 : k < ys.length),k < i -> xs[k]=ys[k]) (fun i=>xs.length - i) 0 (by simp) (by simp [h',fz]) ?_
 rintro i ⟨hi,hok⟩
 simp [fz]
 refine ab (fun h1=>?_) (fun h1=>?_) <;> simp at h1 <;> simp [h1]
 ·have hw : IntKind.wrap .i64 ((i : Int) + 1)=((i + 1 : Nat) : Int):=ai (by omega) (by omega)
  have hy1 : i < ys.length:=by omega
  simp [h1,hy1]
  refine ⟨ae (by decide +kernel),?_⟩
  by_cases h2 : xs[i]=ys[i]
  ·simp [h2,hw]
   refine ⟨i + 1,⟨by omega,fun k hk hk' hki=>?_⟩,by omega,by omega⟩
   rcases Nat.lt_succ_iff_lt_or_eq.1 hki with h3 | rfl
   ·exact hok k hk hk' h3
   ·exact h2
  ·simp [h2]
   rw [hr,decide_eq_false]
   intro e
   subst e
   exact h2 rfl
 ·rw [hr]
  have : xs=ys:=by
   apply List.ext_getElem h'
   intro k a1 a2
   exact hok k a1 a2 (by omega)
  simp [this]
end Go.Gv

namespace Go.Gv
def trn (es : List Edg) : List Edg:=es.map fun e=>(e.2,e.1)
def fx (ns : List Nod) (k : Nat) : List UInt8:=(ns[k]?.map (·.name)).getD []
def nmT (ns : List Nod) (f : Nat -> Bool) : Nat -> List (List UInt8)
 | 0=>[]
 | k + 1=>nmT ns f k++(if f k=true then [fx ns k] else [])
theorem uE {ns : List Nod} {k : Nat} (h : k < ns.length) : fx ns k=ns[k].name:=by simp [fx,h]
def trA (es : List Edg) (j : Nat) : List (List D):=(List.range es.length).map fun k=>edK (if k < j then (es[k]!.2,es[k]!.1) else es[k]!)
def Mz (ns : List Nod) (nm : List UInt8) : Int:=if 0 <= bC (cT nm) ns then 0 else 9
noncomputable def MA (ns : List Nod) (te : List Edg) (nm : List UInt8) : List (List UInt8):=nmT ns (rB te (tgs te (bC (cT nm) ns).toNat)) ns.length
noncomputable def MB (ns : List Nod) (te : List Edg) (nm : List UInt8) : D:=if 0 <= bC (cT nm) ns then .sl (fz (MA ns te nm)) else .nils
variable {C : CC} (hC : ao prog C)
include hC
def QO (ns : List Nod) (ls : List Lnk) (nm : List UInt8) : Int:=if bZ ns ls=true then Mz ns nm else 1
noncomputable def QP (ns : List Nod) (ls : List Lnk) (nm : List UInt8) : D:=if bZ ns ls=true then MB ns (trn (dD ns ls)) nm else .nils
end Go.Gv

namespace Go.Gv
def SY (n : Nat) (out : Nat -> Bool) : Nat:=wtS (fun v=>if out v=true then 0 else 1) n
variable {C : CC} (hC : ao prog C)
include hC
end Go.Gv

namespace Go.Gv
noncomputable def SI (es : List Edg) (x : Nat) : Nat -> Bool:=rB (trn es) (tgs (trn es) x)
variable {C : CC} (hC : ao prog C)
include hC
noncomputable def upX (ns : List Nod) (ls : List Lnk) (x v : Nat) : Bool:=if v=x then true else SI (dD ns ls) x v
end Go.Gv

namespace Go.Gv
def CZ (n : Nod) : Bool:=decide (110 < n.shape.length) || decide (100 < n.name.length)
def CY (l : Lnk) : Bool:=decide (110 < l.curve.length) || decide (100 < l.name.length) || decide (100 < l.src.length) || decide (100 < l.dst.length) || decide (100 < l.sect.length)
def C1 (s : Sec) : Bool:=decide (110 < s.area.length) || decide (110 < s.conv.length) || decide (100 < s.name.length)
def PC (ns : List Nod) (ls : List Lnk) (ss : List Sec) (k : Nat) : Bool:=decide (12 < ns.length) || decide (20 < ls.length) || decide (12 < ss.length) || decide (25 < k) || ns.any CZ || ls.any CY || ss.any C1
def BU (nm : UInt8) : Nod:=⟨[nm],1,0,0,0,9,false,[(0,0),(9,5)],false,0⟩
def BT (nm a b : UInt8) : Lnk:=⟨[nm],[a],[b],1,5,3,0,[115],0,0,true,[]⟩
def exN : List Nod:=[BU 97,BU 98,⟨[111],3,0,0,0,0,true,[],false,0⟩]
def Td : List Lnk:=[BT 112 97 98,BT 113 98 111]
variable {C : CC} (hC : ao prog C)
include hC
end Go.Gv

namespace Go.Gv
variable {C : CC} (hC : ao prog C)
include hC
end Go.Gv

namespace Go.Gv
structure sy (s : Sec) (fall len : Int) (y : Sp) : Prop where
 lo : 0 <= y.1
 hi : y.1 <= s.height
 fl : y.2 <= 1099511627776
 yes : y.2 <= (tQ s y.1 fall len : Int)
 no : 0 < y.1 -> (tQ s (y.1 - 1) fall len : Int) < y.2
theorem sy.cap {s : Sec} {fall len : Int} {y : Sp} (h : sy s fall len y) (hs : dI s=true) (hf : ip fall len=true) : (tP s y.1 fall len).2=5 \/ ((tP s y.1 fall len).2=0 /\ y.2 <= (tP s y.1 fall len).1):=by
 have:=h.yes
 unfold tP
 rw [if_pos hs,if_pos ⟨h.lo,h.hi,hf⟩]
 split
 ·exact .inl rfl
 ·exact .inr ⟨rfl,this⟩
variable {C : CC} (hC : ao prog C)
include hC
end Go.Gv

namespace Go.Gv
variable {C : CC} (hC : ao prog C)
include hC
end Go.Gv

namespace Go.Gv
def ptN (at' : List Int) (i : Nat) (s : Sp) : Int:=if at'.length=0 then s.1 else s.1 + at'[i % at'.length]! % (s.2 - s.1 + 1)
def Sx (at' : List Int) (i : Nat) (s : Sp) : Sp:=(ptN at' i s,ptN at' i s)
def ptL (at' : List Int) (q : List Sp) : List Sp:=(List.range q.length).map fun i=>Sx at' i q[i]!
def Tg (a b : Sp) : Bool:=decide (b.1 <= a.1) && decide (a.2 <= b.2)
variable {C : CC} (hC : ao prog C)
include hC
end Go.Gv

namespace Go.Gv
structure Tc (a b : List Sp) : Prop where
 len : b.length=a.length
 get : ∀ (i : Nat) (h : i < a.length) (h' : i < b.length),0 <= a[i].1 /\ a[i].1 <= b[i].1 /\ b[i].1=b[i].2 /\ b[i].2 <= a[i].2
end Go.Gv

namespace Go.Gv
theorem Pth.wat {es : List Edg} (hnd : (es.map (·.1)).Nodup) {v x : Nat} (h : Pth es v x) : ∃ m,wat es m v=some x:=by
 have cons : ∀ {u v : Nat},(u,v) ∈ es -> ∀ m,Go.Gv.wat es (m + 1) u=Go.Gv.wat es m v:=fun {u v} e m=>by
  induction m with
  | zero=>show (some u).bind (stp es)=some v;exact EK hnd e
  | succ m ih =>
   show (Go.Gv.wat es (m + 1) u).bind (stp es)=(Go.Gv.wat es m v).bind (stp es)
   rw [ih]
 induction h with
 | refl v=>exact ⟨0,rfl⟩
 | step e _ ih =>
  obtain ⟨m,hm⟩:=ih
  exact ⟨m + 1,by rw [cons e];exact hm⟩
theorem Pth.turn {es : List Edg} {v x : Nat} (h : Pth es v x) : Pth (trn es) x v:=by
 induction h with
 | refl v=>exact .refl v
 | step e _ ih=>exact ih.snoc (List.mem_map.2 ⟨_,e,rfl⟩)
def Ta (q : List Sp) (f : Nat -> Bool) (k : Nat) : Sp:=(qU (fun v=>if f v=true then q[v]!.1 else 0) k,qU (fun v=>if f v=true then q[v]!.2 else 0) k)
variable {C : CC} (hC : ao prog C)
include hC
end Go.Gv

namespace Go.Gv
noncomputable def wyB (es : List Edg) (i k : Nat) : Bool:=rB es (tgs es i) k
theorem qm {es : List Edg} {i k : Nat} : k ∈ tgs es i ↔ (i,k) ∈ es:=s6
theorem tA {es : List Edg} {i k : Nat} : wyB es i k=true ↔ ∃ s,(i,s) ∈ es /\ Pth es s k:=by
 unfold wyB
 rw [rZ]
 constructor
 ·rintro ⟨s,h1,h2⟩
  exact ⟨s,qm.1 h1,h2⟩
 ·rintro ⟨s,h1,h2⟩
  exact ⟨s,qm.2 h1,h2⟩
section
variable (n : Nat) (R : Nat -> Nat -> Bool)
def uD (i k : Nat) : Bool:=R i k && R k i
def rU (i k : Nat) : Bool:=(List.range i).any fun j=>decide (j < k) && uD R j k
def lpL (i : Nat) : List Nat:=(List.range n).filter fun k=>decide (k=i) || (decide (i < k) && uD R i k)
def La : Nat -> List (List Nat)
 | 0=>[]
 | i + 1=>La i++(if rU R i i || !R i i then [] else [lpL n R i])
variable {n R}
def DP (R : Nat -> Nat -> Bool) (i k : Nat) : Bool:=(List.range i).any fun j=>uD R j k
end
end Go.Gv

namespace Go.Gv
theorem oM.closed {n : Nat} {es : List Edg} {out : List Nat} (h : oM n es out) {u v : Nat} (hp : Pth es u v) (hv : v ∈ out) : u ∈ out:=by
 induction hp with
 | refl v=>exact hv
 | step e _ ih=>exact h.pre _ (ih hv) _ e
end Go.Gv

namespace Go.Gv
noncomputable def jx (n : Nat) (es : List Edg) (j : Nat) : List (List D):=(List.range j).map fun i=>[D.sl (bu n (rB es [i]))]
theorem j3 (n : Nat) (es : List Edg) (j : Nat) : (jx n es j).length=j:=by simp [jx]
theorem tT (n : Nat) (es : List Edg) : jx n es 0=[]:=rfl
theorem tS (n : Nat) (es : List Edg) (j : Nat) : jx n es j++[[D.sl (bu n (rB es [j]))]]=jx n es (j + 1):=by simp [jx,List.range_succ]
theorem Dh (n : Nat) (es : List Edg) (j : Nat) : (jx n es j).map (fun e=>e.map aX)=jx n es j:=by
 unfold jx
 rw [List.map_map]
 apply List.map_congr_left
 intro v _
 simp [aX]
theorem vK {n : Nat} {es : List Edg} {j i : Nat} (h : i < j) : (jx n es j)[i]? = some [D.sl (bu n (rB es [i]))]:=by simp [jx,h]
def ll (n j : Nat) : List (List D):=(List.range n).map fun i=>[D.own 1 (if i < j then bu n (fun _=>false) else [])]
def fS (n : Nat) (f : Nat -> Nat -> Bool) : List (List D):=(List.range n).map fun i=>[D.own 1 (bu n (f i))]
theorem wO {n j i : Nat} (h : i < n) : (ll n j)[i]? = some [D.own 1 (if i < j then bu n (fun _=>false) else [])]:=by simp [ll,h]
theorem wP {n j : Nat} : (ll n j).set j [D.own 1 (bu n fun _=>false)]=ll n (j + 1):=by
 unfold ll
 rw [lC]
 apply List.map_congr_left
 intro v _
 by_cases e : v=j
 ·subst e;simp
 ·have : (v < j)=(v < j + 1):=by apply propext;omega
  simp only [if_neg e,this]
theorem uk (n : Nat) : List.replicate n [D.own 1 []]=ll n 0:=by simp [ll,List.map_const']
theorem wM (n : Nat) : ll n n=fS n fun _ _=>false:=by
 unfold ll fS
 apply List.map_congr_left
 intro v hv
 rw [if_pos (by simpa using hv)]
theorem i8 (n : Nat) (f : Nat -> Nat -> Bool) : (fS n f).length=n:=by simp [fS]
theorem xA {n i : Nat} (f : Nat -> Nat -> Bool) (h : i < n) : (fS n f)[i]? = some [D.own 1 (bu n (f i))]:=by simp [fS,h]
theorem xB {n i k : Nat} (f : Nat -> Nat -> Bool) (x : Bool) : (fS n f).set i [D.own 1 ((bu n (f i)).set k [.bool x])]=fS n fun u v=>if u=i /\ v=k then x else f u v:=by
 unfold fS
 rw [lC]
 apply List.map_congr_left
 intro v _
 by_cases e : v=i
 ·subst e
  rw [if_pos rfl,gJ]
  congr 3
  funext u
  simp
 ·rw [if_neg e]
  congr 3
  funext u
  simp [e]
theorem En (n : Nat) (f : Nat -> Nat -> Bool) : (fS n f).map (fun e=>e.map aX)=(List.range n).map fun i=>[D.sl (bu n (f i))]:=by
 unfold fS
 rw [List.map_map]
 apply List.map_congr_left
 intro v _
 simp [aX]
noncomputable def wyJ (es : List Edg) (j : Nat) (i k : Nat) : Bool:=(es.take j).any fun e=>decide (e.1=i) && rB es [e.2] k
noncomputable def wyK (es : List Edg) (j c : Nat) (i k : Nat) : Bool:=if k < c then wyJ es (j + 1) i k else wyJ es j i k
theorem yz (es : List Edg) : wyJ es 0=fun _ _=>false:=by funext i k;simp [wyJ]
theorem yy {es : List Edg} {j : Nat} (h : j < es.length) (i k : Nat) : wyJ es (j + 1) i k=(wyJ es j i k || (decide (es[j].1=i) && rB es [es[j].2] k)):=by
 unfold wyJ
 rw [List.take_succ_eq_append_getElem h,List.any_append]
 simp
theorem Bs (es : List Edg) (i k : Nat) : wyJ es es.length i k=wyB es i k:=by
 rw [Bool.eq_iff_iff,tA]
 unfold wyJ
 rw [List.take_length]
 simp only [List.any_eq_true,Bool.and_eq_true,decide_eq_true_eq,rZ]
 constructor
 ·rintro ⟨⟨a,b⟩,h1,rfl,s,hs,hp⟩
  simp at hs;subst hs
  exact ⟨s,h1,hp⟩
 ·rintro ⟨s,h1,hp⟩
  exact ⟨(i,s),h1,rfl,s,by simp,hp⟩
theorem yA {es : List Edg} {j c n : Nat} (h : j < es.length) {x : Bool} (hx : x=(wyJ es j es[j].1 c || rB es [es[j].2] c)) : fS n (fun u v=>if u=es[j].1 /\ v=c then x else wyK es j c u v)=fS n (wyK es j (c + 1)):=by
 congr 1
 funext u v
 unfold wyK
 by_cases e2 : v=c
 ·subst e2
  rw [if_neg (Nat.lt_irrefl v),if_pos (Nat.lt_succ_self v),yy h]
  by_cases e1 : u=es[j].1
  ·subst e1;simp [hx]
  ·have : ¬ es[j].1=u:=fun e=>e1 e.symm
   simp [e1,this]
 ·have e3 : (v < c)=(v < c + 1):=by apply propext;omega
  simp only [e2,and_false,if_false,e3]
noncomputable def yt (n : Nat) (es : List Edg) : D:=.sl ((List.range n).map fun i=>[.sl (bu n (wyB es i))])
variable {C : CC} (hC : ao prog C)
include hC
theorem zP (hS : SlC C) {b : Bool} {n : Nat} {es : List Edg} (hn : n <= 300) (he : es.length <= 1000) (hg : inG n es) : C 635 [.int .i64 n,slx b (es.map edK)] (.tup [.sl (jx n es n),.int .i64 0]) []:=by
 have k0:=wA hC b n (es.map edI) (by simp;omega)
 rw [<- ze,Dy hC hn he hg] at k0
 have k1:=Ef hC hS (b:=b) hn he hg
 refine start hC (nf:=N635) rfl rfl ?_
 simp [N635]
 refine aa k0 (.inl rfl) ?_
 simp
 refine aa k1 (.inr rfl) ?_
 obtain ⟨X,hX⟩ : ∃ X,uF n es=.sl X:=⟨_,rfl⟩
 simp [hX]
 refine aq Nat (fun j=>[(6,.sl X),(7,.ref (.r 10112) 0 j),(10112,.blk 1 (jx n es j)),(16,.int .i64 n),(17,.int .i64 j)]) (fun j=>j <= n) (fun j=>n - j) 0 (by simp) (by simp [tT]) ?_
 intro j hj
 simp
 refine ab (fun h=>?_) (fun h=>?_) <;> simp at h
 ·have hw : IntKind.wrap .i64 ((j : Int) + 1)=((j + 1 : Nat) : Int):=ai (by omega) (by omega)
  have k2:=AD hC (b:=false) hn hg [j] (by simp;omega) (by simp)
  rw [hX] at k2
  simp [h]
  refine aa k2 (.inr rfl) ?_
  simp [j3]
  have e : List.take j (jx n es j)=jx n es j:=List.take_of_length_le (by rw [j3];exact Nat.le_refl _)
  exact ⟨by omega,j + 1,by omega,by omega,rfl,by rw [e,tS],hw⟩
 ·have ej : j=n:=by omega
  subst ej
  simp [h,j3,Dh]
  exact (List.take_of_length_le (by rw [j3];exact Nat.le_refl _)).symm
theorem rA (b1 b2 : Bool) (ns : List Nod) (ls : List Lnk) (hv : bZ ns ls=true) (hcv : ∀ l ∈ ls,l.curve.length < 2 ^ 62) : C 627 [.agg [slx b1 (ns.map bk),slx b2 (ls.map aS)]] (.sl ((dD ns ls).map edK)) []:=by
 have k1:=vk hC b1 b2 ns ls hcv
 rw [hv] at k1
 simp only [if_true] at k1
 refine start hC (nf:=N627) rfl rfl ?_
 simp [N627]
 refine aa k1 (.inr rfl) ?_
 simp
set_option maxHeartbeats 2000000 in
theorem yW (hS : SlC C) (b1 b2 : Bool) (ns : List Nod) (ls : List Lnk) (hv : bZ ns ls=true) (hcv : ∀ l ∈ ls,l.curve.length < 2 ^ 62) : C 600 [.agg [slx b1 (ns.map bk),slx b2 (ls.map aS)]] (yt ns.length (dD ns ls)) []:=by
 have hn : ns.length <= 300:=(cZ hv).1
 have he : (dD ns ls).length <= 1000:=by rw [gM];have:=(cZ hv).2;omega
 have hg : inG ns.length (dD ns ls):=oZ hv
 have k1:=rA hC b1 b2 ns ls hv hcv
 have k2:=zP hC hS (b:=false) hn he hg
 rw [bI] at k2
 generalize dD ns ls=es at *
 obtain ⟨X,hX,hXg⟩ : ∃ X,X=jx ns.length es ns.length /\ ∀ i,i < ns.length -> X[i]? = some [D.sl (bu ns.length (rB es [i]))]:=⟨_,rfl,fun i hi=>vK hi⟩
 rw [<- hX] at k2
 clear hX
 refine start hC (nf:=N600) rfl rfl ?_
 simp [N600]
 refine aa k1 (.inr rfl) ?_
 simp
 refine aa k2 (.inr rfl) ?_
 simp [uk]
 refine ⟨by omega,?_⟩
 refine aq Nat (fun j=>[(1,.ptr [slx b1 (ns.map bk),slx b2 (ls.map aS)]),(3,.sl (es.map edK)),(4,.sl X),(6,.ref (.r 10096) 0 ns.length),(10096,.blk 1 (ll ns.length j)),(27,.int .i64 ns.length),(28,.int .i64 j)]) (fun j=>j <= ns.length) (fun j=>ns.length - j) 0 (by simp) (by simp) ?_
 intro j hj
 simp
 refine ab (fun h=>?_) (fun h=>?_) <;> simp at h
 ·have hw : IntKind.wrap .i64 ((j : Int) + 1)=((j + 1 : Nat) : Int):=ai (by omega) (by omega)
  have hg0:=wO (j:=j) h
  rw [if_neg (Nat.lt_irrefl j)] at hg0
  simp [h,hw,hg0]
  have e1 : (ll ns.length j).set j [D.own 1 (List.replicate ns.length [D.bool false])]=ll ns.length (j + 1):=by
   rw [<- wP]
   congr 3
   simp [bu,ml]
  rw [e1]
  exact ⟨by omega,j + 1,by omega,by omega,rfl,rfl⟩
 ·have ej : j=ns.length:=by omega
  subst ej
  have e2 : ll ns.length ns.length=fS ns.length (wyJ es 0):=by rw [wM,yz]
  simp [h,e2]
  refine aq Nat (fun j=>[(4,.sl X),(6,.ref (.r 10096) 0 ns.length),(10096,.blk 1 (fS ns.length (wyJ es j))),(39,.sl (es.map edK)),(40,.int .i64 es.length),(41,.int .i64 j)]) (fun j=>j <= es.length) (fun j=>es.length - j) 0 (by simp) (by simp) ?_
  intro j hj
  simp
  refine ab (fun h=>?_) (fun h=>?_) <;> simp at h
  ·have hw : IntKind.wrap .i64 ((j : Int) + 1)=((j + 1 : Nat) : Int):=ai (by omega) (by omega)
   have hin:=hg es[j] (List.getElem_mem _)
   obtain ⟨i,e,hie⟩ : ∃ i e,es[j]=(i,e):=⟨_,_,rfl⟩
   simp [hie] at hin
   simp [h,edK,knD,hie,av (hXg e hin.2)]
   have hB:=cm ns.length (rB es [e])
   rw [hB]
   refine aq Nat (fun c=>[(4,.sl X),(6,.ref (.r 10096) 0 ns.length),(9,.adr (.r 10144) 0 0),(39,.sl (es.map edK)),(40,.int .i64 es.length),(41,.int .i64 j),(49,.sl (bu ns.length (rB es [e]))),(50,.int .i64 ns.length),(51,.int .i64 c),(10096,.blk 1 (fS ns.length (wyK es j c))),(10144,.blk 2 [[.int .i64 i,.int .i64 e]])]) (fun c=>c <= ns.length) (fun c=>ns.length - c) 0 (by simp) (by
    have : fS ns.length (wyK es j 0)=fS ns.length (wyJ es j):=by unfold wyK;simp
    simp [this]) ?_
   intro c hc
   simp
   refine ab (fun h2=>?_) (fun h2=>?_) <;> simp at h2
   ·have hw2 : IntKind.wrap .i64 ((c : Int) + 1)=((c + 1 : Nat) : Int):=ai (by omega) (by omega)
    have hrow:=xA (wyK es j c) hin.1
    have hcell:=cY (wyK es j c i) h2
    have hval : wyK es j c i c=wyJ es j i c:=by simp [wyK]
    have hset : ∀ x,x=(wyJ es j i c || rB es [e] c) -> (fS ns.length (wyK es j c)).set i [D.own 1 ((bu ns.length (wyK es j c i)).set c [D.bool x])]=fS ns.length (wyK es j (c + 1)):=fun x hx=>by
     rw [xB]
     have:=yA (n:=ns.length) (c:=c) h (x:=x) (by rw [hie];exact hx)
     rw [hie] at this
     exact this
    have hrowE : (fS ns.length (wyK es j c))[i]'(by rw [i8];exact hin.1)=[D.own 1 (bu ns.length (wyK es j c i))]:=(List.getElem?_eq_some_iff.1 hrow).2
    simp [h2,hw2,av (cY (rB es [e]) h2),aF hrow,hrow,hin.1,i8,cm,hrowE,aF hcell,hval]
    have hcellE : (bu ns.length (wyK es j c i))[c]'(by rw [cm];exact h2)=[D.bool (wyJ es j i c)]:=(List.getElem?_eq_some_iff.1 hcell).2.trans (by rw [hval])
    refine ab (fun hv1=>?_) (fun hv1=>?_)
    ·have e3:=hset true (by rw [hv1];rfl)
     rw [hv1]
     simp [hrow,hrowE,hin.1,h2,i8,cm,aF hrow,aF hcell,hval,hcellE,e3,hw2]
     exact ⟨ae (by decide +kernel),c + 1,by omega,by omega,by omega,rfl⟩
    ·have e3:=hset (rB es [e] c) (by rw [hv1];rfl)
     rw [hv1]
     simp [hrow,hrowE,hin.1,h2,i8,cm,aF hrow,aF hcell,hval,hcellE,e3,hw2]
     exact ⟨ae (by decide +kernel),c + 1,by omega,by omega,by omega,rfl⟩
   ·have ec : c=ns.length:=by omega
    subst ec
    have e4 : fS ns.length (wyK es j ns.length)=fS ns.length (wyJ es (j + 1)):=by
     unfold fS
     apply List.map_congr_left
     intro u _
     rw [gk (g:=wyJ es (j + 1) u) fun v hv=>by simp [wyK,hv]]
    simp [h2,hw,e4]
    exact ⟨j + 1,by omega,by omega,rfl,by omega⟩
  ·have ej : j=es.length:=by omega
   subst ej
   simp [h,i8,En]
   unfold yt
   rw [List.take_of_length_le (by simp)]
   congr 1
   apply List.map_congr_left
   intro i _
   rw [gk fun v _=>Bs es i v]
end Go.Gv
