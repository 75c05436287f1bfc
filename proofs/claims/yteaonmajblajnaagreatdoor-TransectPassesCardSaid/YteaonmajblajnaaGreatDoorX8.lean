/-
  Texts of the proof: H9, H11, H12, V3, V4, Z4, Z5, Z6, I3, Z7, Z8, Z9, Z10, Z11, J3, J4, J5, J6, J7, J8, J9, J10, J11, J12, J13, J14, J15, J16, J22a, J23, J24, J25, J26, J27, J28.
-/
import Derived.Test.YteaonmajblajnaaGreatDoorX7
import Derived.Test.YteaonmajblajnaaGreatDoorX6
set_option linter.all false
namespace Go.Gv
theorem lU {s : Spt} (h : bf s=true) : -16777216 <= s.x /\ s.x <= 16777216 /\ -16777216 <= s.y /\ s.y <= 16777216 /\ -4194304 <= s.z /\ s.z <= 4194304:=by
 simp only [bf,Bool.and_eq_true,decide_eq_true_eq] at h
 omega
def spA (m : Msh) (i : Nat) : Spt:=spt m (fce m i).a.toNat
def spB (m : Msh) (i : Nat) : Spt:=spt m (fce m i).b.toNat
def spC (m : Msh) (i : Nat) : Spt:=spt m (fce m i).c.toNat
def rg (m : Msh) (i : Nat) : Int:=(spA m i).z + (spB m i).z + (spC m i).z
def vz (m : Msh) (i : Nat) : Int:=(spA m i).x + (spB m i).x + (spC m i).x
def vA (m : Msh) (i : Nat) : Int:=(spA m i).y + (spB m i).y + (spC m i).y
theorem B2 {m : Msh} (hv : aF m=true) {i : Nat} (hi : i < m.f.length) : bf (spA m i)=true /\ bf (spB m i)=true /\ bf (spC m i)=true:=by
 obtain ⟨⟨_,h1⟩,⟨_,h2⟩,⟨_,h3⟩⟩:=jZ (fy hv hi)
 exact ⟨pM hv h1,pM hv h2,pM hv h3⟩
def smR (m : Msh) (i : Nat) : List (List D):=(List.range i).map fun j=>[.int .i64 (rg m j)]
def ctR (m : Msh) (i : Nat) : List (List D):=(List.range i).map fun j=>[.int .i64 (vz m j),.int .i64 (vA m j)]
@[simp] theorem Qf (m : Msh) (i : Nat) : (smR m i).length=i:=by simp [smR]
@[simp] theorem Mm (m : Msh) (i : Nat) : (ctR m i).length=i:=by simp [ctR]
@[simp] theorem LS (m : Msh) (i : Nat) : List.take i (smR m i)=smR m i:=List.take_of_length_le (by simp)
@[simp] theorem HK (m : Msh) (i : Nat) : List.take i (ctR m i)=ctR m i:=List.take_of_length_le (by simp)
@[simp] theorem Qe (m : Msh) (i : Nat) (x : List D) : (∀ e,e ∈ smR m i \/ e=x -> ∀ c,c ∈ e -> aA c=true)=∀ c,c ∈ x -> aA c=true:=by
 apply propext
 constructor
 ·exact fun h=>h x (.inr rfl)
 ·rintro h e (he | rfl)
  ·obtain ⟨j,_,rfl⟩:=List.mem_map.1 he
   simp
  ·exact h
@[simp] theorem Ml (m : Msh) (i : Nat) (x : List D) : (∀ e,e ∈ ctR m i \/ e=x -> ∀ c,c ∈ e -> aA c=true)=∀ c,c ∈ x -> aA c=true:=by
 apply propext
 constructor
 ·exact fun h=>h x (.inr rfl)
 ·rintro h e (he | rfl)
  ·obtain ⟨j,_,rfl⟩:=List.mem_map.1 he
   simp
  ·exact h
def cN (sz : Nat) (es : List (List D)) : D:=match es with
 | []=>.nils
 | e::r=>.own sz (e::r)
@[simp] theorem Hz (sz : Nat) (es : List (List D)) : aV (cN sz es)=slx true es:=by cases es <;> rfl
def grC (m : Msh) : List D:=[.sl (nbA m),slx true (smR m m.f.length),slx true (ctR m m.f.length)]
def mdE (m : Msh) (i : Nat) : Env:=[(1,.ptr (aN m)),(6,.adr (.r 10352) 0 0),(10352,.blk 3 [[.sl (nbA m),cN 1 (smR m i),cN 2 (ctR m i)]]),(24,slx m.fn (m.f.map bq)),(25,.int .i64 m.f.length),(26,.int .i64 i)]
variable {C : CC} (hC : aB prog C)
include hC
end Go.Gv

namespace Go.Gv
def bsd (m : Msh) (i : Nat) (o : Int) : Bool:=decide (o=nbF m i 0) || (decide (o=nbF m i 1) || decide (o=nbF m i 2))
def vM (m : Msh) (i j : Nat) : Int:=rg m i - rg m j
def K9 (m : Msh) (i j : Nat) : Int:=vM m i j * (if vM m i j < -vM m i j then -vM m i j else vM m i j)
def HL (m : Msh) (i j : Nat) : Int:=(vz m i - vz m j) * (vz m i - vz m j) + (vA m i - vA m j) * (vA m i - vA m j)
def HD (m : Msh) (i a b : Nat) : Int:=iq (K9 m i a * HL m i b) (K9 m i b * HL m i a)
def RN (m : Msh) (i : Nat) (best n : Int) : Int:=if n < 0 \/ rg m i <= rg m n.toNat then best else if best < 0 then n else if 0 < HD m i n.toNat best.toNat \/ (HD m i n.toNat best.toNat=0 /\ n < best) then n else best
def upF (m : Msh) (i : Nat) : Nat -> Int
 | 0=>-2
 | k + 1=>RN m i (upF m i k) (nbF m i k)
def Ag (m : Msh) (i : Nat) : Int:=if upF m i 3=-2 /\ bsd m i (-1)=true then -1 else upF m i 3
variable {C : CC} (hC : aB prog C)
include hC
theorem za {b : Bool} {xs : List Int} (o : Int) (hs : xs.length < 2 ^ 62) : C 262 [slx b (xs.map fun x=>[.int .i64 x]),.int .i64 o] (.int .i64 (jY (fun x=>decide (o=x)) xs)) []:=by
 refine start hC (nf:=N262) rfl rfl ?_
 simp [N262]
 refine aw Nat (fun i=>[(0,slx b (xs.map fun x=>[.int .i64 x])),(1,.int .i64 o),(7,.int .i64 xs.length),(8,.int .i64 i)]) (fun i=>i <= xs.length /\ ∀ (j : Nat) (h : j < xs.length),j < i -> decide (o=xs[j])=false) (fun i=>xs.length - i) 0 (by simp) (by simp) ?_
 rintro i ⟨hi,hj⟩
 simp
 refine ao (fun h=>?_) (fun h=>?_) <;> simp [h] <;> simp at h
 ·have hw : IntKind.wrap .i64 ((i : Int) + 1)=((i + 1 : Nat) : Int):=ac (by omega) (by omega)
  simp [h,List.getElem_map]
  refine ao (fun h1=>?_) (fun h1=>?_) <;> simp at h1 <;> simp [hw]
  ·rw [fS hj h (by simpa using h1)]
  ·refine ⟨i + 1,⟨by omega,fun j hl hjj=>?_⟩,by omega,by omega⟩
   rcases Nat.lt_succ_iff_lt_or_eq.1 hjj with h2 | rfl
   ·simpa using hj j hl h2
   ·exact h1
 ·rw [fR (fun j hl=>hj j hl (by omega))]
theorem y8 {b : Bool} {xs : List Int} (o : Int) (hs : xs.length < 2 ^ 62) : C 223 [slx b (xs.map fun x=>[.int .i64 x]),.int .i64 o] (.bool (xs.any fun x=>decide (o=x))) []:=by
 refine start hC (nf:=N223) rfl rfl ?_
 simp [N223]
 refine aa (za hC o hs) (.inl rfl) ?_
 simp [kM]
end Go.Gv

namespace Go.Gv
def inR (l : List Int) : List (List D):=l.map fun n=>[.int .i64 n]
@[simp] theorem MW (l : List Int) : (inR l).length=l.length:=by simp [inR]
@[simp] theorem IQ (l : List Int) : List.take l.length (inR l)=inR l:=List.take_of_length_le (by simp)
@[simp] theorem QU (l : List Int) : List.map (fun e=>List.map aV e) (inR l)=inR l:=by simp [inR]
@[simp] theorem MX : inR []=[]:=rfl
def Sf (m : Msh) : List Int:=(List.range m.f.length).map fun j=>rg m j
def RW (m : Msh) : List Int:=(List.range m.f.length).map fun j=>Ag m j
def flT (m : Msh) (i : Nat) : List Int:=(List.range i).map fun j=>Ag m j
def flB (m : Msh) : Nat -> List (List D)
 | 0=>List.replicate m.f.length [.int .i64 0]
 | i + 1=>inR (flT m (i + 1))
def pth (m : Msh) : Nat -> Int -> List Int
 | 0,_=>[]
 | k + 1,f=>if f < 0 then [] else f::pth m k (Ag m f.toNat)
def rnk (m : Msh) (i : Nat) : Nat:=((List.range m.f.length).filter fun j=>decide (rg m j < rg m i)).length
def RX (m : Msh) (f : Int) : List Int:=pth m m.f.length f
def Rp (m : Msh) (i : Nat) : List Int:=((List.range i).filter fun j=>decide (Ag m j=-2)).map fun (j : Nat)=>(j : Int)
def R8 (m : Msh) : List Int:=Rp m m.f.length
variable {C : CC} (hC : aB prog C)
include hC
theorem qQ (m : Msh) (hz : bA m=true -> m.s.length <= 100 /\ m.f.length <= 100) : C 215 [.agg (aN m)] (.bool (aF m)) []:=by
 have ks:=xC hC m
 rw [show (decide (m.s.length <= 2000) && decide (m.f.length <= 4000))=bA m from rfl] at ks
 refine start hC (nf:=N215) rfl rfl ?_
 simp only [ab] at ks
 simp [N215,ab]
 refine aa ks (.inl rfl) ?_
 cases hs : bA m
 ·simp [aF,hs]
 ·obtain ⟨h1,h2⟩:=hz hs
  have k:=xt hC m h1 h2
  have e : aF m=decide ((cA gJ 0 (LL m)).length=0):=by
   rw [aF,hs,Bool.true_and,Bool.eq_iff_iff,decide_eq_true_eq,List.length_eq_zero_iff,ni]
  rw [e]
  obtain ⟨X,hX⟩ : ∃ X,X=cA gJ 0 (LL m):=⟨_,rfl⟩
  rw [<- hX] at k ⊢
  simp only [ab] at k
  simp
  refine aa k (.inr rfl) ?_
  simp
end Go.Gv

namespace Go.Gv
def slE (m : Msh) (a b : Int) : Int:=if aF m=false then 1 else if gN m.f.length a=false \/ gN m.f.length b=false then 2 else if bsd m a.toNat b=false then 25 else 0
def stE (m : Msh) (i a b : Int) : Int:=if aF m=false then 1 else if gN m.f.length i=false \/ gN m.f.length a=false \/ gN m.f.length b=false then 2 else if bsd m i.toNat a=false \/ bsd m i.toNat b=false then 25 else 0
variable {C : CC} (hC : aB prog C)
include hC
end Go.Gv

namespace Go.Gv
theorem y9 {α : Type} {p : α -> Bool} {xs : List α} {i : Nat} (h : jY p xs=(i : Int)) : ∃ h : i < xs.length,p xs[i]=true:=by
 unfold jY at h
 cases e : xs.findIdx? p with
 | none=>rw [e] at h;simp at h
 | some k =>
  rw [e] at h
  have h : k=i:=by have h : (k : Int)=(i : Int):=h;omega
  subst h
  rw [List.findIdx?_eq_some_iff_getElem] at e
  exact ⟨e.1,e.2.1⟩
def cpt (m : Msh) (f : Fce) (k : Nat) : Pnt:=ptS (spt m (crn f k).toNat)
end Go.Gv

namespace Go.Gv
def tn0 (m : Msh) (i : Nat) (p : Pnt) : Int:=ai (ptS (spA m i)) (ptS (spB m i)) p
def tn1 (m : Msh) (i : Nat) (p : Pnt) : Int:=ai (ptS (spB m i)) (ptS (spC m i)) p
def tn2 (m : Msh) (i : Nat) (p : Pnt) : Int:=ai (ptS (spC m i)) (ptS (spA m i)) p
def osF (m : Msh) (i : Nat) (p : Pnt) : Int:=if tn0 m i p < 0 then 0 else if tn1 m i p < 0 then 1 else if tn2 m i p < 0 then 2 else -1
def cZ (m : Msh) (p : Pnt) : Int:=jY (fun i=>decide (osF m i p < 0)) (List.range m.f.length)
theorem iy {m : Msh} {p : Pnt} (h : 0 <= cZ m p) : (cZ m p).toNat < m.f.length /\ osF m (cZ m p).toNat p < 0:=by
 have e : cZ m p=((cZ m p).toNat : Int):=by omega
 obtain ⟨h1,h2⟩:=y9 (p:=fun i=>decide (osF m i p < 0)) (xs:=List.range m.f.length) e
 simp at h1 h2
 exact ⟨h1,h2⟩
theorem xd {m : Msh} {i : Nat} {p : Pnt} (h : osF m i p < 0) : 0 <= tn0 m i p /\ 0 <= tn1 m i p /\ 0 <= tn2 m i p:=by
 unfold osF at h
 split at h
 ·omega
 ·split at h
  ·omega
  ·split at h
   ·omega
   ·omega
def tV (m : Msh) (i : Nat) : List D:=[.int .i64 (spA m i).x,.int .i64 (spA m i).y,.int .i64 (spA m i).z,.int .i64 (spB m i).x,.int .i64 (spB m i).y,.int .i64 (spB m i).z,.int .i64 (spC m i).x,.int .i64 (spC m i).y,.int .i64 (spC m i).z]
theorem cL (m : Msh) (i : Nat) : tV m i=[.int .i64 (spA m i).x,.int .i64 (spA m i).y,.int .i64 (spA m i).z,.int .i64 (spB m i).x,.int .i64 (spB m i).y,.int .i64 (spB m i).z,.int .i64 (spC m i).x,.int .i64 (spC m i).y,.int .i64 (spC m i).z]:=_root_.id rfl
theorem kj {m : Msh} (hv : aF m=true) {i : Nat} (hi : i < m.f.length) : okP (ptS (spA m i))=true /\ okP (ptS (spB m i))=true /\ okP (ptS (spC m i))=true:=by
 obtain ⟨h1,h2,h3⟩:=B2 hv hi
 exact ⟨j6 h1,j6 h2,j6 h3⟩
@[simp] theorem Qc (p : Pnt) : (ptD p).length=2:=_root_.id rfl
@[simp] theorem Lt (p : Pnt) : List.take 2 (ptD p)=ptD p:=_root_.id rfl
@[simp] theorem RZ (p : Pnt) : (∀ x,x ∈ ptD p -> isV x=true)=True:=by simp [ptD]
@[simp] theorem RY (p : Pnt) : (∀ x,x ∈ ptD p -> aA x=true)=True:=by simp [ptD]
variable {C : CC} (hC : aB prog C)
include hC
theorem m7 (m : Msh) (i : Nat) (hi : i < m.f.length) (h : inS m (fce m i)=true) : C 319 [.agg (aN m),.int .i64 i] (.agg (tV m i)) []:=by
 obtain ⟨⟨a1,a2⟩,⟨b1,b2⟩,⟨c1,c2⟩⟩:=jZ h
 refine start hC (nf:=N319) rfl rfl ?_
 simp [N319,ab,hi,aT,a1,a2,b1,b2,c1,c2,bz,tV,spA,spB,spC]
 exact aj (by decide +kernel)
theorem ox (s : Spt) : C 321 [.agg (eA s)] (.agg (ptD (ptS s))) []:=by
 refine start hC (nf:=N321) rfl rfl ?_
 simp [N321,eA,ptD,ptS]
theorem iA {a b c : Pnt} (ha : okP a=true) (hb : okP b=true) (hc : okP c=true) : C 320 [.agg (ptD a),.agg (ptD b),.agg (ptD c)] (.int .i64 (ai a b c)) []:=by
 have:=cJ ha
 have:=cJ hb
 have:=cJ hc
 have h4:=lh ha hb hc
 refine start hC (nf:=N320) rfl rfl ?_
 have w1 : IntKind.wrap .i64 (b.1 - a.1)=b.1 - a.1:=ac rfl (by omega)
 have w2 : IntKind.wrap .i64 (c.2 - a.2)=c.2 - a.2:=ac rfl (by omega)
 have w3 : IntKind.wrap .i64 (b.2 - a.2)=b.2 - a.2:=ac rfl (by omega)
 have w4 : IntKind.wrap .i64 (c.1 - a.1)=c.1 - a.1:=ac rfl (by omega)
 have w5 : IntKind.wrap .i64 ((b.1 - a.1) * (c.2 - a.2))=(b.1 - a.1) * (c.2 - a.2):=ac rfl (by omega)
 have w6 : IntKind.wrap .i64 ((b.2 - a.2) * (c.1 - a.1))=(b.2 - a.2) * (c.1 - a.1):=ac rfl (by omega)
 have w7 : IntKind.wrap .i64 ((b.1 - a.1) * (c.2 - a.2) - (b.2 - a.2) * (c.1 - a.1))=ai a b c:=ac rfl (by rw [ai];omega)
 simp [N320,ptD,w1,w2,w3,w4,w5,w6,w7]
set_option maxHeartbeats 2000000 in
theorem wQ (m : Msh) (hv : aF m=true) (i : Nat) (hi : i < m.f.length) (p : Pnt) (hp : okP p=true) : C 284 [.agg (aN m),.int .i64 i,.agg (ptD p)] (.int .i64 (osF m i p)) []:=by
 obtain ⟨oa,ob,oc⟩:=kj hv hi
 have k0:=m7 hC m i hi (fy hv hi)
 have ka:=ox hC (spA m i)
 have kb:=ox hC (spB m i)
 have kc:=ox hC (spC m i)
 have t0 : C 320 [.agg (ptD (ptS (spA m i))),.agg (ptD (ptS (spB m i))),.agg (ptD p)] (.int .i64 (tn0 m i p)) []:=iA hC oa ob hp
 have t1 : C 320 [.agg (ptD (ptS (spB m i))),.agg (ptD (ptS (spC m i))),.agg (ptD p)] (.int .i64 (tn1 m i p)) []:=iA hC ob oc hp
 have t2 : C 320 [.agg (ptD (ptS (spC m i))),.agg (ptD (ptS (spA m i))),.agg (ptD p)] (.int .i64 (tn2 m i p)) []:=iA hC oc oa hp
 have w1 : IntKind.wrap .i64 1=1:=by decide
 have w2 : IntKind.wrap .i64 2=2:=by decide
 have w3 : IntKind.wrap .i64 3=3:=by decide
 have m1 : Int.tmod 1 3=1:=by decide
 have m2 : Int.tmod 2 3=2:=by decide
 have m3 : Int.tmod 3 3=0:=by decide
 simp only [ab,bz,cL] at k0 ka kb kc
 refine start hC (nf:=N284) rfl rfl ?_
 simp [N284,ab]
 refine aa k0 (.inl rfl) ?_
 simp
 refine aw Nat (fun k=>[(5,.ptr (ptD p)),(7,.adr (.r 10112) 0 0),(12,.int .i64 k),(10112,.blk 9 [tV m i])]) (fun k=>k <= 3 /\ (1 <= k -> ¬ tn0 m i p < 0) /\ (2 <= k -> ¬ tn1 m i p < 0) /\ (3 <= k -> ¬ tn2 m i p < 0)) (fun k=>3 - k) 0 (by simp) (by simp [cL]) ?_
 rintro k ⟨hk,h0,h1,h2⟩
 rcases (by omega : k=0 \/ k=1 \/ k=2 \/ k=3) with rfl | rfl | rfl | rfl
 ·simp [cL,w1]
  refine aa ka (.inl rfl) ?_
  simp [w1,m1]
  refine aa kb (.inl rfl) ?_
  simp
  refine aa t0 (.inl rfl) ?_
  simp
  refine ⟨aj (by decide +kernel),?_⟩
  refine ao (fun c=>?_) (fun c=>?_) <;> simp at c
  ·simp [c,osF]
  ·simp [c]
   exact ⟨1,by omega,by omega,by simp [cL,w1]⟩
 ·have h0:=h0 (by omega)
  simp [cL,w2]
  refine aa kb (.inl rfl) ?_
  simp [w2,m2]
  refine aa kc (.inl rfl) ?_
  simp
  refine aa t1 (.inl rfl) ?_
  simp
  refine ⟨aj (by decide +kernel),?_⟩
  refine ao (fun c=>?_) (fun c=>?_) <;> simp at c
  ·simp [c,osF,h0]
  ·simp [c]
   exact ⟨2,by omega,by omega,by simp [cL,w2]⟩
 ·have h0:=h0 (by omega)
  have h1:=h1 (by omega)
  simp [cL,w3]
  refine aa kc (.inl rfl) ?_
  simp [w3,m3]
  refine aa ka (.inl rfl) ?_
  simp
  refine aa t2 (.inl rfl) ?_
  simp
  refine ⟨aj (by decide +kernel),?_⟩
  refine ao (fun c=>?_) (fun c=>?_) <;> simp at c
  ·simp [c,osF,h0,h1]
  ·simp [c]
   exact ⟨3,by omega,by omega,by simp [cL,w3]⟩
 ·have h0:=h0 (by omega)
  have h1:=h1 (by omega)
  have h2:=h2 (by omega)
  simp [osF,h0,h1,h2]
set_option maxHeartbeats 2000000 in
theorem zB (m : Msh) (hv : aF m=true) (hm : m.f.length <= 100) (p : Pnt) (hp : okP p=true) : C 276 [.agg (aN m),.agg (ptD p)] (.int .i64 (cZ m p)) []:=by
 have ko:=fun i hi=>wQ hC m hv i hi p hp
 simp only [ab] at ko
 refine start hC (nf:=N276) rfl rfl ?_
 simp [N276,ab]
 refine aw Nat (fun i=>[(2,.ptr (aN m)),(3,.ptr (ptD p)),(8,.int .i64 m.f.length),(9,.int .i64 i)]) (fun i=>i <= m.f.length /\ ∀ j,j < i -> ¬ osF m j p < 0) (fun i=>m.f.length - i) 0 (by simp) (by simp [ab]) ?_
 rintro i ⟨hi,hj⟩
 simp [ab]
 refine ao (fun g1=>?_) (fun g1=>?_) <;> simp at g1 <;> simp [g1]
 ·have hw : IntKind.wrap .i64 ((i : Int) + 1)=((i + 1 : Nat) : Int):=ac (by omega) (by omega)
  refine aa (ko i g1) (.inl rfl) ?_
  simp
  refine ao (fun c=>?_) (fun c=>?_) <;> simp at c
  ·simp [c]
   refine (fS (fun j hl hji=>?_) (by simpa using g1) ?_).symm
   ·have:=hj j hji
    simpa using this
   ·simpa using c
  ·simp [c]
   refine ⟨i + 1,⟨by omega,fun j hji=>?_⟩,by omega,by simp [ab,hw]⟩
   rcases Nat.lt_succ_iff_lt_or_eq.1 hji with h | rfl
   ·exact Int.not_lt.1 (hj j h)
   ·exact c
 ·refine (fR (fun j hl=>?_)).symm
  rw [List.length_range] at hl
  have:=hj j (by omega)
  simpa using this
theorem wI {b : Bool} {xs : List Pnt} {g : Nat} {cs : List D} (p : Pnt -> Bool) (hs : xs.length < 2 ^ 62) (hp : ∀ x ∈ xs,C g (.agg (ptD x)::cs) (.bool (p x)) []) : C 278 [slx b (xs.map fun x=>ptD x),.fn g cs] (.int .i64 (jY p xs)) []:=by
 refine start hC (nf:=N278) rfl rfl ?_
 simp [N278]
 refine aw Nat (fun i=>[(0,slx b (xs.map fun x=>ptD x)),(1,.fn g cs),(7,.int .i64 xs.length),(8,.int .i64 i)]) (fun i=>i <= xs.length /\ ∀ (j : Nat) (h : j < xs.length),j < i -> p xs[j]=false) (fun i=>xs.length - i) 0 (by simp) (by simp) ?_
 rintro i ⟨hi,hj⟩
 simp
 refine ao (fun h=>?_) (fun h=>?_) <;> simp [h] <;> simp at h
 ·have hw : IntKind.wrap .i64 ((i : Int) + 1)=((i + 1 : Nat) : Int):=ac (by omega) (by omega)
  have hc:=hp _ (List.getElem_mem h)
  simp [h,ptD] at hc ⊢
  refine aa hc (.inl rfl) ?_
  simp
  refine ao (fun h1=>?_) (fun h1=>?_) <;> simp [h1,hw]
  ·rw [fS hj h h1]
  ·refine ⟨i + 1,⟨by omega,fun j hl hjj=>?_⟩,by omega,rfl⟩
   rcases Nat.lt_succ_iff_lt_or_eq.1 hjj with h2 | rfl
   ·exact hj j hl h2
   ·exact h1
 ·rw [fR (fun j hl=>hj j hl (by omega))]
theorem qm {b : Bool} {xs : List Pnt} {g : Nat} {cs : List D} (p : Pnt -> Bool) (hs : xs.length < 2 ^ 62) (hp : ∀ x ∈ xs,C g (.agg (ptD x)::cs) (.bool (p x)) []) : C 239 [slx b (xs.map fun x=>ptD x),.fn g cs] (.bool (xs.any p)) []:=by
 refine start hC (nf:=N239) rfl rfl ?_
 simp [N239]
 refine aa (wI hC p hs hp) (.inl rfl) ?_
 simp [kM]
theorem ux (p : Pnt) : C 312 [.agg (ptD p)] (.bool (!okP p)) []:=by
 have k:=gd hC p
 simp only [ptD] at k
 refine start hC (nf:=N312) rfl rfl ?_
 simp [N312,ptD]
 refine aa k (.inl rfl) ?_
 simp
end Go.Gv

namespace Go.Gv
def onE (m : Msh) (p : Pnt) : Int:=if aF m=true /\ okP p=true then (if cZ m p < 0 then 12 else 0) else 1
def onV (m : Msh) (p : Pnt) : Int:=if onE m p=0 then cZ m p else 0
theorem ng {m : Msh} {p : Pnt} (h : onE m p=0) : aF m=true /\ okP p=true /\ 0 <= cZ m p:=by
 unfold onE at h
 split at h
 ·rename_i h1
  refine ⟨h1.1,h1.2,?_⟩
  split at h
  ·omega
  ·omega
 ·omega
def wlk (m : Msh) (p : Pnt) : Nat -> Nat -> Int × Int × Int
 | r,f=>if osF m f p < 0 then ((f : Int),((m.f.length - r : Nat) : Int),0) else if nbF m f (osF m f p).toNat < 0 then (0,0,12) else match r with
  | 0=>(0,0,6)
  | r + 1=>wlk m p r (nbF m f (osF m f p).toNat).toNat
def wkR (m : Msh) (from_ : Int) (p : Pnt) : Int × Int × Int:=if aF m=true /\ okP p=true then (if gN m.f.length from_=true then wlk m p m.f.length from_.toNat else (0,0,2)) else (0,0,1)
def Sg (t : Int × Int × Int) : D:=.tup [.int .i64 t.1,.int .i64 t.2.1,.int .i64 t.2.2]
variable {C : CC} (hC : aB prog C)
include hC
theorem wT (dec : Nat -> List UInt8) (hI : ∀ n : Nat,n < 100 -> C 127 [.int .i64 n] (.str (dec n)) []) (m : Msh) (hz : bA m=true -> m.s.length <= 100 /\ m.f.length <= 100) (b : Bool) (ps : List Pnt) (hp : ps.length < 2 ^ 62) :
  C 275 [.agg (aN m),slx b (ps.map fun x=>ptD x)] (.bool (aF m && ps.all okP)) []:=by
 have k1:=qD hC dec hI m hz
 have k2:=qm hC (b:=b) (xs:=ps) (g:=312) (cs:=[]) (fun x=>!okP x) hp (fun x _=>ux hC x)
 have e : (ps.any fun x=>!okP x)=!ps.all okP:=by rw [List.all_eq_not_any_not,Bool.not_not]
 rw [e] at k2
 refine start hC (nf:=N275) rfl rfl ?_
 simp only [ab] at k1
 simp [N275,ab]
 refine aa k1 (.inl rfl) ?_
 cases aF m
 ·simp
 ·simp
  refine aa k2 (.inl rfl) ?_
  simp
theorem Bu (dec : Nat -> List UInt8) (hI : ∀ n : Nat,n < 100 -> C 127 [.int .i64 n] (.str (dec n)) []) (m : Msh) (hz : bA m=true -> m.s.length <= 100 /\ m.f.length <= 100) (p : Pnt) :
  C 274 [.agg (aN m),.agg (ptD p)] (.tup [.int .i64 (onV m p),.int .i64 (onE m p)]) []:=by
 have k1:=wT hC dec hI m hz false [p] (by simp)
 simp at k1
 refine start hC (nf:=N274) rfl rfl ?_
 simp only [ab] at k1
 simp only [ptD] at k1
 simp [N274,ab,ptD]
 refine aa k1 (.inl rfl) ?_
 by_cases hv : aF m=true /\ okP p=true
 ·have hm:=(hz (by have:=hv.1;simp only [aF,Bool.and_eq_true] at this;exact this.1)).2
  have k2:=zB hC m hv.1 hm p hv.2
  simp only [ab,ptD] at k2
  simp [hv.1,hv.2]
  refine aa k2 (.inl rfl) ?_
  simp
  refine ao (fun c=>?_) (fun c=>?_) <;> simp at c <;> simp [c,onE,onV,hv.1,hv.2]
 ·have e : (aF m && okP p)=false:=by
   cases h1 : aF m <;> cases h2 : okP p <;> simp [h1,h2] at hv ⊢
  simp [e,onE,onV,hv]
theorem zp (dec : Nat -> List UInt8) (hI : ∀ n : Nat,n < 100 -> C 127 [.int .i64 n] (.str (dec n)) []) (m : Msh) (hz : bA m=true -> m.s.length <= 100 /\ m.f.length <= 100) (p : Pnt) :
  C 235 [.agg (aN m),.agg (ptD p)] (.tup [.int .i64 (onV m p),.int .i64 (onE m p)]) []:=by
 have k1:=Bu hC dec hI m hz p
 refine start hC (nf:=N235) rfl rfl ?_
 simp only [ab,ptD] at k1
 simp [N235,ab,ptD]
 refine aa k1 (.inl rfl) ?_
 simp
end Go.Gv

namespace Go.Gv
open Go.Lib
def fw (m : Msh) (i : Nat) (p : Pnt) : Int:=(spA m i).z * tn1 m i p + (spB m i).z * tn2 m i p + (spC m i).z * tn0 m i p
def dX (m : Msh) (i : Nat) : Int:=ai (ptS (spA m i)) (ptS (spB m i)) (ptS (spC m i))
theorem D1 (m : Msh) (i : Nat) (p : Pnt) : tn0 m i p + tn1 m i p + tn2 m i p=dX m i:=by
 unfold tn0 tn1 tn2 dX ai ptS
 grind
theorem tE (m : Msh) (i : Nat) (p : Pnt) : ai p (ptS (spB m i)) (ptS (spC m i))=tn1 m i p:=by
 unfold tn1 ai;grind
theorem AO (m : Msh) (i : Nat) (p : Pnt) : ai p (ptS (spC m i)) (ptS (spA m i))=tn2 m i p:=by
 unfold tn2 ai;grind
theorem AN (m : Msh) (i : Nat) (p : Pnt) : ai p (ptS (spA m i)) (ptS (spB m i))=tn0 m i p:=by
 unfold tn0 ai;grind
theorem AP (m : Msh) (i : Nat) (p : Pnt) : ai (ptS (spA m i)) p (ptS (spC m i))=tn2 m i p:=by
 unfold tn2 ai;grind
theorem ik {a b c : Pnt} (ha : okP a=true) (hb : okP b=true) (hc : okP c=true) : -2251799813685248 <= ai a b c /\ ai a b c <= 2251799813685248:=by
 have:=lh ha hb hc
 unfold ai
 omega
structure OnF (m : Msh) (i : Nat) (p : Pnt) : Prop where
 z0 : -4194304 <= (spA m i).z /\ (spA m i).z <= 4194304
 z1 : -4194304 <= (spB m i).z /\ (spB m i).z <= 4194304
 z2 : -4194304 <= (spC m i).z /\ (spC m i).z <= 4194304
 t0 : 0 <= tn0 m i p /\ tn0 m i p <= 2251799813685248
 t1 : 0 <= tn1 m i p /\ tn1 m i p <= 2251799813685248
 t2 : 0 <= tn2 m i p /\ tn2 m i p <= 2251799813685248
 d : 0 < dX m i /\ dX m i <= 2251799813685248
theorem lP {m : Msh} (hv : aF m=true) {i : Nat} (hi : i < m.f.length) {p : Pnt} (hp : okP p=true) (h : osF m i p < 0) : OnF m i p:=by
 obtain ⟨oa,ob,oc⟩:=kj hv hi
 obtain ⟨r1,r2,r3⟩:=B2 hv hi
 have:=lU r1
 have:=lU r2
 have:=lU r3
 obtain ⟨n0,n1,n2⟩:=xd h
 have b0 : tn0 m i p <= 2251799813685248:=(ik oa ob hp).2
 have b1 : tn1 m i p <= 2251799813685248:=(ik ob oc hp).2
 have b2 : tn2 m i p <= 2251799813685248:=(ik oc oa hp).2
 have bd : dX m i <= 2251799813685248:=(ik oa ob oc).2
 have hd : 0 < dX m i:=(jG hv hi).2
 exact ⟨by omega,by omega,by omega,by omega,by omega,by omega,by omega⟩
theorem fM {z t : Int} (hz : -4194304 <= z /\ z <= 4194304) (ht : 0 <= t) : -(4194304 * t) <= z * t /\ z * t <= 4194304 * t:=by
 have h1:=Int.mul_nonneg (show 0 <= 4194304 - z by omega) ht
 have h2:=Int.mul_nonneg (show 0 <= 4194304 + z by omega) ht
 rw [Int.sub_mul] at h1
 rw [Int.add_mul] at h2
 omega
theorem OnF.num {m : Msh} {i : Nat} {p : Pnt} (h : OnF m i p) : -(4194304 * dX m i) <= fw m i p /\ fw m i p <= 4194304 * dX m i:=by
 have e:=D1 m i p
 have h1:=fM h.z0 h.t1.1
 have h2:=fM h.z1 h.t2.1
 have h3:=fM h.z2 h.t0.1
 unfold fw
 rw [<- e]
 omega
theorem vN {n d k : Int} (hd : 0 < d) (h : -(k * d) <= n /\ n <= k * d) : -k <= n / d /\ n / d <= k:=by
 constructor
 ·exact (Int.le_ediv_iff_mul_le hd).2 (by rw [Int.neg_mul];exact h.1)
 ·exact Int.le_of_lt_add_one ((Int.ediv_lt_iff_lt_mul hd).2 (by rw [Int.add_mul];omega))
def loF (m : Msh) (i : Nat) (p : Pnt) : Int:=fw m i p / dX m i
def hiF (m : Msh) (i : Nat) (p : Pnt) : Int:=-(-fw m i p / dX m i)
theorem OnF.lo {m : Msh} {i : Nat} {p : Pnt} (h : OnF m i p) : -4194304 <= loF m i p /\ loF m i p <= 4194304:=vN h.d.1 h.num
theorem OnF.hi {m : Msh} {i : Nat} {p : Pnt} (h : OnF m i p) : -4194304 <= hiF m i p /\ hiF m i p <= 4194304:=by
 have:=vN (n:=-fw m i p) (k:=4194304) h.d.1 (by have:=h.num;omega)
 unfold hiF
 omega
variable {C : CC} (hC : aB prog C)
include hC
theorem jR (z t : Int) (hz : -4194304 <= z /\ z <= 4194304) (ht : 0 <= t /\ t <= 2251799813685248) : C 99 [.int .i64 z,.int .i64 t] (.tup [wiS (z * t),.int .i64 0]) []:=by
 obtain ⟨n,rfl⟩ : ∃ n : Nat,t=n:=⟨t.toNat,by omega⟩
 have h3 : z.natAbs * n <= 4194304 * 2251799813685248:=Nat.mul_le_mul (by omega) (by omega)
 exact ry hC z n (by omega) (by omega) (by omega)
set_option maxHeartbeats 4000000 in
theorem wM (m : Msh) (hv : aF m=true) (i : Nat) (hi : i < m.f.length) (p : Pnt) (hp : okP p=true) (h : osF m i p < 0) :
  C 300 [.agg (aN m),.int .i64 i,.agg (ptD p)] (.tup [wiS (fw m i p),.int .i64 (dX m i),.int .i64 0]) []:=by
 have H:=lP hv hi hp h
 obtain ⟨oa,ob,oc⟩:=kj hv hi
 have k0:=m7 hC m i hi (fy hv hi)
 have ka:=ox hC (spA m i)
 have kb:=ox hC (spB m i)
 have kc:=ox hC (spC m i)
 have t1:=iA hC hp ob oc
 have t2:=iA hC hp oc oa
 have t0:=iA hC hp oa ob
 have td : C 320 _ (.int .i64 (dX m i)) []:=iA hC oa ob oc
 rw [tE] at t1
 rw [AO] at t2
 rw [AN] at t0
 have x1:=jR hC _ _ H.z0 H.t1
 have x2:=jR hC _ _ H.z1 H.t2
 have x0:=jR hC _ _ H.z2 H.t0
 have b1:=fM H.z0 H.t1.1
 have b2:=fM H.z1 H.t2.1
 have b0:=fM H.z2 H.t0.1
 have c0:=H.t0
 have c1:=H.t1
 have c2:=H.t2
 have en : fw m i p=(spA m i).z * tn1 m i p + (spB m i).z * tn2 m i p + (spC m i).z * tn0 m i p:=rfl
 obtain ⟨u1,hu1⟩ : ∃ u,u=(spA m i).z * tn1 m i p:=⟨_,rfl⟩
 obtain ⟨u2,hu2⟩ : ∃ u,u=(spB m i).z * tn2 m i p:=⟨_,rfl⟩
 obtain ⟨u0,hu0⟩ : ∃ u,u=(spC m i).z * tn0 m i p:=⟨_,rfl⟩
 rw [<- hu1] at x1 b1 en
 rw [<- hu2] at x2 b2 en
 rw [<- hu0] at x0 b0 en
 have y1:=rq hC 0 u1 (by omega) (by omega)
 have y2:=rq hC u1 u2 (by omega) (by omega)
 have y3:=rq hC (u1 + u2) u0 (by omega) (by omega)
 rw [Int.zero_add] at y1
 rw [<- en] at y3
 have ez : wiS 0=.agg [.int .i64 0,.int .i64 0]:=by simp [wiS]
 obtain ⟨p1,q1,_,_,e1⟩:=cq u1
 obtain ⟨p2,q2,_,_,e2⟩:=cq u2
 obtain ⟨p3,q3,_,_,e3⟩:=cq u0
 obtain ⟨p4,q4,_,_,e4⟩:=cq (u1 + u2)
 obtain ⟨p5,q5,_,_,e5⟩:=cq (fw m i p)
 rw [e1] at x1
 rw [e2] at x2
 rw [e3] at x0
 rw [ez,e1] at y1
 rw [e1,e2,e4] at y2
 rw [e4,e3,e5] at y3
 rw [e5]
 have w0 : IntKind.wrap .i64 0=0:=by decide
 have w1 : IntKind.wrap .i64 1=1:=by decide
 have w2 : IntKind.wrap .i64 2=2:=by decide
 have w3 : IntKind.wrap .i64 3=3:=by decide
 have w4 : IntKind.wrap .i64 4=4:=by decide
 have m1 : Int.tmod 1 3=1:=by decide
 have m2 : Int.tmod 2 3=2:=by decide
 have m3 : Int.tmod 3 3=0:=by decide
 have m4 : Int.tmod 4 3=1:=by decide
 clear e1 e2 e3 e4 e5 en hu0 hu1 hu2 b0 b1 b2 c0 c1 c2 H
 simp only [ab,bz,cL] at k0 ka kb kc
 refine start hC (nf:=N300) rfl rfl ?_
 simp [N300,ab]
 refine aa k0 (.inl rfl) ?_
 simp
 refine aw Nat (fun k=>[(5,.ptr (ptD p)),(6,.adr (.r 10096) 0 0),(9,.adr (.r 10144) 0 0),(17,.agg (tV m i)),(18,.int .i64 k),(10144,.blk 9 [tV m i]),
  (10096,.blk 2 [if k=0 then [.int .i64 0,.int .i64 0] else if k=1 then [.int .i64 p1,.int .i64 q1] else if k=2 then [.int .i64 p4,.int .i64 q4] else [.int .i64 p5,.int .i64 q5]])]) (fun k=>k <= 3) (fun k=>3 - k) 0 (by simp) (by simp [cL]) ?_
 rintro k hk
 rcases (by omega : k=0 \/ k=1 \/ k=2 \/ k=3) with rfl | rfl | rfl | rfl
 ·simp [cL,w1,m1]
  refine aa kb (.inl rfl) ?_
  simp [w2,m2]
  refine aa kc (.inl rfl) ?_
  simp
  refine aa t1 (.inl rfl) ?_
  simp
  refine aa x1 (.inr rfl) ?_
  simp
  refine ⟨aj (by decide +kernel),?_⟩
  refine aa y1 (.inr rfl) ?_
  simp
  exact ⟨1,by omega,by omega,by simp [cL,w1]⟩
 ·simp [cL,w2,m2]
  refine aa kc (.inl rfl) ?_
  simp [w3,m3]
  refine aa ka (.inl rfl) ?_
  simp
  refine aa t2 (.inl rfl) ?_
  simp
  refine aa x2 (.inr rfl) ?_
  simp
  refine ⟨aj (by decide +kernel),?_⟩
  refine aa y2 (.inr rfl) ?_
  simp
  exact ⟨2,by omega,by omega,by simp [cL,w2]⟩
 ·simp [cL,w3,m3]
  refine aa ka (.inl rfl) ?_
  simp [w4,m4]
  refine aa kb (.inl rfl) ?_
  simp
  refine aa t0 (.inl rfl) ?_
  simp
  refine aa x0 (.inr rfl) ?_
  simp
  refine ⟨aj (by decide +kernel),?_⟩
  refine aa y3 (.inr rfl) ?_
  simp
  exact ⟨3,by omega,by omega,by simp [cL,w3]⟩
 ·simp [cL]
  refine aa ka (.inl rfl) ?_
  simp
  refine aa kb (.inl rfl) ?_
  simp
  refine aa kc (.inl rfl) ?_
  simp
  refine aa td (.inl rfl) ?_
  simp
  exact aj (by decide +kernel)
theorem qi (v : Int) (d : Nat) (up : Bool) (hd0 : 0 < d) (hd : d <= 2251799813685248) (hv : v.natAbs <= 4194304 * d) : C 301 [wiS v,.int .i64 d,.bool up] (.tup [.int .i64 (if up then -(-v / d) else v / d),.int .i64 0]) []:=by
 have k1:=lY hC v (by omega)
 have k2:=nQ hC v (by omega)
 obtain ⟨Q,hQ⟩ : ∃ Q,Q=(if up then -(-v / (d : Int)) else v / (d : Int)):=⟨_,rfl⟩
 have hdiv : v.natAbs / d <= 4194304:=Nat.div_le_of_le_mul (by rw [Nat.mul_comm];exact hv)
 have k3 : C 104 [cF v,.int .i64 d,.bool up] (.tup [.int .i64 Q,.int .i64 0]) []:=by
  by_cases v0 : v < 0
  ·obtain ⟨n,rfl⟩ : ∃ n : Nat,v=-(n : Int):=⟨v.natAbs,by omega⟩
   rw [Int.natAbs_neg,Int.natAbs_natCast] at hv hdiv
   have k:=qO hC n d up (if up then n / d else if n % d=0 then n / d else n / d + 1) (by omega) (by omega) (by omega) (by split;omega;split <;> omega) rfl (by omega)
   have e1 : cF (-(n : Int))=cI n true:=bV (by omega) (decide_eq_true v0)
   have e2 : Q=-((if up then n / d else if n % d=0 then n / d else n / d + 1 : Nat) : Int):=by
    rw [hQ]
    cases up
    ·simp only [Bool.false_eq_true,if_false]
     exact gB n d hd0
    ·simp
   rw [e1,e2]
   exact k
  ·obtain ⟨n,rfl⟩ : ∃ n : Nat,v=(n : Int):=⟨v.natAbs,by omega⟩
   rw [Int.natAbs_natCast] at hv hdiv
   have hle : (n + d - 1) / d <= n / d + 1:=by
    have : (n + d - 1) / d <= (n + d) / d:=Nat.div_le_div_right (by omega)
    rw [Nat.add_div_right _ hd0] at this
    exact this
   have k:=so hC n d up (if up then (n + d - 1) / d else n / d) (by omega) (by omega) (by split <;> omega) rfl (by omega)
   have e1 : cF (n : Int)=cI n false:=bV (by omega) (decide_eq_false v0)
   have e2 : Q=((if up then (n + d - 1) / d else n / d : Nat) : Int):=by
    rw [hQ]
    cases up
    ·simp
    ·simp only [if_true]
     rw [gB n d hd0,Int.neg_neg]
     congr 1
     have h1:=Nat.div_add_mod n d
     have h2:=Nat.mod_lt n hd0
     split
     ·rename_i h
      have : n + d - 1=d * (n / d) + (d - 1):=by omega
      rw [this,Nat.mul_add_div hd0,Nat.div_eq_of_lt (show d - 1 < d by omega)]
      rfl
     ·rename_i h
      have : n + d - 1=d * (n / d) + (d + (n % d - 1)):=by omega
      rw [this,Nat.mul_add_div hd0,Nat.add_div_left _ hd0,Nat.div_eq_of_lt (show n % d - 1 < d by omega)]
   rw [e1,e2]
   exact k
 rw [<- hQ]
 obtain ⟨a1,a2,_,_,ea⟩:=cq v
 obtain ⟨f1,f2,f3,ef⟩ : ∃ (a1 a2 : Nat) (a3 : Bool),cF v=.agg [.int .u64 a1,.int .u64 a2,.bool a3]:=⟨_,_,_,rfl⟩
 rw [ea] at k1 k2 ⊢
 rw [ef] at k2 k3
 have h1 : ¬ d=0:=by omega
 clear hQ ea ef
 refine start hC (nf:=N301) rfl rfl ?_
 simp [N301]
 refine aa k1 (.inl rfl) ?_
 simp [h1]
 refine aa k2 (.inl rfl) ?_
 simp
 refine aa k3 (.inr rfl) ?_
 simp
theorem yn (v : Int) (d : Nat) (hd0 : 0 < d) (hd : d <= 2251799813685248) (hv : v.natAbs <= 4194304 * d) : C 271 [wiS v,.int .i64 d] (.tup [.int .i64 (v / d),.int .i64 0]) []:=by
 have k:=qi hC v d false hd0 hd hv
 simp at k
 obtain ⟨Q,hQ⟩ : ∃ Q,Q=v / (d : Int):=⟨_,rfl⟩
 rw [<- hQ] at k ⊢
 obtain ⟨a1,a2,_,_,ea⟩:=cq v
 rw [ea] at k ⊢
 refine start hC (nf:=N271) rfl rfl ?_
 simp [N271]
 refine aa k (.inl rfl) ?_
 simp
theorem B7 (v : Int) (d : Nat) (hd0 : 0 < d) (hd : d <= 2251799813685248) (hv : v.natAbs <= 4194304 * d) : C 272 [wiS v,.int .i64 d] (.tup [.int .i64 (-(-v / d)),.int .i64 0]) []:=by
 have k:=qi hC v d true hd0 hd hv
 simp only [if_true] at k
 obtain ⟨Q,hQ⟩ : ∃ Q,Q=-(-v / (d : Int)):=⟨_,rfl⟩
 rw [<- hQ] at k ⊢
 obtain ⟨a1,a2,_,_,ea⟩:=cq v
 rw [ea] at k ⊢
 refine start hC (nf:=N272) rfl rfl ?_
 simp [N272]
 refine aa k (.inl rfl) ?_
 simp
def wz : D:=.agg [.int .i64 0,.int .i64 0]
theorem wK (dec : Nat -> List UInt8) (hI : ∀ n : Nat,n < 100 -> C 127 [.int .i64 n] (.str (dec n)) []) (m : Msh) (hz : bA m=true -> m.s.length <= 100 /\ m.f.length <= 100) (p : Pnt) :
  C 269 [.agg (aN m),.agg (ptD p)] (if onE m p=0 then .tup [wiS (fw m (cZ m p).toNat p),.int .i64 (dX m (cZ m p).toNat),.int .i64 0] else .tup [wz,.int .i64 0,.int .i64 (onE m p)]) []:=by
 have k1:=Bu hC dec hI m hz p
 by_cases h0 : onE m p=0
 ·obtain ⟨hv,hp,hf⟩:=ng h0
  obtain ⟨hi,ho⟩:=iy hf
  have k2:=wM hC m hv _ hi p hp ho
  rw [if_pos h0]
  have e : onV m p=cZ m p:=by rw [onV,if_pos h0]
  rw [h0,e] at k1
  rw [show (((cZ m p).toNat : Nat) : Int)=cZ m p by omega] at k2
  obtain ⟨a1,a2,_,_,ea⟩:=cq (fw m (cZ m p).toNat p)
  rw [ea] at k2 ⊢
  simp only [ab,ptD] at k1 k2
  refine start hC (nf:=N269) rfl rfl ?_
  simp [N269,ab,ptD]
  refine aa k1 (.inl rfl) ?_
  simp
  refine aa k2 (.inr rfl) ?_
  simp
 ·rw [if_neg h0]
  simp only [ab,ptD] at k1
  refine start hC (nf:=N269) rfl rfl ?_
  simp [N269,ab,ptD]
  refine aa k1 (.inl rfl) ?_
  simp [h0,wz]
theorem qu (dec : Nat -> List UInt8) (hI : ∀ n : Nat,n < 100 -> C 127 [.int .i64 n] (.str (dec n)) []) (m : Msh) (hz : bA m=true -> m.s.length <= 100 /\ m.f.length <= 100) (p : Pnt) :
  C 233 [.agg (aN m),.agg (ptD p)] (if onE m p=0 then .tup [.agg [.int .i64 (loF m (cZ m p).toNat p),.int .i64 (hiF m (cZ m p).toNat p)],.int .i64 0] else .tup [wz,.int .i64 (onE m p)]) []:=by
 have k1:=wK hC dec hI m hz p
 by_cases h0 : onE m p=0
 ·obtain ⟨hv,hp,hf⟩:=ng h0
  obtain ⟨hi,ho⟩:=iy hf
  have H:=lP hv hi hp ho
  obtain ⟨i,hi2⟩ : ∃ i,i=(cZ m p).toNat:=⟨_,rfl⟩
  rw [if_pos h0] at k1 ⊢
  rw [<- hi2] at k1 H ⊢
  obtain ⟨d,hd⟩ : ∃ d : Nat,dX m i=d:=⟨(dX m i).toNat,by have:=H.d;omega⟩
  have b1:=H.num
  have b2:=H.d
  rw [hd] at b1 b2
  have k2:=yn hC (fw m i p) d (by omega) (by omega) (by omega)
  have k3:=B7 hC (fw m i p) d (by omega) (by omega) (by omega)
  rw [show fw m i p / (d : Int)=loF m i p by rw [loF,hd]] at k2
  rw [show -(-fw m i p / (d : Int))=hiF m i p by rw [hiF,hd]] at k3
  rw [hd] at k1
  obtain ⟨a1,a2,_,_,ea⟩:=cq (fw m i p)
  rw [ea] at k1 k2 k3
  simp only [ab,ptD] at k1
  clear b1 b2 H
  refine start hC (nf:=N233) rfl rfl ?_
  simp [N233,ab,ptD]
  refine aa k1 (.inr rfl) ?_
  simp
  refine aa k2 (.inl rfl) ?_
  simp
  refine aa k3 (.inl rfl) ?_
  simp
 ·rw [if_neg h0] at k1 ⊢
  simp only [ab,ptD,wz] at k1
  refine start hC (nf:=N233) rfl rfl ?_
  simp [N233,ab,ptD]
  refine aa k1 (.inr rfl) ?_
  simp [h0,wz]
end Go.Gv

namespace Go.Gv
def RJ (m : Msh) (a b : Int) : Int:=if tx m a b < 0 then 0 else jY (fun j=>decide (crn (fce m (tx m a b).toNat) j=a) && decide (crn (fce m (tx m a b).toNat) (j + 1)=b)) (List.range 3)
def acK (m : Msh) (i k : Nat) : Int:=RJ m (crn (fce m i) (k + 1)) (crn (fce m i) k)
def nbT (m : Msh) (i : Nat) : List (List D):=(List.range i).map fun j=>[.int .i64 (nbF m j 0),.int .i64 (nbF m j 1),.int .i64 (nbF m j 2)]
@[simp] theorem PB (m : Msh) (i : Nat) : (nbT m i).length=i:=by simp [nbT]
@[simp] theorem KI (m : Msh) (i : Nat) : List.take i (nbT m i)=nbT m i:=List.take_of_length_le (by simp)
@[simp] theorem Ry (m : Msh) (i : Nat) : List.map (fun e=>List.map aV e) (nbT m i)=nbT m i:=by simp [nbT]
variable {C : CC} (hC : aB prog C)
include hC
end Go.Gv

namespace Go.Gv
open Go.Lib
def tr3 (m : Msh) (i : Nat) : List (List D):=[ptD (ptS (spA m i)),ptD (ptS (spB m i)),ptD (ptS (spC m i))]
theorem ky (m : Msh) (i : Nat) : tr3 m i=[ptD (ptS (spA m i)),ptD (ptS (spB m i)),ptD (ptS (spC m i))]:=_root_.id rfl
theorem uD (m : Msh) (i : Nat) (p : Pnt) : (osF m i p=0 /\ tn0 m i p < 0) \/ (osF m i p=1 /\ ¬ tn0 m i p < 0 /\ tn1 m i p < 0) \/ (osF m i p=2 /\ ¬ tn0 m i p < 0 /\ ¬ tn1 m i p < 0 /\ tn2 m i p < 0) \/ (osF m i p=-1 /\ ¬ tn0 m i p < 0 /\ ¬ tn1 m i p < 0 /\ ¬ tn2 m i p < 0):=by
 unfold osF
 split
 ·exact .inl ⟨rfl,‹_›⟩
 ·split
  ·exact .inr (.inl ⟨rfl,‹_›,‹_›⟩)
  ·split
   ·exact .inr (.inr (.inl ⟨rfl,‹_›,‹_›,‹_›⟩))
   ·exact .inr (.inr (.inr ⟨rfl,‹_›,‹_›,‹_›⟩))
def sdF (m : Msh) (i : Nat) (p : Pnt) (k : Nat) : Int:=if 0 <= osF m i p /\ osF m i p < k then osF m i p else -1
variable {C : CC} (hC : aB prog C)
include hC
theorem xp (m : Msh) (hv : aF m=true) (i : Nat) (hi : i < m.f.length) : C 285 [.agg (aN m),.agg (bq (fce m i))] (.sl (tr3 m i)) []:=pC hC m (fce m i) (fy hv hi)
set_option maxHeartbeats 2000000 in
theorem Lv (m : Msh) (hv : aF m=true) (i : Nat) (hi : i < m.f.length) (p : Pnt) (hp : okP p=true) : C 277 [.agg (aN m),.int .i64 i,.agg (ptD p)] (.bool (decide (osF m i p < 0))) []:=by
 obtain ⟨oa,ob,oc⟩:=kj hv hi
 have k0:=xp hC m hv i hi
 have t0 : C 286 [.agg (ptD (ptS (spA m i))),.agg (ptD (ptS (spB m i))),.agg (ptD p)] (.int .i64 (tn0 m i p)) []:=gD hC oa ob hp
 have t1 : C 286 [.agg (ptD (ptS (spB m i))),.agg (ptD (ptS (spC m i))),.agg (ptD p)] (.int .i64 (tn1 m i p)) []:=gD hC ob oc hp
 have t2 : C 286 [.agg (ptD (ptS (spC m i))),.agg (ptD (ptS (spA m i))),.agg (ptD p)] (.int .i64 (tn2 m i p)) []:=gD hC oc oa hp
 have w1 : IntKind.wrap .i64 1=1:=by decide
 have w2 : IntKind.wrap .i64 2=2:=by decide
 have w3 : IntKind.wrap .i64 3=3:=by decide
 have m1 : Int.tmod 1 3=1:=by decide
 have m2 : Int.tmod 2 3=2:=by decide
 have m3 : Int.tmod 3 3=0:=by decide
 simp only [ab,aT] at k0
 refine start hC (nf:=N277) rfl rfl ?_
 simp [N277,ab,hi,aT]
 refine aa k0 (.inr rfl) ?_
 simp
 refine ⟨aj (by decide +kernel),?_⟩
 refine aw Nat (fun k=>[(5,.ptr (ptD p)),(7,.sl (tr3 m i)),(8,.int .i64 k)]) (fun k=>k <= 3 /\ (1 <= k -> ¬ tn0 m i p < 0) /\ (2 <= k -> ¬ tn1 m i p < 0) /\ (3 <= k -> ¬ tn2 m i p < 0)) (fun k=>3 - k) 0 (by simp) (by simp) ?_
 rintro k ⟨hk,h0,h1,h2⟩
 rcases (by omega : k=0 \/ k=1 \/ k=2 \/ k=3) with rfl | rfl | rfl | rfl
 ·simp [ky,w1,m1]
  refine aa t0 (.inl rfl) ?_
  simp
  refine ⟨aj (by decide +kernel),?_⟩
  refine ao (fun c=>?_) (fun c=>?_) <;> simp at c
  ·simp [c,osF]
  ·simp [c]
   exact ⟨1,by omega,by omega,by simp [ky,w1]⟩
 ·have h0:=h0 (by omega)
  simp [ky,w2,m2]
  refine aa t1 (.inl rfl) ?_
  simp
  refine ⟨aj (by decide +kernel),?_⟩
  refine ao (fun c=>?_) (fun c=>?_) <;> simp at c
  ·simp [c,osF,h0]
  ·simp [c]
   exact ⟨2,by omega,by omega,by simp [ky,w2]⟩
 ·have h0:=h0 (by omega)
  have h1:=h1 (by omega)
  simp [ky,w3,m3]
  refine aa t2 (.inl rfl) ?_
  simp
  refine ⟨aj (by decide +kernel),?_⟩
  refine ao (fun c=>?_) (fun c=>?_) <;> simp at c
  ·simp [c,osF,h0,h1]
  ·simp [c]
   exact ⟨3,by omega,by omega,by simp [ky,w3]⟩
 ·have h0:=h0 (by omega)
  have h1:=h1 (by omega)
  have h2:=h2 (by omega)
  simp [osF,h0,h1,h2]
theorem tn (m : Msh) (hv : aF m=true) (hm : m.f.length <= 100) (p : Pnt) (hp : okP p=true) : C 238 [.agg (aN m),.agg (ptD p)] (.int .i64 (cZ m p)) []:=by
 have ko:=fun i hi=>Lv hC m hv i hi p hp
 simp only [ab] at ko
 refine start hC (nf:=N238) rfl rfl ?_
 simp [N238,ab]
 refine aw Nat (fun i=>[(2,.ptr (aN m)),(3,.ptr (ptD p)),(5,.int .i64 i)]) (fun i=>i <= m.f.length /\ ∀ j,j < i -> ¬ osF m j p < 0) (fun i=>m.f.length - i) 0 (by simp) (by simp [ab]) ?_
 rintro i ⟨hi,hj⟩
 simp [ab]
 refine ao (fun g1=>?_) (fun g1=>?_) <;> simp at g1 <;> simp [g1]
 ·have hw : IntKind.wrap .i64 ((i : Int) + 1)=((i + 1 : Nat) : Int):=ac (by omega) (by omega)
  refine aa (ko i g1) (.inl rfl) ?_
  simp
  refine ao (fun c=>?_) (fun c=>?_) <;> simp at c
  ·simp [c]
   refine (fS (fun j hl hji=>?_) (by simpa using g1) ?_).symm
   ·have:=hj j hji
    simpa using this
   ·simpa using c
  ·simp [c]
   refine ⟨i + 1,⟨by omega,fun j hji=>?_⟩,by omega,by simp [ab,hw]⟩
   rcases Nat.lt_succ_iff_lt_or_eq.1 hji with h | rfl
   ·exact Int.not_lt.1 (hj j h)
   ·exact c
 ·refine (fR (fun j hl=>?_)).symm
  rw [List.length_range] at hl
  have:=hj j (by omega)
  simpa using this
theorem oG (p : Pnt) : C 237 [.agg (ptD p)] (.bool (okP p)) []:=by
 refine start hC (nf:=N237) rfl rfl ?_
 simp [N237,ptD,okP]
 repeat' (refine ao (fun h=>?_) (fun h=>?_) <;> simp at h <;> simp [h] <;> try omega)
def R6 (m : Msh) : Bool:=decide ((m.s.length : Int) <= 60) && decide ((m.f.length : Int) <= 60)
end Go.Gv

namespace Go.Gv
open Go.Lib
theorem da (v : Int) : ∃ (a b : Nat) (c : Bool),cF v=.agg [.int .u64 a,.int .u64 b,.bool c]:=⟨_,_,_,rfl⟩
def exL : Msh:=⟨false,[⟨0,0,100⟩,⟨1000,0,200⟩,⟨0,1000,400⟩],false,[⟨0,1,2,0⟩]⟩
variable {C : CC} (hC : aB prog C)
include hC
theorem xo (m : Msh) (hv : aF m=true) (i : Nat) (hi : i < m.f.length) : C 350 [.agg (aN m),.int .i64 i] (.int .i64 (dX m i)) []:=by
 have k : C 293 [.agg (aN m),.agg (bq (fce m i))] (.int .i64 (dX m i)) []:=tv hC m (fce m i) (fy hv hi) (cQ (jG hv hi).1)
 simp only [ab,aT] at k
 refine start hC (nf:=N350) rfl rfl ?_
 simp [N350,ab,hi,aT]
 refine aa k (.inl rfl) ?_
 simp
 exact aj (by decide +kernel)
set_option maxHeartbeats 4000000 in
theorem xj (m : Msh) (hv : aF m=true) (i : Nat) (hi : i < m.f.length) (p : Pnt) (hp : okP p=true) (h : osF m i p < 0) :
  C 348 [.agg (aN m),.int .i64 i,.agg (ptD p)] (.tup [cF (fw m i p),.int .i64 (dX m i)]) []:=by
 have H:=lP hv hi hp h
 obtain ⟨⟨a1,a2⟩,⟨b1,b2⟩,⟨c1,c2⟩⟩:=jZ (fy hv hi)
 obtain ⟨oa,ob,oc⟩:=kj hv hi
 have kt:=xp hC m hv i hi
 have kw:=xo hC m hv i hi
 have t1:=gD hC hp ob oc
 have t2:=gD hC oa hp oc
 have t0 : C 286 [.agg (ptD (ptS (spA m i))),.agg (ptD (ptS (spB m i))),.agg (ptD p)] (.int .i64 (tn0 m i p)) []:=gD hC oa ob hp
 rw [tE] at t1
 rw [AP] at t2
 have z0:=H.z0
 have z1:=H.z1
 have z2:=H.z2
 have d0:=H.t0
 have d1:=H.t1
 have d2:=H.t2
 have x1:=lS hC (spA m i).z (tn1 m i p) (by omega) (by omega)
 have x2:=lS hC (spB m i).z (tn2 m i p) (by omega) (by omega)
 have x0:=lS hC (spC m i).z (tn0 m i p) (by omega) (by omega)
 have e1:=fM z0 d1.1
 have e2:=fM z1 d2.1
 have e0:=fM z2 d0.1
 have en : (spA m i).z * tn1 m i p + ((spB m i).z * tn2 m i p + (spC m i).z * tn0 m i p)=fw m i p:=by unfold fw;omega
 obtain ⟨u1,hu1⟩ : ∃ u,u=(spA m i).z * tn1 m i p:=⟨_,rfl⟩
 obtain ⟨u2,hu2⟩ : ∃ u,u=(spB m i).z * tn2 m i p:=⟨_,rfl⟩
 obtain ⟨u0,hu0⟩ : ∃ u,u=(spC m i).z * tn0 m i p:=⟨_,rfl⟩
 rw [<- hu1] at x1 e1 en
 rw [<- hu2] at x2 e2 en
 rw [<- hu0] at x0 e0 en
 have y1:=tq hC u2 u0 (by omega) (by omega)
 have y2:=tq hC u1 (u2 + u0) (by omega) (by omega)
 rw [en] at y2
 obtain ⟨f1,g1,h1,s1⟩:=da u1
 obtain ⟨f2,g2,h2,s2⟩:=da u2
 obtain ⟨f3,g3,h3,s3⟩:=da u0
 obtain ⟨f4,g4,h4,s4⟩:=da (u2 + u0)
 obtain ⟨f5,g5,h5,s5⟩:=da (fw m i p)
 rw [s1] at x1
 rw [s2] at x2
 rw [s3] at x0
 rw [s2,s3,s4] at y1
 rw [s1,s4,s5] at y2
 rw [s5]
 clear s1 s2 s3 s4 s5 en hu0 hu1 hu2 e0 e1 e2 d0 d1 d2 z0 z1 z2 H
 simp only [ab,aT,ky] at kt
 simp only [ab] at kw
 have sa : spt m (fce m i).a.toNat=spA m i:=rfl
 have sb : spt m (fce m i).b.toNat=spB m i:=rfl
 have sc : spt m (fce m i).c.toNat=spC m i:=rfl
 refine start hC (nf:=N348) rfl rfl ?_
 simp [N348,ab,hi,aT]
 refine aa kt (.inr rfl) ?_
 simp [a1,a2,bz,sa]
 refine aa t1 (.inl rfl) ?_
 simp
 refine aa x1 (.inl rfl) ?_
 simp
 refine ⟨aj (by decide +kernel),?_⟩
 simp [b1,b2,bz,sb]
 refine aa t2 (.inl rfl) ?_
 simp
 refine aa x2 (.inl rfl) ?_
 simp
 refine ⟨aj (by decide +kernel),?_⟩
 simp [c1,c2,bz,sc]
 refine aa t0 (.inl rfl) ?_
 simp
 refine aa x0 (.inl rfl) ?_
 simp
 refine ⟨aj (by decide +kernel),?_⟩
 refine aa y1 (.inl rfl) ?_
 simp
 refine aa y2 (.inl rfl) ?_
 simp
 refine aa kw (.inl rfl) ?_
 simp
 exact aj (by decide +kernel)
theorem qL (m : Msh) (hv : aF m=true) (i : Nat) (hi : i < m.f.length) (p : Pnt) (hp : okP p=true) (h : osF m i p < 0) :
  C 349 [.agg (aN m),.int .i64 i,.agg (ptD p)] (.agg [.int .i64 (loF m i p),.int .i64 (hiF m i p)]) []:=by
 have H:=lP hv hi hp h
 have k1:=xj hC m hv i hi p hp h
 have b1:=H.num
 have b2:=H.d
 have b3:=H.lo
 have b4:=H.hi
 have k2:=uJ hC (dX m i) (by omega)
 obtain ⟨d,hd⟩ : ∃ d : Nat,dX m i=d:=⟨(dX m i).toNat,by omega⟩
 rw [hd] at b1 b2
 have k3:=qK hC (fw m i p) d (by omega) (by omega) (by omega)
 have k4:=DI hC (fw m i p) d (by omega) (by omega) (by omega)
 rw [<- hd] at k3 k4
 rw [show fw m i p / dX m i=loF m i p from rfl] at k3
 rw [show -(-fw m i p / dX m i)=hiF m i p from rfl] at k4
 have k5:=oH hC (loF m i p) (by omega)
 have k6:=oH hC (hiF m i p) (by omega)
 obtain ⟨f1,g1,h1,s1⟩:=da (fw m i p)
 obtain ⟨f2,g2,h2,s2⟩:=da (dX m i)
 obtain ⟨f3,g3,h3,s3⟩:=da (loF m i p)
 obtain ⟨f4,g4,h4,s4⟩:=da (hiF m i p)
 rw [s1] at k1
 rw [s2] at k2
 rw [s1,s2,s3] at k3
 rw [s1,s2,s4] at k4
 rw [s3] at k5
 rw [s4] at k6
 clear s1 s2 s3 s4 b1 b2 b3 b4 H hd
 simp only [ab,ptD] at k1
 refine start hC (nf:=N349) rfl rfl ?_
 simp [N349,ab,ptD]
 refine aa k1 (.inr rfl) ?_
 simp
 refine aa k2 (.inl rfl) ?_
 simp
 refine aa k3 (.inl rfl) ?_
 simp
 refine aa k5 (.inl rfl) ?_
 simp
 refine ⟨aj (by decide +kernel),?_⟩
 refine aa k2 (.inl rfl) ?_
 simp
 refine aa k4 (.inl rfl) ?_
 simp
 refine aa k6 (.inl rfl) ?_
 simp
 exact aj (by decide +kernel)
end Go.Gv

namespace Go.Gv
variable {C : CC} (hC : aB prog C)
include hC
end Go.Gv

namespace Go.Gv
theorem jU (x : Int) : (iq x 0=-1 /\ x < 0) \/ (iq x 0=0 /\ x=0) \/ (iq x 0=1 /\ 0 < x):=by
 unfold iq
 split
 ·exact .inl ⟨rfl,‹_›⟩
 ·split
  ·exact .inr (.inr ⟨rfl,‹_›⟩)
  ·exact .inr (.inl ⟨rfl,by omega⟩)
def mn2 (x y : Int) : Int:=if y < x then y else x
def mx2 (x y : Int) : Int:=if x < y then y else x
def qq (m : Msh) (i : Nat) (p : Pnt) : Int:=mn2 (mn2 (mn2 1 (iq (tn0 m i p) 0)) (iq (tn1 m i p) 0)) (iq (tn2 m i p) 0)
theorem s8 (m : Msh) (i : Nat) (p : Pnt) : decide (0 <= qq m i p)=decide (osF m i p < 0):=by
 rw [decide_eq_decide]
 have h0:=jU (tn0 m i p)
 have h1:=jU (tn1 m i p)
 have h2:=jU (tn2 m i p)
 have hc:=uD m i p
 unfold qq mn2
 generalize iq (tn0 m i p) 0=a at *
 generalize iq (tn1 m i p) 0=b at *
 generalize iq (tn2 m i p) 0=c at *
 constructor
 ·intro h
  split at h <;> split at h <;> split at h <;> omega
 ·intro h
  split <;> split <;> split <;> omega
variable {C : CC} (hC : aB prog C)
include hC
theorem fN {a b c : Pnt} (ha : okP a=true) (hb : okP b=true) (hc : okP c=true) : C 360 [.agg (ptD a),.agg (ptD b),.agg (ptD c)] (.int .i64 (ai a b c)) []:=by
 have:=cJ ha
 have:=cJ hb
 have:=cJ hc
 have h4:=lh ha hb hc
 refine start hC (nf:=N360) rfl rfl ?_
 have w1 : IntKind.wrap .i64 (b.1 - a.1)=b.1 - a.1:=ac rfl (by omega)
 have w2 : IntKind.wrap .i64 (c.2 - a.2)=c.2 - a.2:=ac rfl (by omega)
 have w3 : IntKind.wrap .i64 (b.2 - a.2)=b.2 - a.2:=ac rfl (by omega)
 have w4 : IntKind.wrap .i64 (c.1 - a.1)=c.1 - a.1:=ac rfl (by omega)
 have w5 : IntKind.wrap .i64 ((b.1 - a.1) * (c.2 - a.2))=(b.1 - a.1) * (c.2 - a.2):=ac rfl (by omega)
 have w6 : IntKind.wrap .i64 ((b.2 - a.2) * (c.1 - a.1))=(b.2 - a.2) * (c.1 - a.1):=ac rfl (by omega)
 have w7 : IntKind.wrap .i64 ((b.1 - a.1) * (c.2 - a.2) - (b.2 - a.2) * (c.1 - a.1))=ai a b c:=ac rfl (by rw [ai];omega)
 simp [N360,ptD,w1,w2,w3,w4,w5,w6,w7]
theorem zR (p : Pnt) : C 361 [.agg (ptD p)] (.bool (!okP p)) []:=by
 have k:=gd hC p
 simp only [ptD] at k
 refine start hC (nf:=N361) rfl rfl ?_
 simp [N361,ptD]
 refine aa k (.inl rfl) ?_
 simp
theorem sk (b : Bool) (ps : List Pnt) (hp : ps.length < 2 ^ 62) : C 359 [slx b (ps.map fun x=>ptD x)] (.bool (ps.all okP)) []:=by
 have k2:=qm hC (b:=b) (xs:=ps) (g:=361) (cs:=[]) (fun x=>!okP x) hp (fun x _=>zR hC x)
 have e : (ps.any fun x=>!okP x)=!ps.all okP:=by rw [List.all_eq_not_any_not,Bool.not_not]
 rw [e] at k2
 refine start hC (nf:=N359) rfl rfl ?_
 simp [N359]
 refine aa k2 (.inl rfl) ?_
 simp
set_option maxHeartbeats 4000000 in
theorem oC (m : Msh) (hv : aF m=true) (i : Nat) (hi : i < m.f.length) (p : Pnt) (hp : okP p=true) :
  C 355 [.agg (ptD p),.agg (ptD (ptS (spA m i))),.agg (ptD (ptS (spB m i))),.agg (ptD (ptS (spC m i)))] (.tup [.int .i64 (qq m i p),.int .i64 0]) []:=by
 obtain ⟨oa,ob,oc⟩:=kj hv hi
 have hd : 0 < dX m i:=(jG hv hi).2
 have ka:=sk hC false [p,ptS (spA m i),ptS (spB m i),ptS (spC m i)] (by simp)
 have kd : C 360 [.agg (ptD (ptS (spA m i))),.agg (ptD (ptS (spB m i))),.agg (ptD (ptS (spC m i)))] (.int .i64 (dX m i)) []:=fN hC oa ob oc
 have t0 : C 360 [.agg (ptD (ptS (spA m i))),.agg (ptD (ptS (spB m i))),.agg (ptD p)] (.int .i64 (tn0 m i p)) []:=fN hC oa ob hp
 have t1 : C 360 [.agg (ptD (ptS (spB m i))),.agg (ptD (ptS (spC m i))),.agg (ptD p)] (.int .i64 (tn1 m i p)) []:=fN hC ob oc hp
 have t2 : C 360 [.agg (ptD (ptS (spC m i))),.agg (ptD (ptS (spA m i))),.agg (ptD p)] (.int .i64 (tn2 m i p)) []:=fN hC oc oa hp
 have cd:=jn hC (dX m i) 0
 have c0:=jn hC (tn0 m i p) 0
 have c1:=jn hC (tn1 m i p) 0
 have c2:=jn hC (tn2 m i p) 0
 rw [show iq (dX m i) 0=1 by have:=jU (dX m i);omega] at cd
 simp [oa,ob,oc,hp] at ka
 have g0:=jU (tn0 m i p)
 have g1:=jU (tn1 m i p)
 have g2:=jU (tn2 m i p)
 unfold qq
 obtain ⟨x0,h0⟩ : ∃ x,x=iq (tn0 m i p) 0:=⟨_,rfl⟩
 obtain ⟨x1,h1⟩ : ∃ x,x=iq (tn1 m i p) 0:=⟨_,rfl⟩
 obtain ⟨x2,h2⟩ : ∃ x,x=iq (tn2 m i p) 0:=⟨_,rfl⟩
 rw [<- h0] at c0 g0 ⊢
 rw [<- h1] at c1 g1 ⊢
 rw [<- h2] at c2 g2 ⊢
 have e0 : IntKind.wrap .i64 x0=x0:=ac rfl (by omega)
 have e1 : IntKind.wrap .i64 x1=x1:=ac rfl (by omega)
 have e2 : IntKind.wrap .i64 x2=x2:=ac rfl (by omega)
 have w1 : IntKind.wrap .i64 1=1:=by decide
 have w2 : IntKind.wrap .i64 2=2:=by decide
 have w3 : IntKind.wrap .i64 3=3:=by decide
 clear g0 g1 g2 h0 h1 h2
 obtain ⟨A,hA⟩ : ∃ A,A=ptS (spA m i):=⟨_,rfl⟩
 obtain ⟨B,hB⟩ : ∃ A,A=ptS (spB m i):=⟨_,rfl⟩
 obtain ⟨Z,hZ⟩ : ∃ A,A=ptS (spC m i):=⟨_,rfl⟩
 rw [<- hA,<- hB,<- hZ] at ka kd ⊢
 rw [<- hA,<- hB] at t0
 rw [<- hB,<- hZ] at t1
 rw [<- hA,<- hZ] at t2
 clear hA hB hZ
 simp only [ptD] at ka kd t0 t1 t2
 refine start hC (nf:=N355) rfl rfl ?_
 simp [N355,ptD]
 refine aa ka (.inl rfl) ?_
 simp
 refine aa kd (.inl rfl) ?_
 simp
 refine aa cd (.inl rfl) ?_
 simp
 refine aw Nat (fun k=>[(4,.ptr (ptD p)),(10,.int .i64 1),(11,.int .i64 (if k=0 then 1 else if k=1 then mn2 1 x0 else if k=2 then mn2 (mn2 1 x0) x1 else mn2 (mn2 (mn2 1 x0) x1) x2)),(37,.agg [.int .i64 A.1,.int .i64 A.2,.int .i64 B.1,.int .i64 B.2,.int .i64 B.1,.int .i64 B.2,.int .i64 Z.1,.int .i64 Z.2,.int .i64 Z.1,.int .i64 Z.2,.int .i64 A.1,.int .i64 A.2]),(38,.int .i64 k)]) (fun k=>k <= 3) (fun k=>3 - k) 0 (by simp) (by simp [ptD]) ?_
 rintro k hk
 rcases (by omega : k=0 \/ k=1 \/ k=2 \/ k=3) with rfl | rfl | rfl | rfl
 ·simp [ptD,w1]
  refine aa t0 (.inl rfl) ?_
  simp
  refine aa c0 (.inl rfl) ?_
  simp [e0]
  exact ⟨1,by omega,by omega,by simp [ptD,w1,mn2]⟩
 ·simp [ptD,w2]
  refine aa t1 (.inl rfl) ?_
  simp
  refine aa c1 (.inl rfl) ?_
  simp [e1]
  exact ⟨2,by omega,by omega,by simp [ptD,w2,mn2]⟩
 ·simp [ptD,w3]
  refine aa t2 (.inl rfl) ?_
  simp
  refine aa c2 (.inl rfl) ?_
  simp [e2]
  exact ⟨3,by omega,by omega,by simp [ptD,w3,mn2]⟩
 ·simp
end Go.Gv

namespace Go.Gv
def mnZ (m : Msh) (i : Nat) : Int:=mn2 (mn2 (spA m i).z (spB m i).z) (spC m i).z
def mxZ (m : Msh) (i : Nat) : Int:=mx2 (mx2 (spA m i).z (spB m i).z) (spC m i).z
variable {C : CC} (hC : aB prog C)
include hC
end Go.Gv

namespace Go.Gv
def jV (a b c d : Pnt) : Int:=if (apG a b c d && apG c d a b)=true then 2 else if (onG a b c || onG a b d || onG c d a || onG c d b)=true then 1 else 0
def cnr (m : Msh) (i k : Nat) : Pnt:=if k=0 then ptS (spA m i) else if k=1 then ptS (spB m i) else ptS (spC m i)
def eT (m : Msh) (i k : Nat) (a b : Pnt) : Int:=jV a b (cnr m i k) (cnr m i ((k + 1) % 3))
def fu (m : Msh) (i : Nat) (a b : Pnt) : Bool:=decide (osF m i a < 0) || decide (osF m i b < 0) || (List.range 3).any fun k=>decide (0 < eT m i k a b)
def R4 (m : Msh) (a b : Pnt) : List Nat:=(List.range m.f.length).filter fun i=>fu m i a b
theorem sD (a b : Pnt) : ai a b a=0 /\ ai a b b=0:=by unfold ai;constructor <;> grind
theorem ir {m : Msh} (hv : aF m=true) {i : Nat} (hi : i < m.f.length) (k : Nat) (hk : k < 3) : cnr m i k ≠ cnr m i ((k + 1) % 3):=by
 have hd : 0 < dX m i:=(jG hv hi).2
 unfold dX at hd
 intro e
 rcases (by omega : k=0 \/ k=1 \/ k=2) with rfl | rfl | rfl
 ·simp only [cnr] at e;simp at e;rw [e] at hd;have:=(sD (ptS (spB m i)) (ptS (spC m i))).1;unfold ai at hd;simp at hd
 ·simp only [cnr] at e;simp at e;rw [e] at hd;rw [(sD _ _).2] at hd;omega
 ·simp only [cnr] at e;simp at e;rw [e] at hd;rw [(sD _ _).1] at hd;omega
theorem dw {m : Msh} (hv : aF m=true) {i : Nat} (hi : i < m.f.length) (k : Nat) : okP (cnr m i k)=true:=by
 obtain ⟨h1,h2,h3⟩:=kj hv hi
 unfold cnr
 split
 ·exact h1
 ·split
  ·exact h2
  ·exact h3
theorem tk {m : Msh} {i : Nat} {p : Pnt} (h : ¬ osF m i p < 0) : ¬ (0 <= tn0 m i p /\ 0 <= tn1 m i p /\ 0 <= tn2 m i p):=by
 rintro ⟨h0,h1,h2⟩
 apply h
 unfold osF
 rw [if_neg (by omega),if_neg (by omega),if_neg (by omega)]
 omega
theorem zF {m : Msh} (hv : aF m=true) {i : Nat} (hi : i < m.f.length) {a b p : Pnt} {j k dx dy : Int} (hj : 0 <= j) (hk : j <= k) (hb : b=(a.1 + k * dx,a.2 + k * dy)) (hp : p=(a.1 + j * dx,a.2 + j * dy)) (h : osF m i p < 0) : fu m i a b=true:=by
 unfold fu
 by_cases c1 : osF m i a < 0
 ·simp [c1]
 by_cases c2 : osF m i b < 0
 ·simp [c2]
 have hd : 0 < dX m i:=(jG hv hi).2
 have h1:=Ai (U:=ptS (spA m i)) (V:=ptS (spB m i)) (W:=ptS (spC m i)) (a:=a) (b:=b) (p:=p) hd hj hk hb hp (xd h) (tk c1) (tk c2)
 have h2 : ∃ q,q < 3 /\ 0 < eT m i q a b:=by
  unfold eT jV cnr
  rcases h1 with (h1 | h1 | h1) | h1 | h1 | h1
  ·exact ⟨0,by omega,by simp only [Nat.reduceAdd,Nat.reduceMod,if_true];simp [h1]⟩
  ·exact ⟨1,by omega,by simp [h1]⟩
  ·exact ⟨2,by omega,by simp [h1]⟩
  ·exact ⟨0,by omega,by simp [h1];split <;> omega⟩
  ·exact ⟨1,by omega,by simp [h1];split <;> omega⟩
  ·exact ⟨2,by omega,by simp [h1];split <;> omega⟩
 obtain ⟨q,h3,h4⟩:=h2
 simp only [Bool.or_eq_true,List.any_eq_true,decide_eq_true_eq]
 exact .inr ⟨q,by simpa using h3,h4⟩
def atL (a b : Pnt) (n k : Nat) : Pnt:=(a.1 + (b.1 - a.1) * k / n,a.2 + (b.2 - a.2) * k / n)
def iN (a b : Pnt) (n : Nat) : List Pnt:=(List.range (n + 1)).map (atL a b n)
def dY (a b : Pnt) : Int:=if okP a=true /\ okP b=true then (if a=b then 25 else 0) else 1
theorem sX {x : Int} {n k : Nat} {B : Int} (hn : 0 < n) (hk : k <= n) (hB : -B <= x /\ x <= B) : min 0 x <= x * k / n /\ x * k / n <= max 0 x:=by
 have hn' : (0 : Int) < n:=by omega
 constructor
 ·apply (Int.le_ediv_iff_mul_le hn').2
  rcases Int.le_total 0 x with h | h
  ·have:=Int.mul_nonneg h (show (0 : Int) <= k by omega)
   rw [Int.min_eq_left h];omega
  ·rw [Int.min_eq_right h]
   have:=Int.mul_nonneg (show 0 <= -x by omega) (show (0 : Int) <= (n : Int) - k by omega)
   have e : -x * ((n : Int) - k)=x * k - x * n:=by rw [Int.neg_mul,Int.mul_sub];omega
   omega
 ·rcases Int.le_total 0 x with h | h
  ·rw [Int.max_eq_right h]
   exact Int.ediv_le_of_le_mul hn' (Int.mul_le_mul_of_nonneg_left (by omega) h)
  ·rw [Int.max_eq_left h]
   refine Int.ediv_le_of_le_mul hn' ?_
   have:=Int.mul_nonneg (show 0 <= -x by omega) (show (0 : Int) <= k by omega)
   have e : -x * (k : Int)=-(x * k):=Int.neg_mul _ _
   omega
theorem mO {a b : Pnt} (ha : okP a=true) (hb : okP b=true) {n k : Nat} (hn : 0 < n) (hk : k <= n) : okP (atL a b n k)=true:=by
 simp only [okP,Bool.and_eq_true,decide_eq_true_eq] at ha hb ⊢
 have h1:=sX (x:=b.1 - a.1) (B:=33554432) hn hk (by omega)
 have h2:=sX (x:=b.2 - a.2) (B:=33554432) hn hk (by omega)
 simp only [atL]
 omega
end Go.Gv

namespace Go.Gv
def uj (q : Int × Int) : Prop:=0 < q.2 /\ q.2 <= 1073741824 /\ -1073741824 <= q.1 /\ q.1 <= 1073741824 /\ Nat.gcd q.1.natAbs q.2.natAbs=1
instance (q : Int × Int) : Decidable (uj q):=by unfold uj;infer_instance
def iC (q : Int × Int) : Frq:=if h : uj q then ⟨q,h⟩ else ⟨(0,1),by decide⟩
theorem hJ {q : Int × Int} (h : uj q) : (iC q).1=q:=by unfold iC;exact congrArg Subtype.val (dif_pos h)
def cdK (m : Msh) (a b : Pnt) (i k : Nat) : List (Int × Int):=if eT m i k a b=2 then [(ai (cnr m i k) (cnr m i ((k + 1) % 3)) a,ai (cnr m i k) (cnr m i ((k + 1) % 3)) b)] else []
def cdF (m : Msh) (a b : Pnt) (i k : Nat) : List (Int × Int):=(List.range k).flatMap (cdK m a b i)
def cdL (m : Msh) (a b : Pnt) (i : Nat) : List (Int × Int):=(List.range i).flatMap fun i=>cdF m a b i 3
def dV (p : Int × Int) : Bool:=decide (dK p.1 (p.1 - p.2)=0)
def fqs (l : List (Int × Int)) : List Frq:=l.map fun p=>iC (eO p.1 (p.1 - p.2))
def iM (m : Msh) (a b : Pnt) : List Frq:=rG fqC (fqs (cdL m a b m.f.length))
theorem vw (m : Msh) (a b : Pnt) (i : Nat) : cdF m a b i 0=[]:=rfl
theorem mQ (m : Msh) (a b : Pnt) (i k : Nat) : cdF m a b i (k + 1)=cdF m a b i k++cdK m a b i k:=by simp [cdF,List.range_succ]
theorem pW (m : Msh) (a b : Pnt) : cdL m a b 0=[]:=rfl
theorem pU (m : Msh) (a b : Pnt) (i : Nat) : cdL m a b (i + 1)=cdL m a b i++cdF m a b i 3:=by simp [cdL,List.range_succ]
theorem rV (l l' : List (Int × Int)) : fqs (l++l')=fqs l++fqs l':=by simp [fqs]
theorem yv (m : Msh) (a b : Pnt) (i k : Nat) : (cdK m a b i k).length <= 1:=by unfold cdK;split <;> simp
theorem oW (m : Msh) (a b : Pnt) (i : Nat) : ∀ k,(cdF m a b i k).length <= k
 | 0=>by simp [cdF]
 | k + 1=>by rw [mQ,List.length_append];have:=oW m a b i k;have:=yv m a b i k;omega
theorem kB (m : Msh) (a b : Pnt) : ∀ i,(cdL m a b i).length <= 3 * i
 | 0=>by simp [cdL]
 | i + 1=>by rw [pU,List.length_append];have:=kB m a b i;have:=oW m a b i 3;omega
theorem HJ {a b c d : Pnt} (h : jV a b c d=2) : (ai c d a < 0 /\ 0 < ai c d b) \/ (0 < ai c d a /\ ai c d b < 0):=by
 unfold jV at h
 split at h
 ·rename_i h1
  simp only [apG,Bool.and_eq_true,Bool.or_eq_true,decide_eq_true_eq] at h1
  exact h1.2
 ·split at h <;> omega
theorem zH {m : Msh} {a b : Pnt} {n : Nat} {p : Int × Int} (h : p ∈ cdL m a b n) : ∃ i k,i < n /\ k < 3 /\ eT m i k a b=2 /\ p=(ai (cnr m i k) (cnr m i ((k + 1) % 3)) a,ai (cnr m i k) (cnr m i ((k + 1) % 3)) b):=by
 simp only [cdL,List.mem_flatMap,List.mem_range,cdF] at h
 obtain ⟨i,hi,k,hk,h⟩:=h
 unfold cdK at h
 split at h
 ·rename_i h2
  exact ⟨i,k,hi,hk,h2,by simpa using h⟩
 ·simp at h
theorem mD {m : Msh} {a b : Pnt} {n : Nat} {p : Int × Int} (h : p ∈ cdL m a b n) : (p.1 < 0 /\ 0 < p.2) \/ (0 < p.1 /\ p.2 < 0):=by
 obtain ⟨i,k,_,_,h2,rfl⟩:=zH h
 exact HJ h2
theorem Ck {m : Msh} {a b : Pnt} {n : Nat} {p : Int × Int} (h : p ∈ cdL m a b n) : dK p.1 (p.1 - p.2)=0 \/ dK p.1 (p.1 - p.2)=5:=(kG (mD h)).2.1
theorem yq (a b c d : Pnt) : apG b a c d=apG a b c d:=by
 have e1 : ai b a c=-ai a b c:=by unfold ai;grind
 have e2 : ai b a d=-ai a b d:=by unfold ai;grind
 unfold apG
 rw [e1,e2,Bool.eq_iff_iff]
 simp only [Bool.or_eq_true,Bool.and_eq_true,decide_eq_true_eq]
 omega
theorem vt (a b c d : Pnt) : apG c d b a=apG c d a b:=by
 unfold apG
 rw [Bool.eq_iff_iff]
 simp only [Bool.or_eq_true,Bool.and_eq_true,decide_eq_true_eq]
 omega
theorem tj (a b p : Pnt) : onG b a p=onG a b p:=by
 have e1 : ai b a p=-ai a b p:=by unfold ai;grind
 unfold onG
 rw [e1,Bool.eq_iff_iff]
 simp only [Bool.and_eq_true,decide_eq_true_eq]
 omega
theorem p8 (a b c d : Pnt) : jV b a c d=jV a b c d:=by
 unfold jV
 rw [yq a b c d,vt a b c d,tj a b c,tj a b d]
 generalize onG a b c=x
 generalize onG a b d=y
 generalize onG c d a=z
 generalize onG c d b=w
 cases x <;> cases y <;> cases z <;> cases w <;> rfl
theorem uy (m : Msh) (i : Nat) (a b : Pnt) : fu m i b a=fu m i a b:=by
 unfold fu eT
 simp only [p8]
 rw [Bool.or_comm (decide (osF m i b < 0))]
theorem vx (m : Msh) (a b : Pnt) (i k : Nat) : cdK m b a i k=(cdK m a b i k).map fun p=>(p.2,p.1):=by
 unfold cdK eT
 rw [p8]
 split <;> simp
theorem pV (m : Msh) (a b : Pnt) (n : Nat) : cdL m b a n=(cdL m a b n).map fun p=>(p.2,p.1):=by
 unfold cdL cdF
 rw [List.map_flatMap]
 congr 1
 funext i
 rw [List.map_flatMap]
 congr 1
 funext k
 exact vx m a b i k
def omF (q : Frq) : Frq:=iC (q.1.2 - q.1.1,q.1.2)
def li (q : Frq) : Prop:=0 <= q.1.1 /\ q.1.1 <= q.1.2
theorem kU {q : Frq} (h : li q) : (omF q).1=(q.1.2 - q.1.1,q.1.2):=by
 unfold omF
 refine hJ ?_
 obtain ⟨h1,h2,h3,h4,h5⟩:=q.2
 obtain ⟨u1,u2⟩:=h
 refine ⟨h1,h2,by simp only;omega,by simp only;omega,?_⟩
 simp only
 obtain ⟨n,hn⟩:=Int.eq_ofNat_of_zero_le u1
 obtain ⟨d,hd⟩:=Int.eq_ofNat_of_zero_le (Int.le_of_lt h1)
 rw [hn,hd] at h5 ⊢
 rw [hn,hd] at u2
 have e : ((d : Int) - n).natAbs=d - n:=by omega
 rw [e]
 simp only [Int.natAbs_natCast] at h5 ⊢
 rw [Nat.gcd_comm,Nat.gcd_self_sub_right (by omega),Nat.gcd_comm]
 exact h5
theorem DA {x y : Frq} (hx : li x) (hy : li y) : fqC (omF x) (omF y)=fqC y x:=by
 unfold fqC
 rw [kU hx,kU hy]
 simp only
 have e1 : (x.1.2 - x.1.1) * y.1.2=x.1.2 * y.1.2 - x.1.1 * y.1.2:=Int.sub_mul _ _ _
 have e2 : (y.1.2 - y.1.1) * x.1.2=x.1.2 * y.1.2 - y.1.1 * x.1.2:=by rw [Int.sub_mul,Int.mul_comm y.1.2]
 rw [e1,e2]
 by_cases c1 : y.1.1 * x.1.2 < x.1.1 * y.1.2
 ·rw [if_pos (by omega),if_pos c1]
 ·by_cases c2 : x.1.1 * y.1.2 < y.1.1 * x.1.2
  ·rw [if_neg (by omega),if_pos (by omega),if_neg c1,if_pos c2]
  ·rw [if_neg (by omega),if_neg (by omega),if_neg c1,if_neg c2]
theorem wE {m : Msh} {a b : Pnt} {n : Nat} (hall : (cdL m a b n).all dV=true) : ∀ q ∈ fqs (cdL m a b n),li q:=by
 intro q hq
 obtain ⟨p,hp,rfl⟩:=List.mem_map.1 hq
 have h:=List.all_eq_true.1 hall p hp
 simp only [dV,decide_eq_true_eq] at h
 obtain ⟨h1,h2,h3⟩:=lF h
 unfold li
 rw [hJ h1]
 exact ⟨h2,h3⟩
theorem pt {m : Msh} {a b : Pnt} (n : Nat) : (cdL m b a n).all dV=(cdL m a b n).all dV:=by
 rw [pV,List.all_map,Bool.eq_iff_iff,List.all_eq_true,List.all_eq_true]
 constructor
 ·intro h p hp
  have:=h p hp
  simp only [Function.comp,dV,decide_eq_true_eq] at this ⊢
  rw [(kG (mD hp)).1];exact this
 ·intro h p hp
  have:=h p hp
  simp only [Function.comp,dV,decide_eq_true_eq] at this ⊢
  rw [<- (kG (mD hp)).1];exact this
theorem wD {m : Msh} {a b : Pnt} {n : Nat} (hall : (cdL m a b n).all dV=true) : fqs (cdL m b a n)=(fqs (cdL m a b n)).map omF:=by
 rw [pV]
 unfold fqs
 rw [List.map_map,List.map_map]
 apply List.map_congr_left
 intro p hp
 have h:=List.all_eq_true.1 hall p hp
 simp only [dV,decide_eq_true_eq] at h
 have h3:=(kG (mD hp)).2.2 h
 simp only [Function.comp]
 rw [h3]
 unfold omF
 rw [hJ (lF h).1]
theorem vI {m : Msh} {a b : Pnt} {q : Frq} : q ∈ iM m a b ↔ q ∈ fqs (cdL m a b m.f.length):=by unfold iM;exact mP
theorem ol {m : Msh} {a b : Pnt} (hall : (cdL m a b m.f.length).all dV=true) : ∀ q ∈ iM m a b,li q:=fun q hq=>wE hall q (vI.1 hq)
theorem p9 (m : Msh) (a b : Pnt) : lp fqC (iM m a b):=pT dA _
theorem tW {m : Msh} {a b : Pnt} (hall : (cdL m a b m.f.length).all dV=true) : iM m b a=(iM m a b).reverse.map omF:=by
 have hu:=ol hall
 unfold iM
 rw [wD hall]
 refine sO dA ?_ (fun x=>?_)
 ·have hs:=p9 m a b
  unfold lp
  rw [List.pairwise_map,List.pairwise_reverse]
  unfold lp iM at hs
  refine List.Pairwise.imp_of_mem (fun {x y} hx hy h=>?_) hs
  rw [DA (hu y hy) (hu x hx)]
  exact h
 ·simp only [List.mem_map,List.mem_reverse,mP]
end Go.Gv

set_option maxRecDepth 4000
namespace Go.Gv
theorem Bn {x q c : Int} (hc : 0 < c) (h1 : q * c <= x) (h2 : x < q * c + c) : x / c=q:=by
 apply Int.le_antisymm
 ·have:=(Int.ediv_lt_iff_lt_mul hc (a:=x) (b:=q + 1)).2 (by rw [Int.add_mul];omega)
  omega
 ·exact (Int.le_ediv_iff_mul_le hc).2 h1
theorem xX {x c : Int} (hc : 0 < c) : x / c=if x.tmod c < 0 then x.tdiv c - 1 else x.tdiv c:=by
 have e:=Int.mul_tdiv_add_tmod x c
 have e2 : c * x.tdiv c=x.tdiv c * c:=Int.mul_comm _ _
 have l:=Int.tmod_lt_of_pos x hc
 have g : -c < x.tmod c:=by
  have:=Int.tmod_lt_of_pos (-x) hc
  rw [Int.neg_tmod] at this
  omega
 split
 ·exact Bn hc (by rw [Int.sub_mul];omega) (by rw [Int.sub_mul];omega)
 ·exact Bn hc (by omega) (by omega)
theorem nO {x c B : Int} (hc : 0 < c) (h : -B <= x /\ x <= B) : -B <= x.tdiv c /\ x.tdiv c <= B:=by
 have e:=Int.mul_tdiv_add_tmod x c
 rcases Int.le_total 0 x with h0 | h0
 ·have h1:=Int.tdiv_nonneg h0 (Int.le_of_lt hc)
  have h2 : x.tdiv c <= x:=Int.tdiv_le_self c h0
  omega
 ·have h1:=Int.tdiv_nonneg (show 0 <= -x by omega) (Int.le_of_lt hc)
  have h2 : (-x).tdiv c <= -x:=Int.tdiv_le_self c (by omega)
  rw [Int.neg_tdiv] at h1 h2
  omega
def c9 (n : Int) : Bool:=decide (-4194304 <= n) && decide (n <= 4194304)
def cH (e : Int) (n : Int) (ls : List Int) : Int:=if e=0 then (if (1 <= n /\ n <= 999) /\ ls.all c9=true then 0 else 2) else e
def ptR (a b : Pnt) (n k : Nat) : List (List D):=(List.range k).map fun i=>ptD (atL a b n i)
def ptE (a b : Pnt) (n k : Nat) : List (List D):=if k=0 then List.replicate (n + 1) [.int .i64 0,.int .i64 0] else ptR a b n k
theorem tm (a b : Pnt) (n k : Nat) : (ptR a b n k).length=k:=by simp [ptR]
theorem qI (a b : Pnt) (n k : Nat) : (ptE a b n k).take k=ptR a b n k:=by
 unfold ptE
 split
 ·rename_i h;subst h;simp [ptR]
 ·exact List.take_of_length_le (by rw [tm];exact Nat.le_refl _)
theorem xe (a b : Pnt) (n k : Nat) : k <= (ptE a b n k).length:=by
 unfold ptE
 split
 ·simp_all
 ·rw [tm];exact Nat.le_refl _
theorem xi (a b : Pnt) (n k : Nat) : ptR a b n (k + 1)=ptR a b n k++[ptD (atL a b n k)]:=by simp [ptR,List.range_succ]
theorem xf (a b : Pnt) (n k : Nat) : ptE a b n (k + 1)=ptR a b n k++[ptD (atL a b n k)]:=by
 unfold ptE;rw [if_neg (by omega),xi]
theorem xg (a b : Pnt) (n : Nat) : ptE a b n 0=List.replicate (n + 1) [.int .i64 0,.int .i64 0]:=by simp [ptE]
theorem zV (a b : Pnt) (n k : Nat) : ∀ e ∈ ptR a b n k,e.length=2 /\ ∀ c ∈ e,aA c=true:=by
 intro e he
 obtain ⟨i,_,rfl⟩:=List.mem_map.1 he
 simp [ptD]
theorem Lu (a b : Pnt) (n k : Nat) : (ptR a b n k).map (fun e=>e.map aV)=ptR a b n k:=by
 unfold ptR
 rw [List.map_map]
 exact List.map_congr_left fun i _=>by simp [ptD]
theorem zU (a b : Pnt) (n : Nat) : ptR a b n (n + 1)=(iN a b n).map fun x=>ptD x:=by simp [ptR,iN]
variable {C : CC} (hC : aB prog C)
include hC
theorem lf (x : Int) (c : Int) (hc : 0 < c) (hx : -4611686018427387904 <= x /\ x <= 4611686018427387904) : C 730 [.int .i64 x,.int .i64 c] (.int .i64 (x / c)) []:=by
 have hc0 : ¬ c=0:=by omega
 have b:=nO hc hx
 have w1 : IntKind.wrap .i64 (x.tdiv c)=x.tdiv c:=ac rfl (by omega)
 have w2 : IntKind.wrap .i64 (x.tdiv c - 1)=x.tdiv c - 1:=ac rfl (by omega)
 rw [xX hc]
 refine start hC (nf:=N730) rfl rfl ?_
 simp [N730,hc0,w1]
 by_cases h : x.tmod c < 0
 ·simp [h,w2]
 ·simp [h]
theorem uZ (n : Int) : C 740 [.int .i64 n] (.bool (!c9 n)) []:=by
 refine start hC (nf:=N740) rfl rfl ?_
 simp [N740,c9]
 by_cases h : n < -4194304
 ·simp [h]
 ·simp [h]
  rw [Bool.eq_iff_iff]
  simp
  omega
theorem rj (b : Bool) (ls : List Int) (hl : ls.length < 2 ^ 62) : C 729 [slx b (ls.map fun n=>[.int .i64 n])] (.bool (ls.all c9)) []:=by
 have k:=qk hC (b:=b) (xs:=ls) (g:=740) (cs:=[]) (fun n=>!c9 n) hl (fun x _=>uZ hC x)
 have e : (ls.any fun x=>!c9 x)=!ls.all c9:=by rw [List.all_eq_not_any_not,Bool.not_not]
 rw [e] at k
 refine start hC (nf:=N729) rfl rfl ?_
 simp [N729]
 refine aa k (.inl rfl) ?_
 simp
theorem zD (a b : Pnt) : C 708 [.nilp,.agg (ptD a),.agg (ptD b)] (.int .i64 (dY a b)) []:=by
 have ka:=gd hC a
 have kb:=gd hC b
 simp only [ptD] at ka kb
 refine start hC (nf:=N708) rfl rfl ?_
 unfold dY
 simp [N708,ptD]
 refine aa ka (.inl rfl) ?_
 cases h1 : okP a
 ·simp
 simp
 refine aa kb (.inl rfl) ?_
 cases h2 : okP b
 ·simp
 simp
 by_cases h3 : a.1=b.1
 ·by_cases h4 : a.2=b.2
  ·simp [h3,h4,Prod.ext h3 h4]
  ·have hne : ¬ a=b:=fun e=>h4 (by rw [e])
   simp [h3,h4,hne]
 ·have hne : ¬ a=b:=fun e=>h3 (by rw [e])
  simp [h3,hne]
theorem vC (a b : Pnt) (n : Int) : C 703 [.nilp,.agg (ptD a),.agg (ptD b),.int .i64 n,.nils] (.int .i64 (cH (dY a b) n [])) []:=by
 have k1:=zD hC a b
 have k2:=rj hC true [] (by simp)
 simp only [ptD] at k1
 refine start hC (nf:=N703) rfl rfl ?_
 unfold cH
 simp [N703,ptD]
 refine aa k1 (.inl rfl) ?_
 clear k1
 generalize dY a b=e
 simp
 by_cases h : e=0
 ·subst h
  simp
  by_cases h1 : n < 1
  ·simp [h1,show ¬ 1 <= n by omega]
  ·by_cases h2 : 999 < n
   ·simp [h1,h2,show ¬ n <= 999 by omega]
   ·simp [h1,h2,show 1 <= n by omega,show n <= 999 by omega]
    simp at k2
    refine aa k2 (.inl rfl) ?_
    simp
    omega
 ·simp [h]
set_option maxHeartbeats 1000000 in
theorem lX (a b : Pnt) (ha : okP a=true) (hb : okP b=true) (n : Nat) (h1 : 1 <= n) (h2 : n <= 999) : C 704 [.agg (ptD a),.agg (ptD b),.int .i64 n] (.sl ((iN a b n).map fun x=>ptD x)) []:=by
 have ba:=cJ ha
 have bb:=cJ hb
 have w0 : IntKind.wrap .i64 ((n : Int) + 1)=((n + 1 : Nat) : Int):=ac (by omega) (by omega)
 have w1 : IntKind.wrap .i64 (b.1 - a.1)=b.1 - a.1:=ac rfl (by omega)
 have w2 : IntKind.wrap .i64 (b.2 - a.2)=b.2 - a.2:=ac rfl (by omega)
 refine start hC (nf:=N704) rfl rfl ?_
 simp [N704,ptD,w0]
 refine ⟨by omega,by omega,?_⟩
 refine aw Nat (fun k=>[(2,.int .i64 n),(3,.ptr (ptD a)),(4,.ptr (ptD b)),(7,.ref (.r 10112) 0 k),(10112,.blk 2 (ptE a b n k)),(13,.int .i64 ((n + 1 : Nat) : Int)),(14,.int .i64 k)]) (fun k=>k <= n + 1) (fun k=>n + 1 - k) 0 (by simp) (by simp [ptD,xg]) ?_
 intro k hk
 simp
 refine ao (fun h=>?_) (fun h=>?_) <;> simp at h
 ·have hw : IntKind.wrap .i64 ((k : Int) + 1)=((k + 1 : Nat) : Int):=ac (by omega) (by omega)
  have hk' : k <= n:=by omega
  have m1:=gO (a:=b.1 - a.1) (b:=(k : Int)) (k:=33554432) (l:=999) (by omega) (by omega) (by omega) (by omega)
  have m2:=gO (a:=b.2 - a.2) (b:=(k : Int)) (k:=33554432) (l:=999) (by omega) (by omega) (by omega) (by omega)
  have w3 : IntKind.wrap .i64 ((b.1 - a.1) * k)=(b.1 - a.1) * k:=ac rfl (by omega)
  have w4 : IntKind.wrap .i64 ((b.2 - a.2) * k)=(b.2 - a.2) * k:=ac rfl (by omega)
  have f1:=lf hC ((b.1 - a.1) * k) n (by omega) (by omega)
  have f2:=lf hC ((b.2 - a.2) * k) n (by omega) (by omega)
  have ho:=cJ (mO ha hb (show 0 < n by omega) hk')
  have w5 : IntKind.wrap .i64 (a.1 + (b.1 - a.1) * k / n)=(atL a b n k).1:=ac rfl (by omega)
  have w6 : IntKind.wrap .i64 (a.2 + (b.2 - a.2) * k / n)=(atL a b n k).2:=ac rfl (by omega)
  have hle:=xe a b n k
  have hss:=xf a b n k
  have htk:=qI a b n k
  have hpc:=zV a b n k
  simp [h,ptD,w1,w2,w3,w4]
  refine aa f1 (.inl rfl) ?_
  simp [w5,w2,w4]
  refine aa f2 (.inl rfl) ?_
  simp [w6]
  refine ⟨hle,by omega,aj (by decide +kernel),k + 1,by omega,by omega,rfl,?_,hw⟩
  rw [htk,hss];rfl
 ·have ek : k=n + 1:=by omega
  subst ek
  simp [h]
  refine ⟨xe a b n (n + 1),?_⟩
  rw [<- List.map_take,qI,Lu,zU]
  rfl
end Go.Gv

set_option maxRecDepth 4000
namespace Go.Gv
def fqD (q : Frq) : List D:=[.int .i64 q.1.1,.int .i64 q.1.2]
theorem mnE (x y : Int) : (if y < x then y else x)=min x y:=by split <;> omega
theorem mxE (x y : Int) : (if x < y then y else x)=max x y:=by split <;> omega
def mkE (n d : Int) : Int:=if 1073741824 < n / Nat.gcd n.natAbs d.natAbs \/ 1073741824 < d / Nat.gcd n.natAbs d.natAbs then 5 else 0
def mkQ (n d : Int) : Int × Int:=if mkE n d=0 then (n / Nat.gcd n.natAbs d.natAbs,d / Nat.gcd n.natAbs d.natAbs) else (0,0)
variable {C : CC} (hC : aB prog C)
include hC
theorem zP {a b p : Pnt} (ha : okP a=true) (hb : okP b=true) (hp : okP p=true) : C 732 [.agg (ptD a),.agg (ptD b),.agg (ptD p)] (.bool (onG a b p)) []:=by
 have k:=fN hC ha hb hp
 simp only [ptD] at k
 refine start hC (nf:=N732) rfl rfl ?_
 simp [N732,ptD]
 refine aa k (.inl rfl) ?_
 unfold onG
 by_cases h0 : ai a b p=0
 ·simp [h0,mnE,mxE]
  by_cases h1 : min a.1 b.1 <= p.1
  ·by_cases h2 : p.1 <= max a.1 b.1
   ·by_cases h3 : min a.2 b.2 <= p.2
    ·by_cases h4 : p.2 <= max a.2 b.2
     ·simp [mnE,mxE,h0,h1,h2,h3,h4]
     ·simp [mnE,mxE,h0,h1,h2,h3,h4]
    ·simp [mnE,mxE,h0,h1,h2,h3]
   ·simp [mnE,mxE,h0,h1,h2]
  ·simp [mnE,mxE,h0,h1]
 ·simp [h0]
theorem sJ {a b p q : Pnt} (ha : okP a=true) (hb : okP b=true) (hp : okP p=true) (hq : okP q=true) : C 731 [.agg (ptD a),.agg (ptD b),.agg (ptD p),.agg (ptD q)] (.bool (apG a b p q)) []:=by
 have k1:=fN hC ha hb hp
 have k2:=fN hC ha hb hq
 simp only [ptD] at k1 k2
 refine start hC (nf:=N731) rfl rfl ?_
 simp [N731,ptD]
 refine aa k1 (.inl rfl) ?_
 simp
 refine aa k2 (.inl rfl) ?_
 simp
 refine ⟨aj (by decide +kernel),?_⟩
 unfold apG
 generalize ai a b p=x
 generalize ai a b q=y
 by_cases h1 : x < 0
 ·by_cases h2 : 0 < y
  ·simp [h1,h2]
  ·simp [h1,h2,show ¬ 0 < x by omega]
 ·by_cases h3 : 0 < x
  ·simp [h1,h3]
  ·simp [h1,h3]
set_option maxHeartbeats 1000000 in
theorem jp {a b c d : Pnt} (ha : okP a=true) (hb : okP b=true) (hc : okP c=true) (hd : okP d=true) (hab : a ≠ b) (hcd : c ≠ d) : C 711 [.agg (ptD a),.agg (ptD b),.agg (ptD c),.agg (ptD d)] (.tup [.int .i64 (jV a b c d),.int .i64 0]) []:=by
 have ka:=sk hC false [a,b,c,d] (by simp)
 have p1:=sJ hC ha hb hc hd
 have p2:=sJ hC hc hd ha hb
 have o1:=zP hC ha hb hc
 have o2:=zP hC ha hb hd
 have o3:=zP hC hc hd ha
 have o4:=zP hC hc hd hb
 have n1 : ¬ (a.1=b.1 /\ a.2=b.2):=fun e=>hab (Prod.ext e.1 e.2)
 have n2 : ¬ (c.1=d.1 /\ c.2=d.2):=fun e=>hcd (Prod.ext e.1 e.2)
 have n1' : (decide (a.1=b.1) && decide (a.2=b.2))=false:=by
  rw [Bool.eq_false_iff];simp;exact fun e1 e2=>n1 ⟨e1,e2⟩
 have n2' : (decide (c.1=d.1) && decide (c.2=d.2))=false:=by
  rw [Bool.eq_false_iff];simp;exact fun e1 e2=>n2 ⟨e1,e2⟩
 simp [ha,hb,hc,hd] at ka
 simp only [ptD] at ka p1 p2 o1 o2 o3 o4
 unfold jV
 generalize apG a b c d=x1 at *
 generalize apG c d a b=x2 at *
 generalize onG a b c=y1 at *
 generalize onG a b d=y2 at *
 generalize onG c d a=y3 at *
 generalize onG c d b=y4 at *
 refine start hC (nf:=N711) rfl rfl ?_
 simp [N711,ptD]
 refine aa ka (.inl rfl) ?_
 simp [n1',n2']
 refine aa p1 (.inl rfl) ?_
 cases x1
 ·simp
  refine aa o1 (.inl rfl) ?_
  cases y1
  ·simp
   refine aa o2 (.inl rfl) ?_
   cases y2
   ·simp
    refine aa o3 (.inl rfl) ?_
    cases y3
    ·simp
     refine aa o4 (.inl rfl) ?_
     cases y4 <;> simp
    ·simp
   ·simp
  ·simp
 ·simp
  refine aa p2 (.inl rfl) ?_
  cases x2
  ·simp
   refine aa o1 (.inl rfl) ?_
   cases y1
   ·simp
    refine aa o2 (.inl rfl) ?_
    cases y2
    ·simp
     refine aa o3 (.inl rfl) ?_
     cases y3
     ·simp
      refine aa o4 (.inl rfl) ?_
      cases y4 <;> simp
     ·simp
    ·simp
   ·simp
  ·simp
theorem pZ (a b : Nat) (ha : a < 18446744073709551616) (hb : b < 18446744073709551616) : C 738 [.int .u64 a,.int .u64 b] (.int .u64 ((Nat.gcd a b : Nat) : Int)) []:=by
 refine start hC (nf:=N738) rfl rfl ?_
 simp [N738]
 refine aw (Nat × Nat) (fun s=>[(0,.int .u64 s.1),(1,.int .u64 s.2)]) (fun s=>s.1 < 18446744073709551616 /\ s.2 < 18446744073709551616 /\ Nat.gcd s.1 s.2=Nat.gcd a b) (fun s=>s.2) (a,b) ⟨ha,hb,rfl⟩ (by simp) ?_
 rintro ⟨x,y⟩ ⟨h1,h2,h3⟩
 simp only at h1 h2 h3
 simp
 by_cases hy : y=0
 ·subst hy
  rw [Nat.gcd_zero_right] at h3
  simp [h3]
 ·have hm : (x : Int).tmod (y : Int)=((x % y : Nat) : Int):=by rw [Int.tmod_eq_emod_of_nonneg (by omega)];rfl
  simp [hy,hm]
  refine ⟨aj (by decide +kernel),y,x % y,⟨h2,by have:=Nat.mod_lt x (show 0 < y by omega);omega,?_⟩,Nat.mod_lt x (by omega),rfl,rfl⟩
  rw [Nat.gcd_comm,<- Nat.gcd_rec,Nat.gcd_comm];exact h3
theorem sB (n : Int) (h : -4611686018427387904 <= n /\ n <= 4611686018427387904) : C 739 [.int .i64 n] (.int .u64 (n.natAbs : Int)) []:=by
 refine start hC (nf:=N739) rfl rfl ?_
 have e1 : IntKind.u64.signed=false:=rfl
 have e3 : (2 ^ IntKind.u64.bits : Int)=18446744073709551616:=rfl
 by_cases hn : n < 0
 ·have w1 : IntKind.u64.wrap n=n + 18446744073709551616:=by
   unfold IntKind.wrap
   simp only [e1,e3,Bool.false_and]
   simp;omega
  have w2 : IntKind.u64.wrap (-(n + 18446744073709551616))=-n:=by
   unfold IntKind.wrap
   simp only [e1,e3,Bool.false_and]
   simp;omega
  have e : (n.natAbs : Int)=-n:=by omega
  simp [N739,hn,w1,w2]
  omega
 ·have w1 : IntKind.u64.wrap n=n:=by
   unfold IntKind.wrap
   simp only [e1,e3,Bool.false_and]
   simp;omega
  simp [N739,hn,w1]
  omega
set_option maxHeartbeats 1000000 in
theorem wU (n d : Int) (hn : 0 <= n /\ n <= 4611686018427387904) (hd : 0 < d /\ d <= 4611686018427387904) : C 733 [.int .i64 n,.int .i64 d] (.tup [.agg [.int .i64 (mkQ n d).1,.int .i64 (mkQ n d).2],.int .i64 (mkE n d)]) []:=by
 obtain ⟨a,rfl⟩:=Int.eq_ofNat_of_zero_le hn.1
 obtain ⟨b,rfl⟩:=Int.eq_ofNat_of_zero_le (show 0 <= d by omega)
 have k1:=sB hC a (by omega)
 have k2:=sB hC b (by omega)
 have k3:=pZ hC a b (by omega) (by omega)
 simp only [Int.natAbs_natCast] at k1 k2
 have g0 : 0 < Nat.gcd a b:=Nat.gcd_pos_of_pos_right _ (by omega)
 have g0' : ¬ Nat.gcd a b=0:=by omega
 have hd0 : ¬ b=0:=by omega
 have gb : Nat.gcd a b <= b:=Nat.le_of_dvd (by omega) (Nat.gcd_dvd_right _ _)
 have la:=Nat.div_le_self a (Nat.gcd a b)
 have lb:=Nat.div_le_self b (Nat.gcd a b)
 have t1 : (a : Int).tdiv ((Nat.gcd a b : Nat) : Int)=((a / Nat.gcd a b : Nat) : Int):=by rw [Int.tdiv_eq_ediv_of_nonneg (by omega)];rfl
 have t2 : (b : Int).tdiv ((Nat.gcd a b : Nat) : Int)=((b / Nat.gcd a b : Nat) : Int):=by rw [Int.tdiv_eq_ediv_of_nonneg (by omega)];rfl
 have q1 : (a : Int) / ((Nat.gcd a b : Nat) : Int)=((a / Nat.gcd a b : Nat) : Int):=rfl
 have q2 : (b : Int) / ((Nat.gcd a b : Nat) : Int)=((b / Nat.gcd a b : Nat) : Int):=rfl
 have hE : mkE (a : Int) b=if 1073741824 < ((a / Nat.gcd a b : Nat) : Int) \/ 1073741824 < ((b / Nat.gcd a b : Nat) : Int) then 5 else 0:=by
  unfold mkE
  simp only [Int.natAbs_natCast,q1,q2]
 have hQ : mkQ (a : Int) b=if mkE (a : Int) b=0 then (((a / Nat.gcd a b : Nat) : Int),((b / Nat.gcd a b : Nat) : Int)) else (0,0):=by
  unfold mkQ
  simp only [Int.natAbs_natCast,q1,q2]
 rw [hQ,hE]
 clear hQ hE q1 q2
 generalize a / Nat.gcd a b=x at *
 generalize b / Nat.gcd a b=y at *
 generalize Nat.gcd a b=g at *
 have e1 : IntKind.u64.signed=false:=rfl
 have e3 : (2 ^ IntKind.u64.bits : Int)=18446744073709551616:=rfl
 have w1 : IntKind.u64.wrap (x : Int)=x:=by
  unfold IntKind.wrap
  simp only [e1,e3,Bool.false_and]
  simp;omega
 have w2 : IntKind.u64.wrap (y : Int)=y:=by
  unfold IntKind.wrap
  simp only [e1,e3,Bool.false_and]
  simp;omega
 have w3 : IntKind.i64.wrap (x : Int)=x:=ac rfl (by omega)
 have w4 : IntKind.i64.wrap (y : Int)=y:=ac rfl (by omega)
 have na : ¬ (a : Int) < 0:=by omega
 have nb : ¬ (b : Int) < 0:=by omega
 refine start hC (nf:=N733) rfl rfl ?_
 simp [N733,hd0]
 refine aa k1 (.inl rfl) ?_
 simp
 refine aa k2 (.inl rfl) ?_
 simp
 refine aa k3 (.inl rfl) ?_
 simp [g0',t1,t2,w1,w2]
 refine ⟨aj (by decide +kernel),?_⟩
 by_cases c1 : 1073741824 < x
 ·have c1' : (1073741824 : Int) < x:=by omega
  simp [c1,c1']
 ·have c1' : ¬ (1073741824 : Int) < x:=by omega
  by_cases c2 : 1073741824 < y
  ·have c2' : (1073741824 : Int) < y:=by omega
   simp [c1,c1',c2,c2']
  ·have c2' : ¬ (1073741824 : Int) < y:=by omega
   simp [c1,c1',c2,c2',w3,w4,na,nb]
end Go.Gv

set_option maxRecDepth 4000
namespace Go.Gv
def rK (m : Msh) (i : Nat) : List D:=[.int .i64 (spA m i).x,.int .i64 (spA m i).y,.int .i64 (spB m i).x,.int .i64 (spB m i).y,.int .i64 (spC m i).x,.int .i64 (spC m i).y]
theorem bM (m : Msh) (i : Nat) : rK m i=[.int .i64 (spA m i).x,.int .i64 (spA m i).y,.int .i64 (spB m i).x,.int .i64 (spB m i).y,.int .i64 (spC m i).x,.int .i64 (spC m i).y]:=_root_.id rfl
def jJ (m : Msh) (a b : Pnt) (k : Nat) : List Nat:=(List.range k).filter fun i=>fu m i a b
theorem oq (m : Msh) (a b : Pnt) (k : Nat) : jJ m a b (k + 1)=jJ m a b k++(if fu m k a b=true then [k] else []):=by
 unfold jJ
 rw [List.range_succ,List.filter_append]
 congr 1
 by_cases h : fu m k a b=true
 ·simp [h]
 ·simp [h]
theorem mU (m : Msh) (a b : Pnt) (k : Nat) : (jJ m a b k).length <= k:=by
 unfold jJ
 have:=List.length_filter_le (fun i=>fu m i a b) (List.range k)
 simpa using this
def gL (m : Msh) (a b : Pnt) (k : Nat) : List (List D):=(jJ m a b k).map fun (i : Nat)=>[D.int .i64 ((i : Nat) : Int)]
theorem wi (m : Msh) (a b : Pnt) (k : Nat) : (gL m a b k).length=(jJ m a b k).length:=by simp [gL]
theorem wh (m : Msh) (a b : Pnt) (k : Nat) : ∀ e ∈ gL m a b k,e.length=1 /\ ∀ c ∈ e,aA c=true:=by
 intro e he
 obtain ⟨i,_,rfl⟩:=List.mem_map.1 he
 simp
theorem CJ (m : Msh) (a b : Pnt) (k : Nat) : (gL m a b k).map (fun e=>e.map aV)=gL m a b k:=by
 unfold gL
 rw [List.map_map]
 exact List.map_congr_left fun i _=>by simp
def bC (m : Msh) (a b : Pnt) : Int:=if aF m=true then dY a b else 1
variable {C : CC} (hC : aB prog C)
include hC
set_option maxHeartbeats 1000000 in
theorem nN (m : Msh) (i : Nat) (hi : i < m.f.length) (h : inS m (fce m i)=true) : C 710 [.agg (aN m),.agg (bq (fce m i))] (.agg (rK m i)) []:=by
 obtain ⟨⟨a1,a2⟩,⟨b1,b2⟩,⟨c1,c2⟩⟩:=jZ h
 unfold rK spA spB spC spt
 generalize fce m i=f at *
 rw [getElem!_pos m.s _ a2,getElem!_pos m.s _ b2,getElem!_pos m.s _ c2]
 refine start hC (nf:=N710) rfl rfl ?_
 simp [N710,ab,aT]
 refine aw Nat (fun k=>[(2,.ptr [slx m.sn (m.s.map eA),slx m.fn (m.f.map bq)]),(4,.adr (.r 10064) 0 0),(5,.adr (.r 10080) 0 0),(14,.ref (.r 10224) 0 3),(15,.int .i64 3),(16,.int .i64 k),(10064,.blk 6 [[.int .i64 0,.int .i64 0,.int .i64 0,.int .i64 0,.int .i64 0,.int .i64 0]]),
  (10080,.blk 6 [([.int .i64 m.s[f.a.toNat].x,.int .i64 m.s[f.a.toNat].y,.int .i64 m.s[f.b.toNat].x,.int .i64 m.s[f.b.toNat].y,.int .i64 m.s[f.c.toNat].x,.int .i64 m.s[f.c.toNat].y] : List D).take (2 * k)++List.replicate (6 - 2 * k) (.int .i64 0)]),(10224,.blk 1 [[.int .i64 f.a],[.int .i64 f.b],[.int .i64 f.c]])]) (fun k=>k <= 3) (fun k=>3 - k) 0 (by simp) (by simp [List.replicate]) ?_
 rintro k hk
 rcases (by omega : k=0 \/ k=1 \/ k=2 \/ k=3) with rfl | rfl | rfl | rfl
 ·have w : IntKind.wrap .i64 (1 : Int)=1:=by decide
  simp [a1,a2,bz,w,List.replicate]
  refine ⟨aj (by decide +kernel),1,?_⟩
  simp [List.replicate]
 ·have w : IntKind.wrap .i64 (2 : Int)=2:=by decide
  simp [b1,b2,bz,w,List.replicate]
  refine ⟨aj (by decide +kernel),2,?_⟩
  simp [List.replicate]
 ·have w : IntKind.wrap .i64 (3 : Int)=3:=by decide
  simp [c1,c2,bz,w,List.replicate]
  refine ⟨aj (by decide +kernel),3,?_⟩
  simp [List.replicate]
 ·simp [List.replicate]
theorem pm (dec : Nat -> List UInt8) (hI : ∀ n : Nat,n < 100 -> C 127 [.int .i64 n] (.str (dec n)) []) (m : Msh) (hz : bA m=true -> m.s.length <= 100 /\ m.f.length <= 100) (a b : Pnt) : C 708 [.ptr (aN m),.agg (ptD a),.agg (ptD b)] (.int .i64 (bC m a b)) []:=by
 have ka:=gd hC a
 have kb:=gd hC b
 have km:=qD hC dec hI m hz
 simp only [ptD] at ka kb
 simp only [ab] at km
 refine start hC (nf:=N708) rfl rfl ?_
 unfold bC dY
 simp [N708,ptD,ab]
 refine aa km (.inl rfl) ?_
 cases h0 : aF m
 ·simp
 simp
 refine aa ka (.inl rfl) ?_
 cases h1 : okP a
 ·simp
 simp
 refine aa kb (.inl rfl) ?_
 cases h2 : okP b
 ·simp
 simp
 by_cases h3 : a.1=b.1
 ·by_cases h4 : a.2=b.2
  ·simp [h3,h4,Prod.ext h3 h4]
  ·have hne : ¬ a=b:=fun e=>h4 (by rw [e])
   simp [h3,h4,hne]
 ·have hne : ¬ a=b:=fun e=>h3 (by rw [e])
  simp [h3,hne]
set_option maxHeartbeats 2000000 in
theorem zG (m : Msh) (hv : aF m=true) (i : Nat) (hi : i < m.f.length) {a b : Pnt} (ha : okP a=true) (hb : okP b=true) (hab : a ≠ b) : C 709 [.agg (rK m i),.agg (ptD a),.agg (ptD b)] (.bool (fu m i a b)) []:=by
 have i1:=oC hC m hv i hi a ha
 have i2:=oC hC m hv i hi b hb
 have k0:=jp hC ha hb (dw hv hi 0) (dw hv hi 1) hab (ir hv hi 0 (by omega))
 have k1:=jp hC ha hb (dw hv hi 1) (dw hv hi 2) hab (ir hv hi 1 (by omega))
 have k2:=jp hC ha hb (dw hv hi 2) (dw hv hi 0) hab (ir hv hi 2 (by omega))
 have e0 : jV a b (cnr m i 0) (cnr m i 1)=eT m i 0 a b:=rfl
 have e1 : jV a b (cnr m i 1) (cnr m i 2)=eT m i 1 a b:=rfl
 have e2 : jV a b (cnr m i 2) (cnr m i 0)=eT m i 2 a b:=rfl
 rw [e0] at k0
 rw [e1] at k1
 rw [e2] at k2
 have c0 : cnr m i 0=ptS (spA m i):=rfl
 have c1 : cnr m i 1=ptS (spB m i):=rfl
 have c2 : cnr m i 2=ptS (spC m i):=rfl
 rw [c0,c1] at k0
 rw [c1,c2] at k1
 rw [c2,c0] at k2
 have o1:=s8 m i a
 have o2:=s8 m i b
 obtain ⟨r,hr⟩ : ∃ r,r=fu m i a b:=⟨_,rfl⟩
 rw [<- hr]
 unfold fu at hr
 rw [<- o1,<- o2] at hr
 have hr' : r=(decide (0 <= qq m i a) || decide (0 <= qq m i b) || (decide (0 < eT m i 0 a b) || decide (0 < eT m i 1 a b) || decide (0 < eT m i 2 a b))):=by
  rw [hr];simp [List.range,List.range.loop,Bool.or_assoc]
 clear hr o1 o2 e0 e1 e2 c0 c1 c2
 generalize qq m i a=x at *
 generalize qq m i b=y at *
 generalize eT m i 0 a b=z0 at *
 generalize eT m i 1 a b=z1 at *
 generalize eT m i 2 a b=z2 at *
 simp only [ptD,ptS] at i1 i2 k0 k1 k2
 have w1 : IntKind.wrap .i64 (1 : Int)=1:=by decide
 have w2 : IntKind.wrap .i64 (2 : Int)=2:=by decide
 have w3 : IntKind.wrap .i64 (3 : Int)=3:=by decide
 refine start hC (nf:=N709) rfl rfl ?_
 simp [N709,ptD,bM]
 refine aw Nat (fun k=>[(3,.ptr (rK m i)),(4,.ptr (ptD a)),(5,.ptr (ptD b)),(16,.ref (.r 10256) 0 2),(17,.int .i64 2),(18,.int .i64 k),(10256,.blk 2 [ptD a,ptD b])]) (fun k=>k <= 2 /\ (0 < k -> ¬ 0 <= x) /\ (1 < k -> ¬ 0 <= y)) (fun k=>2 - k) 0 (by simp) (by simp [bM,ptD]) ?_
 rintro k ⟨hk,g1,g2⟩
 rcases (by omega : k=0 \/ k=1 \/ k=2) with rfl | rfl | rfl
 ·simp [ptD,bM]
  refine aa i1 (.inl rfl) ?_
  simp
  refine ao (fun h1=>?_) (fun h1=>?_) <;> simp at h1
  ·simp [hr',h1]
  ·simp [w1,show ¬ 0 <= x by omega]
   exact ⟨1,by simp [bM,ptD];try omega⟩
 ·have gx:=g1 (by omega)
  simp [ptD,bM]
  refine aa i2 (.inl rfl) ?_
  simp
  refine ao (fun h1=>?_) (fun h1=>?_) <;> simp at h1
  ·simp [hr',h1]
  ·simp [w2,show ¬ 0 <= y by omega]
   exact ⟨2,by simp [bM,ptD];try omega⟩
 ·have gx:=g1 (by omega)
  have gy:=g2 (by omega)
  simp
  refine aw Nat (fun k=>[(3,.ptr (rK m i)),(4,.ptr (ptD a)),(5,.ptr (ptD b)),(40,.int .i64 k)]) (fun k=>k <= 3 /\ (0 < k -> ¬ 0 < z0) /\ (1 < k -> ¬ 0 < z1) /\ (2 < k -> ¬ 0 < z2)) (fun k=>3 - k) 0 (by simp) (by simp [bM,ptD]) ?_
  rintro k ⟨hk,j0,j1,j2⟩
  rcases (by omega : k=0 \/ k=1 \/ k=2 \/ k=3) with rfl | rfl | rfl | rfl
  ·simp [ptD,bM,w1]
   refine aa k0 (.inl rfl) ?_
   simp
   refine ⟨aj (by decide +kernel),?_⟩
   refine ao (fun h1=>?_) (fun h1=>?_) <;> simp at h1
   ·simp [hr',h1]
   ·simp [show ¬ 0 < z0 by omega,w1]
    exact ⟨1,by simp [bM,ptD];try omega⟩
  ·simp [ptD,bM,w2]
   refine aa k1 (.inl rfl) ?_
   simp
   refine ⟨aj (by decide +kernel),?_⟩
   refine ao (fun h1=>?_) (fun h1=>?_) <;> simp at h1
   ·simp [hr',h1]
   ·simp [show ¬ 0 < z1 by omega,w2]
    exact ⟨2,by simp [bM,ptD];try omega⟩
  ·simp [ptD,bM,w3]
   refine aa k2 (.inl rfl) ?_
   simp
   refine ⟨aj (by decide +kernel),?_⟩
   refine ao (fun h1=>?_) (fun h1=>?_) <;> simp at h1
   ·simp [hr',h1]
   ·simp [show ¬ 0 < z2 by omega,w3]
    exact ⟨3,by simp [bM,ptD];try omega⟩
  ·have h0:=j0 (by omega)
   have h1:=j1 (by omega)
   have h2:=j2 (by omega)
   simp [hr',gx,gy,h0,h1,h2]
end Go.Gv

set_option maxRecDepth 4000
namespace Go.Gv
theorem vH {x z : Int} (h0 : ¬ z=0) (h1 : ¬ z < 0) (h2 : ¬ x < 0) (h3 : ¬ z < x) : dK x z=mkE x z /\ eO x z=mkQ x z:=by
 have e : dK x z=mkE x z:=by
  unfold dK mkE dz
  rw [if_neg h0,if_neg h1,if_neg (by simp only [not_or];exact ⟨h2,h3⟩)]
 refine ⟨e,?_⟩
 unfold eO mkQ
 rw [e]
 unfold dz
 rw [if_neg h1]
theorem vG {x z : Int} (h0 : ¬ z=0) (h1 : z < 0) (h2 : ¬ -x < 0) (h3 : ¬ -z < -x) : dK x z=mkE (-x) (-z) /\ eO x z=mkQ (-x) (-z):=by
 have e : dK x z=mkE (-x) (-z):=by
  unfold dK mkE dz
  rw [if_neg h0,if_pos h1,if_neg (by simp only [not_or];exact ⟨h2,h3⟩)]
 refine ⟨e,?_⟩
 unfold eO mkQ
 rw [e]
 unfold dz
 rw [if_pos h1]
theorem o5 {x z : Int} (h0 : ¬ z=0) (h : if z < 0 then -x < 0 \/ -z < -x else x < 0 \/ z < x) : dK x z=2:=by
 unfold dK dz
 rw [if_neg h0,if_pos]
 split at h <;> rename_i h1
 ·rw [if_pos h1];exact h
 ·rw [if_neg h1];exact h
theorem mT {x z : Int} (h : dK x z ≠ 0) : eO x z=(0,0):=by unfold eO;rw [if_neg h]
variable {C : CC} (hC : aB prog C)
include hC
set_option maxHeartbeats 1000000 in
theorem vJ {a b c d : Pnt} (ha : okP a=true) (hb : okP b=true) (hc : okP c=true) (hd : okP d=true) (hab : a ≠ b) (hcd : c ≠ d) : C 712 [.agg (ptD a),.agg (ptD b),.agg (ptD c),.agg (ptD d)] (.tup [.agg [.int .i64 (eO (ai c d a) (ai c d a - ai c d b)).1,.int .i64 (eO (ai c d a) (ai c d a - ai c d b)).2],.int .i64 (dK (ai c d a) (ai c d a - ai c d b))]) []:=by
 have ka:=sk hC false [a,b,c,d] (by simp)
 have t1:=fN hC hc hd ha
 have t2:=fN hC hc hd hb
 have b1:=ik hc hd ha
 have b2:=ik hc hd hb
 have n1 : ¬ (a.1=b.1 /\ a.2=b.2):=fun e=>hab (Prod.ext e.1 e.2)
 have n2 : ¬ (c.1=d.1 /\ c.2=d.2):=fun e=>hcd (Prod.ext e.1 e.2)
 have n1' : (decide (a.1=b.1) && decide (a.2=b.2))=false:=by
  rw [Bool.eq_false_iff];simp;exact fun e1 e2=>n1 ⟨e1,e2⟩
 have n2' : (decide (c.1=d.1) && decide (c.2=d.2))=false:=by
  rw [Bool.eq_false_iff];simp;exact fun e1 e2=>n2 ⟨e1,e2⟩
 simp [ha,hb,hc,hd] at ka
 simp only [ptD] at ka t1 t2
 obtain ⟨x,hx⟩ : ∃ x,x=ai c d a:=⟨_,rfl⟩
 obtain ⟨y,hy⟩ : ∃ y,y=ai c d b:=⟨_,rfl⟩
 rw [<- hx] at b1 t1 ⊢
 rw [<- hy] at b2 t2 ⊢
 clear hx hy
 have km : ∀ n d : Int,0 <= n /\ n <= 4611686018427387904 -> 0 < d /\ d <= 4611686018427387904 -> C 733 [.int .i64 n,.int .i64 d] (.tup [.agg [.int .i64 (mkQ n d).1,.int .i64 (mkQ n d).2],.int .i64 (mkE n d)]) []:=fun n d h1 h2=>wU hC n d h1 h2
 have w : IntKind.wrap .i64 (x - y)=x - y:=ac rfl (by omega)
 have w1 : IntKind.wrap .i64 (-x)=-x:=ac rfl (by omega)
 have w2 : IntKind.wrap .i64 (-(x - y))=-(x - y):=ac rfl (by omega)
 refine start hC (nf:=N712) rfl rfl ?_
 simp [N712,ptD]
 refine aa ka (.inl rfl) ?_
 simp [n1',n2']
 refine aa t1 (.inl rfl) ?_
 simp
 refine aa t2 (.inl rfl) ?_
 simp [w]
 obtain ⟨z,hz⟩ : ∃ z,z=x - y:=⟨_,rfl⟩
 rw [<- hz] at w2 ⊢
 by_cases h0 : z=0
 ·have e : dK x z=16:=by unfold dK;rw [if_pos h0]
  rw [e,mT (by rw [e];decide)]
  simp [h0]
 by_cases h1 : z < 0
 ·by_cases h2 : -x < 0
  ·have e:=o5 (x:=x) h0 (by rw [if_pos h1];exact .inl h2)
   rw [e,mT (by rw [e];decide)]
   simp [h0,h1,w1,w2,show 0 < x by omega]
  ·by_cases h3 : -z < -x
   ·have e:=o5 (x:=x) h0 (by rw [if_pos h1];exact .inr h3)
    rw [e,mT (by rw [e];decide)]
    simp [h0,h1,w1,w2,show ¬ 0 < x by omega,show x < z by omega]
   ·obtain ⟨e1,e2⟩:=vG h0 h1 h2 h3
    rw [e1,e2]
    simp [h0,h1,w1,w2,show ¬ 0 < x by omega,show ¬ x < z by omega]
    refine aa (km (-x) (-z) (by omega) (by omega)) (.inl rfl) ?_
    simp
 ·by_cases h2 : x < 0
  ·have e:=o5 (x:=x) h0 (by rw [if_neg h1];exact .inl h2)
   rw [e,mT (by rw [e];decide)]
   simp [h0,h1,h2]
  ·by_cases h3 : z < x
   ·have e:=o5 (x:=x) h0 (by rw [if_neg h1];exact .inr h3)
    rw [e,mT (by rw [e];decide)]
    simp [h0,h1,h2,h3]
   ·obtain ⟨e1,e2⟩:=vH h0 h1 h2 h3
    rw [e1,e2]
    simp [h0,h1,h2,h3]
    refine aa (km x z (by omega) (by omega)) (.inl rfl) ?_
    simp
set_option maxHeartbeats 1000000 in
theorem lc (dec : Nat -> List UInt8) (hI : ∀ n : Nat,n < 100 -> C 127 [.int .i64 n] (.str (dec n)) []) (m : Msh) (hz : bA m=true -> m.s.length <= 100 /\ m.f.length <= 100) (a b : Pnt) (h0 : bC m a b=0) : C 682 [.agg (aN m),.agg (ptD a),.agg (ptD b)] (.tup [.sl (gL m a b m.f.length),.int .i64 0]) []:=by
 have kl:=pm hC dec hI m hz a b
 rw [h0] at kl
 have hv : aF m=true:=by
  unfold bC at h0
  by_cases h : aF m=true
  ·exact h
  ·rw [if_neg h] at h0;cases h0
 have h1 : dY a b=0:=by unfold bC at h0;rwa [if_pos hv] at h0
 have hab : okP a=true /\ okP b=true /\ a ≠ b:=by
  unfold dY at h1
  split at h1
  ·rename_i h
   refine ⟨h.1,h.2,fun e=>?_⟩
   rw [if_pos e] at h1;cases h1
  ·cases h1
 obtain ⟨oa,ob,hne⟩:=hab
 have hfl:=(mq hv).2
 simp only [ab,ptD] at kl
 refine start hC (nf:=N682) rfl rfl ?_
 simp [N682,ptD,ab]
 refine aa kl (.inl rfl) ?_
 obtain ⟨R,hR⟩ : ∃ R,R=gL m a b:=⟨_,rfl⟩
 have hR0 : R 0=[]:=by rw [hR];rfl
 have hRl : ∀ i,(R i).length <= i:=fun i=>by rw [hR,wi];exact mU m a b i
 have hRp : ∀ i,fu m i a b=true -> R (i + 1)=R i++[[.int .i64 (i : Int)]]:=fun i h=>by rw [hR];unfold gL;rw [oq,if_pos h];simp
 have hRn : ∀ i,fu m i a b=false -> R (i + 1)=R i:=fun i h=>by rw [hR];unfold gL;rw [oq,if_neg (by simp [h])];simp
 have hRv : ∀ i,(R i).map (fun e=>e.map aV)=R i:=fun i=>by rw [hR];exact CJ m a b i
 have hRc : ∀ i,∀ e ∈ R i,e.length=1 /\ ∀ c ∈ e,aA c=true:=fun i=>by rw [hR];exact wh m a b i
 rw [<- hR]
 simp
 refine aw Nat (fun i=>[(3,.ptr (aN m)),(4,.ptr (ptD a)),(5,.ptr (ptD b)),(9,.ref (.r 10144) 0 (R i).length),(19,slx m.fn (m.f.map bq)),(20,.int .i64 m.f.length),(21,.int .i64 i),(10144,.blk 1 (R i))])
  (fun i=>i <= m.f.length) (fun i=>m.f.length - i) 0 (by simp) (by simp [ab,ptD,hR0]) ?_
 rintro i hi
 simp
 refine ao (fun h1=>?_) (fun h1=>?_) <;> simp at h1 <;> simp [h1]
 ·have hw : IntKind.wrap .i64 ((i : Int) + 1)=((i + 1 : Nat) : Int):=ac (by omega) (by omega)
  have kc:=nN hC m i h1 (fy hv h1)
  have km:=zG hC m hv i h1 oa ob hne
  have hRi:=hRl i
  simp only [ab,aT] at kc
  simp only [ptD] at km
  simp [ab,ptD,h1,aT]
  refine aa kc (.inr rfl) ?_
  simp [ab,ptD]
  refine aa km (.inl rfl) ?_
  cases hb : fu m i a b
  ·simp
   refine ⟨aj (by decide +kernel),?_⟩
   simp [hw]
   exact ⟨i + 1,by omega,by omega,by simp [ab,ptD,hRn i hb]⟩
  ·have hq:=hRc i
   simp [hw]
   refine ⟨aj (by decide +kernel),?_⟩
   exact ⟨by omega,i + 1,by omega,by omega,by simp [ab,ptD,hRp i hb]⟩
 ·have : i=m.f.length:=by omega
  subst this
  simp [hRv]
end Go.Gv

set_option maxRecDepth 4000
namespace Go.Gv
def fqR (L : List Frq) : List (List D):=L.map fqD
theorem co (L : List Frq) : (fqR L).length=L.length:=by simp [fqR]
theorem mE {L : List Frq} {j : Nat} (h : j < L.length) : (fqR L)[j]? = some [.int .i64 L[j].1.1,.int .i64 L[j].1.2]:=by simp [fqR,h,fqD]
theorem y6 {L : List Frq} {j : Nat} (x : Frq) : (fqR L).set j [.int .i64 x.1.1,.int .i64 x.1.2]=fqR (L.set j x):=by simp [fqR,fqD]
theorem wC (L : List Frq) (k : Nat) : (fqR L).take k=fqR (L.take k):=by simp [fqR]
theorem pf (L : List Frq) : ∀ e ∈ fqR L,∀ c ∈ e,aA c=true:=by
 intro e he c hc
 obtain ⟨x,_,rfl⟩:=List.mem_map.1 he
 simp [fqD] at hc
 rcases hc with rfl | rfl <;> rfl
theorem kL (L : List Frq) : ∀ e ∈ fqR L,∀ c ∈ e,bE c=true:=by
 intro e he c hc
 obtain ⟨x,_,rfl⟩:=List.mem_map.1 he
 simp [fqD] at hc
 rcases hc with rfl | rfl <;> rfl
theorem s7 (L : List Frq) : ∀ e ∈ fqR L,e.length=2:=by
 intro e he
 obtain ⟨x,_,rfl⟩:=List.mem_map.1 he
 rfl
def mw (C : CC) : Prop:=∀ L : List Frq,L.length < 2 ^ 62 -> (∀ x y : Frq,C 714 [.agg (fqD x),.agg (fqD y)] (.int .i64 (fqC x y)) []) -> C 713 [.own 2 (fqR L),.fn 714 []] .any [.own 2 (fqR (nJ fqC L)),.nilp]
section
variable {α : Type} [DecidableEq α]
theorem qb : ∀ (l : List α) (x : α),ddL (l++[x])=if l.getLast? = some x then ddL l else ddL l++[x]
 | [],x=>by simp [ddL]
 | [y],x=>by
  simp only [List.cons_append,List.nil_append,gU,List.getLast?_singleton,Option.some.injEq]
  by_cases e : y=x
  ·rw [if_pos e,if_pos e];subst e;rfl
  ·rw [if_neg e,if_neg e];rfl
 | y::z::r,x=>by
  have ih:=qb (z::r) x
  have e0 : y::z::r++[x]=y::z::(r++[x]):=rfl
  have e1 : z::r++[x]=z::(r++[x]):=rfl
  have e2 : (y::z::r).getLast? = (z::r).getLast?:=rfl
  rw [e0,gU,<- e1,ih,e2,gU]
  by_cases e : y=z
  ·rw [if_pos e,if_pos e]
  ·rw [if_neg e,if_neg e]
   split
   ·rfl
   ·rfl
theorem qc (l : List α) {m : Nat} (hm : m < l.length) (h0 : 0 < m) : ddL (l.take (m + 1))=if l[m - 1]=l[m] then ddL (l.take m) else ddL (l.take m)++[l[m]]:=by
 have e : l.take (m + 1)=l.take m++[l[m]]:=by rw [List.take_succ_eq_append_getElem hm]
 have e2 : (l.take m).getLast? = some l[m - 1]:=by
  rw [List.getLast?_eq_getElem?]
  simp only [List.length_take,Nat.min_eq_left (Nat.le_of_lt hm)]
  rw [List.getElem?_take_of_lt (by omega),List.getElem?_eq_getElem (by omega)]
 rw [e,qb,e2]
 simp only [Option.some.injEq]
end
variable {C : CC} (hC : aB prog C)
include hC
theorem jC (q : Frq) : C 722 [.agg (fqD q)] (.bool true) []:=by
 obtain ⟨h1,h2,h3,h4,h5⟩:=q.2
 have k1:=sB hC q.1.1 (by omega)
 have wu : IntKind.u64.wrap q.1.2=(q.1.2.natAbs : Int):=by
  have e1 : IntKind.u64.signed=false:=rfl
  have e3 : (2 ^ IntKind.u64.bits : Int)=18446744073709551616:=rfl
  unfold IntKind.wrap
  simp only [e1,e3,Bool.false_and]
  simp
  omega
 have k3:=pZ hC q.1.1.natAbs q.1.2.natAbs (by omega) (by omega)
 rw [h5] at k3
 refine start hC (nf:=N722) rfl rfl ?_
 simp [N722,fqD,show 1 <= q.1.2 by omega,h2,h3,h4]
 refine aa k1 (.inl rfl) ?_
 simp
 rw [wu]
 refine aa k3 (.inl rfl) ?_
 simp
 exact aj (by decide +kernel)
theorem tu (x y : Frq) : C 690 [.agg (fqD x),.agg (fqD y)] (.tup [.int .i64 (fqC x y),.int .i64 0]) []:=by
 obtain ⟨h1,h2,h3,h4,h5⟩:=x.2
 obtain ⟨g1,g2,g3,g4,g5⟩:=y.2
 have k1:=jC hC x
 have k2:=jC hC y
 simp only [fqD] at k1 k2
 have m1 : -1152921504606846976 <= x.1.1 * y.1.2 /\ x.1.1 * y.1.2 <= 1152921504606846976:=by
  have a1:=Int.mul_le_mul_of_nonneg_right h4 (show 0 <= y.1.2 by omega)
  have a2:=Int.mul_le_mul_of_nonneg_right h3 (show 0 <= y.1.2 by omega)
  omega
 have m2 : -1152921504606846976 <= y.1.1 * x.1.2 /\ y.1.1 * x.1.2 <= 1152921504606846976:=by
  have a1:=Int.mul_le_mul_of_nonneg_right g4 (show 0 <= x.1.2 by omega)
  have a2:=Int.mul_le_mul_of_nonneg_right g3 (show 0 <= x.1.2 by omega)
  omega
 unfold fqC
 generalize hu : x.1.1 * y.1.2=u at *
 generalize hv : y.1.1 * x.1.2=v at *
 have w1 : IntKind.wrap .i64 u=u:=ac rfl (by omega)
 have w2 : IntKind.wrap .i64 v=v:=ac rfl (by omega)
 have w3 : IntKind.wrap .i64 (u - v)=u - v:=ac rfl (by omega)
 refine start hC (nf:=N690) rfl rfl ?_
 simp [N690,fqD]
 refine aa k1 (.inl rfl) ?_
 simp
 refine aa k2 (.inl rfl) ?_
 simp [hu,hv,w1,w2,w3]
 by_cases c1 : u < v
 ·simp [c1,show u - v < 0 by omega]
 ·by_cases c2 : v < u
  ·simp [c1,c2,show ¬ u - v < 0 by omega,show 0 < u - v by omega]
  ·simp [c1,c2,show ¬ u - v < 0 by omega,show ¬ 0 < u - v by omega]
theorem D0 (x y : Frq) : C 714 [.agg (fqD x),.agg (fqD y)] (.int .i64 (fqC x y)) []:=by
 have k1:=tu hC x y
 simp only [fqD] at k1
 refine start hC (nf:=N714) rfl rfl ?_
 simp [N714,fqD]
 refine aa k1 (.inl rfl) ?_
 simp
set_option maxHeartbeats 1000000 in
theorem yC (L : List Frq) (hl : L.length < 2 ^ 40) : C 715 [.own 2 (fqR L)] .any [.own 2 (fqR (ddL L)),.nils,.nils]:=by
 refine DX hC (nf:=N715) rfl rfl (by simp) (by omega) ?_
 simp [N715,co]
 refine ao (fun h=>?_) (fun h=>?_) <;> simp at h
 ·simp [h,co]
  have e : ddL L=L:=by
   match L,h with
   | [],_=>rfl
   | [x],_=>rfl
   | x::y::r,h=>simp at h;omega
  rw [e]
  exact ⟨kL L,List.take_of_length_le (by rw [co];exact Nat.le_refl _)⟩
 ·simp [h]
  refine aw Nat (fun k=>[(0,.ref (.r 10015) 0 L.length),(3,.int .i64 k),(10015,.blk 2 (fqR L))]) (fun k=>1 <= k /\ k <= L.length /\ ddL (L.take k)=L.take k) (fun k=>L.length - k) 1 ⟨by omega,by omega,?_⟩ (by simp) ?_
  ·match L,h with
   | x::r,h=>simp [ddL]
  rintro k ⟨h1,h2,h3⟩
  simp
  refine ao (fun h4=>?_) (fun h4=>?_) <;> simp at h4
  ·have hw : IntKind.wrap .i64 ((k : Int) - 1)=((k - 1 : Nat) : Int):=by
    rw [show (k : Int) - 1=((k - 1 : Nat) : Int) by omega]
    exact ac (by omega) (by omega)
   have hw2 : IntKind.wrap .i64 ((k : Int) + 1)=((k + 1 : Nat) : Int):=ac (by omega) (by omega)
   simp [h4,hw,ca (mE h4),ca (mE (show k - 1 < L.length by omega))]
   refine ⟨by omega,aj (by decide +kernel),?_⟩
   have ht:=qc L h4 (by omega)
   refine ao (fun h5=>?_) (fun h5=>?_)
   ·have h6 : L[k - 1]=L[k]:=by
     simp only [Bool.and_eq_true,decide_eq_true_eq] at h5
     exact Subtype.ext (Prod.ext h5.1.symm h5.2.symm)
    rw [if_pos h6,h3] at ht
    have h5' : (decide (L[k].1.1=L[k - 1].1.1) && decide (L[k].1.2=L[k - 1].1.2))=true:=h5
    rw [h5']
    clear h5 h5'
    simp [h4,h2,co]
    refine aw (Nat × Nat × List Frq) (fun s=>[(0,.ref (.r 10015) 0 L.length),(3,.int .i64 s.2.1),(4,.ref (.r 10015) k (L.length - k)),(5,.int .i64 s.1),(10015,.blk 2 (fqR s.2.2))])
     (fun s=>1 <= s.1 /\ s.1 + k <= L.length /\ k <= s.2.1 /\ s.2.1 + 1 <= k + s.1 /\ s.2.2.length=L.length /\ s.2.2.take s.2.1=ddL (L.take (k + s.1)) /\ ∀ j,k + s.1 <= j + 1 -> s.2.2[j]? = L[j]?)
     (fun s=>L.length - s.1) (1,k,L) ⟨by simp,by simp;omega,by simp,by simp,rfl,by simp [ht],by simp⟩ (by simp) ?_
    rintro ⟨j,q,W⟩ ⟨a1,a2,a3,a4,a5,a6,a7⟩
    simp only at a1 a2 a3 a4 a5 a6 a7
    simp
    refine ao (fun h7=>?_) (fun h7=>?_) <;> simp at h7
    ·have hkj : k + j < L.length:=by omega
     have w1 : W[k + j]? = L[k + j]?:=a7 _ (by omega)
     have w2 : W[k + (j - 1)]? = L[k + (j - 1)]?:=a7 _ (by omega)
     have g1 : (fqR W)[k + j]? = some [.int .i64 L[k + j].1.1,.int .i64 L[k + j].1.2]:=by
      unfold fqR
      rw [List.getElem?_map,w1,List.getElem?_eq_getElem hkj];rfl
     have g2 : (fqR W)[k + (j - 1)]? = some [.int .i64 L[k + (j - 1)].1.1,.int .i64 L[k + (j - 1)].1.2]:=by
      unfold fqR
      rw [List.getElem?_map,w2,List.getElem?_eq_getElem (show k + (j - 1) < L.length by omega)];rfl
     have hv : IntKind.wrap .i64 ((j : Int) - 1)=((j - 1 : Nat) : Int):=ac (by omega) (by omega)
     have hv2 : IntKind.wrap .i64 ((j : Int) + 1)=((j + 1 : Nat) : Int):=ac (by omega) (by omega)
     have hv3 : IntKind.wrap .i64 ((q : Int) + 1)=((q + 1 : Nat) : Int):=ac (by omega) (by omega)
     simp [h7,hv,ca g1,ca g2]
     refine ⟨by omega,aj (by decide +kernel),?_⟩
     have ht2:=qc L hkj (by omega)
     refine ao (fun h8=>?_) (fun h8=>?_)
     ·have hne : L[k + j - 1] ≠ L[k + j]:=fun e=>by
       have e2 : L[k + (j - 1)]=L[k + j]:=by
        rw [<- e]
        congr 1
        omega
       rw [e2] at h8
       simp at h8
      rw [if_neg hne] at ht2
      rw [h8]
      have hq : q < L.length:=by omega
      have hqW : q < W.length:=by omega
      have e9 : (fqR W)[q]'(by rw [co];exact hqW)=[.int .i64 W[q].1.1,.int .i64 W[q].1.2]:=(List.getElem?_eq_some_iff.1 (mE hqW)).2
      simp [h7,hv,hv2,hv3,ca g1,co,a5,hq,e9]
      refine ⟨j + 1,q + 1,W.set q L[k + j],⟨by omega,by omega,by omega,by omega,by simp [a5],?_,fun i hi=>?_⟩,by omega,by omega,by omega,y6 _⟩
      ·rw [List.take_succ_eq_append_getElem (by simp;exact hqW),List.take_set_of_le (Nat.le_refl _),a6,show k + (j + 1)=k + j + 1 by omega,ht2]
       simp
      ·rw [List.getElem?_set,if_neg (by omega)]
       exact a7 i (by omega)
     ·have heq : L[k + j - 1]=L[k + j]:=by
       have e2 : L[k + j]=L[k + (j - 1)]:=by
        simp only [Bool.or_eq_false_iff,Bool.not_eq_false',decide_eq_true_eq] at h8
        exact Subtype.ext (Prod.ext h8.1 h8.2)
       rw [e2]
       congr 1
       omega
      rw [if_pos heq] at ht2
      rw [h8]
      simp [h7,hv2]
      exact ⟨j + 1,q,W,⟨by omega,by omega,by omega,by omega,a5,by rw [a6,show k + (j + 1)=k + j + 1 by omega,ht2],fun i hi=>a7 i (by omega)⟩,by omega,rfl,by omega,rfl⟩
    ·have hj : k + j=L.length:=by omega
     have a6' : W.take q=ddL L:=by rw [a6,hj,List.take_length]
     have hq : q < L.length:=by omega
     have hqW : q <= W.length:=by omega
     simp [h7,co,a5]
     have hz : (dO (fqR W) q (L.length - q) [.int .i64 0,.int .i64 0]).length=L.length:=by rw [jI (by rw [co];omega),co,a5]
     refine ⟨by omega,by omega,pf W,by omega,kL _,by omega,?_⟩
     unfold dO
     rw [List.append_assoc,List.take_append_of_le_length (by simp [co];omega),List.take_take,Nat.min_self,wC,a6']
   ·have h6 : L[k - 1] ≠ L[k]:=fun e=>by
     rw [e] at h5
     simp at h5
    rw [if_neg h6,h3] at ht
    rw [h5]
    simp [h4,hw2]
    exact ⟨k + 1,by refine ⟨by omega,by omega,?_⟩;rw [ht,List.take_succ_eq_append_getElem h4],by omega,rfl⟩
  ·have ek : k=L.length:=by omega
   subst ek
   rw [List.take_length] at h3
   simp [h3,co]
   exact ⟨kL L,List.take_of_length_le (by rw [co];exact Nat.le_refl _)⟩
end Go.Gv

set_option maxRecDepth 4000
namespace Go.Gv
def prK (m : Msh) (a b : Pnt) (i k : Nat) : Int × Int:=(ai (cnr m i k) (cnr m i ((k + 1) % 3)) a,ai (cnr m i k) (cnr m i ((k + 1) % 3)) b)
theorem sP {m : Msh} {a b : Pnt} {i k : Nat} (h : eT m i k a b=2) : cdK m a b i k=[prK m a b i k]:=by unfold cdK;rw [if_pos h];rfl
theorem yw {m : Msh} {a b : Pnt} {i k : Nat} (h : ¬ eT m i k a b=2) : cdK m a b i k=[]:=by unfold cdK;rw [if_neg h]
theorem zT {m : Msh} {a b : Pnt} {i k n : Nat} (h : eT m i k a b=2) (hi : i < n) (hk : k < 3) : prK m a b i k ∈ cdL m a b n :=
 List.mem_flatMap.2 ⟨i,List.mem_range.2 hi,List.mem_flatMap.2 ⟨k,List.mem_range.2 hk,by rw [sP h];simp⟩⟩
def cdP (m : Msh) (a b : Pnt) (i k : Nat) : List (Int × Int):=cdL m a b i++cdF m a b i k
theorem kC (m : Msh) (a b : Pnt) (i : Nat) : cdP m a b i 0=cdL m a b i:=by simp [cdP,vw]
theorem od (m : Msh) (a b : Pnt) (i : Nat) : cdP m a b i 3=cdL m a b (i + 1):=(pU m a b i).symm
theorem oY {m : Msh} {a b : Pnt} {i k : Nat} (h : ¬ eT m i k a b=2) : cdP m a b i (k + 1)=cdP m a b i k:=by unfold cdP;rw [mQ,yw h,List.append_nil]
theorem mC {m : Msh} {a b : Pnt} {i k : Nat} (h : eT m i k a b=2) : cdP m a b i (k + 1)=cdP m a b i k++[prK m a b i k]:=by unfold cdP;rw [mQ,sP h,List.append_assoc]
theorem oX (m : Msh) (a b : Pnt) (i k : Nat) : (cdP m a b i k).length <= 3 * i + k:=by
 have h1:=kB m a b i
 have h2:=oW m a b i k
 unfold cdP
 rw [List.length_append]
 omega
def fqP (m : Msh) (a b : Pnt) (i k : Nat) : List (List D):=fqR (fqs (cdP m a b i k))
theorem pg (m : Msh) (a b : Pnt) (i k : Nat) : (fqP m a b i k).length=(cdP m a b i k).length:=by simp [fqP,fqR,fqs]
theorem pi {m : Msh} {a b : Pnt} {i k : Nat} (h : eT m i k a b=2) (hc : dK (prK m a b i k).1 ((prK m a b i k).1 - (prK m a b i k).2)=0) : fqP m a b i (k + 1)=fqP m a b i k++[[.int .i64 (eO (prK m a b i k).1 ((prK m a b i k).1 - (prK m a b i k).2)).1,.int .i64 (eO (prK m a b i k).1 ((prK m a b i k).1 - (prK m a b i k).2)).2]]:=by
 unfold fqP
 rw [mC h,rV]
 have e : (iC (eO (prK m a b i k).1 ((prK m a b i k).1 - (prK m a b i k).2))).1=eO (prK m a b i k).1 ((prK m a b i k).1 - (prK m a b i k).2):=hJ (lF hc).1
 simp [fqR,fqs,fqD,e]
theorem Is (L : List Frq) : (fqR L).map (fun e=>e.map aV)=fqR L:=by
 unfold fqR
 rw [List.map_map]
 exact List.map_congr_left fun x _=>by simp [fqD]
def tK (l : List (Int × Int)) : Bool:=l.all dV
theorem uk (m : Msh) (a b : Pnt) (i : Nat) : fqP m a b i 3=fqP m a b (i + 1) 0:=by unfold fqP;rw [od,kC]
def fI (m : Msh) (a b : Pnt) : D:=if (cdL m a b m.f.length).all dV=true then .sl (fqR (iM m a b)) else .nils
def fX (m : Msh) (a b : Pnt) : Int:=if (cdL m a b m.f.length).all dV=true then 0 else 5
variable {C : CC} (hC : aB prog C)
include hC
set_option maxHeartbeats 4000000 in
theorem pG (hS : mw C) (dec : Nat -> List UInt8) (hI : ∀ n : Nat,n < 100 -> C 127 [.int .i64 n] (.str (dec n)) []) (m : Msh) (hz : bA m=true -> m.s.length <= 100 /\ m.f.length <= 100) (a b : Pnt) (h0 : bC m a b=0) : C 683 [.agg (aN m),.agg (ptD a),.agg (ptD b)] (.tup [fI m a b,.int .i64 (fX m a b)]) []:=by
 have kl:=pm hC dec hI m hz a b
 rw [h0] at kl
 have hv : aF m=true:=by
  unfold bC at h0
  by_cases h : aF m=true
  ·exact h
  ·rw [if_neg h] at h0;cases h0
 have h1 : dY a b=0:=by unfold bC at h0;rwa [if_pos hv] at h0
 have hab : okP a=true /\ okP b=true /\ a ≠ b:=by
  unfold dY at h1
  split at h1
  ·rename_i h
   refine ⟨h.1,h.2,fun e=>?_⟩
   rw [if_pos e] at h1;cases h1
  ·cases h1
 obtain ⟨oa,ob,hne⟩:=hab
 have hfl:=(mq hv).2
 simp only [ab,ptD] at kl
 have hgood : (cdL m a b m.f.length).all dV=true -> fI m a b=.sl (fqR (iM m a b)) /\ fX m a b=0:=fun h=>⟨by unfold fI;rw [if_pos h],by unfold fX;rw [if_pos h]⟩
 have hbad : ∀ i k,eT m i k a b=2 -> i < m.f.length -> k < 3 -> ¬ dK (prK m a b i k).1 ((prK m a b i k).1 - (prK m a b i k).2)=0 -> fI m a b=.nils /\ fX m a b=5 /\ dK (prK m a b i k).1 ((prK m a b i k).1 - (prK m a b i k).2)=5:=fun i k h hi hk hc=>by
  have hm:=zT h hi hk
  have hn : ¬ (cdL m a b m.f.length).all dV=true:=fun h2=>by
   have:=List.all_eq_true.1 h2 _ hm
   unfold dV at this
   exact hc (of_decide_eq_true this)
  exact ⟨by unfold fI;rw [if_neg hn],by unfold fX;rw [if_neg hn],(Ck hm).resolve_left hc⟩
 obtain ⟨d1,hd1⟩ : ∃ d1,d1=fI m a b:=⟨_,rfl⟩
 obtain ⟨e1,he1⟩ : ∃ e1,e1=fX m a b:=⟨_,rfl⟩
 rw [<- hd1] at hgood hbad
 rw [<- he1] at hgood hbad
 rw [<- hd1,<- he1]
 clear hd1 he1
 have w1 : IntKind.wrap .i64 (1 : Int)=1:=by decide
 have w2 : IntKind.wrap .i64 (2 : Int)=2:=by decide
 have w3 : IntKind.wrap .i64 (3 : Int)=3:=by decide
 refine start hC (nf:=N683) rfl rfl ?_
 simp [N683,ptD,ab]
 refine aa kl (.inl rfl) ?_
 simp
 refine aw Nat (fun i=>[(3,.ptr (aN m)),(4,.ptr (ptD a)),(5,.ptr (ptD b)),(9,.ref (.r 10144) 0 (fqP m a b i 0).length),(27,slx m.fn (m.f.map bq)),(28,.int .i64 m.f.length),(29,.int .i64 i),(10144,.blk 2 (fqP m a b i 0))])
  (fun i=>i <= m.f.length /\ tK (cdL m a b i)=true) (fun i=>m.f.length - i) 0 (by simp [pW,tK]) (by simp [ab,ptD,fqP,kC,pW,fqs,fqR]) ?_
 rintro i ⟨hi,hall⟩
 simp
 refine ao (fun h1=>?_) (fun h1=>?_) <;> simp at h1 <;> simp [h1]
 ·have hw : IntKind.wrap .i64 ((i : Int) + 1)=((i + 1 : Nat) : Int):=ac (by omega) (by omega)
  have kc:=nN hC m i h1 (fy hv h1)
  simp only [ab,aT] at kc
  simp [ab,ptD,h1,aT]
  refine aa kc (.inr rfl) ?_
  simp [bM]
  refine aw Nat (fun k=>[(3,.ptr (aN m)),(4,.ptr (ptD a)),(5,.ptr (ptD b)),(9,.ref (.r 10144) 0 (fqP m a b i k).length),(12,.adr (.r 10192) 0 0),(27,slx m.fn (m.f.map bq)),(28,.int .i64 m.f.length),(29,.int .i64 i),(36,.int .i64 k),(10144,.blk 2 (fqP m a b i k)),(10192,.blk 6 [rK m i])])
   (fun k=>k <= 3 /\ tK (cdP m a b i k)=true) (fun k=>3 - k) 0 (by simp [kC,hall]) (by simp [ab,ptD,bM]) ?_
  rintro k ⟨hk,hallk⟩
  rcases (by omega : k=0 \/ k=1 \/ k=2 \/ k=3) with rfl | rfl | rfl | rfl
  ·have kx:=jp hC oa ob (dw hv h1 0) (dw hv h1 1) hne (ir hv h1 0 (by omega))
   have kt:=vJ hC oa ob (dw hv h1 0) (dw hv h1 1) hne (ir hv h1 0 (by omega))
   have e0 : jV a b (cnr m i 0) (cnr m i 1)=eT m i 0 a b:=rfl
   have e3 : ai (cnr m i 0) (cnr m i 1) a=(prK m a b i 0).1:=rfl
   have e4 : ai (cnr m i 0) (cnr m i 1) b=(prK m a b i 0).2:=rfl
   have c0 : cnr m i 0=ptS (spA m i):=rfl
   have c1 : cnr m i 1=ptS (spB m i):=rfl
   rw [e0] at kx
   rw [e3,e4] at kt
   rw [c0,c1] at kx kt
   simp only [ptD,ptS] at kx kt
   have hlen:=oX m a b i 0
   have hq2:=pi (m:=m) (a:=a) (b:=b) (i:=i) (k:=0)
   have hp2:=mC (m:=m) (a:=a) (b:=b) (i:=i) (k:=0)
   have hpn:=oY (m:=m) (a:=a) (b:=b) (i:=i) (k:=0)
   have hb0:=hbad i 0
   simp [ptD,bM,w1]
   refine ⟨aj (by decide +kernel),?_⟩
   generalize eT m i 0 a b=z at *
   generalize hqq : prK m a b i 0=pr at *
   refine aa kx (.inl rfl) ?_
   by_cases hz2 : z=2
   ·simp [hz2]
    refine aa kt (.inl rfl) ?_
    by_cases hc0 : dK pr.1 (pr.1 - pr.2)=0
    ·have hcc:=lF hc0
     simp [hc0,w1]
     refine ⟨by rw [pg];omega,1,⟨by omega,?_⟩,by omega,?_⟩
     ·rw [hp2 hz2]
      unfold tK at hallk ⊢
      rw [List.all_append,hallk]
      simp [dV,hc0]
     ·simp [ptD,ab,bM,hq2 hz2 hc0]
    ·obtain ⟨b1,b2,b3⟩:=hb0 hz2 h1 (by omega) hc0
     simp [hc0,b1,b2,b3]
   ·simp [hz2,w1]
    refine ⟨1,⟨by omega,?_⟩,by omega,?_⟩
    ·rw [hpn hz2];exact hallk
    ·have hq : fqP m a b i (0 + 1)=fqP m a b i 0:=by unfold fqP;rw [hpn hz2]
     simp [ptD,ab,bM,hq]
  ·have kx:=jp hC oa ob (dw hv h1 1) (dw hv h1 2) hne (ir hv h1 1 (by omega))
   have kt:=vJ hC oa ob (dw hv h1 1) (dw hv h1 2) hne (ir hv h1 1 (by omega))
   have e0 : jV a b (cnr m i 1) (cnr m i 2)=eT m i 1 a b:=rfl
   have e3 : ai (cnr m i 1) (cnr m i 2) a=(prK m a b i 1).1:=rfl
   have e4 : ai (cnr m i 1) (cnr m i 2) b=(prK m a b i 1).2:=rfl
   have c0 : cnr m i 1=ptS (spB m i):=rfl
   have c1 : cnr m i 2=ptS (spC m i):=rfl
   rw [e0] at kx
   rw [e3,e4] at kt
   rw [c0,c1] at kx kt
   simp only [ptD,ptS] at kx kt
   have hlen:=oX m a b i 1
   have hq2:=pi (m:=m) (a:=a) (b:=b) (i:=i) (k:=1)
   have hp2:=mC (m:=m) (a:=a) (b:=b) (i:=i) (k:=1)
   have hpn:=oY (m:=m) (a:=a) (b:=b) (i:=i) (k:=1)
   have hb0:=hbad i 1
   simp [ptD,bM,w2]
   refine ⟨aj (by decide +kernel),?_⟩
   generalize eT m i 1 a b=z at *
   generalize hqq : prK m a b i 1=pr at *
   refine aa kx (.inl rfl) ?_
   by_cases hz2 : z=2
   ·simp [hz2]
    refine aa kt (.inl rfl) ?_
    by_cases hc0 : dK pr.1 (pr.1 - pr.2)=0
    ·have hcc:=lF hc0
     simp [hc0,w2]
     refine ⟨by rw [pg];omega,2,⟨by omega,?_⟩,by omega,?_⟩
     ·rw [hp2 hz2]
      unfold tK at hallk ⊢
      rw [List.all_append,hallk]
      simp [dV,hc0]
     ·simp [ptD,ab,bM,hq2 hz2 hc0]
    ·obtain ⟨b1,b2,b3⟩:=hb0 hz2 h1 (by omega) hc0
     simp [hc0,b1,b2,b3]
   ·simp [hz2,w2]
    refine ⟨2,⟨by omega,?_⟩,by omega,?_⟩
    ·rw [hpn hz2];exact hallk
    ·have hq : fqP m a b i (1 + 1)=fqP m a b i 1:=by unfold fqP;rw [hpn hz2]
     simp [ptD,ab,bM,hq]
  ·have kx:=jp hC oa ob (dw hv h1 2) (dw hv h1 0) hne (ir hv h1 2 (by omega))
   have kt:=vJ hC oa ob (dw hv h1 2) (dw hv h1 0) hne (ir hv h1 2 (by omega))
   have e0 : jV a b (cnr m i 2) (cnr m i 0)=eT m i 2 a b:=rfl
   have e3 : ai (cnr m i 2) (cnr m i 0) a=(prK m a b i 2).1:=rfl
   have e4 : ai (cnr m i 2) (cnr m i 0) b=(prK m a b i 2).2:=rfl
   have c0 : cnr m i 2=ptS (spC m i):=rfl
   have c1 : cnr m i 0=ptS (spA m i):=rfl
   rw [e0] at kx
   rw [e3,e4] at kt
   rw [c0,c1] at kx kt
   simp only [ptD,ptS] at kx kt
   have hlen:=oX m a b i 2
   have hq2:=pi (m:=m) (a:=a) (b:=b) (i:=i) (k:=2)
   have hp2:=mC (m:=m) (a:=a) (b:=b) (i:=i) (k:=2)
   have hpn:=oY (m:=m) (a:=a) (b:=b) (i:=i) (k:=2)
   have hb0:=hbad i 2
   simp [ptD,bM,w3]
   refine ⟨aj (by decide +kernel),?_⟩
   generalize eT m i 2 a b=z at *
   generalize hqq : prK m a b i 2=pr at *
   refine aa kx (.inl rfl) ?_
   by_cases hz2 : z=2
   ·simp [hz2]
    refine aa kt (.inl rfl) ?_
    by_cases hc0 : dK pr.1 (pr.1 - pr.2)=0
    ·have hcc:=lF hc0
     simp [hc0,w3]
     refine ⟨by rw [pg];omega,3,⟨by omega,?_⟩,by omega,?_⟩
     ·rw [hp2 hz2]
      unfold tK at hallk ⊢
      rw [List.all_append,hallk]
      simp [dV,hc0]
     ·simp [ptD,ab,bM,hq2 hz2 hc0]
    ·obtain ⟨b1,b2,b3⟩:=hb0 hz2 h1 (by omega) hc0
     simp [hc0,b1,b2,b3]
   ·simp [hz2,w3]
    refine ⟨3,⟨by omega,?_⟩,by omega,?_⟩
    ·rw [hpn hz2];exact hallk
    ·have hq : fqP m a b i (2 + 1)=fqP m a b i 2:=by unfold fqP;rw [hpn hz2]
     simp [ptD,ab,bM,hq]
  ·rw [od] at hallk
   simp [hw]
   exact ⟨i + 1,⟨by omega,hallk⟩,by omega,by simp [ab,ptD,uk]⟩
 ·have : i=m.f.length:=by omega
  subst this
  obtain ⟨g1,g2⟩:=hgood hall
  have k1:=hS (fqs (cdL m a b m.f.length)) (by have:=kB m a b m.f.length;simp [fqs];omega) (D0 hC)
  have k2:=yC hC (nJ fqC (fqs (cdL m a b m.f.length))) (by rw [ji];have:=kB m a b m.f.length;simp [fqs];omega)
  have e0 : fqP m a b m.f.length 0=fqR (fqs (cdL m a b m.f.length)):=by unfold fqP;rw [kC]
  have e2 : iM m a b=ddL (nJ fqC (fqs (cdL m a b m.f.length))):=rfl
  rw [e0,g1,g2,e2]
  generalize fqs (cdL m a b m.f.length)=L at *
  simp [co]
  refine ⟨pf L,?_⟩
  refine tP k1 (.inl rfl) (by simp [co,ji]) (fun e he=>⟨s7 _ e he,pf _ e he⟩) ?_
  simp [co,ji]
  have e : List.take L.length (fqR (nJ fqC L))=fqR (nJ fqC L):=List.take_of_length_le (by rw [co,ji];exact Nat.le_refl _)
  rw [e]
  refine ⟨kL _,?_⟩
  refine yI k2 (fun e he=>⟨s7 _ e he,kL _ e he⟩) ?_
  simp [co]
  rw [Is,List.take_of_length_le (by rw [co];exact Nat.le_refl _)]
end Go.Gv

set_option maxRecDepth 4000
namespace Go.Gv
def uI (a b : Pnt) (n : Int) : D:=if cH (dY a b) n []=0 then .sl ((iN a b n.toNat).map fun x=>ptD x) else .nils
theorem iu {a b : Pnt} {n : Int} {ls : List Int} {e : Int} (h : cH e n ls=0) : e=0 /\ 1 <= n /\ n <= 999 /\ ls.all c9=true:=by
 unfold cH at h
 split at h
 ·rename_i h0
  split at h
  ·rename_i h1;exact ⟨h0,h1.1.1,h1.1.2,h1.2⟩
  ·cases h
 ·rename_i h0;exact absurd h h0
theorem ft {a b : Pnt} (h : dY a b=0) : okP a=true /\ okP b=true /\ a ≠ b:=by
 unfold dY at h
 split at h
 ·rename_i h1
  refine ⟨h1.1,h1.2,fun e=>?_⟩
  rw [if_pos e] at h;cases h
 ·cases h
theorem fb {m : Msh} {a b : Pnt} (h : bC m a b=0) : aF m=true /\ dY a b=0:=by
 unfold bC at h
 by_cases hv : aF m=true
 ·rw [if_pos hv] at h;exact ⟨hv,h⟩
 ·rw [if_neg hv] at h;cases h
variable {C : CC} (hC : aB prog C)
include hC
theorem jy (x : Int) (c : Int) (hc : 0 < c) (hc2 : c <= 1099511627776) (hx : -4611686018427387904 <= x /\ x <= 4611686018427387904) : C 477 [.int .i64 x,.int .i64 c] (.int .i64 (x / c)) []:=by
 have hc0 : ¬ c=0:=by omega
 have b:=nO hc hx
 have w1 : IntKind.wrap .i64 (x.tdiv c)=x.tdiv c:=ac rfl (by omega)
 have w2 : IntKind.wrap .i64 (x.tdiv c - 1)=x.tdiv c - 1:=ac rfl (by omega)
 have e:=Int.mul_tdiv_add_tmod x c
 have e2 : c * x.tdiv c=x.tdiv c * c:=Int.mul_comm _ _
 have l:=Int.tmod_lt_of_pos x hc
 have g : -c < x.tmod c:=by
  have:=Int.tmod_lt_of_pos (-x) hc
  rw [Int.neg_tmod] at this
  omega
 rw [e2] at e
 have w3 : IntKind.wrap .i64 (x.tdiv c * c)=x.tdiv c * c:=ac rfl (by omega)
 rw [xX hc]
 refine start hC (nf:=N477) rfl rfl ?_
 simp [N477,hc0,w1,w3]
 by_cases h : x.tmod c < 0
 ·simp [h,w2,show x < x.tdiv c * c by omega]
 ·simp [h,show ¬ x < x.tdiv c * c by omega]
theorem z7 (a b : Pnt) : C 705 [.agg (ptD a),.agg (ptD b)] (.int .i64 (dY a b)) []:=by
 have ka:=oG hC a
 have kb:=oG hC b
 simp only [ptD] at ka kb
 refine start hC (nf:=N705) rfl rfl ?_
 unfold dY
 simp [N705,ptD]
 refine aa ka (.inl rfl) ?_
 cases h1 : okP a
 ·simp
 simp
 refine aa kb (.inl rfl) ?_
 cases h2 : okP b
 ·simp
 simp
 by_cases h3 : a.1=b.1
 ·by_cases h4 : a.2=b.2
  ·simp [h3,h4,Prod.ext h3 h4]
  ·have hne : ¬ a=b:=fun e=>h4 (by rw [e])
   simp [h3,h4,hne]
 ·have hne : ¬ a=b:=fun e=>h3 (by rw [e])
  simp [h3,hne]
theorem jc (m : Msh) (hz : bA m=true -> m.s.length <= 100 /\ m.f.length <= 100) (a b : Pnt) : C 684 [.agg (aN m),.agg (ptD a),.agg (ptD b)] (.int .i64 (bC m a b)) []:=by
 have k1:=qQ hC m hz
 have k2:=z7 hC a b
 simp only [ab] at k1
 simp only [ptD] at k2
 refine start hC (nf:=N684) rfl rfl ?_
 unfold bC
 simp [N684,ptD,ab]
 refine aa k1 (.inl rfl) ?_
 cases h1 : aF m
 ·simp
 simp
 refine aa k2 (.inl rfl) ?_
 simp
theorem nu (n : Int) : C 706 [.int .i64 n] (.bool (decide (1 <= n) && decide (n <= 999))) []:=by
 refine start hC (nf:=N706) rfl rfl ?_
 simp [N706]
 by_cases h1 : 1 <= n
 ·simp [h1]
 ·simp [h1]
theorem BU {a b : Pnt} (ha : okP a=true) (hb : okP b=true) {n k : Nat} (h1 : 1 <= n) (h2 : n <= 999) (hk : k <= n) : C 707 [.agg (ptD a),.agg (ptD b),.int .i64 n,.int .i64 k] (.agg (ptD (atL a b n k))) []:=by
 have ba:=cJ ha
 have bb:=cJ hb
 have w1 : IntKind.wrap .i64 (b.1 - a.1)=b.1 - a.1:=ac rfl (by omega)
 have w2 : IntKind.wrap .i64 (b.2 - a.2)=b.2 - a.2:=ac rfl (by omega)
 have m1:=gO (a:=b.1 - a.1) (b:=(k : Int)) (k:=33554432) (l:=999) (by omega) (by omega) (by omega) (by omega)
 have m2:=gO (a:=b.2 - a.2) (b:=(k : Int)) (k:=33554432) (l:=999) (by omega) (by omega) (by omega) (by omega)
 have w3 : IntKind.wrap .i64 ((b.1 - a.1) * k)=(b.1 - a.1) * k:=ac rfl (by omega)
 have w4 : IntKind.wrap .i64 ((b.2 - a.2) * k)=(b.2 - a.2) * k:=ac rfl (by omega)
 have f1:=jy hC ((b.1 - a.1) * k) n (by omega) (by omega) (by omega)
 have f2:=jy hC ((b.2 - a.2) * k) n (by omega) (by omega) (by omega)
 have ho:=cJ (mO ha hb (show 0 < n by omega) hk)
 have w5 : IntKind.wrap .i64 (a.1 + (b.1 - a.1) * k / n)=(atL a b n k).1:=ac rfl (by omega)
 have w6 : IntKind.wrap .i64 (a.2 + (b.2 - a.2) * k / n)=(atL a b n k).2:=ac rfl (by omega)
 refine start hC (nf:=N707) rfl rfl ?_
 simp [N707,ptD,w1,w2,w3,w4]
 refine aa f1 (.inl rfl) ?_
 simp [w5,w2,w4]
 refine aa f2 (.inl rfl) ?_
 simp [w6]
 exact aj (by decide +kernel)
theorem mS (dec : Nat -> List UInt8) (hI : ∀ n : Nat,n < 100 -> C 127 [.int .i64 n] (.str (dec n)) []) (m : Msh) (hz : bA m=true -> m.s.length <= 100 /\ m.f.length <= 100) (a b : Pnt) (n : Int) (c : Bool) (ls : List Int) (hl : ls.length < 2 ^ 62) : C 703 [.ptr (aN m),.agg (ptD a),.agg (ptD b),.int .i64 n,slx c (ls.map fun n=>[.int .i64 n])] (.int .i64 (cH (bC m a b) n ls)) []:=by
 have k1:=pm hC dec hI m hz a b
 have k2:=rj hC c ls hl
 simp only [ptD,ab] at k1
 refine start hC (nf:=N703) rfl rfl ?_
 unfold cH
 simp [N703,ptD,ab]
 refine aa k1 (.inl rfl) ?_
 clear k1
 generalize bC m a b=e
 simp
 by_cases h : e=0
 ·subst h
  simp
  by_cases h1 : n < 1
  ·simp [h1,show ¬ 1 <= n by omega]
  ·by_cases h2 : 999 < n
   ·simp [h1,h2,show ¬ n <= 999 by omega]
   ·simp [h1,h2,show 1 <= n by omega,show n <= 999 by omega]
    refine aa k2 (.inl rfl) ?_
    cases h3 : ls.all c9
    ·simp at h3 ⊢
    ·simp at h3 ⊢
     omega
 ·simp [h]
theorem oP (a b : Pnt) (n : Int) : C 678 [.agg (ptD a),.agg (ptD b),.int .i64 n] (.tup [uI a b n,.int .i64 (cH (dY a b) n [])]) []:=by
 have k1:=vC hC a b n
 simp only [ptD] at k1
 unfold uI
 refine start hC (nf:=N678) rfl rfl ?_
 simp [N678,ptD]
 refine aa k1 (.inl rfl) ?_
 by_cases h : cH (dY a b) n []=0
 ·obtain ⟨g0,g1,g2,_⟩:=iu (a:=a) (b:=b) h
  obtain ⟨ha,hb,_⟩:=ft g0
  obtain ⟨N,rfl⟩ : ∃ N : Nat,n=N:=⟨n.toNat,by omega⟩
  have k2:=lX hC a b ha hb N (by omega) (by omega)
  simp only [ptD] at k2
  simp [h]
  refine aa k2 (.inr rfl) ?_
  simp [ptD]
  exact h
 ·simp [h]
theorem yW (b b' : Bool) (xs : List Pnt) (hx : xs.length < 2 ^ 62) : C 680 [slx b (xs.map fun x=>ptD x),slx b' (xs.map fun x=>ptD x)] (.bool true) []:=by
 refine start hC (nf:=N680) rfl rfl ?_
 simp [N680]
 refine aw Nat (fun i=>[(0,slx b (xs.map fun x=>ptD x)),(1,slx b' (xs.map fun x=>ptD x)),(12,.int .i64 xs.length),(13,.int .i64 i)])
  (fun i=>i <= xs.length) (fun i=>xs.length - i) 0 (by simp) (by simp) ?_
 rintro i hi
 simp
 refine ao (fun h1=>?_) (fun h1=>?_) <;> simp at h1 <;> simp [h1]
 have hw : IntKind.wrap .i64 ((i : Int) + 1)=((i + 1 : Nat) : Int):=ac (by omega) (by omega)
 simp [h1,ptD,hw]
 exact ⟨aj (by decide +kernel),i + 1,by omega,by omega,rfl⟩
theorem CH (b b' : Bool) (xs : List Pnt) (hx : xs.length < 2 ^ 62) : C 687 [slx b (xs.map fun x=>ptD x),slx b' (xs.map fun x=>ptD x)] (.bool true) []:=by
 refine start hC (nf:=N687) rfl rfl ?_
 simp [N687]
 refine aw Nat (fun i=>[(0,slx b (xs.map fun x=>ptD x)),(1,slx b' (xs.map fun x=>ptD x)),(12,.int .i64 xs.length),(13,.int .i64 i)])
  (fun i=>i <= xs.length) (fun i=>xs.length - i) 0 (by simp) (by simp) ?_
 rintro i hi
 simp
 refine ao (fun h1=>?_) (fun h1=>?_) <;> simp at h1 <;> simp [h1]
 have hw : IntKind.wrap .i64 ((i : Int) + 1)=((i + 1 : Nat) : Int):=ac (by omega) (by omega)
 simp [h1,ptD,hw]
 exact ⟨aj (by decide +kernel),i + 1,by omega,by omega,rfl⟩
theorem yV (b b' : Bool) (xs : List Frq) (hx : xs.length < 2 ^ 62) : C 687 [slx b (fqR xs),slx b' (fqR xs)] (.bool true) []:=by
 have e : fqR xs=(xs.map fun x=>(x.1 : Pnt)).map fun x=>ptD x:=by
  unfold fqR
  rw [List.map_map]
  rfl
 rw [e]
 exact CH hC b b' _ (by rw [List.length_map];exact hx)
end Go.Gv

set_option maxRecDepth 4000
namespace Go.Gv
def spD (s : Int × Int) : List D:=[.int .i64 s.1,.int .i64 s.2]
def lvP (m : Msh) (p : Pnt) : Int × Int:=(loF m (cZ m p).toNat p,hiF m (cZ m p).toNat p)
def lvT (m : Msh) (a b : Pnt) (n k : Nat) : List (Int × Int):=(List.range k).map fun i=>lvP m (atL a b n i)
def dS (m : Msh) (a b : Pnt) (n k : Nat) : Bool:=(List.range k).all fun i=>decide (onE m (atL a b n i)=0)
def lvR (m : Msh) (a b : Pnt) (n k : Nat) : List (List D):=(lvT m a b n k).map spD
theorem d8 (m : Msh) (a b : Pnt) (n k : Nat) : (lvR m a b n k).length=k:=by simp [lvR,lvT]
theorem kP (m : Msh) (a b : Pnt) (n : Nat) : lvR m a b n 0=[]:=rfl
theorem kO (m : Msh) (a b : Pnt) (n k : Nat) : lvR m a b n (k + 1)=lvR m a b n k++[[.int .i64 (lvP m (atL a b n k)).1,.int .i64 (lvP m (atL a b n k)).2]]:=by simp [lvR,lvT,List.range_succ,spD]
theorem tD (l : List (Int × Int)) : ∀ e ∈ l.map spD,e.length=2 /\ ∀ c ∈ e,aA c=true:=by
 intro e he
 obtain ⟨x,_,rfl⟩:=List.mem_map.1 he
 simp [spD]
theorem xU (l : List (Int × Int)) : (l.map spD).map (fun e=>e.map aV)=l.map spD:=by
 rw [List.map_map]
 exact List.map_congr_left fun x _=>by simp [spD]
theorem jt (m : Msh) (a b : Pnt) (n k : Nat) : dS m a b n (k + 1)=(dS m a b n k && decide (onE m (atL a b n k)=0)):=by simp [dS,List.range_succ]
theorem fL {m : Msh} {a b : Pnt} {n k i : Nat} (h : dS m a b n k=true) (hi : i < k) : onE m (atL a b n i)=0:=by
 have:=List.all_eq_true.1 h i (List.mem_range.2 hi)
 exact of_decide_eq_true this
theorem DB {m : Msh} {p : Pnt} (hv : aF m=true) (hp : okP p=true) (h : ¬ onE m p=0) : onE m p=12:=by
 unfold onE at h ⊢
 rw [if_pos ⟨hv,hp⟩] at h ⊢
 split
 ·rfl
 ·rename_i h1;rw [if_neg h1] at h;exact absurd rfl h
theorem nq (a b : Pnt) (n : Nat) : (iN a b n).length=n + 1:=by simp [iN]
theorem nl (a b : Pnt) (n : Nat) {k : Nat} (h : k < (iN a b n).length) : (iN a b n)[k]=atL a b n k:=by simp [iN]
def lvD (m : Msh) (a b : Pnt) (n : Nat) : D:=if dS m a b n (n + 1)=true then .sl (lvR m a b n (n + 1)) else .nils
def lvE (m : Msh) (a b : Pnt) (n : Nat) : Int:=if dS m a b n (n + 1)=true then 0 else 12
variable {C : CC} (hC : aB prog C)
include hC
set_option maxHeartbeats 1000000 in
theorem xZ (dec : Nat -> List UInt8) (hI : ∀ n : Nat,n < 100 -> C 127 [.int .i64 n] (.str (dec n)) []) (m : Msh) (hz : bA m=true -> m.s.length <= 100 /\ m.f.length <= 100) (hv : aF m=true) (a b : Pnt) (ha : okP a=true) (hb : okP b=true) (n : Nat) (h1 : 1 <= n) (h2 : n <= 999) : C 726 [.agg (aN m),.agg (ptD a),.agg (ptD b),.int .i64 n] (.tup [lvD m a b n,.int .i64 (lvE m a b n)]) []:=by
 have k1:=lX hC a b ha hb n h1 h2
 have hPl:=nq a b n
 have hPg:=fun k (h : k < (iN a b n).length)=>nl a b n h
 have hgood : dS m a b n (n + 1)=true -> lvD m a b n=.sl (lvR m a b n (n + 1)) /\ lvE m a b n=0:=fun h=>⟨by unfold lvD;rw [if_pos h],by unfold lvE;rw [if_pos h]⟩
 have hbad : ∀ k,k <= n -> ¬ onE m (atL a b n k)=0 -> lvD m a b n=.nils /\ lvE m a b n=12:=fun k hk h=>by
  have hn : ¬ dS m a b n (n + 1)=true:=fun h3=>h (fL h3 (by omega))
  exact ⟨by unfold lvD;rw [if_neg hn],by unfold lvE;rw [if_neg hn]⟩
 obtain ⟨d1,hd1⟩ : ∃ d1,d1=lvD m a b n:=⟨_,rfl⟩
 obtain ⟨e1,he1⟩ : ∃ e1,e1=lvE m a b n:=⟨_,rfl⟩
 rw [<- hd1] at hgood hbad
 rw [<- he1] at hgood hbad
 rw [<- hd1,<- he1]
 clear hd1 he1
 have hlv:=fun k=>qu hC dec hI m hz (atL a b n k)
 generalize iN a b n=P at *
 simp only [ptD,ab] at k1 hlv
 refine start hC (nf:=N726) rfl rfl ?_
 simp [N726,ptD,ab]
 refine aa k1 (.inr rfl) ?_
 simp [hPl]
 refine aw Nat (fun k=>[(4,.ptr (aN m)),(10,.ref (.r 10160) 0 k),(18,.sl (P.map fun x=>ptD x)),(19,.int .i64 ((n + 1 : Nat) : Int)),(20,.int .i64 k),(10160,.blk 2 (lvR m a b n k))])
  (fun k=>k <= n + 1 /\ dS m a b n k=true) (fun k=>n + 1 - k) 0 (by simp [dS]) (by simp [ab,ptD,kP]) ?_
 rintro k ⟨hk,hall⟩
 simp
 refine ao (fun h3=>?_) (fun h3=>?_) <;> simp at h3
 ·have hw : IntKind.wrap .i64 ((k : Int) + 1)=((k + 1 : Nat) : Int):=ac (by omega) (by omega)
  have hkP : k < P.length:=by omega
  have hpk:=hPg k hkP
  have kl:=hlv k
  have hlen:=d8 m a b n k
  have hss:=kO m a b n k
  have hsk:=jt m a b n k
  by_cases h0 : onE m (atL a b n k)=0
  ·rw [if_pos h0] at kl
   simp [h3,hkP,hpk,ptD,ab]
   refine aa kl (.inl rfl) ?_
   simp [hw]
   have hsv : lvR m a b n k++[[.int .i64 (loF m (cZ m (atL a b n k)).toNat (atL a b n k)),.int .i64 (hiF m (cZ m (atL a b n k)).toNat (atL a b n k))]]=lvR m a b n (k + 1):=by rw [hss];rfl
   have htk : List.take k (lvR m a b n k)=lvR m a b n k:=List.take_of_length_le (by omega)
   refine ⟨by omega,by omega,k + 1,⟨by omega,by rw [hsk,hall,decide_eq_true h0];rfl⟩,by omega,by simp [ab],?_⟩
   simp [htk,hsv]
  ·rw [if_neg h0] at kl
   obtain ⟨g1,g2⟩:=hbad k (by omega) h0
   have h12:=DB hv (mO ha hb (show 0 < n by omega) (show k <= n by omega)) h0
   rw [h12] at kl
   simp only [wz] at kl
   simp [h3,hkP,hpk,ptD,ab]
   refine aa kl (.inl rfl) ?_
   simp [g1,g2]
 ·have ek : k=n + 1:=by omega
  subst ek
  have hlen:=d8 m a b n (n + 1)
  obtain ⟨g1,g2⟩:=hgood hall
  have hV : (lvR m a b n (n + 1)).map (fun e=>e.map aV)=lvR m a b n (n + 1):=xU _
  simp [h3,g1,g2,hV]
  exact ⟨by omega,(List.take_of_length_le (by omega)).symm⟩
set_option maxHeartbeats 1000000 in
theorem AM (dec : Nat -> List UInt8) (hI : ∀ n : Nat,n < 100 -> C 127 [.int .i64 n] (.str (dec n)) []) (m : Msh) (hz : bA m=true -> m.s.length <= 100 /\ m.f.length <= 100) (hv : aF m=true) (a b : Pnt) (ha : okP a=true) (hb : okP b=true) (n : Nat) (h1 : 1 <= n) (h2 : n <= 999) (hok : dS m a b n (n + 1)=true) : C 726 [.agg (aN m),.agg (ptD a),.agg (ptD b),.int .i64 n] (.tup [.own 2 (lvR m a b n (n + 1)),.int .i64 0]) [.nils]:=by
 have k1:=lX hC a b ha hb n h1 h2
 have hPl:=nq a b n
 have hPg:=fun k (h : k < (iN a b n).length)=>nl a b n h
 have hlv:=fun k=>qu hC dec hI m hz (atL a b n k)
 generalize iN a b n=P at *
 simp only [ptD,ab] at k1 hlv
 refine xW hC (nf:=N726) rfl rfl (by simp [okR]) ?_
 simp [N726,ptD,ab]
 refine aa k1 (.inr rfl) ?_
 simp [hPl]
 refine aw Nat (fun k=>[(4,.ptr (aN m)),(10,.ref (.r 10160) 0 k),(18,.sl (P.map fun x=>ptD x)),(19,.int .i64 ((n + 1 : Nat) : Int)),(20,.int .i64 k),(10160,.blk 2 (lvR m a b n k))])
  (fun k=>k <= n + 1 /\ dS m a b n k=true) (fun k=>n + 1 - k) 0 (by simp [dS]) (by simp [ab,ptD,kP]) ?_
 rintro k ⟨hk,hall⟩
 simp
 refine ao (fun h3=>?_) (fun h3=>?_) <;> simp at h3
 ·have hw : IntKind.wrap .i64 ((k : Int) + 1)=((k + 1 : Nat) : Int):=ac (by omega) (by omega)
  have hkP : k < P.length:=by omega
  have hpk:=hPg k hkP
  have kl:=hlv k
  have hlen:=d8 m a b n k
  have hss:=kO m a b n k
  have hsk:=jt m a b n k
  by_cases h0 : onE m (atL a b n k)=0
  ·rw [if_pos h0] at kl
   simp [h3,hkP,hpk,ptD,ab]
   refine aa kl (.inl rfl) ?_
   simp [hw]
   have hsv : lvR m a b n k++[[.int .i64 (loF m (cZ m (atL a b n k)).toNat (atL a b n k)),.int .i64 (hiF m (cZ m (atL a b n k)).toNat (atL a b n k))]]=lvR m a b n (k + 1):=by rw [hss];rfl
   have htk : List.take k (lvR m a b n k)=lvR m a b n k:=List.take_of_length_le (by omega)
   refine ⟨by omega,by omega,k + 1,⟨by omega,by rw [hsk,hall,decide_eq_true h0];rfl⟩,by omega,by simp [ab],?_⟩
   simp [htk,hsv]
  ·rw [if_neg h0] at kl
   exact absurd (fL hok (by omega)) h0
 ·have ek : k=n + 1:=by omega
  subst ek
  have hlen:=d8 m a b n (n + 1)
  simp [h3]
  omega
end Go.Gv

set_option maxRecDepth 4000
namespace Go.Gv
def j5 (o s : Int × Int) : Int × Int:=(min o.1 s.1,min o.2 s.2)
def lsK (l : List (Int × Int)) (k : Nat) : Int × Int:=(l.take k).foldl j5 (l.headD (0,0))
def lsF (l : List (Int × Int)) : Int × Int:=lsK l l.length
theorem qC (l : List (Int × Int)) : lsK l 0=l.headD (0,0):=rfl
theorem qB (l : List (Int × Int)) {k : Nat} (h : k < l.length) : lsK l (k + 1)=(min (lsK l k).1 l[k].1,min (lsK l k).2 l[k].2):=by
 unfold lsK
 rw [List.take_succ_eq_append_getElem h,List.foldl_append]
 rfl
def cvP (m : Msh) (a b : Pnt) (n : Nat) (up dn : Int) (k : Nat) : Int × Int :=
 ((lvP m (atL a b n k)).1 - (up - -((dn - up) * k) / n),(lvP m (atL a b n k)).2 - (up + (dn - up) * k / n))
def cvT (m : Msh) (a b : Pnt) (n : Nat) (up dn : Int) (k : Nat) : List (Int × Int):=(List.range (n + 1)).map fun i=>if i < k then cvP m a b n up dn i else lvP m (atL a b n i)
def cvL (m : Msh) (a b : Pnt) (n : Nat) (up dn : Int) : List (Int × Int):=(List.range (n + 1)).map (cvP m a b n up dn)
theorem yF (m : Msh) (a b : Pnt) (n : Nat) (up dn : Int) (k : Nat) : (cvT m a b n up dn k).length=n + 1:=by simp [cvT]
theorem vK (m : Msh) (a b : Pnt) (n : Nat) (up dn : Int) : cvT m a b n up dn 0=lvT m a b n (n + 1):=by simp [cvT,lvT]
theorem yD (m : Msh) (a b : Pnt) (n : Nat) (up dn : Int) : cvT m a b n up dn (n + 1)=cvL m a b n up dn:=by
 unfold cvT cvL
 exact List.map_congr_left fun i hi=>by rw [if_pos (List.mem_range.1 hi)]
theorem yE (m : Msh) (a b : Pnt) (n : Nat) (up dn : Int) {k : Nat} (h : k < n + 1) : (cvT m a b n up dn k)[k]? = some (lvP m (atL a b n k)):=by simp [cvT,h]
theorem yG (m : Msh) (a b : Pnt) (n : Nat) (up dn : Int) (k : Nat) : (cvT m a b n up dn k).set k (cvP m a b n up dn k)=cvT m a b n up dn (k + 1):=by
 apply List.ext_getElem?
 intro i
 rw [List.getElem?_set]
 unfold cvT
 simp only [List.getElem?_map,List.length_map,List.length_range]
 by_cases hi : i < n + 1
 ·by_cases hk : k=i
  ·subst hk
   simp [hi]
  ·simp [hk,hi]
   by_cases h2 : i < k
   ·simp [h2,show i < k + 1 by omega]
   ·simp [h2,show ¬ i < k + 1 by omega]
 ·have : (List.range (n + 1))[i]? = none:=List.getElem?_eq_none (by simp;omega)
  rw [this]
  by_cases hk : k=i
  ·subst hk;simp [hi]
  ·simp [hk]
theorem pp {m : Msh} {p : Pnt} (h : onE m p=0) : (-4194304 <= (lvP m p).1 /\ (lvP m p).1 <= 4194304) /\ -4194304 <= (lvP m p).2 /\ (lvP m p).2 <= 4194304:=by
 obtain ⟨hv,hp,hf⟩:=ng h
 obtain ⟨hi,ho⟩:=iy hf
 have hO : OnF m (cZ m p).toNat p:=lP hv hi hp ho
 exact ⟨hO.lo,hO.hi⟩
variable {C : CC} (hC : aB prog C)
include hC
set_option maxHeartbeats 1000000 in
theorem tb (b : Bool) (l : List (Int × Int)) (h0 : 0 < l.length) (hl : l.length < 2 ^ 40) : C 727 [slx b (l.map spD)] (.agg (spD (lsF l))) []:=by
 have e0 : l.headD (0,0)=l[0]:=by
  cases l with
  | nil=>simp at h0
  | cons x r=>rfl
 have e1 : l.head?.getD (0,0)=l[0]:=by
  cases l with
  | nil=>simp at h0
  | cons x r=>rfl
 refine start hC (nf:=N727) rfl rfl ?_
 simp [N727,spD,h0]
 refine aw Nat (fun k=>[(2,.adr (.r 10032) 0 0),(3,.adr (.r 10048) 0 0),(9,slx b (l.map spD)),(10,.int .i64 l.length),(11,.int .i64 k),(10032,.blk 2 [[.int .i64 0,.int .i64 0]]),(10048,.blk 2 [[.int .i64 (lsK l k).1,.int .i64 (lsK l k).2]])])
  (fun k=>k <= l.length) (fun k=>l.length - k) 0 (by simp) (by simp [qC,e1,spD]) ?_
 rintro k hk
 simp
 refine ao (fun h3=>?_) (fun h3=>?_) <;> simp at h3
 ·have hw : IntKind.wrap .i64 ((k : Int) + 1)=((k + 1 : Nat) : Int):=ac (by omega) (by omega)
  have hs:=qB l h3
  simp [h3,spD,mnE]
  refine ⟨aj (by decide +kernel),?_⟩
  simp [hw]
  exact ⟨k + 1,by omega,by omega,by simp [hs]⟩
 ·have ek : k=l.length:=by omega
  subst ek
  simp [lsF]
end Go.Gv

set_option maxRecDepth 4000
namespace Go.Gv
def cvS (m : Msh) (a b : Pnt) (n : Nat) (up dn : Int) : Int × Int:=if dS m a b n (n + 1)=true then lsF (cvL m a b n up dn) else (0,0)
def cvR (m : Msh) (a b : Pnt) (n : Nat) (up dn : Int) (k : Nat) : List (List D):=(cvT m a b n up dn k).map spD
theorem sT (m : Msh) (a b : Pnt) (n : Nat) (up dn : Int) (k : Nat) : (cvR m a b n up dn k).length=n + 1:=by simp [cvR,yF]
theorem sS (m : Msh) (a b : Pnt) (n : Nat) (up dn : Int) {k : Nat} (h : k < n + 1) : (cvR m a b n up dn k)[k]? = some [.int .i64 (lvP m (atL a b n k)).1,.int .i64 (lvP m (atL a b n k)).2]:=by
 unfold cvR
 rw [List.getElem?_map,yE m a b n up dn h]
 rfl
theorem sU (m : Msh) (a b : Pnt) (n : Nat) (up dn : Int) (k : Nat) : (cvR m a b n up dn k).set k [.int .i64 (cvP m a b n up dn k).1,.int .i64 (cvP m a b n up dn k).2]=cvR m a b n up dn (k + 1):=by
 unfold cvR
 rw [<- yG,List.map_set]
 rfl
theorem qa (m : Msh) (a b : Pnt) (n : Nat) (up dn : Int) : cvR m a b n up dn 0=lvR m a b n (n + 1):=by unfold cvR lvR;rw [vK]
theorem sR (m : Msh) (a b : Pnt) (n : Nat) (up dn : Int) : cvR m a b n up dn (n + 1)=(cvL m a b n up dn).map spD:=by unfold cvR;rw [yD]
theorem fY {x c B : Int} (hc : 0 < c) (h : -B <= x /\ x <= B) : -B - 1 <= x / c /\ x / c <= B:=by
 have b:=nO hc h
 rw [xX hc]
 split <;> omega
variable {C : CC} (hC : aB prog C)
include hC
set_option maxHeartbeats 2000000 in
theorem sQ (dec : Nat -> List UInt8) (hI : ∀ n : Nat,n < 100 -> C 127 [.int .i64 n] (.str (dec n)) []) (m : Msh) (hz : bA m=true -> m.s.length <= 100 /\ m.f.length <= 100) (hv : aF m=true) (a b : Pnt) (ha : okP a=true) (hb : okP b=true) (n : Nat) (h1 : 1 <= n) (h2 : n <= 999) (up dn : Int) (hu : c9 up=true) (hd : c9 dn=true) : C 723 [.agg (aN m),.agg (ptD a),.agg (ptD b),.int .i64 n,.int .i64 up,.int .i64 dn] (.tup [.agg (spD (cvS m a b n up dn)),.int .i64 (lvE m a b n)]) []:=by
 simp only [c9,Bool.and_eq_true,decide_eq_true_eq] at hu hd
 by_cases hok : dS m a b n (n + 1)=true
 rotate_left
 ·have k1:=xZ hC dec hI m hz hv a b ha hb n h1 h2
  have e1 : lvE m a b n=12:=by unfold lvE;rw [if_neg hok]
  have e2 : lvD m a b n=.nils:=by unfold lvD;rw [if_neg hok]
  have e3 : cvS m a b n up dn=(0,0):=by unfold cvS;rw [if_neg hok]
  rw [e1,e2] at k1
  rw [e1,e3]
  simp only [ab,ptD] at k1
  refine start hC (nf:=N723) rfl rfl ?_
  simp [N723,ab,ptD]
  refine n8 k1 ?_
  simp [spD]
 have k1:=AM hC dec hI m hz hv a b ha hb n h1 h2 hok
 have e1 : lvE m a b n=0:=by unfold lvE;rw [if_pos hok]
 have e3 : cvS m a b n up dn=lsF (cvL m a b n up dn):=by unfold cvS;rw [if_pos hok]
 rw [e1,e3]
 simp only [ab,ptD] at k1
 have ws : IntKind.wrap .i64 (dn - up)=dn - up:=ac rfl (by omega)
 refine start hC (nf:=N723) rfl rfl ?_
 simp [N723,ab,ptD]
 refine n9 k1 rfl ?_
 simp [dM,aP,dF,d8]
 refine aw Nat (fun k=>[(3,.int .i64 n),(4,.int .i64 up),(5,.int .i64 dn),(12,.adr (.r 10192) 0 0),(14,.ref (.r 10224) 0 (n + 1)),(33,.int .i64 ((n + 1 : Nat) : Int)),(34,.int .i64 k),(10192,.blk 2 [[.int .i64 0,.int .i64 0]]),(10224,.blk 2 (cvR m a b n up dn k))])
  (fun k=>k <= n + 1) (fun k=>n + 1 - k) 0 (by simp) (by simp [qa]) ?_
 rintro k hk
 simp
 refine ao (fun h3=>?_) (fun h3=>?_) <;> simp at h3
 ·have hw : IntKind.wrap .i64 ((k : Int) + 1)=((k + 1 : Nat) : Int):=ac (by omega) (by omega)
  have hkn : k < n + 1:=by omega
  have hlen:=sT m a b n up dn k
  have hg:=sS m a b n up dn hkn
  have hset:=sU m a b n up dn k
  obtain ⟨bl,bh⟩:=pp (fL hok hkn)
  have m1:=gO (a:=dn - up) (b:=(k : Int)) (k:=8388608) (l:=999) (by omega) (by omega) (by omega) (by omega)
  have w1 : IntKind.wrap .i64 ((dn - up) * k)=(dn - up) * k:=ac rfl (by omega)
  have w2 : IntKind.wrap .i64 (-((dn - up) * k))=-((dn - up) * k):=ac rfl (by omega)
  have f1:=lf hC ((dn - up) * k) n (by omega) (by omega)
  have f2:=lf hC (-((dn - up) * k)) n (by omega) (by omega)
  have q1:=fY (x:=(dn - up) * k) (c:=(n : Int)) (B:=8380219392) (by omega) (by omega)
  have q2:=fY (x:=-((dn - up) * k)) (c:=(n : Int)) (B:=8380219392) (by omega) (by omega)
  have hc : cvP m a b n up dn k=((lvP m (atL a b n k)).1 - (up - -((dn - up) * k) / n),(lvP m (atL a b n k)).2 - (up + (dn - up) * k / n)):=rfl
  rw [hc] at hset
  generalize hp : (dn - up) * (k : Int)=p at *
  generalize p / (n : Int)=x at *
  generalize -p / (n : Int)=y at *
  generalize lvP m (atL a b n k)=v at *
  have w3 : IntKind.wrap .i64 (up + x)=up + x:=ac rfl (by omega)
  have w4 : IntKind.wrap .i64 (up - y)=up - y:=ac rfl (by omega)
  have w5 : IntKind.wrap .i64 (v.1 - (up - y))=v.1 - (up - y):=ac rfl (by omega)
  have w6 : IntKind.wrap .i64 (v.2 - (up + x))=v.2 - (up + x):=ac rfl (by omega)
  simp [h3,ws,hp,w1,w2]
  refine aa f1 (.inl rfl) ?_
  simp [w2,w3]
  refine aa f2 (.inl rfl) ?_
  have hge : (cvR m a b n up dn k)[k]'(by omega)=[.int .i64 v.1,.int .i64 v.2]:=(List.getElem?_eq_some_iff.1 hg).2
  simp at hset
  simp [w3,w4,ca hg,w5,w6,hkn,hw,hlen,hge]
  exact ⟨aj (by decide +kernel),k + 1,by omega,by omega,by omega,hset⟩
 ·have ek : k=n + 1:=by omega
  subst ek
  have kl:=tb hC false (cvL m a b n up dn) (by simp [cvL]) (by simp [cvL];omega)
  have hlen : (cvL m a b n up dn).length=n + 1:=by simp [cvL]
  rw [sR]
  simp at kl
  generalize cvL m a b n up dn=L at *
  simp [h3]
  refine ⟨by omega,?_⟩
  have hV : List.take (n + 1) (List.map ((fun e=>List.map aV e) ∘ spD) L)=List.map spD L:=by
   rw [List.take_of_length_le (by simp;omega)]
   exact List.map_congr_left fun x _=>by simp [spD]
  rw [hV]
  refine aa kl (.inl rfl) ?_
  simp [spD]
def kE (m : Msh) (a b : Pnt) (n up dn : Int) : Int:=if cH (bC m a b) n [up,dn]=0 then lvE m a b n.toNat else cH (bC m a b) n [up,dn]
def kF (m : Msh) (a b : Pnt) (n up dn : Int) : Int × Int:=if cH (bC m a b) n [up,dn]=0 then cvS m a b n.toNat up dn else (0,0)
theorem jj (dec : Nat -> List UInt8) (hI : ∀ n : Nat,n < 100 -> C 127 [.int .i64 n] (.str (dec n)) []) (m : Msh) (hz : bA m=true -> m.s.length <= 100 /\ m.f.length <= 100) (a b : Pnt) (n up dn : Int) : C 691 [.agg (aN m),.agg (ptD a),.agg (ptD b),.int .i64 n,.int .i64 up,.int .i64 dn] (.tup [.agg (spD (kF m a b n up dn)),.int .i64 (kE m a b n up dn)]) []:=by
 have k1:=mS hC dec hI m hz a b n false [up,dn] (by simp)
 unfold kF kE
 by_cases h : cH (bC m a b) n [up,dn]=0
 ·obtain ⟨g0,g1,g2,g3⟩:=iu (a:=a) (b:=b) h
  obtain ⟨hv,hl⟩:=fb g0
  obtain ⟨ha,hb,_⟩:=ft hl
  simp only [List.all_cons,List.all_nil,Bool.and_true,Bool.and_eq_true] at g3
  obtain ⟨N,rfl⟩ : ∃ N : Nat,n=N:=⟨n.toNat,by omega⟩
  have k2:=sQ hC dec hI m hz hv a b ha hb N (by omega) (by omega) up dn g3.1 g3.2
  rw [if_pos h,if_pos h,Int.toNat_natCast]
  rw [h] at k1
  simp only [ab,ptD] at k1 k2
  simp at k1
  refine start hC (nf:=N691) rfl rfl ?_
  simp [N691,ab,ptD]
  refine aa k1 (.inl rfl) ?_
  simp
  refine aa k2 (.inl rfl) ?_
  simp [spD]
 ·rw [if_neg h,if_neg h]
  simp only [ab,ptD] at k1
  simp at k1
  refine start hC (nf:=N691) rfl rfl ?_
  simp [N691,ab,ptD]
  refine aa k1 (.inl rfl) ?_
  simp [h,spD]
end Go.Gv

set_option maxRecDepth 4000
namespace Go.Gv
def exT : Msh:=⟨false,[⟨0,0,90⟩,⟨30,0,90⟩,⟨30,30,90⟩,⟨0,30,90⟩],false,[⟨0,1,2,0⟩,⟨0,2,3,0⟩]⟩
theorem Ip : aF exT=true:=by decide +kernel
theorem wa : bC exT (20,0) (0,20)=0:=by rw [bC,Ip];decide
theorem Im : jJ exT (20,0) (0,20) 2=[0,1]:=by decide +kernel
theorem Bo : cdL exT (20,0) (0,20) 2=[(600,-600),(-600,600)]:=by decide +kernel
theorem wg : (cdL exT (20,0) (0,20) exT.f.length).all dV=true:=by
 rw [show exT.f.length=2 from rfl,Bo];decide +kernel
theorem Io : fqs (cdL exT (20,0) (0,20) exT.f.length)=[iC (1,2),iC (1,2)]:=by
 rw [show exT.f.length=2 from rfl,Bo]
 unfold fqs
 simp only [List.map_cons,List.map_nil]
 rw [show eO 600 (600 - -600)=(1,2) by decide +kernel,show eO (-600) (-600 - 600)=(1,2) by decide +kernel]
theorem yY : iM exT (20,0) (0,20)=[iC (1,2)]:=by
 unfold iM
 rw [Io]
 exact sO dA (List.pairwise_singleton _ _) (by simp)
theorem v8 : fqR [iC (1,2)]=[[.int .i64 1,.int .i64 2]]:=by
 have : (iC (1,2)).1=(1,2):=hJ (by unfold uj;decide)
 simp [fqR,fqD,this]
theorem In : iN (20,0) (0,20) 2=[(20,0),(10,10),(0,20)]:=by decide +kernel
theorem Bp : cH (dY (20,0) (0,20)) 2 []=0:=by decide +kernel
theorem Bq : cH (bC exT (20,0) (0,20)) 2 [10,20]=0:=by rw [wa];decide +kernel
theorem wc : dS exT (20,0) (0,20) 2 3=true:=by decide +kernel
theorem CI : lsF (cvL exT (20,0) (0,20) 2 10 20)=(70,70):=by decide +kernel
end Go.Gv

set_option maxRecDepth 4000
namespace Go.Gv
variable {C : CC} (hC : aB prog C)
include hC
theorem vZ (b b' : Bool) (xs ys : List Int) (hx : xs.length < 2 ^ 62) (hy : ys.length < 2 ^ 62) : C 19 [slx b (xs.map fun n=>[.int .i64 n]),slx b' (ys.map fun n=>[.int .i64 n])] (.bool (decide (xs=ys))) []:=by
 refine start hC (nf:=N19) rfl rfl ?_
 simp [N19]
 refine ao (fun h=>?_) (fun h=>?_) <;> simp at h <;> simp [h]
 ·rintro rfl;exact h rfl
 have h' : xs.length=ys.length:=by omega
 refine aw Nat (fun i=>[(0,slx b (xs.map fun n=>[.int .i64 n])),(1,slx b' (ys.map fun n=>[.int .i64 n])),(12,.int .i64 ys.length),(13,.int .i64 i)])
  (fun i=>i <= ys.length /\ ∀ k,k < i -> xs[k]? = ys[k]?) (fun i=>ys.length - i) 0 (by simp) (by simp) ?_
 rintro i ⟨hi,hok⟩
 simp
 refine ao (fun h1=>?_) (fun h1=>?_) <;> simp at h1 <;> simp [h1]
 ·have hw : IntKind.wrap .i64 ((i : Int) + 1)=((i + 1 : Nat) : Int):=ac (by omega) (by omega)
  have hx1 : i < xs.length:=by omega
  simp [h1,hx1]
  refine ⟨aj (by decide +kernel),?_⟩
  refine ao (fun h2=>?_) (fun h2=>?_) <;> simp [h1,hx1] at h2 <;> simp [h1,hx1,h2,hw]
  ·rintro rfl
   exact h2 rfl
  ·refine ⟨i + 1,⟨by omega,fun k hk=>?_⟩,by omega,rfl⟩
   rcases Nat.lt_succ_iff_lt_or_eq.1 hk with h5 | rfl
   ·exact hok k h5
   ·rw [List.getElem?_eq_getElem h1,List.getElem?_eq_getElem hx1,h2]
 ·refine List.ext_getElem? fun k=>?_
  rcases Nat.lt_or_ge k i with h2 | h2
  ·exact hok k h2
  ·rw [List.getElem?_eq_none (by omega),List.getElem?_eq_none (by omega)]
theorem rP : C 702 [] (.agg (aN exT)) []:=by
 refine start hC (nf:=N702) rfl rfl ?_
 simp [N702,ab,exT,bz,aT]
set_option maxHeartbeats 2000000 in
theorem iR (hS : mw C) (dec : Nat -> List UInt8) (hI : ∀ n : Nat,n < 100 -> C 127 [.int .i64 n] (.str (dec n)) []) : C 677 [] (.bool true) []:=by
 have hz : bA exT=true -> exT.s.length <= 100 /\ exT.f.length <= 100:=fun _=>by simp [exT]
 have ke:=rP hC
 have k1:=lc hC dec hI exT hz (20,0) (0,20) wa
 have k2:=pG hC hS dec hI exT hz (20,0) (0,20) wa
 have k3:=oP hC (20,0) (0,20) 2
 have k4:=jj hC dec hI exT hz (20,0) (0,20) 2 10 20
 have q1:=vZ hC false false [0,1] [0,1] (by simp) (by simp)
 have q2:=yV hC false false [iC (1,2)] (by simp)
 have q3:=yW hC false false [(20,0),(10,10),(0,20)] (by simp)
 have e1 : gL exT (20,0) (0,20) exT.f.length=[[.int .i64 0],[.int .i64 1]]:=by
  unfold gL
  rw [show exT.f.length=2 from rfl,Im];rfl
 have e2 : fI exT (20,0) (0,20)=.sl [[.int .i64 1,.int .i64 2]]:=by unfold fI;rw [if_pos wg,yY,v8]
 have e3 : fX exT (20,0) (0,20)=0:=by unfold fX;rw [if_pos wg]
 have e4 : uI (20,0) (0,20) 2=.sl [[.int .i64 20,.int .i64 0],[.int .i64 10,.int .i64 10],[.int .i64 0,.int .i64 20]]:=by
  unfold uI
  rw [if_pos Bp,show (2 : Int).toNat=2 from rfl,In];rfl
 have e5 : kE exT (20,0) (0,20) 2 10 20=0:=by
  unfold kE lvE
  rw [if_pos Bq,show (2 : Int).toNat + 1=3 from rfl,show (2 : Int).toNat=2 from rfl,if_pos wc]
 have e6 : kF exT (20,0) (0,20) 2 10 20=(70,70):=by
  unfold kF cvS
  rw [if_pos Bq,show (2 : Int).toNat + 1=3 from rfl,show (2 : Int).toNat=2 from rfl,if_pos wc,CI]
 rw [e1] at k1
 rw [e2,e3] at k2
 rw [e4,Bp] at k3
 rw [e5,e6] at k4
 rw [v8] at q2
 simp [exT,ab,bz,aT,ptD,spD] at ke k1 k2 k3 k4 q1 q2 q3
 refine start hC (nf:=N677) rfl rfl ?_
 simp [N677]
 refine aa ke (.inr rfl) ?_
 simp
 refine aa k1 (.inr rfl) ?_
 simp
 refine ⟨aj (by decide +kernel),?_⟩
 refine aa ke (.inr rfl) ?_
 simp
 refine aa k2 (.inr rfl) ?_
 simp
 refine ⟨aj (by decide +kernel),?_⟩
 refine aa k3 (.inr rfl) ?_
 simp
 refine aa ke (.inr rfl) ?_
 simp
 refine aa k4 (.inl rfl) ?_
 simp
 refine ⟨aj (by decide +kernel),?_⟩
 refine aa q1 (.inl rfl) ?_
 simp
 refine aa q2 (.inl rfl) ?_
 simp
 refine aa q3 (.inl rfl) ?_
 simp
end Go.Gv

set_option maxRecDepth 4000
namespace Go.Gv
def sd (m : Msh) : Bool:=(decide ((60 : Int) < (m.s.length : Int)) && decide ((m.s.length : Int) <= 2000)) || (decide ((60 : Int) < (m.f.length : Int)) && decide ((m.f.length : Int) <= 4000)) || decide ((2010 : Int) < (m.s.length : Int)) || decide ((4010 : Int) < (m.f.length : Int))
theorem wL {m : Msh} (h : sd m=false) : bA m=true -> m.s.length <= 100 /\ m.f.length <= 100:=by
 intro hs
 unfold sd at h
 unfold bA at hs
 simp only [Bool.or_eq_false_iff,Bool.and_eq_false_iff,decide_eq_false_iff_not,Bool.and_eq_true,decide_eq_true_eq] at h hs
 omega
variable {C : CC} (hC : aB prog C)
include hC
theorem qv (m : Msh) : C 681 [.agg (aN m)] (.bool (sd m)) []:=by
 obtain ⟨L,eL⟩ : ∃ L,L=sd m:=⟨_,rfl⟩
 rw [<- eL]
 unfold sd at eL
 refine start hC (nf:=N681) rfl rfl ?_
 simp [N681,ab]
 by_cases a1 : (60 : Int) < (m.s.length : Int) <;> by_cases a2 : (m.s.length : Int) <= 2000 <;> by_cases b1 : (60 : Int) < (m.f.length : Int) <;> by_cases b2 : (m.f.length : Int) <= 4000 <;> by_cases c : (2010 : Int) < (m.s.length : Int) <;> by_cases d : (4010 : Int) < (m.f.length : Int) <;> first | omega | (simp only [a1,a2,b1,b2,c,d,decide_true,decide_false,Bool.and_true,Bool.true_and,Bool.and_false,Bool.false_and,Bool.or_true,Bool.true_or,Bool.or_false,Bool.false_or] at eL;subst eL;simp [a1,a2,b1,b2,c,d])
end Go.Gv

set_option maxRecDepth 4000
namespace Go.Gv
def shS (d : Int) (s : Int × Int) : Int × Int:=(s.1 + d,s.2 + d)
theorem ra (d : Int) : ∀ (l : List (Int × Int)) (a : Int × Int),(l.map (shS d)).foldl j5 (shS d a)=shS d (l.foldl j5 a)
 | [],a=>rfl
 | x::r,a=>by
  have e : j5 (shS d a) (shS d x)=shS d (j5 a x):=by
   unfold j5 shS
   ext <;> simp only <;> omega
  rw [List.map_cons,List.foldl_cons,List.foldl_cons,e]
  exact ra d r _
theorem pn (l : List (Int × Int)) : lsF l=l.foldl j5 (l.headD (0,0)):=by unfold lsF lsK;rw [List.take_length]
theorem oy (d : Int) {l : List (Int × Int)} (h : l ≠ []) : lsF (l.map (shS d))=shS d (lsF l):=by
 match l,h with
 | x::r,_ =>
  rw [pn,pn]
  exact ra d (x::r) x
theorem tg : ∀ (l : List (Int × Int)) (a : Int × Int),a.1 <= a.2 -> (∀ s ∈ l,s.1 <= s.2) -> (l.foldl j5 a).1 <= (l.foldl j5 a).2
 | [],_,h,_=>h
 | x::r,a,h,hl=>by
  rw [List.foldl_cons]
  refine tg r _ ?_ (fun s hs=>hl s (List.mem_cons_of_mem _ hs))
  have:=hl x (List.mem_cons_self ..)
  unfold j5
  simp only
  omega
theorem C4 {l : List (Int × Int)} (h : l ≠ []) (hl : ∀ s ∈ l,s.1 <= s.2) : (lsF l).1 <= (lsF l).2:=by
 match l,h with
 | x::r,_ =>
  rw [pn]
  exact tg _ _ (hl x (List.mem_cons_self ..)) hl
theorem rL (m : Msh) (a b : Pnt) (n : Nat) (up dn : Int) : cvL m a b n up dn ≠ []:=by
 intro h
 have:=congrArg List.length h
 simp [cvL] at this
theorem tZ (m : Msh) (a b : Pnt) (n : Nat) (up dn d : Int) (k : Nat) : cvP m a b n (up - d) (dn - d) k=shS d (cvP m a b n up dn k):=by
 unfold cvP shS
 rw [show dn - d - (up - d)=dn - up by omega]
 ext <;> simp only <;> omega
theorem tY (m : Msh) (a b : Pnt) (n : Nat) (up dn d : Int) : cvL m a b n (up - d) (dn - d)=(cvL m a b n up dn).map (shS d):=by
 unfold cvL
 rw [List.map_map]
 exact List.map_congr_left fun k _=>tZ m a b n up dn d k
theorem t8 (m : Msh) (a b : Pnt) (n : Nat) (up dn d : Int) (hok : dS m a b n (n + 1)=true) : cvS m a b n (up - d) (dn - d)=shS d (cvS m a b n up dn):=by
 unfold cvS
 rw [if_pos hok,if_pos hok,tY,oy d (rL m a b n up dn)]
theorem tX (m : Msh) (a b : Pnt) (n : Nat) (x : Int) : cvL m a b n x x=(lvT m a b n (n + 1)).map (shS (-x)):=by
 unfold cvL lvT
 rw [List.map_map]
 refine List.map_congr_left fun k _=>?_
 unfold cvP shS
 simp only [Function.comp,Int.sub_self,Int.zero_mul,Int.neg_zero,Int.zero_ediv]
 ext <;> simp only <;> omega
theorem wS (m : Msh) (a b : Pnt) (n : Nat) : lvT m a b n (n + 1) ≠ []:=by
 intro h
 have:=congrArg List.length h
 simp [lvT] at this
theorem t7 (m : Msh) (a b : Pnt) (n : Nat) (x : Int) (hok : dS m a b n (n + 1)=true) : cvS m a b n x x=shS (-x) (lsF (lvT m a b n (n + 1))):=by
 unfold cvS
 rw [if_pos hok,tX,oy _ (wS m a b n)]
theorem Bl (x : Int) {d : Int} (hd : 0 < d) : x / d <= -(-x / d) /\ -(-x / d) <= x / d + 1:=by
 have e1:=Int.ediv_mul_le x (show d ≠ 0 by omega)
 have e2:=Int.lt_ediv_add_one_mul_self x hd
 have e3:=Int.ediv_mul_le (-x) (show d ≠ 0 by omega)
 have e4:=Int.lt_ediv_add_one_mul_self (-x) hd
 generalize x / d=q at *
 generalize -x / d=r at *
 constructor
 ·rcases Int.lt_or_le (-r) q with h | h
  ·exfalso
   have:=Int.mul_le_mul_of_nonneg_right (show 1 <= q + r by omega) (show 0 <= d by omega)
   rw [Int.add_mul] at this
   omega
  ·exact h
 ·rcases Int.lt_or_le (q + 1) (-r) with h | h
  ·exfalso
   have:=Int.mul_le_mul_of_nonneg_right (show q + 1 + (r + 1) <= 0 by omega) (show 0 <= d by omega)
   rw [Int.add_mul] at this
   omega
  ·exact h
theorem C5 {m : Msh} {p : Pnt} (h : onE m p=0) : (lvP m p).1 <= (lvP m p).2 /\ (lvP m p).2 <= (lvP m p).1 + 1:=by
 obtain ⟨hv,hp,hf⟩:=ng h
 obtain ⟨hi,ho⟩:=iy hf
 have hO : OnF m (cZ m p).toNat p:=lP hv hi hp ho
 exact Bl (fw m (cZ m p).toNat p) hO.d.1
theorem Cz {m : Msh} {a b : Pnt} {n : Nat} (hn : 0 < n) (up dn : Int) (hok : dS m a b n (n + 1)=true) : (cvS m a b n up dn).1 <= (cvS m a b n up dn).2:=by
 unfold cvS
 rw [if_pos hok]
 refine C4 (rL m a b n up dn) (fun s hs=>?_)
 unfold cvL at hs
 obtain ⟨k,hk,rfl⟩:=List.mem_map.1 hs
 have hk':=List.mem_range.1 hk
 have h1:=C5 (fL hok hk')
 have h2:=Bl ((dn - up) * k) (show (0 : Int) < n by omega)
 unfold cvP
 simp only
 omega
def rsZ (d : Int) (s : Spt) : Spt:={ s with z:=s.z + d }
def rsM (m : Msh) (d : Int) : Msh:=⟨false,m.s.map (rsZ d),false,m.f⟩
end Go.Gv

set_option maxRecDepth 4000
namespace Go.Gv
def Rw (o s : Int × Int) : Int × Int:=(max o.1 s.1,max o.2 s.2)
def hsK (l : List (Int × Int)) (k : Nat) : Int × Int:=(l.take k).foldl Rw (l.headD (0,0))
def hsF (l : List (Int × Int)) : Int × Int:=hsK l l.length
theorem qo (l : List (Int × Int)) : hsK l 0=l.headD (0,0):=rfl
theorem qn (l : List (Int × Int)) {k : Nat} (h : k < l.length) : hsK l (k + 1)=(max (hsK l k).1 l[k].1,max (hsK l k).2 l[k].2):=by
 unfold hsK
 rw [List.take_succ_eq_append_getElem h,List.foldl_append]
 rfl
def iO (m : Msh) (a b : Pnt) (n : Int) : D:=if cH (bC m a b) n []=0 then lvD m a b n.toNat else .nils
def gm (m : Msh) (a b : Pnt) (n : Int) : Int:=if cH (bC m a b) n []=0 then lvE m a b n.toNat else cH (bC m a b) n []
def prL (m : Msh) (a b : Pnt) (n : Int) : Int × Int:=if gm m a b n=0 then lsF (lvT m a b n.toNat (n.toNat + 1)) else (0,0)
def prH (m : Msh) (a b : Pnt) (n : Int) : Int × Int:=if gm m a b n=0 then hsF (lvT m a b n.toNat (n.toNat + 1)) else (0,0)
theorem pI {m : Msh} {a b : Pnt} {n : Int} (h : gm m a b n=0) : cH (bC m a b) n []=0 /\ dS m a b n.toNat (n.toNat + 1)=true /\ iO m a b n=.sl (lvR m a b n.toNat (n.toNat + 1)):=by
 unfold gm at h
 split at h
 ·rename_i h0
  unfold lvE at h
  split at h
  ·rename_i h1
   refine ⟨h0,h1,?_⟩
   unfold iO
   rw [if_pos h0]
   unfold lvD
   rw [if_pos h1]
  ·cases h
 ·rename_i h0;exact absurd h h0
theorem pH {m : Msh} {a b : Pnt} {n : Int} (h : gm m a b n ≠ 0) : iO m a b n=.nils:=by
 unfold gm at h
 unfold iO
 split
 ·rename_i h0
  rw [if_pos h0] at h
  unfold lvE at h
  unfold lvD
  split
  ·rename_i h1;rw [if_pos h1] at h;exact absurd rfl h
  ·rfl
 ·rfl
variable {C : CC} (hC : aB prog C)
include hC
theorem oO (dec : Nat -> List UInt8) (hI : ∀ n : Nat,n < 100 -> C 127 [.int .i64 n] (.str (dec n)) []) (m : Msh) (hz : bA m=true -> m.s.length <= 100 /\ m.f.length <= 100) (a b : Pnt) (n : Int) : C 695 [.agg (aN m),.agg (ptD a),.agg (ptD b),.int .i64 n] (.tup [iO m a b n,.int .i64 (gm m a b n)]) []:=by
 have k1:=mS hC dec hI m hz a b n true [] (by simp)
 have e0 : slx true (([] : List Int).map fun n=>[D.int .i64 n])=.nils:=rfl
 rw [e0] at k1
 unfold iO gm
 simp only [ab,ptD] at k1
 by_cases h : cH (bC m a b) n []=0
 ·obtain ⟨g0,g1,g2,g3⟩:=iu (a:=a) (b:=b) h
  obtain ⟨hv,hl⟩:=fb g0
  obtain ⟨ha,hb,_⟩:=ft hl
  obtain ⟨N,rfl⟩ : ∃ N : Nat,n=N:=⟨n.toNat,by omega⟩
  have k2:=xZ hC dec hI m hz hv a b ha hb N (by omega) (by omega)
  rw [if_pos h,if_pos h,Int.toNat_natCast]
  rw [h] at k1
  simp only [ab,ptD] at k2
  obtain ⟨d1,hd1⟩ : ∃ d1,d1=lvD m a b N:=⟨_,rfl⟩
  rw [<- hd1] at k2 ⊢
  by_cases hok : dS m a b N (N + 1)=true
  ·have hd2 : d1=.sl (lvR m a b N (N + 1)):=by rw [hd1];unfold lvD;rw [if_pos hok]
   have hV : (lvR m a b N (N + 1)).map (fun e=>e.map aV)=lvR m a b N (N + 1):=xU _
   rw [hd2] at k2 ⊢
   generalize lvR m a b N (N + 1)=R at *
   refine start hC (nf:=N695) rfl rfl ?_
   simp [N695,ab,ptD]
   refine aa k1 (.inl rfl) ?_
   simp
   refine aa k2 (.inr rfl) ?_
   simp
  ·have hd2 : d1=.nils:=by rw [hd1];unfold lvD;rw [if_neg hok]
   rw [hd2] at k2 ⊢
   refine start hC (nf:=N695) rfl rfl ?_
   simp [N695,ab,ptD]
   refine aa k1 (.inl rfl) ?_
   simp
   refine aa k2 (.inr rfl) ?_
   simp
 ·rw [if_neg h,if_neg h]
  refine start hC (nf:=N695) rfl rfl ?_
  simp [N695,ab,ptD]
  refine aa k1 (.inl rfl) ?_
  simp [h]
set_option maxHeartbeats 1000000 in
theorem nM (dec : Nat -> List UInt8) (hI : ∀ n : Nat,n < 100 -> C 127 [.int .i64 n] (.str (dec n)) []) (m : Msh) (hz : bA m=true -> m.s.length <= 100 /\ m.f.length <= 100) (a b : Pnt) (n : Int) : C 696 [.agg (aN m),.agg (ptD a),.agg (ptD b),.int .i64 n] (.tup [.agg (spD (prL m a b n)),.agg (spD (prH m a b n)),.int .i64 (gm m a b n)]) []:=by
 have k1:=oO hC dec hI m hz a b n
 simp only [ab,ptD] at k1
 unfold prL prH
 by_cases h : gm m a b n=0
 ·obtain ⟨g0,g1,g2⟩:=pI h
  obtain ⟨_,n1,n2,_⟩:=iu (a:=a) (b:=b) g0
  rw [if_pos h,if_pos h]
  rw [g2,h] at k1
  rw [h]
  have hl0 : (lvT m a b n.toNat (n.toNat + 1)).length=n.toNat + 1:=by simp [lvT]
  have hR : lvR m a b n.toNat (n.toNat + 1)=(lvT m a b n.toNat (n.toNat + 1)).map spD:=rfl
  rw [hR] at k1
  generalize lvT m a b n.toNat (n.toNat + 1)=l at *
  have h0 : 0 < l.length:=by omega
  have hl : l.length < 2 ^ 40:=by omega
  have k2:=tb hC false l h0 hl
  rw [cc] at k2
  have e1 : l.head?.getD (0,0)=l[0]:=by
   cases l with
   | nil=>simp at h0
   | cons x r=>rfl
  simp only [spD] at k1 k2
  refine start hC (nf:=N696) rfl rfl ?_
  simp [N696,ab,ptD,spD]
  refine aa k1 (.inr rfl) ?_
  simp [h0,spD]
  refine aw Nat (fun k=>[(8,.adr (.r 10128) 0 0),(9,.adr (.r 10144) 0 0),(11,.sl (l.map spD)),(13,.adr (.r 10208) 0 0),(32,.sl (l.map spD)),(33,.int .i64 l.length),(34,.int .i64 k),(10128,.blk 2 [[.int .i64 0,.int .i64 0]]),(10144,.blk 2 [[.int .i64 0,.int .i64 0]]),(10208,.blk 2 [[.int .i64 (hsK l k).1,.int .i64 (hsK l k).2]])])
   (fun k=>k <= l.length) (fun k=>l.length - k) 0 (by simp) (by simp [qo,e1,spD]) ?_
  rintro k hk
  simp
  refine ao (fun h3=>?_) (fun h3=>?_) <;> simp at h3
  ·have hw : IntKind.wrap .i64 ((k : Int) + 1)=((k + 1 : Nat) : Int):=ac (by omega) (by omega)
   have hs:=qn l h3
   simp [h3,spD,mxE]
   refine ⟨aj (by decide +kernel),?_⟩
   simp [hw]
   exact ⟨k + 1,by omega,by omega,by simp [hs]⟩
  ·have ek : k=l.length:=by omega
   subst ek
   simp [h3]
   refine aa k2 (.inl rfl) ?_
   simp [hsF]
   exact aj (by decide +kernel)
 ·rw [if_neg h,if_neg h]
  have g2:=pH h
  rw [g2] at k1
  refine start hC (nf:=N696) rfl rfl ?_
  simp [N696,ab,ptD,spD]
  refine aa k1 (.inr rfl) ?_
  simp [h]
set_option maxHeartbeats 1000000 in
theorem oK (b : Bool) (l : List (Int × Int)) (h0 : 0 < l.length) (hl : l.length < 2 ^ 40) : C 725 [slx b (l.map spD)] (.agg (spD (lsF l))) []:=by
 have e1 : l.head?.getD (0,0)=l[0]:=by
  cases l with
  | nil=>simp at h0
  | cons x r=>rfl
 refine start hC (nf:=N725) rfl rfl ?_
 simp [N725,spD,h0]
 refine aw Nat (fun k=>[(0,slx b (l.map spD)),(2,.adr (.r 10032) 0 0),(3,.adr (.r 10048) 0 0),(4,.int .i64 k),(10032,.blk 2 [[.int .i64 0,.int .i64 0]]),(10048,.blk 2 [[.int .i64 (lsK l k).1,.int .i64 (lsK l k).2]])])
  (fun k=>k <= l.length) (fun k=>l.length - k) 0 (by simp) (by simp [qC,e1,spD]) ?_
 rintro k hk
 simp
 refine ao (fun h3=>?_) (fun h3=>?_) <;> simp at h3
 ·have hw : IntKind.wrap .i64 ((k : Int) + 1)=((k + 1 : Nat) : Int):=ac (by omega) (by omega)
  have hs:=qB l h3
  generalize lsK l k=o at *
  have go : ∀ k',k'=k + 1 -> k' <= l.length:=fun k' h=>by omega
  by_cases c1 : l[k].1 < o.1 <;> by_cases c2 : l[k].2 < o.2
  ·have hs' : lsK l (k + 1)=(l[k].1,l[k].2):=by rw [hs];ext <;> simp only <;> omega
   simp [h3,spD,c1]
   refine ⟨aj (by decide +kernel),?_⟩
   simp [h3,spD,c2,hw]
   refine ⟨aj (by decide +kernel),?_⟩
   exact ⟨k + 1,by omega,by omega,by simp [hs']⟩
  ·have hs' : lsK l (k + 1)=(l[k].1,o.2):=by rw [hs];ext <;> simp only <;> omega
   simp [h3,spD,c1]
   refine ⟨aj (by decide +kernel),?_⟩
   simp [h3,spD,c2,hw]
   refine ⟨aj (by decide +kernel),?_⟩
   exact ⟨k + 1,by omega,by omega,by simp [hs']⟩
  ·have hs' : lsK l (k + 1)=(o.1,l[k].2):=by rw [hs];ext <;> simp only <;> omega
   simp [h3,spD,c1]
   refine ⟨aj (by decide +kernel),?_⟩
   simp [h3,spD,c2,hw]
   refine ⟨aj (by decide +kernel),?_⟩
   exact ⟨k + 1,by omega,by omega,by simp [hs']⟩
  ·have hs' : lsK l (k + 1)=(o.1,o.2):=by rw [hs];ext <;> simp only <;> omega
   simp [h3,spD,c1]
   refine ⟨aj (by decide +kernel),?_⟩
   simp [h3,spD,c2,hw]
   refine ⟨aj (by decide +kernel),?_⟩
   exact ⟨k + 1,by omega,by omega,by simp [hs']⟩
 ·have ek : k=l.length:=by omega
  subst ek
  simp [h3,lsF]
end Go.Gv

set_option maxRecDepth 4000
namespace Go.Gv
theorem ti {m : Msh} {p : Pnt} (hv : aF m=true) (hp : okP p=true) : onE m p=if cZ m p < 0 then 12 else 0:=by
 unfold onE
 rw [if_pos ⟨hv,hp⟩]
variable {C : CC} (hC : aB prog C)
include hC
set_option maxHeartbeats 1000000 in
theorem sq (b : Bool) (l : List (Int × Int)) (h0 : 0 < l.length) (hl : l.length < 2 ^ 40) : C 728 [slx b (l.map spD)] (.agg (spD (hsF l))) []:=by
 have e1 : l.head?.getD (0,0)=l[0]:=by
  cases l with
  | nil=>simp at h0
  | cons x r=>rfl
 refine start hC (nf:=N728) rfl rfl ?_
 simp [N728,spD,h0]
 refine aw Nat (fun k=>[(0,slx b (l.map spD)),(2,.adr (.r 10032) 0 0),(3,.adr (.r 10048) 0 0),(4,.int .i64 k),(10032,.blk 2 [[.int .i64 0,.int .i64 0]]),(10048,.blk 2 [[.int .i64 (hsK l k).1,.int .i64 (hsK l k).2]])])
  (fun k=>k <= l.length) (fun k=>l.length - k) 0 (by simp) (by simp [qo,e1,spD]) ?_
 rintro k hk
 simp
 refine ao (fun h3=>?_) (fun h3=>?_) <;> simp at h3
 ·have hw : IntKind.wrap .i64 ((k : Int) + 1)=((k + 1 : Nat) : Int):=ac (by omega) (by omega)
  have hs:=qn l h3
  generalize hsK l k=o at *
  by_cases c1 : o.1 < l[k].1 <;> by_cases c2 : o.2 < l[k].2
  ·have hs' : hsK l (k + 1)=(l[k].1,l[k].2):=by rw [hs];ext <;> simp only <;> omega
   simp [h3,spD,c1]
   refine ⟨aj (by decide +kernel),?_⟩
   simp [h3,spD,c2,hw]
   refine ⟨aj (by decide +kernel),?_⟩
   exact ⟨k + 1,by omega,by omega,by simp [hs']⟩
  ·have hs' : hsK l (k + 1)=(l[k].1,o.2):=by rw [hs];ext <;> simp only <;> omega
   simp [h3,spD,c1]
   refine ⟨aj (by decide +kernel),?_⟩
   simp [h3,spD,c2,hw]
   refine ⟨aj (by decide +kernel),?_⟩
   exact ⟨k + 1,by omega,by omega,by simp [hs']⟩
  ·have hs' : hsK l (k + 1)=(o.1,l[k].2):=by rw [hs];ext <;> simp only <;> omega
   simp [h3,spD,c1]
   refine ⟨aj (by decide +kernel),?_⟩
   simp [h3,spD,c2,hw]
   refine ⟨aj (by decide +kernel),?_⟩
   exact ⟨k + 1,by omega,by omega,by simp [hs']⟩
  ·have hs' : hsK l (k + 1)=(o.1,o.2):=by rw [hs];ext <;> simp only <;> omega
   simp [h3,spD,c1]
   refine ⟨aj (by decide +kernel),?_⟩
   simp [h3,spD,c2,hw]
   refine ⟨aj (by decide +kernel),?_⟩
   exact ⟨k + 1,by omega,by omega,by simp [hs']⟩
 ·have ek : k=l.length:=by omega
  subst ek
  simp [h3,hsF]
set_option maxHeartbeats 2000000 in
theorem lT (m : Msh) (hz : bA m=true -> m.s.length <= 100 /\ m.f.length <= 100) (a b : Pnt) (n : Int) : C 697 [.agg (aN m),.agg (ptD a),.agg (ptD b),.int .i64 n] (.tup [iO m a b n,.int .i64 (gm m a b n)]) []:=by
 have k1:=jc hC m hz a b
 have k2:=nu hC n
 simp only [ab,ptD] at k1
 obtain ⟨d1,hd1⟩ : ∃ d1,d1=iO m a b n:=⟨_,rfl⟩
 obtain ⟨e1,he1⟩ : ∃ e1,e1=gm m a b n:=⟨_,rfl⟩
 rw [<- hd1,<- he1]
 unfold iO at hd1
 unfold gm at he1
 by_cases h0 : bC m a b=0
 rotate_left
 ·have hc : cH (bC m a b) n []=bC m a b:=by unfold cH;rw [if_neg h0]
  rw [hc,if_neg h0] at hd1 he1
  refine start hC (nf:=N697) rfl rfl ?_
  simp [N697,ptD,ab]
  refine aa k1 (.inl rfl) ?_
  simp [h0,hd1,he1]
 by_cases hn : 1 <= n /\ n <= 999
 rotate_left
 ·have hc : cH (bC m a b) n []=2:=by unfold cH;rw [if_pos h0,if_neg (fun h=>hn h.1)]
  rw [hc,if_neg (by decide)] at hd1 he1
  have hb : (decide (1 <= n) && decide (n <= 999))=false:=by
   rw [Bool.eq_false_iff];simp;omega
  refine start hC (nf:=N697) rfl rfl ?_
  simp [N697,ptD,ab]
  refine aa k1 (.inl rfl) ?_
  simp [h0]
  refine aa k2 (.inl rfl) ?_
  simp [hb,hd1,he1]
 have hc : cH (bC m a b) n []=0:=by unfold cH;rw [if_pos h0,if_pos ⟨hn,rfl⟩]
 rw [if_pos hc] at hd1 he1
 obtain ⟨n1,n2⟩:=hn
 obtain ⟨hv,hl⟩:=fb h0
 have hmf:=(hz (by simp only [aF,Bool.and_eq_true] at hv;exact hv.1)).2
 obtain ⟨ha,hb,_⟩:=ft hl
 obtain ⟨N,rfl⟩ : ∃ N : Nat,n=N:=⟨n.toNat,by omega⟩
 rw [Int.toNat_natCast] at hd1 he1
 have hgood : dS m a b N (N + 1)=true -> d1=.sl (lvR m a b N (N + 1)) /\ e1=0:=fun h=>⟨by rw [hd1];unfold lvD;rw [if_pos h],by rw [he1];unfold lvE;rw [if_pos h]⟩
 have hbad : ∀ k,k <= N -> ¬ onE m (atL a b N k)=0 -> d1=.nils /\ e1=12:=fun k hk h=>by
  have hn : ¬ dS m a b N (N + 1)=true:=fun h3=>h (fL h3 (by omega))
  exact ⟨by rw [hd1];unfold lvD;rw [if_neg hn],by rw [he1];unfold lvE;rw [if_neg hn]⟩
 clear hd1 he1
 have hb1 : (decide (1 <= (N : Int)) && decide ((N : Int) <= 999))=true:=by simp;omega
 rw [h0] at k1
 rw [hb1] at k2
 refine start hC (nf:=N697) rfl rfl ?_
 simp [N697,ptD,ab]
 refine aa k1 (.inl rfl) ?_
 simp
 refine aa k2 (.inl rfl) ?_
 simp
 refine aw Nat (fun k=>[(3,.int .i64 N),(4,.ptr (aN m)),(5,.ptr (ptD a)),(6,.ptr (ptD b)),(11,.ref (.r 10176) 0 (lvR m a b N k).length),(12,.int .i64 k),(10176,.blk 2 (lvR m a b N k))])
  (fun k=>k <= N + 1 /\ dS m a b N k=true) (fun k=>N + 1 - k) 0 (by simp [dS]) (by simp [ab,ptD,kP]) ?_
 rintro k ⟨hk,hall⟩
 simp
 refine ao (fun h3=>?_) (fun h3=>?_) <;> simp at h3
 ·have hw : IntKind.wrap .i64 ((k : Int) + 1)=((k + 1 : Nat) : Int):=ac (by omega) (by omega)
  have hp:=mO ha hb (show 0 < N by omega) (show k <= N by omega)
  have k3:=BU hC ha hb (n:=N) (k:=k) (by omega) (by omega) (by omega)
  have k4:=tn hC m hv hmf (atL a b N k) hp
  have hlen:=d8 m a b N k
  have hss:=kO m a b N k
  have hsk:=jt m a b N k
  have hoe:=ti hv hp
  have hpc:=tD (lvT m a b N k)
  have hpc' : ∀ e ∈ lvR m a b N k,e.length=2 /\ ∀ c ∈ e,aA c=true:=hpc
  simp only [ab,ptD] at k3 k4
  by_cases hf : cZ m (atL a b N k) < 0
  ·rw [if_pos hf] at hoe
   obtain ⟨g1,g2⟩:=hbad k (by omega) (by rw [hoe];decide)
   simp [h3,ptD,ab]
   refine aa k3 (.inl rfl) ?_
   simp
   refine aa k4 (.inl rfl) ?_
   simp [hf,g1,g2]
  ·rw [if_neg hf] at hoe
   obtain ⟨hi,ho⟩:=iy (Int.not_lt.1 hf)
   have k5:=qL hC m hv _ hi (atL a b N k) hp ho
   have efn : (((cZ m (atL a b N k)).toNat : Nat) : Int)=cZ m (atL a b N k):=by omega
   rw [efn] at k5
   simp only [ab,ptD] at k5
   have hsv : lvR m a b N k++[[.int .i64 (loF m (cZ m (atL a b N k)).toNat (atL a b N k)),.int .i64 (hiF m (cZ m (atL a b N k)).toNat (atL a b N k))]]=lvR m a b N (k + 1):=by rw [hss];rfl
   have hok2 : dS m a b N (k + 1)=true:=by rw [hsk,hall,hoe];rfl
   have hlen2:=d8 m a b N (k + 1)
   simp [h3,ptD,ab]
   refine aa k3 (.inl rfl) ?_
   simp
   refine aa k4 (.inl rfl) ?_
   simp [hf]
   refine aa k5 (.inl rfl) ?_
   simp [hw]
   refine ⟨by omega,k + 1,⟨by omega,hok2⟩,by omega,?_⟩
   simp [ab,hlen,hlen2,hsv]
 ·have ek : k=N + 1:=by omega
  subst ek
  have hlen:=d8 m a b N (N + 1)
  obtain ⟨g1,g2⟩:=hgood hall
  have hV : (lvR m a b N (N + 1)).map (fun e=>e.map aV)=lvR m a b N (N + 1):=xU _
  simp [h3,g1,g2,hV]
set_option maxHeartbeats 2000000 in
theorem Ac (m : Msh) (hz : bA m=true -> m.s.length <= 100 /\ m.f.length <= 100) (a b : Pnt) (n : Int) (hok : gm m a b n=0) : C 697 [.agg (aN m),.agg (ptD a),.agg (ptD b),.int .i64 n] (.tup [.own 2 (lvR m a b n.toNat (n.toNat + 1)),.int .i64 0]) [.nils]:=by
 have k1:=jc hC m hz a b
 have k2:=nu hC n
 simp only [ab,ptD] at k1
 obtain ⟨g0,g1,_⟩:=pI hok
 obtain ⟨h0,n1,n2,_⟩:=iu (a:=a) (b:=b) g0
 obtain ⟨hv,hl⟩:=fb h0
 have hmf:=(hz (by simp only [aF,Bool.and_eq_true] at hv;exact hv.1)).2
 obtain ⟨ha,hb,_⟩:=ft hl
 obtain ⟨N,rfl⟩ : ∃ N : Nat,n=N:=⟨n.toNat,by omega⟩
 rw [Int.toNat_natCast] at g1 ⊢
 have hb1 : (decide (1 <= (N : Int)) && decide ((N : Int) <= 999))=true:=by simp;omega
 rw [h0] at k1
 rw [hb1] at k2
 refine xW hC (nf:=N697) rfl rfl (by simp [okR]) ?_
 simp [N697,ptD,ab]
 refine aa k1 (.inl rfl) ?_
 simp
 refine aa k2 (.inl rfl) ?_
 simp
 refine aw Nat (fun k=>[(3,.int .i64 N),(4,.ptr (aN m)),(5,.ptr (ptD a)),(6,.ptr (ptD b)),(11,.ref (.r 10176) 0 (lvR m a b N k).length),(12,.int .i64 k),(10176,.blk 2 (lvR m a b N k))])
  (fun k=>k <= N + 1 /\ dS m a b N k=true) (fun k=>N + 1 - k) 0 (by simp [dS]) (by simp [ab,ptD,kP]) ?_
 rintro k ⟨hk,hall⟩
 simp
 refine ao (fun h3=>?_) (fun h3=>?_) <;> simp at h3
 ·have hw : IntKind.wrap .i64 ((k : Int) + 1)=((k + 1 : Nat) : Int):=ac (by omega) (by omega)
  have hp:=mO ha hb (show 0 < N by omega) (show k <= N by omega)
  have k3:=BU hC ha hb (n:=N) (k:=k) (by omega) (by omega) (by omega)
  have k4:=tn hC m hv hmf (atL a b N k) hp
  have hlen:=d8 m a b N k
  have hss:=kO m a b N k
  have hsk:=jt m a b N k
  have hoe:=ti hv hp
  have hpc:=tD (lvT m a b N k)
  have hpc' : ∀ e ∈ lvR m a b N k,e.length=2 /\ ∀ c ∈ e,aA c=true:=hpc
  simp only [ab,ptD] at k3 k4
  by_cases hf : cZ m (atL a b N k) < 0
  ·rw [if_pos hf] at hoe
   exact absurd (fL (i:=k) g1 (by omega)) (by rw [hoe];decide)
  ·rw [if_neg hf] at hoe
   obtain ⟨hi,ho⟩:=iy (Int.not_lt.1 hf)
   have k5:=qL hC m hv _ hi (atL a b N k) hp ho
   have efn : (((cZ m (atL a b N k)).toNat : Nat) : Int)=cZ m (atL a b N k):=by omega
   rw [efn] at k5
   simp only [ab,ptD] at k5
   have hsv : lvR m a b N k++[[.int .i64 (loF m (cZ m (atL a b N k)).toNat (atL a b N k)),.int .i64 (hiF m (cZ m (atL a b N k)).toNat (atL a b N k))]]=lvR m a b N (k + 1):=by rw [hss];rfl
   have hok2 : dS m a b N (k + 1)=true:=by rw [hsk,hall,hoe];rfl
   have hlen2:=d8 m a b N (k + 1)
   simp [h3,ptD,ab]
   refine aa k3 (.inl rfl) ?_
   simp
   refine aa k4 (.inl rfl) ?_
   simp [hf]
   refine aa k5 (.inl rfl) ?_
   simp [hw]
   refine ⟨by omega,k + 1,⟨by omega,hok2⟩,by omega,?_⟩
   simp [ab,hlen,hlen2,hsv]
 ·have ek : k=N + 1:=by omega
  subst ek
  have hlen:=d8 m a b N (N + 1)
  simp [h3]
end Go.Gv

set_option maxRecDepth 4000
namespace Go.Gv
variable {C : CC} (hC : aB prog C)
include hC
theorem yX (b b' : Bool) (xs : List (Int × Int)) (hx : xs.length < 2 ^ 62) : C 434 [slx b (xs.map spD),slx b' (xs.map spD)] (.bool true) []:=by
 refine start hC (nf:=N434) rfl rfl ?_
 simp [N434]
 refine aw Nat (fun i=>[(0,slx b (xs.map spD)),(1,slx b' (xs.map spD)),(12,.int .i64 xs.length),(13,.int .i64 i)])
  (fun i=>i <= xs.length) (fun i=>xs.length - i) 0 (by simp) (by simp) ?_
 rintro i hi
 simp
 refine ao (fun h1=>?_) (fun h1=>?_) <;> simp at h1 <;> simp [h1]
 have hw : IntKind.wrap .i64 ((i : Int) + 1)=((i + 1 : Nat) : Int):=ac (by omega) (by omega)
 simp [h1,spD,hw]
 exact ⟨aj (by decide +kernel),i + 1,by omega,by omega,rfl⟩
theorem sr (m : Msh) (hz : bA m=true -> m.s.length <= 100 /\ m.f.length <= 100) (a b : Pnt) (n : Int) : C 698 [.agg (aN m),.agg (ptD a),.agg (ptD b),.int .i64 n] (.tup [.agg (spD (prL m a b n)),.agg (spD (prH m a b n)),.int .i64 (gm m a b n)]) []:=by
 have k1:=lT hC m hz a b n
 simp only [ab,ptD] at k1
 unfold prL prH
 by_cases h : gm m a b n=0
 ·obtain ⟨g0,g1,g2⟩:=pI h
  obtain ⟨_,n1,n2,_⟩:=iu (a:=a) (b:=b) g0
  rw [if_pos h,if_pos h]
  rw [g2,h] at k1
  rw [h]
  have hl0 : (lvT m a b n.toNat (n.toNat + 1)).length=n.toNat + 1:=by simp [lvT]
  have hR : lvR m a b n.toNat (n.toNat + 1)=(lvT m a b n.toNat (n.toNat + 1)).map spD:=rfl
  rw [hR] at k1
  generalize lvT m a b n.toNat (n.toNat + 1)=l at *
  have k2:=oK hC false l (by omega) (by omega)
  have k3:=sq hC false l (by omega) (by omega)
  rw [cc] at k2 k3
  generalize lsF l=u at *
  generalize hsF l=v at *
  generalize l.map spD=R at *
  simp only [spD] at k2 k3
  refine start hC (nf:=N698) rfl rfl ?_
  simp [N698,ab,ptD,spD]
  refine aa k1 (.inr rfl) ?_
  simp
  refine aa k2 (.inl rfl) ?_
  simp
  refine aa k3 (.inl rfl) ?_
  simp
 ·rw [if_neg h,if_neg h]
  have g2:=pH h
  rw [g2] at k1
  refine start hC (nf:=N698) rfl rfl ?_
  simp [N698,ab,ptD,spD]
  refine aa k1 (.inr rfl) ?_
  simp [h]
set_option maxHeartbeats 2000000 in
theorem lu (hS : mw C) (dec : Nat -> List UInt8) (hI : ∀ n : Nat,n < 100 -> C 127 [.int .i64 n] (.str (dec n)) []) (m : Msh) (a b : Pnt) (n : Int) : C 674 [.agg (aN m),.agg (ptD a),.agg (ptD b),.int .i64 n] (.bool true) []:=by
 have k0:=iR hC hS dec hI
 have kl:=qv hC m
 simp only [ab] at kl
 refine start hC (nf:=N674) rfl rfl ?_
 simp [N674,ab,ptD]
 refine aa k0 (.inl rfl) ?_
 simp
 refine aa kl (.inl rfl) ?_
 cases hl : sd m
 rotate_left
 ·simp
 have hz:=wL hl
 have k1:=oO hC dec hI m hz a b n
 have k2:=nM hC dec hI m hz a b n
 have k3:=lT hC m hz a b n
 have k4:=sr hC m hz a b n
 have tail : ∀ (b' : Bool) (L : List (Int × Int)),L.length < 2 ^ 62 -> iO m a b n=slx b' (L.map spD) -> C 434 [iO m a b n,iO m a b n] (.bool true) []:=fun b' L hL e=>by
  rw [e];exact yX hC b' b' L hL
 have q : C 434 [iO m a b n,iO m a b n] (.bool true) []:=by
  by_cases h : gm m a b n=0
  ·obtain ⟨g0,g1,g2⟩:=pI h
   obtain ⟨_,n1,n2,_⟩:=iu (a:=a) (b:=b) g0
   exact tail false (lvT m a b n.toNat (n.toNat + 1)) (by simp [lvT];omega) (by rw [g2];rfl)
  ·exact tail true [] (by simp) (by rw [pH h];rfl)
 generalize gm m a b n=E at *
 generalize prL m a b n=pl at *
 generalize prH m a b n=ph at *
 have hd : iO m a b n=.nils \/ ∃ R,iO m a b n=.sl R:=by
  unfold iO lvD
  split
  ·split
   ·exact .inr ⟨_,rfl⟩
   ·exact .inl rfl
  ·exact .inl rfl
 simp only [ab,ptD,spD] at k1 k2 k3 k4
 rcases hd with hd | ⟨R,hd⟩ <;> rw [hd] at k1 k3 q
 all_goals
  by_cases c1 : 30 < n <;> by_cases c2 : n < 1000
  ·simp [c1,c2]
  all_goals
   simp [c1,c2,ab,ptD]
   refine aa k1 (.inr rfl) ?_
   simp
   refine aa k2 (.inl rfl) ?_
   simp
   refine aa k3 (.inr rfl) ?_
   simp
   refine aa k4 (.inl rfl) ?_
   simp
   refine aa q (.inl rfl) ?_
   simp
end Go.Gv

set_option maxRecDepth 4000
namespace Go.Gv
def abE (m : Msh) (a b : Pnt) (n up dn lst : Int) : Int:=if cH (bC m a b) n [up,dn,lst]=0 then lvE m a b n.toNat else cH (bC m a b) n [up,dn,lst]
def abB (m : Msh) (a b : Pnt) (n up dn lst : Int) : Bool:=if abE m a b n up dn lst=0 then decide (lst <= (cvS m a b n.toNat up dn).1) else false
theorem HE {e n up dn lst : Int} : cH e n [up,dn,lst]=if e=0 then (if c9 lst=true then cH e n [up,dn] else 2) else e:=by
 unfold cH
 by_cases h : e=0
 ·simp only [if_pos h,List.all_cons,List.all_nil,Bool.and_true]
  by_cases h1 : c9 lst=true
  ·simp only [h1,Bool.and_true,if_true]
  ·rw [if_neg h1,if_neg]
   rintro ⟨_,h2⟩
   simp only [Bool.and_eq_true] at h2
   exact h1 h2.2.2
 ·simp only [if_neg h]
theorem Bv (m : Msh) (a b : Pnt) (n : Nat) : lvE m a b n=0 \/ lvE m a b n=12:=by
 unfold lvE
 split
 ·exact .inl rfl
 ·exact .inr rfl
variable {C : CC} (hC : aB prog C)
include hC
theorem xr (x : Int) (c : Int) (hc : 0 < c) (hc2 : c <= 1099511627776) (hx : -4611686018427387904 <= x /\ x <= 4611686018427387904) : C 478 [.int .i64 x,.int .i64 c] (.int .i64 (-(-x / c))) []:=by
 have w1 : IntKind.wrap .i64 (0 - x)=-x:=ac (by omega) (by omega)
 have k:=jy hC (-x) c hc hc2 (by omega)
 have q:=fY (x:=-x) (c:=c) (B:=4611686018427387904) hc (by omega)
 have w2 : IntKind.wrap .i64 (0 - -x / c)=-(-x / c):=ac (by omega) (by omega)
 generalize -x / c=y at *
 refine start hC (nf:=N478) rfl rfl ?_
 simp only [Int.zero_sub] at w1 w2
 simp [N478,w1]
 refine aa k (.inl rfl) ?_
 simp [w2]
theorem nC (n : Int) : C 724 [.int .i64 n] (.bool (c9 n)) []:=by
 refine start hC (nf:=N724) rfl rfl ?_
 unfold c9
 simp [N724]
 by_cases h : -4194304 <= n
 ·simp [h]
 ·simp [h]
theorem ri (dec : Nat -> List UInt8) (hI : ∀ n : Nat,n < 100 -> C 127 [.int .i64 n] (.str (dec n)) []) (m : Msh) (hz : bA m=true -> m.s.length <= 100 /\ m.f.length <= 100) (a b : Pnt) (n up dn lst : Int) : C 692 [.agg (aN m),.agg (ptD a),.agg (ptD b),.int .i64 n,.int .i64 up,.int .i64 dn,.int .i64 lst] (.tup [.bool (abB m a b n up dn lst),.int .i64 (abE m a b n up dn lst)]) []:=by
 have k1:=mS hC dec hI m hz a b n false [up,dn,lst] (by simp)
 unfold abB abE
 by_cases h : cH (bC m a b) n [up,dn,lst]=0
 ·obtain ⟨g0,g1,g2,g3⟩:=iu (a:=a) (b:=b) h
  obtain ⟨hv,hl⟩:=fb g0
  obtain ⟨ha,hb,_⟩:=ft hl
  simp only [List.all_cons,List.all_nil,Bool.and_true,Bool.and_eq_true] at g3
  obtain ⟨N,rfl⟩ : ∃ N : Nat,n=N:=⟨n.toNat,by omega⟩
  have k2:=sQ hC dec hI m hz hv a b ha hb N (by omega) (by omega) up dn g3.1 g3.2.1
  rw [if_pos h,Int.toNat_natCast]
  rw [h] at k1
  have he:=Bv m a b N
  generalize lvE m a b N=E at *
  generalize cvS m a b N up dn=s at *
  simp only [ab,ptD,spD] at k1 k2
  simp at k1
  refine start hC (nf:=N692) rfl rfl ?_
  simp [N692,ab,ptD]
  refine aa k1 (.inl rfl) ?_
  simp
  refine aa k2 (.inl rfl) ?_
  rcases he with rfl | rfl
  ·simp
  ·simp
 ·rw [if_neg h,if_neg h]
  simp only [ab,ptD] at k1
  simp at k1
  refine start hC (nf:=N692) rfl rfl ?_
  simp [N692,ab,ptD]
  refine aa k1 (.inl rfl) ?_
  simp [h]
set_option maxHeartbeats 2000000 in
theorem qP (m : Msh) (hz : bA m=true -> m.s.length <= 100 /\ m.f.length <= 100) (a b : Pnt) (n up dn : Int) : C 693 [.agg (aN m),.agg (ptD a),.agg (ptD b),.int .i64 n,.int .i64 up,.int .i64 dn] (.tup [.agg (spD (kF m a b n up dn)),.int .i64 (kE m a b n up dn)]) []:=by
 have k1:=jc hC m hz a b
 have k2:=nu hC n
 have ku:=nC hC up
 have kd:=nC hC dn
 unfold kF kE
 simp only [ab,ptD] at k1
 by_cases h0 : bC m a b=0
 rotate_left
 ·have hc : cH (bC m a b) n [up,dn]=bC m a b:=by unfold cH;rw [if_neg h0]
  rw [hc,if_neg h0,if_neg h0]
  refine start hC (nf:=N693) rfl rfl ?_
  simp [N693,ptD,ab,spD]
  refine aa k1 (.inl rfl) ?_
  simp [h0]
 by_cases hcn : cH (bC m a b) n [up,dn]=0
 rotate_left
 ·have hc : cH (bC m a b) n [up,dn]=2:=by
   unfold cH at hcn ⊢
   rw [if_pos h0] at hcn ⊢
   split at hcn
   ·exact absurd rfl hcn
   ·rename_i h1;rw [if_neg h1]
  rw [hc,if_neg (by decide),if_neg (by decide)]
  rw [h0] at k1
  refine start hC (nf:=N693) rfl rfl ?_
  simp [N693,ptD,ab,spD]
  refine aa k1 (.inl rfl) ?_
  simp
  refine aa k2 (.inl rfl) ?_
  have hnot : ¬ ((1 <= n /\ n <= 999) /\ c9 up=true /\ c9 dn=true):=fun h=>by
   unfold cH at hcn
   rw [if_pos h0,if_pos] at hcn
   ·exact hcn rfl
   ·simp only [List.all_cons,List.all_nil,Bool.and_true,Bool.and_eq_true];exact h
  by_cases hn : (decide (1 <= n) && decide (n <= 999))=true
  ·rw [hn]
   simp
   refine aa ku (.inl rfl) ?_
   cases hu : c9 up
   ·simp
   simp
   refine aa kd (.inl rfl) ?_
   cases hd : c9 dn
   ·simp
   exact absurd ⟨by simpa using hn,hu,hd⟩ hnot
  ·rw [Bool.not_eq_true] at hn
   rw [hn]
   simp
 obtain ⟨_,n1,n2,g3⟩:=iu (a:=a) (b:=b) hcn
 obtain ⟨hv,hl⟩:=fb h0
 obtain ⟨ha,hb,_⟩:=ft hl
 simp only [List.all_cons,List.all_nil,Bool.and_true,Bool.and_eq_true] at g3
 obtain ⟨hu,hd⟩:=g3
 have hn0 : cH (bC m a b) n []=0:=by unfold cH;rw [if_pos h0,if_pos ⟨⟨n1,n2⟩,rfl⟩]
 have eE : gm m a b n=lvE m a b n.toNat:=by unfold gm;rw [if_pos hn0]
 have k3:=lT hC m hz a b n
 have k3A:=Ac hC m hz a b n
 rw [if_pos hcn,if_pos hcn]
 rw [eE] at k3 k3A
 have hn1 : (decide (1 <= n) && decide (n <= 999))=true:=by simp;omega
 rw [h0] at k1
 rw [hn1] at k2
 rw [hu] at ku
 rw [hd] at kd
 obtain ⟨N,rfl⟩ : ∃ N : Nat,n=N:=⟨n.toNat,by omega⟩
 rw [Int.toNat_natCast] at k3 k3A ⊢
 simp only [c9,Bool.and_eq_true,decide_eq_true_eq] at hu hd
 have h1 : 1 <= N:=by omega
 have h2 : N <= 999:=by omega
 by_cases hok : dS m a b N (N + 1)=true
 rotate_left
 ·have e1 : lvE m a b N=12:=by unfold lvE;rw [if_neg hok]
  have e2 : iO m a b N=.nils:=pH (by rw [eE,Int.toNat_natCast,e1];decide)
  have e3 : cvS m a b N up dn=(0,0):=by unfold cvS;rw [if_neg hok]
  rw [e1,e2] at k3
  rw [e1,e3]
  simp only [ab,ptD] at k3
  refine start hC (nf:=N693) rfl rfl ?_
  simp [N693,ptD,ab,spD]
  refine aa k1 (.inl rfl) ?_
  simp
  refine aa k2 (.inl rfl) ?_
  simp
  refine aa ku (.inl rfl) ?_
  simp
  refine aa kd (.inl rfl) ?_
  simp [ab,ptD]
  refine n8 k3 ?_
  simp
 have e1 : lvE m a b N=0:=by unfold lvE;rw [if_pos hok]
 have e3 : cvS m a b N up dn=lsF (cvL m a b N up dn):=by unfold cvS;rw [if_pos hok]
 rw [e1,e3]
 have k3:=k3A e1
 simp only [ab,ptD] at k3
 have ws : IntKind.wrap .i64 (dn - up)=dn - up:=ac rfl (by omega)
 refine start hC (nf:=N693) rfl rfl ?_
 simp [N693,ab,ptD,spD]
 refine aa k1 (.inl rfl) ?_
 simp
 refine aa k2 (.inl rfl) ?_
 simp
 refine aa ku (.inl rfl) ?_
 simp
 refine aa kd (.inl rfl) ?_
 simp [ab,ptD]
 refine n9 k3 rfl ?_
 simp [dM,aP,dF,d8]
 refine aw Nat (fun k=>[(3,.int .i64 N),(4,.int .i64 up),(5,.int .i64 dn),(12,.adr (.r 10192) 0 0),(15,.ref (.r 10240) 0 (N + 1)),(17,.int .i64 k),(10192,.blk 2 [[.int .i64 0,.int .i64 0]]),(10240,.blk 2 (cvR m a b N up dn k))])
  (fun k=>k <= N + 1) (fun k=>N + 1 - k) 0 (by simp) (by simp [qa]) ?_
 rintro k hk
 simp
 refine ao (fun h3=>?_) (fun h3=>?_) <;> simp at h3
 ·have hw : IntKind.wrap .i64 ((k : Int) + 1)=((k + 1 : Nat) : Int):=ac (by omega) (by omega)
  have hkn : k < N + 1:=by omega
  have hlen:=sT m a b N up dn k
  have hg:=sS m a b N up dn hkn
  have hset:=sU m a b N up dn k
  obtain ⟨bl,bh⟩:=pp (fL hok hkn)
  have m1:=gO (a:=dn - up) (b:=(k : Int)) (k:=8388608) (l:=999) (by omega) (by omega) (by omega) (by omega)
  have w1 : IntKind.wrap .i64 ((dn - up) * k)=(dn - up) * k:=ac rfl (by omega)
  have f1:=jy hC ((dn - up) * k) N (by omega) (by omega) (by omega)
  have f2:=xr hC ((dn - up) * k) N (by omega) (by omega) (by omega)
  have q1:=fY (x:=(dn - up) * k) (c:=(N : Int)) (B:=8380219392) (by omega) (by omega)
  have q2:=fY (x:=-((dn - up) * k)) (c:=(N : Int)) (B:=8380219392) (by omega) (by omega)
  have hc : cvP m a b N up dn k=((lvP m (atL a b N k)).1 - (up - -((dn - up) * k) / N),(lvP m (atL a b N k)).2 - (up + (dn - up) * k / N)):=rfl
  rw [hc] at hset
  generalize hp : (dn - up) * (k : Int)=p at *
  generalize p / (N : Int)=x at *
  generalize -p / (N : Int)=y at *
  generalize lvP m (atL a b N k)=v at *
  have w3 : IntKind.wrap .i64 (up + x)=up + x:=ac rfl (by omega)
  have w4 : IntKind.wrap .i64 (up + -y)=up - y:=ac (by omega) (by omega)
  have w5 : IntKind.wrap .i64 (v.1 - (up - y))=v.1 - (up - y):=ac rfl (by omega)
  have w6 : IntKind.wrap .i64 (v.2 - (up + x))=v.2 - (up + x):=ac rfl (by omega)
  simp [h3,ws,hp,w1]
  refine aa f1 (.inl rfl) ?_
  simp [ws,hp,w1,w3]
  refine aa f2 (.inl rfl) ?_
  have hge : (cvR m a b N up dn k)[k]'(by omega)=[.int .i64 v.1,.int .i64 v.2]:=(List.getElem?_eq_some_iff.1 hg).2
  simp at hset
  simp [w3,w4,ca hg,w5,w6,hkn,hw,hlen,hge]
  exact ⟨aj (by decide +kernel),k + 1,by omega,by omega,by omega,hset⟩
 ·have ek : k=N + 1:=by omega
  subst ek
  have kl:=oK hC false (cvL m a b N up dn) (by simp [cvL]) (by simp [cvL];omega)
  have hlen : (cvL m a b N up dn).length=N + 1:=by simp [cvL]
  rw [sR]
  simp at kl
  generalize cvL m a b N up dn=L at *
  simp [h3]
  refine ⟨by omega,?_⟩
  have hV : List.take (N + 1) (List.map ((fun e=>List.map aV e) ∘ spD) L)=List.map spD L:=by
   rw [List.take_of_length_le (by simp;omega)]
   exact List.map_congr_left fun x _=>by simp [spD]
  rw [hV]
  refine aa kl (.inl rfl) ?_
  simp [spD]
theorem xq (m : Msh) (hz : bA m=true -> m.s.length <= 100 /\ m.f.length <= 100) (a b : Pnt) (n up dn lst : Int) : C 694 [.agg (aN m),.agg (ptD a),.agg (ptD b),.int .i64 n,.int .i64 up,.int .i64 dn,.int .i64 lst] (.tup [.bool (abB m a b n up dn lst),.int .i64 (abE m a b n up dn lst)]) []:=by
 have k1:=jc hC m hz a b
 have k2:=nC hC lst
 have k3:=qP hC m hz a b n up dn
 unfold kF kE at k3
 unfold abB abE
 rw [HE]
 simp only [ab,ptD] at k1 k3
 by_cases h0 : bC m a b=0
 rotate_left
 ·rw [if_neg h0,if_neg h0,if_neg h0]
  refine start hC (nf:=N694) rfl rfl ?_
  simp [N694,ptD,ab]
  refine aa k1 (.inl rfl) ?_
  simp [h0]
 rw [if_pos h0]
 cases hl : c9 lst
 ·refine start hC (nf:=N694) rfl rfl ?_
  rw [h0] at k1
  rw [hl] at k2
  simp [N694,ptD,ab]
  refine aa k1 (.inl rfl) ?_
  simp
  refine aa k2 (.inl rfl) ?_
  simp
 simp only [if_true]
 rw [h0] at k1
 rw [hl] at k2
 by_cases hc : cH (bC m a b) n [up,dn]=0
 ·rw [if_pos hc] at k3 ⊢
  rw [if_pos hc] at k3
  have he:=Bv m a b n.toNat
  generalize lvE m a b n.toNat=E at *
  generalize cvS m a b n.toNat up dn=s at *
  simp only [spD] at k3
  refine start hC (nf:=N694) rfl rfl ?_
  simp [N694,ptD,ab]
  refine aa k1 (.inl rfl) ?_
  simp
  refine aa k2 (.inl rfl) ?_
  simp
  refine aa k3 (.inl rfl) ?_
  rcases he with rfl | rfl
  ·simp
  ·simp
 ·rw [if_neg hc] at k3 ⊢
  rw [if_neg hc] at k3
  rw [if_neg hc]
  simp only [spD] at k3
  refine start hC (nf:=N694) rfl rfl ?_
  simp [N694,ptD,ab]
  refine aa k1 (.inl rfl) ?_
  simp
  refine aa k2 (.inl rfl) ?_
  simp
  refine aa k3 (.inl rfl) ?_
  simp [hc]
set_option maxHeartbeats 2000000 in
theorem lq (hS : mw C) (dec : Nat -> List UInt8) (hI : ∀ n : Nat,n < 100 -> C 127 [.int .i64 n] (.str (dec n)) []) (m : Msh) (a b : Pnt) (n up dn lst : Int) : C 672 [.agg (aN m),.agg (ptD a),.agg (ptD b),.int .i64 n,.int .i64 up,.int .i64 dn,.int .i64 lst] (.bool true) []:=by
 have k0:=iR hC hS dec hI
 have kl:=qv hC m
 simp only [ab] at kl
 refine start hC (nf:=N672) rfl rfl ?_
 simp [N672,ab,ptD]
 refine aa k0 (.inl rfl) ?_
 simp
 refine aa kl (.inl rfl) ?_
 cases hl : sd m
 rotate_left
 ·simp
 have hz:=wL hl
 have k1:=jj hC dec hI m hz a b n up dn
 have k2:=ri hC dec hI m hz a b n up dn lst
 have k3:=qP hC m hz a b n up dn
 have k4:=xq hC m hz a b n up dn lst
 generalize kF m a b n up dn=S at *
 generalize kE m a b n up dn=E at *
 generalize abB m a b n up dn lst=B at *
 generalize abE m a b n up dn lst=F at *
 simp only [ab,ptD,spD] at k1 k2 k3 k4
 by_cases c1 : 30 < n <;> by_cases c2 : n < 1000
 ·simp [c1,c2]
 all_goals
  simp [c1,c2,ab,ptD]
  refine aa k1 (.inl rfl) ?_
  simp
  refine aa k2 (.inl rfl) ?_
  simp
  refine aa k3 (.inl rfl) ?_
  simp
  refine aa k4 (.inl rfl) ?_
  simp
end Go.Gv

set_option maxRecDepth 4000
namespace Go.Gv
def su (m : Msh) (a b : Pnt) : Bool:=decide (m.s.length <= 60) && decide (m.f.length <= 60) && decide (bC m a b=0)
theorem pv {m : Msh} {a b : Pnt} (h : su m a b=true) : m.s.length <= 60 /\ m.f.length <= 60 /\ bC m a b=0:=by
 simp only [su,Bool.and_eq_true,decide_eq_true_eq] at h
 exact ⟨h.1.1,h.1.2,h.2⟩
theorem lg (x : Int) {c : Int} (hc : 0 < c) : -c < x.tmod c /\ x.tmod c < c:=by
 have h1:=Int.tmod_lt_of_pos x hc
 have h2:=Int.tmod_lt_of_pos (-x) hc
 rw [Int.neg_tmod] at h2
 omega
theorem oQ {x : Int} (hx : 0 <= x) {c : Int} (hc : 0 < c) : 0 <= x.tmod c /\ x.tmod c < c:=⟨Int.tmod_nonneg c hx,Int.tmod_lt_of_pos x hc⟩
theorem tf {B : Int} : ∀ (l : List (Int × Int)) (a : Int × Int),((-B <= a.1 /\ a.1 <= B) /\ -B <= a.2 /\ a.2 <= B) -> (∀ s ∈ l,(-B <= s.1 /\ s.1 <= B) /\ -B <= s.2 /\ s.2 <= B) -> (-B <= (l.foldl j5 a).1 /\ (l.foldl j5 a).1 <= B) /\ -B <= (l.foldl j5 a).2 /\ (l.foldl j5 a).2 <= B
 | [],_,h,_=>h
 | x::r,a,h,hl=>by
  rw [List.foldl_cons]
  refine tf r _ ?_ (fun s hs=>hl s (List.mem_cons_of_mem _ hs))
  have:=hl x (List.mem_cons_self ..)
  unfold j5
  simp only
  omega
theorem wR {B : Int} {l : List (Int × Int)} (h : l ≠ []) (hl : ∀ s ∈ l,(-B <= s.1 /\ s.1 <= B) /\ -B <= s.2 /\ s.2 <= B) : (-B <= (lsF l).1 /\ (lsF l).1 <= B) /\ -B <= (lsF l).2 /\ (lsF l).2 <= B:=by
 match l,h with
 | x::r,_ =>
  rw [pn]
  exact tf _ _ (hl x (List.mem_cons_self ..)) hl
theorem C6 {m : Msh} {a b : Pnt} {n k : Nat} (hok : dS m a b n k=true) : ∀ s ∈ lvT m a b n k,(-4194304 <= s.1 /\ s.1 <= 4194304) /\ -4194304 <= s.2 /\ s.2 <= 4194304:=by
 intro s hs
 unfold lvT at hs
 obtain ⟨i,hi,rfl⟩:=List.mem_map.1 hs
 exact pp (fL hok (List.mem_range.1 hi))
theorem Cy {m : Msh} {a b : Pnt} {n : Nat} (hn : 0 < n) (hn2 : n <= 999) {up dn : Int} (hu : c9 up=true) (hd : c9 dn=true) (hok : dS m a b n (n + 1)=true) : (-1099511627776 <= (cvS m a b n up dn).1 /\ (cvS m a b n up dn).1 <= 1099511627776) /\ -1099511627776 <= (cvS m a b n up dn).2 /\ (cvS m a b n up dn).2 <= 1099511627776:=by
 simp only [c9,Bool.and_eq_true,decide_eq_true_eq] at hu hd
 unfold cvS
 rw [if_pos hok]
 refine wR (rL m a b n up dn) (fun s hs=>?_)
 unfold cvL at hs
 obtain ⟨k,hk,rfl⟩:=List.mem_map.1 hs
 have hk':=List.mem_range.1 hk
 have b1:=pp (fL hok hk')
 have m1:=gO (a:=dn - up) (b:=(k : Int)) (k:=8388608) (l:=999) (by omega) (by omega) (by omega) (by omega)
 have q1:=fY (x:=(dn - up) * k) (c:=(n : Int)) (B:=8380219392) (by omega) (by omega)
 have q2:=fY (x:=-((dn - up) * k)) (c:=(n : Int)) (B:=8380219392) (by omega) (by omega)
 unfold cvP
 simp only
 omega
variable {C : CC} (hC : aB prog C)
include hC
theorem ny (m : Msh) (a b : Pnt) : C 688 [.agg (aN m),.agg (ptD a),.agg (ptD b)] (.bool (su m a b)) []:=by
 unfold su
 by_cases h1 : m.s.length <= 60
 ·by_cases h2 : m.f.length <= 60
  ·have k:=jc hC m (fun _=>by omega) a b
   simp only [ab,ptD] at k
   refine start hC (nf:=N688) rfl rfl ?_
   simp [N688,ab,ptD,show (m.s.length : Int) <= 60 by omega,show (m.f.length : Int) <= 60 by omega]
   refine aa k (.inl rfl) ?_
   simp [h1,h2]
  ·refine start hC (nf:=N688) rfl rfl ?_
   simp [N688,ab,ptD,show (m.s.length : Int) <= 60 by omega,show ¬ (m.f.length : Int) <= 60 by omega,h2]
 ·refine start hC (nf:=N688) rfl rfl ?_
  simp [N688,ab,ptD,show ¬ (m.s.length : Int) <= 60 by omega,h1]
set_option maxHeartbeats 4000000 in
theorem lr (hS : mw C) (dec : Nat -> List UInt8) (hI : ∀ n : Nat,n < 100 -> C 127 [.int .i64 n] (.str (dec n)) []) (m : Msh) (a b : Pnt) (n : Int) (hn : 0 <= n /\ n <= 255) (up : Int) (hup : -2147483648 <= up /\ up <= 2147483647) (dn : Int) (hdn : -2147483648 <= dn /\ dn <= 2147483647) (d : Int) (hd : 0 <= d /\ d <= 65535) :
  C 675 [.agg (aN m),.agg (ptD a),.agg (ptD b),.int .u8 n,.int .i32 up,.int .i32 dn,.int .u16 d] (.bool true) []:=by
 have k0:=iR hC hS dec hI
 have kr:=ny hC m a b
 simp only [ab,ptD] at kr
 obtain ⟨x,hx⟩ : ∃ x,x=up.tmod 2000000:=⟨_,rfl⟩
 obtain ⟨y,hy⟩ : ∃ y,y=dn.tmod 2000000:=⟨_,rfl⟩
 obtain ⟨r,hr⟩ : ∃ r,r=n.tmod 30:=⟨_,rfl⟩
 have bx:=lg up (c:=2000000) (by omega)
 have byy:=lg dn (c:=2000000) (by omega)
 have br:=oQ hn.1 (c:=30) (by omega)
 rw [<- hx] at bx
 rw [<- hy] at byy
 rw [<- hr] at br
 obtain ⟨k,hk⟩ : ∃ k : Nat,(k : Int)=1 + r:=⟨(1 + r).toNat,by omega⟩
 have wn : IntKind.wrap .i64 n=n:=ac rfl (by omega)
 have wu : IntKind.wrap .i64 up=up:=ac rfl (by omega)
 have wd : IntKind.wrap .i64 dn=dn:=ac rfl (by omega)
 have we : IntKind.wrap .i64 d=d:=ac rfl (by omega)
 have wk : IntKind.wrap .i64 (1 + r)=k:=ac (by omega) (by omega)
 have wxd : IntKind.wrap .i64 (x - d)=x - d:=ac rfl (by omega)
 have wyd : IntKind.wrap .i64 (y - d)=y - d:=ac rfl (by omega)
 refine start hC (nf:=N675) rfl rfl ?_
 simp [N675,ab,ptD]
 refine aa k0 (.inl rfl) ?_
 simp [wn,wu,wd,we,<- hr,<- hx,<- hy,wk]
 refine aa kr (.inl rfl) ?_
 cases hrd : su m a b
 ·simp
 obtain ⟨z1,z2,h0⟩:=pv hrd
 obtain ⟨hv,hle⟩:=fb h0
 have hz : bA m=true -> m.s.length <= 100 /\ m.f.length <= 100:=fun _=>by omega
 have lx : c9 x=true:=by simp [c9];omega
 have ly : c9 y=true:=by simp [c9];omega
 have lxd : c9 (x - d)=true:=by simp [c9];omega
 have lyd : c9 (y - d)=true:=by simp [c9];omega
 have hkr : 1 <= (k : Int) /\ (k : Int) <= 999:=by omega
 have cn : ∀ ls : List Int,ls.all c9=true -> cH (bC m a b) k ls=0:=fun ls h=>by unfold cH;rw [if_pos h0,if_pos ⟨hkr,h⟩]
 have c1:=cn [x,y] (by simp [lx,ly])
 have c2:=cn [x - d,y - d] (by simp [lxd,lyd])
 have c3:=cn [x,x] (by simp [lx])
 have c4:=cn [] rfl
 have k1:=jj hC dec hI m hz a b k x y
 have k2:=jj hC dec hI m hz a b k (x - d) (y - d)
 have k3:=jj hC dec hI m hz a b k x x
 have k4:=nM hC dec hI m hz a b k
 have e1 : kE m a b k x y=lvE m a b k:=by unfold kE;rw [if_pos c1,Int.toNat_natCast]
 have e2 : kE m a b k (x - d) (y - d)=lvE m a b k:=by unfold kE;rw [if_pos c2,Int.toNat_natCast]
 have e3 : kE m a b k x x=lvE m a b k:=by unfold kE;rw [if_pos c3,Int.toNat_natCast]
 have e4 : gm m a b k=lvE m a b k:=by unfold gm;rw [if_pos c4,Int.toNat_natCast]
 have s1 : kF m a b k x y=cvS m a b k x y:=by unfold kF;rw [if_pos c1,Int.toNat_natCast]
 have s2 : kF m a b k (x - d) (y - d)=cvS m a b k (x - d) (y - d):=by unfold kF;rw [if_pos c2,Int.toNat_natCast]
 have s3 : kF m a b k x x=cvS m a b k x x:=by unfold kF;rw [if_pos c3,Int.toNat_natCast]
 rw [e1,s1] at k1
 rw [e2,s2] at k2
 rw [e3,s3] at k3
 rw [e4] at k4
 by_cases hok : dS m a b k (k + 1)=true
 rotate_left
 ·have eE : lvE m a b k=12:=by unfold lvE;rw [if_neg hok]
  rw [eE] at k1 k2 k3 k4
  simp only [ab,ptD,spD] at k1 k2 k3 k4
  simp [ab,ptD]
  refine aa k1 (.inl rfl) ?_
  simp [wxd,wyd,ab,ptD]
  refine aa k2 (.inl rfl) ?_
  simp [ab,ptD]
  refine aa k3 (.inl rfl) ?_
  simp [ab,ptD]
  refine aa k4 (.inl rfl) ?_
  simp
 have eE : lvE m a b k=0:=by unfold lvE;rw [if_pos hok]
 have f1:=t8 m a b k x y d hok
 have f2:=t7 m a b k x hok
 have f3 : prL m a b k=lsF (lvT m a b k (k + 1)):=by unfold prL;rw [e4,if_pos eE,Int.toNat_natCast]
 have f4:=Cz (m:=m) (a:=a) (b:=b) (n:=k) (by omega) x y hok
 have b1:=Cy (m:=m) (a:=a) (b:=b) (n:=k) (by omega) (by omega) lx ly hok
 have b2:=wR (wS m a b k) (C6 hok)
 have ka:=fun lst=>ri hC dec hI m hz a b k x y lst
 have hab : ∀ lst,c9 lst=true -> abE m a b k x y lst=0 /\ abB m a b k x y lst=decide (lst <= (cvS m a b k x y).1):=fun lst h=>by
  have c5:=cn [x,y,lst] (by simp [lx,ly,h])
  have e5 : abE m a b k x y lst=0:=by unfold abE;rw [if_pos c5,Int.toNat_natCast,eE]
  refine ⟨e5,?_⟩
  unfold abB
  rw [if_pos e5,Int.toNat_natCast]
 have kv:=qQ hC m hz
 rw [hv] at kv
 rw [eE] at k1 k2 k3 k4
 rw [f1] at k2
 rw [f2] at k3
 rw [f3] at k4
 generalize lsF (lvT m a b k (k + 1))=p at *
 generalize prH m a b k=ph at *
 generalize cvS m a b k x y=c at *
 have w1 : IntKind.wrap .i64 (c.1 + d)=c.1 + d:=ac rfl (by omega)
 have w2 : IntKind.wrap .i64 (c.2 + d)=c.2 + d:=ac rfl (by omega)
 have w3 : IntKind.wrap .i64 (p.1 - x)=p.1 - x:=ac rfl (by omega)
 have w4 : IntKind.wrap .i64 (p.2 - x)=p.2 - x:=ac rfl (by omega)
 have w5 : IntKind.wrap .i64 (c.1 + 1)=c.1 + 1:=ac rfl (by omega)
 simp only [ab,ptD,spD,shS] at k1 k2 k3 k4 ka kv
 rw [show p.1 + -x=p.1 - x by omega,show p.2 + -x=p.2 - x by omega] at k3
 have g0 : ¬ c.2 < c.1:=by omega
 by_cases g1 : c.1 < -4194303
 ·simp [ab,ptD]
  refine aa k1 (.inl rfl) ?_
  simp [wxd,wyd,ab,ptD]
  refine aa k2 (.inl rfl) ?_
  simp [ab,ptD]
  refine aa k3 (.inl rfl) ?_
  simp [ab,ptD]
  refine aa k4 (.inl rfl) ?_
  simp [w1,w2,w3,w4,g0,g1]
 by_cases g2 : 4194304 <= c.1
 ·simp [ab,ptD]
  refine aa k1 (.inl rfl) ?_
  simp [wxd,wyd,ab,ptD]
  refine aa k2 (.inl rfl) ?_
  simp [ab,ptD]
  refine aa k3 (.inl rfl) ?_
  simp [ab,ptD]
  refine aa k4 (.inl rfl) ?_
  simp [w1,w2,w3,w4,g0,g1,g2]
 have l1 : c9 c.1=true:=by simp [c9];omega
 have l2 : c9 (c.1 + 1)=true:=by simp [c9];omega
 have ka1:=ka c.1
 have ka2:=ka (c.1 + 1)
 obtain ⟨u1,u2⟩:=hab c.1 l1
 obtain ⟨u3,u4⟩:=hab (c.1 + 1) l2
 rw [u1,u2] at ka1
 rw [u3,u4] at ka2
 rw [decide_eq_true (Int.le_refl c.1)] at ka1
 rw [decide_eq_false (show ¬ c.1 + 1 <= c.1 by omega)] at ka2
 simp [ab,ptD]
 refine aa k1 (.inl rfl) ?_
 simp [wxd,wyd,ab,ptD]
 refine aa k2 (.inl rfl) ?_
 simp [ab,ptD]
 refine aa k3 (.inl rfl) ?_
 simp [ab,ptD]
 refine aa k4 (.inl rfl) ?_
 simp [w1,w2,w3,w4,g0,g1,g2]
 refine aa ka1 (.inl rfl) ?_
 simp (maxSteps:=2000000) [w5]
 refine aa ka2 (.inl rfl) ?_
 simp
 refine aa kv (.inl rfl) ?_
 simp
end Go.Gv
