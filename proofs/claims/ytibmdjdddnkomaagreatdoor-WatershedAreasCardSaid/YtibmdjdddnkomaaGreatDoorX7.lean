/-
  Texts of the proof: H4, H5, H6, H10, K4, K5, K6, K7, K8, M0, W1, W2, W3, H8, H7, H9, H11, H12, SK1, SK2, PH1, SK3p, PT1, S0, S3, SK3, PT2, PF1.
-/
import Derived.Test.YtibmdjdddnkomaaGreatDoorX6
import Derived.Lib.Mul64
import Derived.Laws.Bits64b
import Derived.Laws.MathBits
set_option linter.all false
namespace Go.Gv
def fI (m : Msh) (i : Nat) : Pnt:=ptS (spt m i)
def fil (p : Nat -> Bool) (n : Nat) : List Nat:=(List.range n).filter p
theorem jx (p : Nat -> Bool) : fil p 0=[]:=rfl
theorem cx {p : Nat -> Bool} {n : Nat} (h : p n=true) : fil p (n + 1)=fil p n++[n]:=by
 rw [fil,x08,List.filter_append]
 simp [h,fil]
theorem ky {p : Nat -> Bool} {n : Nat} (h : p n=false) : fil p (n + 1)=fil p n:=by
 rw [fil,x08,List.filter_append]
 simp [h,fil]
theorem aO (p : Nat -> Bool) (n : Nat) : (fil p n).length <= n:=by
 have:=List.length_filter_le p (List.range n)
 rw [fil]
 simpa using this
theorem dM {p : Nat -> Bool} {n i : Nat} (h : i ∈ fil p n) : i < n /\ p i=true:=by
 rw [fil,List.mem_filter,x0H] at h
 exact h
theorem lN {p : Nat -> Bool} {n : Nat} : fil p n=[] ↔ ∀ i,i < n -> p i=false:=by
 rw [fil,List.filter_eq_nil_iff]
 simp
def cQ (m : Msh) (i : Nat) : Bool:=!aX (spt m i)
def bN (m : Msh) (i : Nat) : Bool:=aX (spt m i) && (List.range i).any fun k=>aX (spt m k) && decide (fI m k=fI m i)
def di (m : Msh) (i : Nat) : Bool:=!okF m (fce m i)
def ce (m : Msh) (i : Nat) : Bool:=okF m (fce m i) && decide (i5 (aT m (fce m i)) <= 0)
def aF (m : Msh) (i : Nat) : Bool:=okF m (fce m i) && decide (0 < i5 (aT m (fce m i)))
def bL (m : Msh) (i : Nat) : Bool:=aF m i && (List.range i).any fun k=>aF m k && gm (fce m i) (fce m k)
def aV (m : Msh) (i : Nat) : Bool:=aF m i && (List.range i).any fun k=>aF m k && ovT (aT m (fce m i)) (aT m (fce m k))
def LL (m : Msh) : List (List Nat):=[[],fil (cQ m) m.s.length,fil (bN m) m.s.length,fil (di m) m.f.length,fil (ce m) m.f.length,fil (bL m) m.f.length,fil (aV m) m.f.length]
def cp (dec : Nat -> List UInt8) : Nat -> List (List Nat) -> List (Int × List UInt8)
 | _,[]=>[]
 | k,l::r=>(l.map fun i=>((k : Int),dec i))++cp dec (k + 1) r
def fnD (x : Int × List UInt8) : List D:=[.int .i64 x.1,.str x.2]
def bM (m : Msh) : Bool:=decide (m.s.length <= 2000) && decide (m.f.length <= 4000)
def ao (m : Msh) : Bool:=bM m && (LL m).all fun l=>decide (l=[])
theorem mN (dec : Nat -> List UInt8) : ∀ (k : Nat) (ls : List (List Nat)),cp dec k ls=[] ↔ (ls.all fun l=>decide (l=[]))=true
 | _,[]=>by simp [cp]
 | k,l::r=>by simp [cp,mN dec (k + 1) r]
def iW (m : Msh) : Nat -> List D
 | 0=>[]
 | i + 1=>if aX (spt m i) then .agg (ptD (fI m i))::iW m i else iW m i
def kP (m : Msh) : Nat -> List D
 | 0=>[]
 | i + 1=>if aX (spt m i) then .bool true::kP m i else kP m i
theorem qd (m : Msh) : ∀ i,(iW m i).length <= i
 | 0=>by simp [iW]
 | i + 1=>by
  have:=qd m i
  rw [iW]
  split <;> simp <;> omega
theorem BO (p q : Pnt) : eqD (.agg (ptD p)) (.agg (ptD q))=decide (q=p):=by
 obtain ⟨a,b⟩:=p
 obtain ⟨c,d⟩:=q
 simp [eqD,oz,oy,ptD]
 rw [x04]
 simp
 exact ⟨fun h=>⟨h.1.symm,h.2.symm⟩,fun h=>⟨h.1.symm,h.2.symm⟩⟩
theorem rE (m : Msh) (p : Pnt) : ∀ i,(de (iW m i) (kP m i) (.agg (ptD p))).getD (.bool false)=.bool ((List.range i).any fun k=>aX (spt m k) && decide (fI m k=p))
 | 0=>rfl
 | i + 1=>by
  rw [iW,kP,x08,List.any_append]
  by_cases h : aX (spt m i)=true
  ·rw [if_pos h,if_pos h,de,BO]
   by_cases h2 : fI m i=p
   ·simp [h,h2]
   ·simp [h2,rE m p i]
  ·rw [if_neg h,if_neg h,rE m p i]
   simp [h]
def eA (m : Msh) (i : Nat) : List Bool:=(List.range m.s.length).map fun j=>decide (j < i) && cQ m j
theorem jv (m : Msh) (i : Nat) : (eA m i).length=m.s.length:=by simp [eA]
theorem tE (m : Msh) : eA m 0=List.replicate m.s.length false:=by
 refine x1t (by simp [eA]) fun k h1 h2=>?_
 simp [eA]
theorem vh (m : Msh) {i : Nat} (h : i < m.s.length) : (eA m i).set i (cQ m i)=eA m (i + 1):=by
 refine x1t (by simp [eA]) fun k h1 h2=>?_
 rw [List.getElem_set]
 simp only [eA,x1C,List.getElem_range]
 by_cases e : i=k
 ·subst e;simp
 ·rw [if_neg e]
  by_cases e2 : k < i
  ·simp [e2,show k < i + 1 by omega]
  ·simp [e2,show ¬ k < i + 1 by omega]
theorem vf (m : Msh) {k : Nat} (h : k < m.s.length) : (eA m m.s.length)[k]'(by rw [jv];exact h)=cQ m k:=by simp [eA,h]
variable {C : CC} (hC : ay prog C)
include hC
theorem vu {b : Bool} {xs : List Tri} {g : Nat} {cs : List D} (p : Tri -> Bool) (hs : xs.length < 2 ^ 62) (hp : ∀ x ∈ xs,C g (.agg (cd x)::cs) (.bool (p x)) []) : C 328 [slx b (xs.map cd),.fn g cs] (.int .i64 (dU p xs)) []:=by
 refine aw hC (nf:=N328) rfl rfl ?_
 simp [N328]
 refine ar Nat (fun i=>[(0,slx b (xs.map cd)),(1,.fn g cs),(7,.int .i64 xs.length),(8,.int .i64 i)]) (fun i=>i <= xs.length /\ ∀ (j : Nat) (h : j < xs.length),j < i -> p xs[j]=false) (fun i=>xs.length - i) 0 (by simp) (by simp) ?_
 rintro i ⟨hi,hj⟩
 simp
 refine aj (fun h=>?_) (fun h=>?_) <;> simp [h] <;> simp at h
 ·have hw : IntKind.wrap .i64 ((i : Int) + 1)=((i + 1 : Nat) : Int):=ae (by omega) (by omega)
  have hc:=hp _ (x0u h)
  simp [h,x1C,cd] at hc ⊢
  refine aa hc (.inl rfl) ?_
  simp
  refine aj (fun h1=>?_) (fun h1=>?_) <;> simp [h1,hw]
  ·rw [df hj h h1]
  ·refine ⟨i + 1,⟨by omega,fun j hl hjj=>?_⟩,by omega,by simp [cd]⟩
   rcases x0C.1 hjj with h2 | rfl
   ·exact hj j hl h2
   ·exact h1
 ·rw [dF (fun j hl=>hj j hl (by omega))]
theorem cR {b : Bool} {xs : List Tri} {g : Nat} {cs : List D} (p : Tri -> Bool) (hs : xs.length < 2 ^ 62) (hp : ∀ x ∈ xs,C g (.agg (cd x)::cs) (.bool (p x)) []) : C 309 [slx b (xs.map cd),.fn g cs] (.bool (xs.any p)) []:=by
 refine aw hC (nf:=N309) rfl rfl ?_
 simp [N309]
 refine aa (vu hC p hs hp) (.inl rfl) ?_
 simp [jC]
theorem BF (m : Msh) (k : Int) (hn : m.s.length < 2 ^ 40) : C 306 [.int .i64 k,.ptr (aQ m),.ptr [.sl ((eA m m.s.length).map fun b=>[.bool b])]] (.bool (!(dA m.s.length k && aX (spt m k.toNat)))) []:=by
 have E : dA m.s.length k=(decide (0 <= k) && decide (k < m.s.length)):=rfl
 refine aw hC (nf:=N306) rfl rfl ?_
 simp [N306,aQ]
 refine aj (fun c1=>?_) (fun c1=>?_) <;> simp at c1
 ·simp [c1]
  rw [E,decide_eq_false (by omega)];simp
 ·simp [x0S.2 c1]
  refine aj (fun c2=>?_) (fun c2=>?_) <;> simp at c2
  ·simp [c2]
   rw [E,decide_eq_false (show ¬ k < m.s.length by omega)];simp
  ·have c3 : k.toNat < m.s.length:=by omega
   have c4:=vf m c3
   simp [x0X.2 c2,c1,c3,jv]
   rw [c4,E,decide_eq_true c1,decide_eq_true c2]
   simp [cQ]
theorem ez {t o : Tri} (ht : okT t=true) (ho : okT o=true) : C 310 [.agg (cd o),.ptr (cd t)] (.bool (ovT t o)) []:=by
 have k1:=Ba hC ht ho
 have k2:=Ba hC ho ht
 refine aw hC (nf:=N310) rfl rfl ?_
 rw [cd,cd] at k1 k2 ⊢
 simp [N310]
 refine aa k1 (.inl rfl) ?_
 simp
 cases h1 : qu t o <;> simp [ovT,h1]
 refine aa k2 (.inl rfl) ?_
 simp
 exact fun _=>h1
end Go.Gv

namespace Go.Gv
def nmR (l : List Nat) : List (List D):=l.map fun (k : Nat)=>[D.int .i64 k]
theorem eC (l : List Nat) : nmR l=l.map fun (k : Nat)=>[D.int .i64 k]:=zR
theorem iE {p : Nat -> Bool} {n : Nat} (h : p n=true) : nmR (fil p n)++[[D.int .i64 n]]=nmR (fil p (n + 1)):=by
 rw [cx h];simp [nmR]
theorem eD {p : Nat -> Bool} {n : Nat} (h : p n=false) : nmR (fil p n)=nmR (fil p (n + 1)):=by rw [ky h]
@[simp] theorem Qz (l : List Nat) : (nmR l).length=l.length:=by simp [nmR]
@[simp] theorem CV (l : List Nat) : (∀ e ∈ nmR l,∀ c ∈ e,aK c=true)=True:=by simp [nmR]
@[simp] theorem Lk (l : List Nat) : List.take l.length (nmR l)=nmR l:=x0q (by simp)
@[simp] theorem Qy (l : List Nat) (x : List D) : (∀ e,e ∈ nmR l \/ e=x -> ∀ c,c ∈ e -> aK c=true)=∀ c,c ∈ x -> aK c=true:=by
 apply propext
 constructor
 ·exact fun h=>h x (.inr rfl)
 ·rintro h e (he | rfl)
  ·exact (CV l).mpr trivial e he
  ·exact h
@[simp] theorem QA : nmR []=[]:=rfl
def boR (l : List Bool) : List (List D):=l.map fun b=>[D.bool b]
theorem ot (l : List Bool) : boR l=l.map fun b=>[D.bool b]:=zR
@[simp] theorem Mx (l : List Bool) : (boR l).length=l.length:=by simp [boR]
@[simp] theorem Mw (l : List Bool) (i : Nat) (h : i < (boR l).length) : (boR l)[i]=[D.bool (l[i]'(by simpa using h))]:=by simp [boR]
@[simp] theorem My (l : List Bool) (i : Nat) (b : Bool) : (boR l).set i [D.bool b]=boR (l.set i b):=by simp [boR,List.map_set]
theorem tD (m : Msh) {i : Nat} (h : i < m.s.length) : (eA m i).set i (!aX (spt m i))=eA m (i + 1):=vh m h
theorem x6 (m : Msh) {i : Nat} (h : i < m.s.length) (h' : i < (eA m (i + 1)).length) : (eA m (i + 1))[i]=!aX (spt m i):=by simp [eA,cQ]
theorem vg (m : Msh) : List.replicate m.s.length [D.bool false]=boR (eA m 0):=by rw [tE];simp [boR]
def Ao (m : Msh) (i : Nat) : Env:=[(1,.ptr (aQ m)),(4,.adr (.r 10064) 0 0),(10064,.blk 7 [[.own 1 [],.own 1 (nmR (fil (cQ m) i)),.own 1 (nmR (fil (bN m) i)),.own 1 [],.own 1 [],.own 1 [],.own 1 []]]),(5,.adr (.r 10080) 0 0),(10080,.blk 1 [[.own 1 (boR (eA m i))]]),(6,.mrf 10464),(10464,.mp 4 1 (iW m i) (kP m i)),(31,slx m.sn (m.s.map eP)),(32,.int .i64 m.s.length),(33,.int .i64 i)]
theorem gK (m : Msh) (i : Nat) : Ao m i=[(1,.ptr (aQ m)),(4,.adr (.r 10064) 0 0),(10064,.blk 7 [[.own 1 [],.own 1 (nmR (fil (cQ m) i)),.own 1 (nmR (fil (bN m) i)),.own 1 [],.own 1 [],.own 1 [],.own 1 []]]),(5,.adr (.r 10080) 0 0),(10080,.blk 1 [[.own 1 (boR (eA m i))]]),(6,.mrf 10464),(10464,.mp 4 1 (iW m i) (kP m i)),(31,slx m.sn (m.s.map eP)),(32,.int .i64 m.s.length),(33,.int .i64 i)]:=zR
def trR (m : Msh) (l : List Nat) : List (List D):=l.map fun k=>cd (aT m (fce m k))
theorem eH (m : Msh) (l : List Nat) : trR m l=(l.map fun k=>aT m (fce m k)).map cd:=by simp [trR]
@[simp] theorem Ra (m : Msh) (l : List Nat) : (trR m l).length=l.length:=by simp [trR]
@[simp] theorem Mi (m : Msh) (l : List Nat) : List.take l.length (trR m l)=trR m l:=x0q (by simp)
@[simp] theorem SH (m : Msh) (l : List Nat) : List.map (fun e=>List.map bq e) (trR m l)=trR m l:=by simp [trR,cd]
@[simp] theorem Rb (m : Msh) : trR m []=[]:=rfl
theorem dx {m : Msh} {i : Nat} (h : aF m i=true) : trR m (fil (aF m) i)++[cd (aT m (fce m i))]=trR m (fil (aF m) (i + 1)):=by rw [cx h];simp [trR]
def sdK (f : Fce) : Nat -> List D
 | 0=>[]
 | j + 1=>.agg [.int .i64 (crn f j),.int .i64 (crn f (j + 1))]::sdK f j
theorem jW (f : Fce) : ∀ j,(sdK f j).length=j
 | 0=>rfl
 | j + 1=>by simp [sdK,jW f j]
def bX (m : Msh) : Nat -> List D
 | 0=>[]
 | i + 1=>if aF m i then sdK (fce m i) 3++bX m i else bX m i
def b9 (m : Msh) : Nat -> List D
 | 0=>[]
 | i + 1=>if aF m i then List.replicate 3 (.bool true)++b9 m i else b9 m i
theorem cF (m : Msh) : ∀ i,(bX m i).length <= 3 * i
 | 0=>by simp [bX]
 | i + 1=>by
  have:=cF m i
  rw [bX]
  split <;> simp [jW] <;> omega
def gW (m : Msh) (i j : Nat) : Bool:=(List.range i).any fun k=>aF m k && (List.range 3).any fun j'=>mtc (fce m i) (fce m k) j j'
theorem At (a b c d : Int) : eqD (.agg [.int .i64 a,.int .i64 b]) (.agg [.int .i64 c,.int .i64 d])=(decide (a=c) && decide (b=d)):=by
 simp [eqD,oz,oy]
theorem rX (m : Msh) (a b : Int) : ∀ i,(de (bX m i) (b9 m i) (.agg [.int .i64 a,.int .i64 b])).getD (.bool false)=.bool ((List.range i).any fun k=>aF m k && (List.range 3).any fun j=>decide (a=crn (fce m k) j) && decide (b=crn (fce m k) (j + 1)))
 | 0=>rfl
 | i + 1=>by
  rw [bX,b9,x08,List.any_append]
  have h3 : List.range 3=[0,1,2]:=rfl
  by_cases h : aF m i=true
  ·rw [if_pos h,if_pos h]
   simp only [sdK,List.replicate,x09,x1e,de,At]
   have ih:=rX m a b i
   by_cases c0 : (decide (a=crn (fce m i) 2) && decide (b=crn (fce m i) (2 + 1)))=true
   ·rw [if_pos c0]
    simp only [x1z,x1n,h,h3,c0]
    simp
   ·rw [if_neg c0]
    by_cases c1 : (decide (a=crn (fce m i) 1) && decide (b=crn (fce m i) (1 + 1)))=true
    ·rw [if_pos c1]
     simp only [x1z,x1n,h,h3,c1]
     simp
    ·rw [if_neg c1]
     by_cases c2 : (decide (a=crn (fce m i) 0) && decide (b=crn (fce m i) (0 + 1)))=true
     ·rw [if_pos c2]
      simp only [x1z,x1n,h,h3,c2]
      simp
     ·rw [if_neg c2,ih]
      rw [Bool.not_eq_true] at c0 c1 c2
      simp only [x1z,x1n,h,h3,c0,c1,c2]
      simp
  ·rw [if_neg h,if_neg h,rX m a b i]
   simp [h]
theorem xA {α : Type} (A p q r : α -> Bool) (l : List α) : (l.any fun k=>A k && (p k || (q k || r k)))=((l.any fun k=>A k && p k) || ((l.any fun k=>A k && q k) || (l.any fun k=>A k && r k))):=by
 induction l with
 | nil=>rfl
 | cons x l ih =>
  simp only [x1z,ih]
  cases A x <;> cases p x <;> cases q x <;> cases r x <;> simp
theorem wB {m : Msh} {i : Nat} (h : aF m i=true) : bL m i=(gW m i 0 || (gW m i 1 || gW m i 2)):=by
 unfold bL gm gW
 rw [h,x1I,<- xA]
 have h3 : List.range 3=[0,1,2]:=rfl
 simp only [h3,x1z,x1n,Bool.or_false]
theorem qL {m : Msh} {f : Fce} (h : inS m f=true) (j : Nat) : 0 <= crn f j /\ crn f j < m.s.length:=by
 have:=gg h
 unfold crn
 split <;> omega
def pC (m : Msh) (i k : Nat) : Env:=[(1,.ptr (aQ m)),(4,.adr (.r 10064) 0 0),(10064,.blk 7 [[.own 1 [],.own 1 (nmR (fil (cQ m) m.s.length)),.own 1 (nmR (fil (bN m) m.s.length)),.own 1 (nmR (fil (di m) i)),.own 1 (nmR (fil (ce m) i)),.own 1 (nmR (fil (bL m) (i + 1))),.own 1 (nmR (fil (aV m) i))]]),(5,.adr (.r 10080) 0 0),(10080,.blk 1 [[.own 1 (boR (eA m m.s.length))]]),(10,.mrf 11104),(11104,.mp 3 1 (sdK (fce m i) k++bX m i) (List.replicate k (.bool true)++b9 m i)),(11,.ref (.r 10176) 0 (fil (aF m) i).length),(10176,.blk 6 (trR m (fil (aF m) i))),(12,.int .i64 i),(13,.adr (.r 10208) 0 0),(10208,.blk 4 [br (fce m i)]),(15,.adr (.r 10240) 0 0),(10240,.blk 6 [cd (aT m (fce m i))]),(71,slx m.fn (m.f.map br)),(72,.int .i64 m.f.length),(73,.int .i64 i),(159,.int .i64 k)]
theorem fM (m : Msh) (i k : Nat) : pC m i k=[(1,.ptr (aQ m)),(4,.adr (.r 10064) 0 0),(10064,.blk 7 [[.own 1 [],.own 1 (nmR (fil (cQ m) m.s.length)),.own 1 (nmR (fil (bN m) m.s.length)),.own 1 (nmR (fil (di m) i)),.own 1 (nmR (fil (ce m) i)),.own 1 (nmR (fil (bL m) (i + 1))),.own 1 (nmR (fil (aV m) i))]]),(5,.adr (.r 10080) 0 0),(10080,.blk 1 [[.own 1 (boR (eA m m.s.length))]]),(10,.mrf 11104),(11104,.mp 3 1 (sdK (fce m i) k++bX m i) (List.replicate k (.bool true)++b9 m i)),(11,.ref (.r 10176) 0 (fil (aF m) i).length),(10176,.blk 6 (trR m (fil (aF m) i))),(12,.int .i64 i),(13,.adr (.r 10208) 0 0),(10208,.blk 4 [br (fce m i)]),(15,.adr (.r 10240) 0 0),(10240,.blk 6 [cd (aT m (fce m i))]),(71,slx m.fn (m.f.map br)),(72,.int .i64 m.f.length),(73,.int .i64 i),(159,.int .i64 k)]:=zR
def fnR (l : List (Int × List UInt8)) : List (List D):=l.map fnD
@[simp] theorem Nj (l : List (Int × List UInt8)) : (fnR l).length=l.length:=by simp [fnR]
@[simp] theorem fQ (l : List (Int × List UInt8)) : List.take l.length (fnR l)=fnR l:=x0q (by simp)
@[simp] theorem RU (l : List (Int × List UInt8)) : List.map (fun e=>List.map bq e) (fnR l)=fnR l:=by simp [fnR,fnD]
theorem gf (l : List (Int × List UInt8)) (k : Int) (s : List UInt8) : fnR l++[[.int .i64 k,.str s]]=fnR (l++[(k,s)]):=by simp [fnR,fnD]
@[simp] theorem Nk : fnR []=[]:=rfl
def G9 (L1 L2 L3 L4 L5 L6 : List Nat) : D:=.agx [.ref (.n 10064 0 0) 0 0,.ref (.n 10064 0 1) 0 L1.length,.ref (.n 10064 0 2) 0 L2.length,.ref (.n 10064 0 3) 0 L3.length,.ref (.n 10064 0 4) 0 L4.length,.ref (.n 10064 0 5) 0 L5.length,.ref (.n 10064 0 6) 0 L6.length]
theorem aP (L1 L2 L3 L4 L5 L6 : List Nat) : G9 L1 L2 L3 L4 L5 L6=.agx [.ref (.n 10064 0 0) 0 0,.ref (.n 10064 0 1) 0 L1.length,.ref (.n 10064 0 2) 0 L2.length,.ref (.n 10064 0 3) 0 L3.length,.ref (.n 10064 0 4) 0 L4.length,.ref (.n 10064 0 5) 0 L5.length,.ref (.n 10064 0 6) 0 L6.length]:=zR
def Hj (L1 L2 L3 L4 L5 L6 : List Nat) : D:=.blk 7 [[.own 1 [],.own 1 (nmR L1),.own 1 (nmR L2),.own 1 (nmR L3),.own 1 (nmR L4),.own 1 (nmR L5),.own 1 (nmR L6)]]
theorem a7 (L1 L2 L3 L4 L5 L6 : List Nat) : Hj L1 L2 L3 L4 L5 L6=.blk 7 [[.own 1 [],.own 1 (nmR L1),.own 1 (nmR L2),.own 1 (nmR L3),.own 1 (nmR L4),.own 1 (nmR L5),.own 1 (nmR L6)]]:=zR
theorem cq (dec : Nat -> List UInt8) : ∀ (a b : List (List Nat)) (k : Nat),cp dec k (a++b)=cp dec k a++cp dec (k + a.length) b
 | [],b,k=>by simp [cp]
 | x::a,b,k=>by
  have:=cq dec a b (k + 1)
  simp only [x09,cp,this,x01,x0K]
  rw [show k + 1 + a.length=k + (a.length + 1) by omega]
def tkD (dec : Nat -> List UInt8) (k : Int) (L : List Nat) (j : Nat) : List (Int × List UInt8):=(L.take j).map fun i=>(k,dec i)
theorem fg (dec : Nat -> List UInt8) (k : Int) (L : List Nat) : tkD dec k L 0=[]:=by simp [tkD]
theorem fZ (dec : Nat -> List UInt8) (k : Int) (L : List Nat) {j : Nat} (h : j < L.length) : tkD dec k L (j + 1)=tkD dec k L j++[(k,dec L[j])]:=by
 unfold tkD
 rw [List.take_add_one,x0d h,List.map_append]
 rfl
theorem iS (dec : Nat -> List UInt8) (k : Int) (L : List Nat) {j : Nat} (h : j <= L.length) : (tkD dec k L j).length=j:=by simp [tkD];omega
theorem iR (dec : Nat -> List UInt8) (k : Int) (L : List Nat) : tkD dec k L L.length=L.map fun i=>(k,dec i):=by simp [tkD]
def Ap (m : Msh) (i : Nat) : Env:=[(1,.ptr (aQ m)),(4,.adr (.r 10064) 0 0),(10064,.blk 7 [[.own 1 [],.own 1 (nmR (fil (cQ m) m.s.length)),.own 1 (nmR (fil (bN m) m.s.length)),.own 1 (nmR (fil (di m) i)),.own 1 (nmR (fil (ce m) i)),.own 1 (nmR (fil (bL m) i)),.own 1 (nmR (fil (aV m) i))]]),(5,.adr (.r 10080) 0 0),(10080,.blk 1 [[.own 1 (boR (eA m m.s.length))]]),(10,.mrf 11104),(11104,.mp 3 1 (bX m i) (b9 m i)),(11,.ref (.r 10176) 0 (fil (aF m) i).length),(10176,.blk 6 (trR m (fil (aF m) i))),(71,slx m.fn (m.f.map br)),(72,.int .i64 m.f.length),(73,.int .i64 i)]
theorem cW (m : Msh) (i : Nat) : Ap m i=[(1,.ptr (aQ m)),(4,.adr (.r 10064) 0 0),(10064,.blk 7 [[.own 1 [],.own 1 (nmR (fil (cQ m) m.s.length)),.own 1 (nmR (fil (bN m) m.s.length)),.own 1 (nmR (fil (di m) i)),.own 1 (nmR (fil (ce m) i)),.own 1 (nmR (fil (bL m) i)),.own 1 (nmR (fil (aV m) i))]]),(5,.adr (.r 10080) 0 0),(10080,.blk 1 [[.own 1 (boR (eA m m.s.length))]]),(10,.mrf 11104),(11104,.mp 3 1 (bX m i) (b9 m i)),(11,.ref (.r 10176) 0 (fil (aF m) i).length),(10176,.blk 6 (trR m (fil (aF m) i))),(71,slx m.fn (m.f.map br)),(72,.int .i64 m.f.length),(73,.int .i64 i)]:=zR
variable {C : CC} (hC : ay prog C)
include hC
set_option maxHeartbeats 4000000 in
theorem xx (dec : Nat -> List UInt8) (hI : ∀ n : Nat,n < 100 -> C 127 [.int .i64 n] (.str (dec n)) []) (m : Msh) (hs : m.s.length <= 100) (hf : m.f.length <= 100) : C 273 [.agg (aQ m)] (.tup [.sl ((cp dec 0 (LL m)).map fnD),.int .i64 0]) []:=by
 have ksm:=p8 hC m
 rw [decide_eq_true (show m.s.length <= 2000 by omega),decide_eq_true (show m.f.length <= 4000 by omega)] at ksm
 have kr:=fun s=>vG hC s
 have kp:=fun i h=>jI hC m i h
 refine aw hC (nf:=N273) rfl rfl ?_
 simp only [ab] at ksm
 simp [N273,ab]
 refine aa ksm (.inl rfl) ?_
 simp
 refine ⟨by omega,?_⟩
 refine ar Nat (fun i=>Ao m i) (fun i=>i <= m.s.length) (fun i=>m.s.length - i) 0 (by simp) (by simp [gK,ab,jx,iW,kP,vg]) ?_
 rintro i hi
 simp [gK,ab]
 refine aj (fun g1=>?_) (fun g1=>?_) <;> simp at g1 <;> simp [g1]
 ·have hw : IntKind.wrap .i64 ((i : Int) + 1)=((i + 1 : Nat) : Int):=ae (by omega) (by omega)
  have kri:=kr (spt m i)
  simp only [b4] at kri
  simp [b4]
  refine aa kri (.inl rfl) ?_
  simp [jv,g1]
  refine ⟨ai (by decide +kernel),?_⟩
  rw [tD m g1]
  rw [ot]
  simp [jv,g1,x6]
  have kpi:=kp i g1
  simp only [ab] at kpi
  have hr:=oW (s:=spt m i)
  cases hr1 : aX (spt m i)
  ·have e1:=iE (p:=cQ m) (n:=i) (by simp [cQ,hr1])
   have e2:=eD (p:=bN m) (n:=i) (by simp [bN,hr1])
   have e3 : iW m (i + 1)=iW m i:=by simp [iW,hr1]
   have e4 : kP m (i + 1)=kP m i:=by simp [kP,hr1]
   simp [hw]
   refine ⟨by have:=aO (cQ m) i;omega,i + 1,by omega,by omega,?_⟩
   simp [gK,ab,e1,<- e2,e3,e4,<- ot]
  ·have hp:=fG (hr hr1)
   have e2:=eD (p:=cQ m) (n:=i) (by simp [cQ,hr1])
   have e3 : iW m (i + 1)=.agg (ptD (fI m i))::iW m i:=by simp [iW,hr1]
   have e4 : kP m (i + 1)=.bool true::kP m i:=by simp [kP,hr1]
   have kg:=rE m (fI m i) i
   have kl:=qd m i
   have hml : maxLen=9223372036854775807:=rfl
   simp [ab]
   refine aa kpi (.inl rfl) ?_
   simp [ptD,ptS,fI] at kg hp
   simp [ptD,ptS,kg]
   refine ⟨⟨by omega,by omega⟩,?_⟩
   have hsame : ((List.range i).any fun k=>aX (spt m k) && (decide ((spt m k).x=(spt m i).x) && decide ((spt m k).y=(spt m i).y)))=bN m i:=by
    simp [bN,hr1,fI,ptS]
   rw [hsame]
   cases hs1 : bN m i
   ·have e1:=eD (p:=bN m) (n:=i) hs1
    simp [hw]
    refine ⟨by omega,⟨by omega,by omega⟩,i + 1,by omega,by omega,?_⟩
    simp [gK,ab,<- e1,<- e2,e3,e4,<- ot,ptD,fI,ptS]
   ·have e1:=iE (p:=bN m) (n:=i) hs1
    simp [hw]
    refine ⟨by have:=aO (bN m) i;omega,by omega,⟨by omega,by omega⟩,i + 1,by omega,by omega,?_⟩
    simp [gK,ab,e1,<- e2,e3,e4,<- ot,ptD,fI,ptS]
 ·have hi2 : i=m.s.length:=by omega
  subst hi2
  refine ar Nat (fun i=>Ap m i) (fun i=>i <= m.f.length) (fun i=>m.f.length - i) 0 (by simp) (by simp [cW,ab,jx,bX,b9]) ?_
  clear hi g1 kr kp ksm
  rintro i hi
  simp [cW,ab]
  refine aj (fun g1=>?_) (fun g1=>?_) <;> simp at g1 <;> simp [g1]
  ·have hw : IntKind.wrap .i64 ((i : Int) + 1)=((i + 1 : Nat) : Int):=ae (by omega) (by omega)
   have kc:=mF hC (fce m i)
   have k1:=mr hC (b:=false) (xs:=[(fce m i).a,(fce m i).b,(fce m i).c]) (g:=306) (cs:=[.ptr (aQ m),.ptr [.sl (boR (eA m m.s.length))]]) (fun k=>!(dA m.s.length k && aX (spt m k.toNat))) (by simp) (fun x _=>BF hC m x (by omega))
   simp only [ab,aI] at kc k1
   simp at k1
   simp [aI]
   refine aa kc (.inl rfl) ?_
   simp [bV]
   obtain ⟨v,hv⟩ : ∃ v,v=(!dA m.s.length (fce m i).a || !aX (spt m (fce m i).a.toNat) || (!dA m.s.length (fce m i).b || !aX (spt m (fce m i).b.toNat) || (!dA m.s.length (fce m i).c || !aX (spt m (fce m i).c.toNat)))):=⟨_,rfl⟩
   rw [<- hv] at k1
   refine aa k1 (.inl rfl) ?_
   have E : di m i=!(okF m (fce m i)):=rfl
   have E2 : okF m (fce m i)=(okc m (fce m i).a (fce m i).b && okc m (fce m i).b (fce m i).c && okc m (fce m i).c (fce m i).a && decide (0 <= (fce m i).k) && decide ((fce m i).k < 16)):=rfl
   have E3 : ∀ a b : Int,okc m a b=(dA m.s.length a && decide (a ≠ b) && aX (spt m a.toNat)):=fun a b=>rfl
   have bad : di m i=true -> nmR (fil (di m) i)++[[D.int .i64 i]]=nmR (fil (di m) (i + 1)) /\ nmR (fil (ce m) i)=nmR (fil (ce m) (i + 1)) /\ nmR (fil (bL m) i)=nmR (fil (bL m) (i + 1)) /\ nmR (fil (aV m) i)=nmR (fil (aV m) (i + 1)) /\ fil (aF m) (i + 1)=fil (aF m) i /\ bX m (i + 1)=bX m i /\ b9 m (i + 1)=b9 m i:=fun h=>by
    have h0 : okF m (fce m i)=false:=by rw [E] at h;simpa using h
    have h1 : aF m i=false:=by simp [aF,h0]
    exact ⟨iE h,eD (by simp [ce,h0]),eD (by simp [bL,h1]),eD (by simp [aV,h1]),ky h1,by simp [bX,h1],by simp [b9,h1]⟩
   cases v
   rotate_left
   ·obtain ⟨e1,e2,e3,e4,e5,e6,e7⟩:=bad (by
     rw [E,E2,E3,E3,E3]
     revert hv
     cases dA m.s.length (fce m i).a <;> cases aX (spt m (fce m i).a.toNat) <;> cases dA m.s.length (fce m i).b <;> cases aX (spt m (fce m i).b.toNat) <;> cases dA m.s.length (fce m i).c <;> cases aX (spt m (fce m i).c.toNat) <;> simp)
    simp [hw]
    refine ⟨by have:=aO (di m) i;omega,i + 1,by omega,by omega,?_⟩
    simp [cW,ab,e1,<- e2,<- e3,<- e4,e5,e6,e7]
   by_cases c1 : (fce m i).a=(fce m i).b
   ·obtain ⟨e1,e2,e3,e4,e5,e6,e7⟩:=bad (by
     rw [E,E2,E3,E3,E3]
     rw [decide_eq_false (show ¬ (fce m i).a ≠ (fce m i).b by omega)];simp)
    simp [c1,hw]
    refine ⟨by have:=aO (di m) i;omega,i + 1,by omega,by omega,?_⟩
    simp [cW,ab,e1,<- e2,<- e3,<- e4,e5,e6,e7]
   by_cases c2 : (fce m i).b=(fce m i).c
   ·obtain ⟨e1,e2,e3,e4,e5,e6,e7⟩:=bad (by
     rw [E,E2,E3,E3,E3]
     rw [decide_eq_false (show ¬ (fce m i).b ≠ (fce m i).c by omega)];simp)
    simp [(show ¬ (fce m i).a=(fce m i).c by rw [<- c2];exact c1),c2,hw]
    refine ⟨by have:=aO (di m) i;omega,i + 1,by omega,by omega,?_⟩
    simp [cW,ab,e1,<- e2,<- e3,<- e4,e5,e6,e7]
   by_cases c3 : (fce m i).c=(fce m i).a
   ·obtain ⟨e1,e2,e3,e4,e5,e6,e7⟩:=bad (by
     rw [E,E2,E3,E3,E3]
     rw [decide_eq_false (show ¬ (fce m i).c ≠ (fce m i).a by omega)];simp)
    simp [c1,c2,hw]
    refine aj (fun _=>?_) (fun h=>by simp [c3] at h)
    simp [hw]
    refine ⟨by have:=aO (di m) i;omega,i + 1,by omega,by omega,?_⟩
    simp [cW,ab,e1,<- e2,<- e3,<- e4,e5,e6,e7]
   have c3' : ¬ (fce m i).a=(fce m i).c:=fun h=>c3 h.symm
   by_cases c4 : (fce m i).k < 0
   ·obtain ⟨e1,e2,e3,e4,e5,e6,e7⟩:=bad (by
     rw [E,E2,E3,E3,E3]
     rw [decide_eq_false (show ¬ 0 <= (fce m i).k by omega)];simp)
    simp [c1,c2,c3,c3',c4,hw]
    refine ⟨by have:=aO (di m) i;omega,i + 1,by omega,by omega,?_⟩
    simp [cW,ab,e1,<- e2,<- e3,<- e4,e5,e6,e7]
   by_cases c5 : 16 <= (fce m i).k
   ·obtain ⟨e1,e2,e3,e4,e5,e6,e7⟩:=bad (by
     rw [E,E2,E3,E3,E3]
     rw [decide_eq_false (show ¬ (fce m i).k < 16 by omega)];simp)
    simp [c1,c2,c3,c3',c4,c5,hw]
    refine ⟨by have:=aO (di m) i;omega,i + 1,by omega,by omega,?_⟩
    simp [cW,ab,e1,<- e2,<- e3,<- e4,e5,e6,e7]
   have ok : okF m (fce m i)=true:=by
    rw [E2,E3,E3,E3]
    simp only [x0a,x0g]
    have h:=hv.symm
    simp only [Bool.or_eq_false_iff,Bool.not_eq_false'] at h
    exact ⟨⟨⟨⟨⟨⟨h.1.1,c1⟩,h.1.2⟩,⟨h.2.1.1,c2⟩,h.2.1.2⟩,⟨h.2.2.1,c3⟩,h.2.2.2⟩,by omega⟩,by omega⟩
   have nbad : di m i=false:=by rw [E,ok];rfl
   have b1:=eD nbad
   have hT:=cz ok
   have kt:=vI hC m (fce m i) (iG ok)
   have kn : C 308 [.agg (ptD (aT m (fce m i)).1),.agg (ptD (aT m (fce m i)).2.1),.agg (ptD (aT m (fce m i)).2.2)] (.int .i64 (i5 (aT m (fce m i)))) []:=by
    have h:=hT
    simp only [okT,x0a] at h
    exact oP hC h.1.1 h.1.2 h.2
   have ks:=fun k h=>oO hC (fce m i) k h
   have ks0:=ks 0 (by omega)
   have ks1:=ks 1 (by omega)
   have ks2:=ks 2 (by omega)
   have kg:=fun j=>rX m (crn (fce m i) j) (crn (fce m i) (j + 1)) i
   have kg : ∀ j,(de (bX m i) (b9 m i) (.agg [.int .i64 (crn (fce m i) j),.int .i64 (crn (fce m i) (j + 1))])).getD (.bool false)=.bool (gW m i j):=kg
   have kg0:=kg 0
   have kg1:=kg 1
   have kg2:=kg 2
   simp [c1,c2,c3,c3',c4,c5]
   simp only [ab,aI] at kt
   refine aa kt (.inl rfl) ?_
   simp [cd]
   simp only [ptD] at kn
   refine aa kn (.inl rfl) ?_
   simp
   refine aj (fun d1=>?_) (fun d1=>?_) <;> simp at d1
   ·have hfl : ce m i=true:=by simp [ce,ok,d1]
    have hsn : aF m i=false:=by simp [aF,ok];omega
    have e1:=iE hfl
    have e2:=eD (p:=bL m) (n:=i) (by simp [bL,hsn])
    have e3:=eD (p:=aV m) (n:=i) (by simp [aV,hsn])
    have e5:=ky hsn
    have e6 : bX m (i + 1)=bX m i:=by simp [bX,hsn]
    have e7 : b9 m (i + 1)=b9 m i:=by simp [b9,hsn]
    simp [d1,hw]
    refine ⟨by have:=aO (ce m) i;omega,i + 1,by omega,by omega,?_⟩
    simp [cW,ab,e1,<- e2,<- e3,<- b1,e5,e6,e7]
   ·have hfl : ce m i=false:=by simp [ce,ok];omega
    have hsn : aF m i=true:=by simp [aF,ok,d1]
    have b2:=eD hfl
    have hsd:=wB hsn
    simp only [aI] at ks ks0 ks1 ks2
    simp at ks0 ks1 ks2 kg0 kg1 kg2
    simp [x0X.2 d1]
    refine aa ks0 (.inl rfl) ?_
    simp [kg0]
    have cb:=fun j=>qL (iG ok) j
    have cb0:=cb 0
    have cb1:=cb 1
    have cb2:=cb 2
    have cb3:=cb 3
    refine ⟨⟨by omega,by omega⟩,?_⟩
    have yes : bL m i=true -> nmR (fil (bL m) i)++[[D.int .i64 i]]=nmR (fil (bL m) (i + 1)):=iE
    have nos : bL m i=false -> nmR (fil (bL m) i)=nmR (fil (bL m) (i + 1)):=eD
    have lsd:=aO (bL m) i
    have kT:=cR hC (b:=false) (xs:=(fil (aF m) i).map fun k=>aT m (fce m k)) (g:=310) (cs:=[.ptr (cd (aT m (fce m i)))]) (fun o=>ovT (aT m (fce m i)) o) (by have:=aO (aF m) i;simp;omega) (fun x hx=>by
     obtain ⟨k,hk,rfl⟩:=x0s.1 hx
     have hk:=(dM hk).2
     simp only [aF,x0a] at hk
     exact ez hC hT (cz hk.1))
    rw [<- eH,x1u] at kT
    have hov : (fil (aF m) i).any ((fun o=>ovT (aT m (fce m i)) o) ∘ fun k=>aT m (fce m k))=aV m i:=by
     rw [fil,x0Y,aV,hsn]
     rfl
    rw [hov] at kT
    rw [cg] at kT
    have tl:=cF m i
    have hml : maxLen=9223372036854775807:=rfl
    have e5:=dx hsn
    have e6 : bX m (i + 1)=sdK (fce m i) 3++bX m i:=by simp [bX,hsn]
    have e7 : b9 m (i + 1)=.bool true::.bool true::.bool true::b9 m i:=by
     rw [b9,if_pos hsn];rfl
    have e8 : (fil (aF m) (i + 1)).length=(fil (aF m) i).length + 1:=by rw [cx hsn];simp
    have l8:=aO (aF m) i
    have lov:=aO (aV m) i
    have kT:=cR hC (b:=false) (xs:=(fil (aF m) i).map fun k=>aT m (fce m k)) (g:=310) (cs:=[.ptr (cd (aT m (fce m i)))]) (fun o=>ovT (aT m (fce m i)) o) (by have:=aO (aF m) i;simp;omega) (fun x hx=>by
     obtain ⟨k,hk,rfl⟩:=x0s.1 hx
     have hk:=(dM hk).2
     simp only [aF,x0a] at hk
     exact ez hC hT (cz hk.1))
    rw [<- eH,x1u] at kT
    have hov : (fil (aF m) i).any ((fun o=>ovT (aT m (fce m i)) o) ∘ fun k=>aT m (fce m k))=aV m i:=by
     rw [fil,x0Y,aV,hsn]
     rfl
    rw [hov] at kT
    rw [cg] at kT
    have tl:=cF m i
    have hml : maxLen=9223372036854775807:=rfl
    have e5:=dx hsn
    have e6 : bX m (i + 1)=sdK (fce m i) 3++bX m i:=by simp [bX,hsn]
    have e7 : b9 m (i + 1)=.bool true::.bool true::.bool true::b9 m i:=by
     rw [b9,if_pos hsn];rfl
    have e8 : (fil (aF m) (i + 1)).length=(fil (aF m) i).length + 1:=by rw [cx hsn];simp
    have l8:=aO (aF m) i
    have lov:=aO (aV m) i
    have kT:=cR hC (b:=false) (xs:=(fil (aF m) i).map fun k=>aT m (fce m k)) (g:=310) (cs:=[.ptr (cd (aT m (fce m i)))]) (fun o=>ovT (aT m (fce m i)) o) (by have:=aO (aF m) i;simp;omega) (fun x hx=>by
     obtain ⟨k,hk,rfl⟩:=x0s.1 hx
     have hk:=(dM hk).2
     simp only [aF,x0a] at hk
     exact ez hC hT (cz hk.1))
    rw [<- eH,x1u] at kT
    have hov : (fil (aF m) i).any ((fun o=>ovT (aT m (fce m i)) o) ∘ fun k=>aT m (fce m k))=aV m i:=by
     rw [fil,x0Y,aV,hsn]
     rfl
    rw [hov] at kT
    rw [cg] at kT
    have tl:=cF m i
    have hml : maxLen=9223372036854775807:=rfl
    have e5:=dx hsn
    have e6 : bX m (i + 1)=sdK (fce m i) 3++bX m i:=by simp [bX,hsn]
    have e7 : b9 m (i + 1)=.bool true::.bool true::.bool true::b9 m i:=by
     rw [b9,if_pos hsn];rfl
    have e8 : (fil (aF m) (i + 1)).length=(fil (aF m) i).length + 1:=by rw [cx hsn];simp
    have l8:=aO (aF m) i
    have lov:=aO (aV m) i
    have kT:=cR hC (b:=false) (xs:=(fil (aF m) i).map fun k=>aT m (fce m k)) (g:=310) (cs:=[.ptr (cd (aT m (fce m i)))]) (fun o=>ovT (aT m (fce m i)) o) (by have:=aO (aF m) i;simp;omega) (fun x hx=>by
     obtain ⟨k,hk,rfl⟩:=x0s.1 hx
     have hk:=(dM hk).2
     simp only [aF,x0a] at hk
     exact ez hC hT (cz hk.1))
    rw [<- eH,x1u] at kT
    have hov : (fil (aF m) i).any ((fun o=>ovT (aT m (fce m i)) o) ∘ fun k=>aT m (fce m k))=aV m i:=by
     rw [fil,x0Y,aV,hsn]
     rfl
    rw [hov] at kT
    rw [cg] at kT
    have tl:=cF m i
    have hml : maxLen=9223372036854775807:=rfl
    have e5:=dx hsn
    have e6 : bX m (i + 1)=sdK (fce m i) 3++bX m i:=by simp [bX,hsn]
    have e7 : b9 m (i + 1)=.bool true::.bool true::.bool true::b9 m i:=by
     rw [b9,if_pos hsn];rfl
    have e8 : (fil (aF m) (i + 1)).length=(fil (aF m) i).length + 1:=by rw [cx hsn];simp
    have l8:=aO (aF m) i
    have lov:=aO (aV m) i
    have kT:=cR hC (b:=false) (xs:=(fil (aF m) i).map fun k=>aT m (fce m k)) (g:=310) (cs:=[.ptr (cd (aT m (fce m i)))]) (fun o=>ovT (aT m (fce m i)) o) (by have:=aO (aF m) i;simp;omega) (fun x hx=>by
     obtain ⟨k,hk,rfl⟩:=x0s.1 hx
     have hk:=(dM hk).2
     simp only [aF,x0a] at hk
     exact ez hC hT (cz hk.1))
    rw [<- eH,x1u] at kT
    have hov : (fil (aF m) i).any ((fun o=>ovT (aT m (fce m i)) o) ∘ fun k=>aT m (fce m k))=aV m i:=by
     rw [fil,x0Y,aV,hsn]
     rfl
    rw [hov] at kT
    rw [cg] at kT
    have tl:=cF m i
    have hml : maxLen=9223372036854775807:=rfl
    have e5:=dx hsn
    have e6 : bX m (i + 1)=sdK (fce m i) 3++bX m i:=by simp [bX,hsn]
    have e7 : b9 m (i + 1)=.bool true::.bool true::.bool true::b9 m i:=by
     rw [b9,if_pos hsn];rfl
    have e8 : (fil (aF m) (i + 1)).length=(fil (aF m) i).length + 1:=by rw [cx hsn];simp
    have l8:=aO (aF m) i
    have lov:=aO (aV m) i
    have kT:=cR hC (b:=false) (xs:=(fil (aF m) i).map fun k=>aT m (fce m k)) (g:=310) (cs:=[.ptr (cd (aT m (fce m i)))]) (fun o=>ovT (aT m (fce m i)) o) (by have:=aO (aF m) i;simp;omega) (fun x hx=>by
     obtain ⟨k,hk,rfl⟩:=x0s.1 hx
     have hk:=(dM hk).2
     simp only [aF,x0a] at hk
     exact ez hC hT (cz hk.1))
    rw [<- eH,x1u] at kT
    have hov : (fil (aF m) i).any ((fun o=>ovT (aT m (fce m i)) o) ∘ fun k=>aT m (fce m k))=aV m i:=by
     rw [fil,x0Y,aV,hsn]
     rfl
    rw [hov] at kT
    rw [cg] at kT
    have tl:=cF m i
    have hml : maxLen=9223372036854775807:=rfl
    have e5:=dx hsn
    have e6 : bX m (i + 1)=sdK (fce m i) 3++bX m i:=by simp [bX,hsn]
    have e7 : b9 m (i + 1)=.bool true::.bool true::.bool true::b9 m i:=by
     rw [b9,if_pos hsn];rfl
    have e8 : (fil (aF m) (i + 1)).length=(fil (aF m) i).length + 1:=by rw [cx hsn];simp
    have l8:=aO (aF m) i
    have lov:=aO (aV m) i
    have kT:=cR hC (b:=false) (xs:=(fil (aF m) i).map fun k=>aT m (fce m k)) (g:=310) (cs:=[.ptr (cd (aT m (fce m i)))]) (fun o=>ovT (aT m (fce m i)) o) (by have:=aO (aF m) i;simp;omega) (fun x hx=>by
     obtain ⟨k,hk,rfl⟩:=x0s.1 hx
     have hk:=(dM hk).2
     simp only [aF,x0a] at hk
     exact ez hC hT (cz hk.1))
    rw [<- eH,x1u] at kT
    have hov : (fil (aF m) i).any ((fun o=>ovT (aT m (fce m i)) o) ∘ fun k=>aT m (fce m k))=aV m i:=by
     rw [fil,x0Y,aV,hsn]
     rfl
    rw [hov] at kT
    rw [cg] at kT
    have tl:=cF m i
    have hml : maxLen=9223372036854775807:=rfl
    have e5:=dx hsn
    have e6 : bX m (i + 1)=sdK (fce m i) 3++bX m i:=by simp [bX,hsn]
    have e7 : b9 m (i + 1)=.bool true::.bool true::.bool true::b9 m i:=by
     rw [b9,if_pos hsn];rfl
    have e8 : (fil (aF m) (i + 1)).length=(fil (aF m) i).length + 1:=by rw [cx hsn];simp
    have l8:=aO (aF m) i
    have lov:=aO (aV m) i
    have kT:=cR hC (b:=false) (xs:=(fil (aF m) i).map fun k=>aT m (fce m k)) (g:=310) (cs:=[.ptr (cd (aT m (fce m i)))]) (fun o=>ovT (aT m (fce m i)) o) (by have:=aO (aF m) i;simp;omega) (fun x hx=>by
     obtain ⟨k,hk,rfl⟩:=x0s.1 hx
     have hk:=(dM hk).2
     simp only [aF,x0a] at hk
     exact ez hC hT (cz hk.1))
    rw [<- eH,x1u] at kT
    have hov : (fil (aF m) i).any ((fun o=>ovT (aT m (fce m i)) o) ∘ fun k=>aT m (fce m k))=aV m i:=by
     rw [fil,x0Y,aV,hsn]
     rfl
    rw [hov] at kT
    rw [cg] at kT
    have tl:=cF m i
    have hml : maxLen=9223372036854775807:=rfl
    have e5:=dx hsn
    have e6 : bX m (i + 1)=sdK (fce m i) 3++bX m i:=by simp [bX,hsn]
    have e7 : b9 m (i + 1)=.bool true::.bool true::.bool true::b9 m i:=by
     rw [b9,if_pos hsn];rfl
    have e8 : (fil (aF m) (i + 1)).length=(fil (aF m) i).length + 1:=by rw [cx hsn];simp
    have l8:=aO (aF m) i
    have lov:=aO (aV m) i
    have kT:=cR hC (b:=false) (xs:=(fil (aF m) i).map fun k=>aT m (fce m k)) (g:=310) (cs:=[.ptr (cd (aT m (fce m i)))]) (fun o=>ovT (aT m (fce m i)) o) (by have:=aO (aF m) i;simp;omega) (fun x hx=>by
     obtain ⟨k,hk,rfl⟩:=x0s.1 hx
     have hk:=(dM hk).2
     simp only [aF,x0a] at hk
     exact ez hC hT (cz hk.1))
    rw [<- eH,x1u] at kT
    have hov : (fil (aF m) i).any ((fun o=>ovT (aT m (fce m i)) o) ∘ fun k=>aT m (fce m k))=aV m i:=by
     rw [fil,x0Y,aV,hsn]
     rfl
    rw [hov] at kT
    rw [cg] at kT
    have tl:=cF m i
    have hml : maxLen=9223372036854775807:=rfl
    have e5:=dx hsn
    have e6 : bX m (i + 1)=sdK (fce m i) 3++bX m i:=by simp [bX,hsn]
    have e7 : b9 m (i + 1)=.bool true::.bool true::.bool true::b9 m i:=by
     rw [b9,if_pos hsn];rfl
    have e8 : (fil (aF m) (i + 1)).length=(fil (aF m) i).length + 1:=by rw [cx hsn];simp
    have l8:=aO (aF m) i
    have lov:=aO (aV m) i
    have kT:=cR hC (b:=false) (xs:=(fil (aF m) i).map fun k=>aT m (fce m k)) (g:=310) (cs:=[.ptr (cd (aT m (fce m i)))]) (fun o=>ovT (aT m (fce m i)) o) (by have:=aO (aF m) i;simp;omega) (fun x hx=>by
     obtain ⟨k,hk,rfl⟩:=x0s.1 hx
     have hk:=(dM hk).2
     simp only [aF,x0a] at hk
     exact ez hC hT (cz hk.1))
    rw [<- eH,x1u] at kT
    have hov : (fil (aF m) i).any ((fun o=>ovT (aT m (fce m i)) o) ∘ fun k=>aT m (fce m k))=aV m i:=by
     rw [fil,x0Y,aV,hsn]
     rfl
    rw [hov] at kT
    rw [cg] at kT
    have tl:=cF m i
    have hml : maxLen=9223372036854775807:=rfl
    have e5:=dx hsn
    have e6 : bX m (i + 1)=sdK (fce m i) 3++bX m i:=by simp [bX,hsn]
    have e7 : b9 m (i + 1)=.bool true::.bool true::.bool true::b9 m i:=by
     rw [b9,if_pos hsn];rfl
    have e8 : (fil (aF m) (i + 1)).length=(fil (aF m) i).length + 1:=by rw [cx hsn];simp
    have l8:=aO (aF m) i
    have lov:=aO (aV m) i
    have kT:=cR hC (b:=false) (xs:=(fil (aF m) i).map fun k=>aT m (fce m k)) (g:=310) (cs:=[.ptr (cd (aT m (fce m i)))]) (fun o=>ovT (aT m (fce m i)) o) (by have:=aO (aF m) i;simp;omega) (fun x hx=>by
     obtain ⟨k,hk,rfl⟩:=x0s.1 hx
     have hk:=(dM hk).2
     simp only [aF,x0a] at hk
     exact ez hC hT (cz hk.1))
    rw [<- eH,x1u] at kT
    have hov : (fil (aF m) i).any ((fun o=>ovT (aT m (fce m i)) o) ∘ fun k=>aT m (fce m k))=aV m i:=by
     rw [fil,x0Y,aV,hsn]
     rfl
    rw [hov] at kT
    rw [cg] at kT
    have tl:=cF m i
    have hml : maxLen=9223372036854775807:=rfl
    have e5:=dx hsn
    have e6 : bX m (i + 1)=sdK (fce m i) 3++bX m i:=by simp [bX,hsn]
    have e7 : b9 m (i + 1)=.bool true::.bool true::.bool true::b9 m i:=by
     rw [b9,if_pos hsn];rfl
    have e8 : (fil (aF m) (i + 1)).length=(fil (aF m) i).length + 1:=by rw [cx hsn];simp
    have l8:=aO (aF m) i
    have lov:=aO (aV m) i
    have kT:=cR hC (b:=false) (xs:=(fil (aF m) i).map fun k=>aT m (fce m k)) (g:=310) (cs:=[.ptr (cd (aT m (fce m i)))]) (fun o=>ovT (aT m (fce m i)) o) (by have:=aO (aF m) i;simp;omega) (fun x hx=>by
     obtain ⟨k,hk,rfl⟩:=x0s.1 hx
     have hk:=(dM hk).2
     simp only [aF,x0a] at hk
     exact ez hC hT (cz hk.1))
    rw [<- eH,x1u] at kT
    have hov : (fil (aF m) i).any ((fun o=>ovT (aT m (fce m i)) o) ∘ fun k=>aT m (fce m k))=aV m i:=by
     rw [fil,x0Y,aV,hsn]
     rfl
    rw [hov] at kT
    rw [cg] at kT
    have tl:=cF m i
    have hml : maxLen=9223372036854775807:=rfl
    have e5:=dx hsn
    have e6 : bX m (i + 1)=sdK (fce m i) 3++bX m i:=by simp [bX,hsn]
    have e7 : b9 m (i + 1)=.bool true::.bool true::.bool true::b9 m i:=by
     rw [b9,if_pos hsn];rfl
    have e8 : (fil (aF m) (i + 1)).length=(fil (aF m) i).length + 1:=by rw [cx hsn];simp
    have l8:=aO (aF m) i
    have lov:=aO (aV m) i
    rcases (by cases gW m i 0 <;> cases gW m i 1 <;> cases gW m i 2 <;> simp : gW m i 0=true \/ (gW m i 0=false /\ gW m i 1=true) \/ (gW m i 0=false /\ gW m i 1=false /\ gW m i 2=true) \/ (gW m i 0=false /\ gW m i 1=false /\ gW m i 2=false)) with h0 | ⟨h0,h1⟩ | ⟨h0,h1,h2⟩ | ⟨h0,h1,h2⟩
    have y:=yes (by rw [hsd,h0];rfl)
    simp [h0]
    refine ⟨by omega,?_⟩
    rw [y]
    refine ar Nat (fun k=>pC m i k) (fun k=>k <= 3) (fun k=>3 - k) 0 (by simp) (by simp [fM,ab,aI,cd,sdK]) ?_
    rotate_left
    have y:=yes (by rw [hsd,h0,h1];rfl)
    simp [h0]
    refine aa ks1 (.inl rfl) ?_
    simp [kg1,h1]
    refine ⟨⟨by omega,by omega⟩,by omega,?_⟩
    rw [y]
    refine ar Nat (fun k=>pC m i k) (fun k=>k <= 3) (fun k=>3 - k) 0 (by simp) (by simp [fM,ab,aI,cd,sdK]) ?_
    rotate_left
    have y:=yes (by rw [hsd,h0,h1,h2];rfl)
    simp [h0]
    refine aa ks1 (.inl rfl) ?_
    simp [kg1,h1]
    refine ⟨⟨by omega,by omega⟩,?_⟩
    refine aa ks2 (.inl rfl) ?_
    simp [kg2,h2]
    refine ⟨⟨by omega,by omega⟩,by omega,?_⟩
    rw [y]
    refine ar Nat (fun k=>pC m i k) (fun k=>k <= 3) (fun k=>3 - k) 0 (by simp) (by simp [fM,ab,aI,cd,sdK]) ?_
    rotate_left
    have y:=nos (by rw [hsd,h0,h1,h2];rfl)
    simp [h0]
    refine aa ks1 (.inl rfl) ?_
    simp [kg1,h1]
    refine ⟨⟨by omega,by omega⟩,?_⟩
    refine aa ks2 (.inl rfl) ?_
    simp [kg2,h2]
    refine ⟨⟨by omega,by omega⟩,?_⟩
    rw [y]
    refine ar Nat (fun k=>pC m i k) (fun k=>k <= 3) (fun k=>3 - k) 0 (by simp) (by simp [fM,ab,aI,cd,sdK]) ?_
    rotate_left
    all_goals
     clear y
     rintro k hk
     simp [fM,ab,aI,cd]
     refine aj (fun g2=>?_) (fun g2=>?_) <;> simp at g2 <;> simp [g2]
     ·have hw2 : IntKind.wrap .i64 ((k : Int) + 1)=((k + 1 : Nat) : Int):=ae (by omega) (by omega)
      have ck:=cb k
      have ck1:=cb (k + 1)
      refine aa (ks k (by omega)) (.inl rfl) ?_
      simp [hw2,jW]
      refine ⟨by omega,⟨⟨by omega,by omega⟩,by omega,by omega⟩,k + 1,by omega,by omega,?_⟩
      simp [fM,ab,aI,cd,sdK,List.replicate_succ]
     ·have hk3 : k=3:=by omega
      subst hk3
      simp only [cd] at kT
      simp
      refine aa kT (.inl rfl) ?_
      simp
      simp only [cd] at e5
      cases hov2 : aV m i
      ·have e9:=eD hov2
       simp [hw]
       refine ⟨by omega,i + 1,by omega,by omega,?_⟩
       simp [cW,ab,<- b1,<- b2,<- e9,e5,e6,e7,e8]
      ·have e9:=iE hov2
       simp [hw]
       refine ⟨by omega,by omega,i + 1,by omega,by omega,?_⟩
       simp [cW,ab,<- b1,<- b2,e9,e5,e6,e7,e8]
  ·have hi2 : i=m.f.length:=by omega
   subst hi2
   have bd : ∀ (p : Nat -> Bool) (n : Nat),n <= 100 -> (fil p n).length <= 100 /\ ∀ x ∈ fil p n,x < 100:=fun p n hn=>⟨by have:=aO p n;omega,fun x hx=>by have:=(dM hx).1;omega⟩
   have q1:=bd (cQ m) _ hs
   have q2:=bd (bN m) _ hs
   have q3:=bd (di m) _ hf
   have q4:=bd (ce m) _ hf
   have q5:=bd (bL m) _ hf
   have q6:=bd (aV m) _ hf
   have hLL : LL m=[[],fil (cQ m) m.s.length,fil (bN m) m.s.length,fil (di m) m.f.length,fil (ce m) m.f.length,fil (bL m) m.f.length,fil (aV m) m.f.length]:=rfl
   rw [hLL]
   clear hLL bd
   generalize fil (cQ m) m.s.length=L1 at *
   generalize fil (bN m) m.s.length=L2 at *
   generalize fil (di m) m.f.length=L3 at *
   generalize fil (ce m) m.f.length=L4 at *
   generalize fil (bL m) m.f.length=L5 at *
   generalize fil (aV m) m.f.length=L6 at *
   obtain ⟨AG,hAG⟩ : ∃ x,x=G9 L1 L2 L3 L4 L5 L6:=⟨_,rfl⟩
   obtain ⟨BK,hBK⟩ : ∃ x,x=Hj L1 L2 L3 L4 L5 L6:=⟨_,rfl⟩
   obtain ⟨U,hU⟩ : ∃ U : Nat -> List (Int × List UInt8),U=fun k=>cp dec 0 (([([] : List Nat),L1,L2,L3,L4,L5,L6]).take k):=⟨_,rfl⟩
   have hU7 : U 7=cp dec 0 [[],L1,L2,L3,L4,L5,L6]:=by rw [hU];rfl
   have hU0 : U 0=[]:=by rw [hU];rfl
   have bdU : ∀ k (L : List Nat),L.length <= 100 -> (U k).length <= 100 * k -> (U k++L.map fun i=>((k : Int),dec i)).length <= 100 * (k + 1):=fun k L h1 h2=>by simp;omega
   have hU0s : U 1=U 0++(([] : List Nat)).map fun i=>((0 : Int),dec i):=by
    rw [hU];show cp dec 0 (([([] : List Nat),L1,L2,L3,L4,L5,L6]).take 0++[([] : List Nat)])=_
    rw [cq];simp [cp]
   have hU1s : U 2=U 1++(L1).map fun i=>((1 : Int),dec i):=by
    rw [hU];show cp dec 0 (([([] : List Nat),L1,L2,L3,L4,L5,L6]).take 1++[L1])=_
    rw [cq];simp [cp]
   have hU2s : U 3=U 2++(L2).map fun i=>((2 : Int),dec i):=by
    rw [hU];show cp dec 0 (([([] : List Nat),L1,L2,L3,L4,L5,L6]).take 2++[L2])=_
    rw [cq];simp [cp]
   have hU3s : U 4=U 3++(L3).map fun i=>((3 : Int),dec i):=by
    rw [hU];show cp dec 0 (([([] : List Nat),L1,L2,L3,L4,L5,L6]).take 3++[L3])=_
    rw [cq];simp [cp]
   have hU4s : U 5=U 4++(L4).map fun i=>((4 : Int),dec i):=by
    rw [hU];show cp dec 0 (([([] : List Nat),L1,L2,L3,L4,L5,L6]).take 4++[L4])=_
    rw [cq];simp [cp]
   have hU5s : U 6=U 5++(L5).map fun i=>((5 : Int),dec i):=by
    rw [hU];show cp dec 0 (([([] : List Nat),L1,L2,L3,L4,L5,L6]).take 5++[L5])=_
    rw [cq];simp [cp]
   have hU6s : U 7=U 6++(L6).map fun i=>((6 : Int),dec i):=by
    rw [hU];show cp dec 0 (([([] : List Nat),L1,L2,L3,L4,L5,L6]).take 6++[L6])=_
    rw [cq];simp [cp]
   have lU0 : (U 0).length <= 0:=by rw [hU0];simp
   have lU1 : (U 1).length <= 100:=by rw [hU0s];simp;omega
   have lU2 : (U 2).length <= 200:=by rw [hU1s];simp;omega
   have lU3 : (U 3).length <= 300:=by rw [hU2s];simp;omega
   have lU4 : (U 4).length <= 400:=by rw [hU3s];simp;omega
   have lU5 : (U 5).length <= 500:=by rw [hU4s];simp;omega
   have lU6 : (U 6).length <= 600:=by rw [hU5s];simp;omega
   rw [<- hU7]
   refine ar Nat (fun k=>[(17,.ref (.r 10272) 0 (U k).length),(10272,.blk 2 (fnR (U k))),(181,AG),(182,.int .i64 k),(10064,BK)]) (fun k=>k <= 7) (fun k=>7 - k) 0 (by simp) (by simp [hU0,hAG,hBK,aP,a7]) ?_
   rintro k hk
   rcases (by omega : k=0 \/ k=1 \/ k=2 \/ k=3 \/ k=4 \/ k=5 \/ k=6 \/ k=7) with rfl | rfl | rfl | rfl | rfl | rfl | rfl | rfl
   ·simp [hAG,aP]
    refine ar Nat (fun j=>[(17,.ref (.r 10272) 0 ((U 0).length + j)),(10272,.blk 2 (fnR (U 0++tkD dec 0 ([] : List Nat) j))),(18,.int .i64 0),(181,AG),(182,.int .i64 0),(186,.ref (.n 10064 0 0) 0 (([] : List Nat)).length),(187,.int .i64 (([] : List Nat)).length),(188,.int .i64 j),(10064,BK)]) (fun j=>j <= (([] : List Nat)).length) (fun j=>(([] : List Nat)).length - j) 0 (by simp) (by simp [hAG,hBK,aP,a7,fg]) ?_
    rintro j hj
    simp [hAG,hBK,aP,a7]
    have hj0 : j=0:=by simpa using hj
    subst hj0
    simp [az,hAG,hBK,aP,a7]
    refine ⟨1,by omega,by omega,?_⟩
    rw [hU0s]
    simp [tkD]
   ·simp [hAG,aP]
    refine ar Nat (fun j=>[(17,.ref (.r 10272) 0 ((U 1).length + j)),(10272,.blk 2 (fnR (U 1++tkD dec 1 L1 j))),(18,.int .i64 1),(181,AG),(182,.int .i64 1),(186,.ref (.n 10064 0 1) 0 (L1).length),(187,.int .i64 (L1).length),(188,.int .i64 j),(10064,BK)]) (fun j=>j <= (L1).length) (fun j=>(L1).length - j) 0 (by simp) (by simp [hAG,hBK,aP,a7,fg]) ?_
    rintro j hj
    simp [hAG,hBK,aP,a7]
    refine aj (fun g3=>?_) (fun g3=>?_) <;> simp at g3 <;> simp [g3,hAG,hBK,aP,a7]
    ·have hj2 : j < L1.length:=by omega
     have hw3 : IntKind.wrap .i64 ((j : Int) + 1)=((j + 1 : Nat) : Int):=ae (by omega) (by omega)
     have hi:=hI (L1[j]) (q1.2 _ (x0u hj2))
     have ht:=fZ dec 1 L1 hj2
     have hl:=iS dec 1 L1 (Nat.le_of_lt hj2)
     rw [eC L1]
     try simp [hj2]
     refine aa hi (.inl rfl) ?_
     simp
     refine ⟨by omega,by omega,j + 1,by omega,by omega,by omega,?_,?_,hw3,?_⟩
     ·have e : (U 1).length + j=(U 1++tkD dec 1 L1 j).length:=by simp [hl]
      rw [e,fQ,gf,ht,x01]
     ·rw [hAG,aP]
     ·rw [hBK,a7];simp only [eC]
    ·have hj2 : j=L1.length:=by omega
     subst hj2
     refine ⟨2,by omega,by omega,?_⟩
     rw [hU1s,iR]
     simp [hAG,hBK,aP,a7]
     decide
   ·simp [hAG,aP]
    refine ar Nat (fun j=>[(17,.ref (.r 10272) 0 ((U 2).length + j)),(10272,.blk 2 (fnR (U 2++tkD dec 2 L2 j))),(18,.int .i64 2),(181,AG),(182,.int .i64 2),(186,.ref (.n 10064 0 2) 0 (L2).length),(187,.int .i64 (L2).length),(188,.int .i64 j),(10064,BK)]) (fun j=>j <= (L2).length) (fun j=>(L2).length - j) 0 (by simp) (by simp [hAG,hBK,aP,a7,fg]) ?_
    rintro j hj
    simp [hAG,hBK,aP,a7]
    refine aj (fun g3=>?_) (fun g3=>?_) <;> simp at g3 <;> simp [g3,hAG,hBK,aP,a7]
    ·have hj2 : j < L2.length:=by omega
     have hw3 : IntKind.wrap .i64 ((j : Int) + 1)=((j + 1 : Nat) : Int):=ae (by omega) (by omega)
     have hi:=hI (L2[j]) (q2.2 _ (x0u hj2))
     have ht:=fZ dec 2 L2 hj2
     have hl:=iS dec 2 L2 (Nat.le_of_lt hj2)
     rw [eC L2]
     try simp [hj2]
     refine aa hi (.inl rfl) ?_
     simp
     refine ⟨by omega,by omega,j + 1,by omega,by omega,by omega,?_,?_,hw3,?_⟩
     ·have e : (U 2).length + j=(U 2++tkD dec 2 L2 j).length:=by simp [hl]
      rw [e,fQ,gf,ht,x01]
     ·rw [hAG,aP]
     ·rw [hBK,a7];simp only [eC]
    ·have hj2 : j=L2.length:=by omega
     subst hj2
     refine ⟨3,by omega,by omega,?_⟩
     rw [hU2s,iR]
     simp [hAG,hBK,aP,a7]
     decide
   ·simp [hAG,aP]
    refine ar Nat (fun j=>[(17,.ref (.r 10272) 0 ((U 3).length + j)),(10272,.blk 2 (fnR (U 3++tkD dec 3 L3 j))),(18,.int .i64 3),(181,AG),(182,.int .i64 3),(186,.ref (.n 10064 0 3) 0 (L3).length),(187,.int .i64 (L3).length),(188,.int .i64 j),(10064,BK)]) (fun j=>j <= (L3).length) (fun j=>(L3).length - j) 0 (by simp) (by simp [hAG,hBK,aP,a7,fg]) ?_
    rintro j hj
    simp [hAG,hBK,aP,a7]
    refine aj (fun g3=>?_) (fun g3=>?_) <;> simp at g3 <;> simp [g3,hAG,hBK,aP,a7]
    ·have hj2 : j < L3.length:=by omega
     have hw3 : IntKind.wrap .i64 ((j : Int) + 1)=((j + 1 : Nat) : Int):=ae (by omega) (by omega)
     have hi:=hI (L3[j]) (q3.2 _ (x0u hj2))
     have ht:=fZ dec 3 L3 hj2
     have hl:=iS dec 3 L3 (Nat.le_of_lt hj2)
     rw [eC L3]
     try simp [hj2]
     refine aa hi (.inl rfl) ?_
     simp
     refine ⟨by omega,by omega,j + 1,by omega,by omega,by omega,?_,?_,hw3,?_⟩
     ·have e : (U 3).length + j=(U 3++tkD dec 3 L3 j).length:=by simp [hl]
      rw [e,fQ,gf,ht,x01]
     ·rw [hAG,aP]
     ·rw [hBK,a7];simp only [eC]
    ·have hj2 : j=L3.length:=by omega
     subst hj2
     refine ⟨4,by omega,by omega,?_⟩
     rw [hU3s,iR]
     simp [hAG,hBK,aP,a7]
     decide
   ·simp [hAG,aP]
    refine ar Nat (fun j=>[(17,.ref (.r 10272) 0 ((U 4).length + j)),(10272,.blk 2 (fnR (U 4++tkD dec 4 L4 j))),(18,.int .i64 4),(181,AG),(182,.int .i64 4),(186,.ref (.n 10064 0 4) 0 (L4).length),(187,.int .i64 (L4).length),(188,.int .i64 j),(10064,BK)]) (fun j=>j <= (L4).length) (fun j=>(L4).length - j) 0 (by simp) (by simp [hAG,hBK,aP,a7,fg]) ?_
    rintro j hj
    simp [hAG,hBK,aP,a7]
    refine aj (fun g3=>?_) (fun g3=>?_) <;> simp at g3 <;> simp [g3,hAG,hBK,aP,a7]
    ·have hj2 : j < L4.length:=by omega
     have hw3 : IntKind.wrap .i64 ((j : Int) + 1)=((j + 1 : Nat) : Int):=ae (by omega) (by omega)
     have hi:=hI (L4[j]) (q4.2 _ (x0u hj2))
     have ht:=fZ dec 4 L4 hj2
     have hl:=iS dec 4 L4 (Nat.le_of_lt hj2)
     rw [eC L4]
     try simp [hj2]
     refine aa hi (.inl rfl) ?_
     simp
     refine ⟨by omega,by omega,j + 1,by omega,by omega,by omega,?_,?_,hw3,?_⟩
     ·have e : (U 4).length + j=(U 4++tkD dec 4 L4 j).length:=by simp [hl]
      rw [e,fQ,gf,ht,x01]
     ·rw [hAG,aP]
     ·rw [hBK,a7];simp only [eC]
    ·have hj2 : j=L4.length:=by omega
     subst hj2
     refine ⟨5,by omega,by omega,?_⟩
     rw [hU4s,iR]
     simp [hAG,hBK,aP,a7]
     decide
   ·simp [hAG,aP]
    refine ar Nat (fun j=>[(17,.ref (.r 10272) 0 ((U 5).length + j)),(10272,.blk 2 (fnR (U 5++tkD dec 5 L5 j))),(18,.int .i64 5),(181,AG),(182,.int .i64 5),(186,.ref (.n 10064 0 5) 0 (L5).length),(187,.int .i64 (L5).length),(188,.int .i64 j),(10064,BK)]) (fun j=>j <= (L5).length) (fun j=>(L5).length - j) 0 (by simp) (by simp [hAG,hBK,aP,a7,fg]) ?_
    rintro j hj
    simp [hAG,hBK,aP,a7]
    refine aj (fun g3=>?_) (fun g3=>?_) <;> simp at g3 <;> simp [g3,hAG,hBK,aP,a7]
    ·have hj2 : j < L5.length:=by omega
     have hw3 : IntKind.wrap .i64 ((j : Int) + 1)=((j + 1 : Nat) : Int):=ae (by omega) (by omega)
     have hi:=hI (L5[j]) (q5.2 _ (x0u hj2))
     have ht:=fZ dec 5 L5 hj2
     have hl:=iS dec 5 L5 (Nat.le_of_lt hj2)
     rw [eC L5]
     try simp [hj2]
     refine aa hi (.inl rfl) ?_
     simp
     refine ⟨by omega,by omega,j + 1,by omega,by omega,by omega,?_,?_,hw3,?_⟩
     ·have e : (U 5).length + j=(U 5++tkD dec 5 L5 j).length:=by simp [hl]
      rw [e,fQ,gf,ht,x01]
     ·rw [hAG,aP]
     ·rw [hBK,a7];simp only [eC]
    ·have hj2 : j=L5.length:=by omega
     subst hj2
     refine ⟨6,by omega,by omega,?_⟩
     rw [hU5s,iR]
     simp [hAG,hBK,aP,a7]
     decide
   ·simp [hAG,aP]
    refine ar Nat (fun j=>[(17,.ref (.r 10272) 0 ((U 6).length + j)),(10272,.blk 2 (fnR (U 6++tkD dec 6 L6 j))),(18,.int .i64 6),(181,AG),(182,.int .i64 6),(186,.ref (.n 10064 0 6) 0 (L6).length),(187,.int .i64 (L6).length),(188,.int .i64 j),(10064,BK)]) (fun j=>j <= (L6).length) (fun j=>(L6).length - j) 0 (by simp) (by simp [hAG,hBK,aP,a7,fg]) ?_
    rintro j hj
    simp [hAG,hBK,aP,a7]
    refine aj (fun g3=>?_) (fun g3=>?_) <;> simp at g3 <;> simp [g3,hAG,hBK,aP,a7]
    ·have hj2 : j < L6.length:=by omega
     have hw3 : IntKind.wrap .i64 ((j : Int) + 1)=((j + 1 : Nat) : Int):=ae (by omega) (by omega)
     have hi:=hI (L6[j]) (q6.2 _ (x0u hj2))
     have ht:=fZ dec 6 L6 hj2
     have hl:=iS dec 6 L6 (Nat.le_of_lt hj2)
     rw [eC L6]
     try simp [hj2]
     refine aa hi (.inl rfl) ?_
     simp
     refine ⟨by omega,by omega,j + 1,by omega,by omega,by omega,?_,?_,hw3,?_⟩
     ·have e : (U 6).length + j=(U 6++tkD dec 6 L6 j).length:=by simp [hl]
      rw [e,fQ,gf,ht,x01]
     ·rw [hAG,aP]
     ·rw [hBK,a7];simp only [eC]
    ·have hj2 : j=L6.length:=by omega
     subst hj2
     refine ⟨7,by omega,by omega,?_⟩
     rw [hU6s,iR]
     simp [hAG,hBK,aP,a7]
     decide
   ·simp [hAG,aP]
    rfl
end Go.Gv

namespace Go.Gv
theorem bO {m : Msh} (h : ao m=true) : m.s.length <= 2000 /\ m.f.length <= 4000:=by
 simp only [ao,bM,x0a,x0g] at h
 exact h.1
theorem j3 {m : Msh} (h : ao m=true) : ∀ l ∈ LL m,l=[]:=by
 simp only [ao,x0a,x0f,x0g] at h
 exact h.2
theorem pk {m : Msh} (h : ao m=true) {i : Nat} (hi : i < m.s.length) : aX (spt m i)=true:=by
 have:=lN.1 (j3 h (fil (cQ m) m.s.length) (by simp [LL])) i hi
 simpa [cQ] using this
theorem gy {m : Msh} (h : ao m=true) {i : Nat} (hi : i < m.f.length) : okF m (fce m i)=true /\ 0 < i5 (aT m (fce m i)):=by
 have h1:=lN.1 (j3 h (fil (di m) m.f.length) (by simp [LL])) i hi
 have h2:=lN.1 (j3 h (fil (ce m) m.f.length) (by simp [LL])) i hi
 have h3 : okF m (fce m i)=true:=by simpa [di] using h1
 refine ⟨h3,?_⟩
 simp [ce,h3] at h2
 omega
theorem oh {m : Msh} (h : ao m=true) {i : Nat} (hi : i < m.f.length) : aF m i=true:=by
 have:=gy h hi
 simp [aF,this]
theorem nj {m : Msh} (h : ao m=true) {i k : Nat} (hi : i < m.f.length) (hk : k < i) : gm (fce m i) (fce m k)=false:=by
 have h1:=lN.1 (j3 h (fil (bL m) m.f.length) (by simp [LL])) i hi
 rw [bL,oh h hi,x1I,x1H] at h1
 have:=h1 k (x0H.2 hk)
 rw [oh h (by omega),x1I] at this
 simpa using this
theorem dt {m : Msh} (h : ao m=true) {i : Nat} (hi : i < m.f.length) : inS m (fce m i)=true:=iG (gy h hi).1
theorem s9 {m : Msh} (h : ao m=true) {i : Nat} (hi : i < m.f.length) : okT (aT m (fce m i))=true:=cz (gy h hi).1
def bS (f : Fce) (a b : Int) : Bool:=(List.range 3).any fun j=>decide (crn f j=a) && decide (crn f (j + 1)=b)
def iu (m : Msh) (a b : Int) : Int:=dU (fun f=>bS f a b) m.f
def nbF (m : Msh) (i k : Nat) : Int:=iu m (crn (fce m i) (k + 1)) (crn (fce m i) k)
def jF (p : Nat -> Bool) : Nat -> Option Nat
 | 0=>none
 | i + 1=>if p i then some i else jF p i
theorem mC (p : Nat -> Bool) : ∀ n,(jF p n=none /\ ∀ i,i < n -> p i=false) \/ ∃ i,jF p n=some i /\ i < n /\ p i=true
 | 0=>.inl ⟨rfl,fun i h=>by omega⟩
 | n + 1=>by
  rw [jF]
  by_cases h : p n=true
  ·rw [if_pos h];exact .inr ⟨n,rfl,by omega,h⟩
  ·rw [if_neg h]
   rcases mC p n with ⟨h1,h2⟩ | ⟨i,h1,h2,h3⟩
   ·refine .inl ⟨h1,fun i hi=>?_⟩
    rcases x0C.1 hi with h3 | rfl
    ·exact h2 i h3
    ·simpa using h
   ·exact .inr ⟨i,h1,by omega,h3⟩
theorem vH {f g : Fce} {a b : Int} (h1 : bS f a b=true) (h2 : bS g a b=true) : gm f g=true:=by
 simp only [bS,x0x,x0H,x0a,x0g] at h1 h2
 obtain ⟨i,hi,rfl,rfl⟩:=h1
 obtain ⟨j,hj,e1,e2⟩:=h2
 simp only [gm,x0x,x0H]
 exact ⟨i,hi,j,hj,by simp [mtc,e1,e2]⟩
theorem kB {m : Msh} (h : ao m=true) {i k : Nat} (hi : i < m.f.length) (hk : k < m.f.length) {a b : Int} (h1 : bS (fce m i) a b=true) (h2 : bS (fce m k) a b=true) : i=k:=by
 rcases Nat.lt_trichotomy i k with h3 | h3 | h3
 ·have:=nj h hk h3
  rw [vH h2 h1] at this;cases this
 ·exact h3
 ·have:=nj h hi h3
  rw [vH h1 h2] at this;cases this
theorem rT {m : Msh} (h : ao m=true) (a b : Int) : iu m a b=match jF (fun i=>bS (fce m i) a b) m.f.length with
  | some i=>(i : Int)
  | none=>-1:=by
 rcases mC (fun i=>bS (fce m i) a b) m.f.length with ⟨h1,h2⟩ | ⟨i,h1,h2,h3⟩
 ·rw [h1]
  exact dF fun j hj=>by rw [jw];exact h2 j hj
 ·rw [h1]
  refine df (fun j hj hji=>?_) h2 (by rw [jw];exact h3)
  rw [jw]
  cases hh : bS (fce m j) a b
  ·rfl
  ·have:=kB h hj h2 hh h3
   omega
def iV (m : Msh) : Nat -> List D
 | 0=>[]
 | i + 1=>sdK (fce m i) 3++iV m i
def kK (m : Msh) : Nat -> List D
 | 0=>[]
 | i + 1=>List.replicate 3 (.int .i64 i)++kK m i
theorem qa (m : Msh) : ∀ i,(iV m i).length=3 * i
 | 0=>by simp [iV]
 | i + 1=>by
  have:=qa m i
  simp [iV,jW];omega
theorem vN (m : Msh) (a b : Int) : ∀ i,de (iV m i) (kK m i) (.agg [.int .i64 a,.int .i64 b])=(jF (fun i=>bS (fce m i) a b) i).map fun i=>.int .i64 i
 | 0=>rfl
 | i + 1=>by
  have h3 : List.range 3=[0,1,2]:=rfl
  simp only [iV,kK,jF,sdK,List.replicate,x09,x1e,de,At]
  have ih:=vN m a b i
  by_cases c0 : (decide (a=crn (fce m i) 2) && decide (b=crn (fce m i) (2 + 1)))=true
  ·have : bS (fce m i) a b=true:=by
    simp only [x0a,x0g] at c0
    simp [bS,h3,<- c0.1,<- c0.2]
   rw [if_pos c0,if_pos this];rfl
  ·rw [if_neg c0]
   by_cases c1 : (decide (a=crn (fce m i) 1) && decide (b=crn (fce m i) (1 + 1)))=true
   ·have : bS (fce m i) a b=true:=by
     simp only [x0a,x0g] at c1
     simp [bS,h3,<- c1.1,<- c1.2]
    rw [if_pos c1,if_pos this];rfl
   ·rw [if_neg c1]
    by_cases c2 : (decide (a=crn (fce m i) 0) && decide (b=crn (fce m i) (0 + 1)))=true
    ·have : bS (fce m i) a b=true:=by
      simp only [x0a,x0g] at c2
      simp [bS,h3,<- c2.1,<- c2.2]
     rw [if_pos c2,if_pos this];rfl
    ·have : bS (fce m i) a b=false:=by
      simp only [x0a,x0g,not_and] at c0 c1 c2
      simp only [bS,h3,x1z,x1n,Bool.or_false,Bool.or_eq_false_iff,x0w,x0o]
      omega
     rw [if_neg c2,if_neg (by rw [this];decide),ih]
def nbC (m : Msh) (i k j c : Nat) : Int:=if j < i \/ (j=i /\ c < k) then nbF m j c else 0
def nbR (m : Msh) (i k : Nat) : List (List D):=(List.range m.f.length).map fun j=>[.int .i64 (nbC m i k j 0),.int .i64 (nbC m i k j 1),.int .i64 (nbC m i k j 2)]
def nbA (m : Msh) : List (List D):=(List.range m.f.length).map fun j=>[.int .i64 (nbF m j 0),.int .i64 (nbF m j 1),.int .i64 (nbF m j 2)]
@[simp] theorem Qs (m : Msh) (i k : Nat) : (nbR m i k).length=m.f.length:=by simp [nbR]
@[simp] theorem KP (m : Msh) (i k : Nat) : List.take m.f.length (nbR m i k)=nbR m i k:=x0q (by simp)
@[simp] theorem Su (m : Msh) (i k : Nat) : List.map (fun e=>List.map bq e) (nbR m i k)=nbR m i k:=by simp [nbR]
theorem vM (m : Msh) : List.replicate m.f.length [D.int .i64 0,D.int .i64 0,D.int .i64 0]=nbR m 0 0:=by
 refine x1t (by simp) fun j h1 h2=>?_
 simp [nbR,nbC]
theorem vL (m : Msh) (i : Nat) : nbR m i 3=nbR m (i + 1) 0:=by
 unfold nbR
 refine x0p fun j _=>?_
 have e : ∀ c,c < 3 -> nbC m i 3 j c=nbC m (i + 1) 0 j c:=fun c hc=>by
  unfold nbC
  by_cases h : j < i + 1
  ·rw [if_pos (by omega),if_pos (by omega)]
  ·rw [if_neg (by omega),if_neg (by omega)]
 rw [e 0 (by omega),e 1 (by omega),e 2 (by omega)]
theorem yq (m : Msh) : nbR m m.f.length 0=nbA m:=by
 unfold nbR nbA
 refine x0p fun j hj=>?_
 have hj:=x0H.1 hj
 simp [nbC,hj]
theorem yr (m : Msh) {i k j : Nat} (h : j < m.f.length) : (nbR m i k)[j]? = some [.int .i64 (nbC m i k j 0),.int .i64 (nbC m i k j 1),.int .i64 (nbC m i k j 2)]:=by
 simp [nbR,h]
theorem yt (m : Msh) {i k : Nat} (h : i < m.f.length) (hk : k < 3) : (nbR m i k).set i (([.int .i64 (nbC m i k i 0),.int .i64 (nbC m i k i 1),.int .i64 (nbC m i k i 2)] : List D).set k (.int .i64 (nbF m i k)))=nbR m i (k + 1):=by
 refine x1t (by simp) fun j h1 h2=>?_
 rw [List.getElem_set]
 by_cases e : i=j
 ·subst e
  rw [if_pos rfl]
  rcases (by omega : k=0 \/ k=1 \/ k=2) with rfl | rfl | rfl <;> simp [nbR,nbC]
 ·rw [if_neg e]
  simp only [nbR,x1C,List.getElem_range]
  have e2 : ∀ c,nbC m i k j c=nbC m i (k + 1) j c:=fun c=>by
   unfold nbC
   by_cases h : j < i
   ·rw [if_pos (by omega),if_pos (by omega)]
   ·rw [if_neg (by omega),if_neg (by omega)]
  rw [e2,e2,e2]
variable {C : CC} (hC : ay prog C)
include hC
theorem uq (m : Msh) (h : bM m=false) : C 273 [.agg (aQ m)] (.tup [.nils,.int .i64 4]) []:=by
 have ksm:=p8 hC m
 rw [show (decide (m.s.length <= 2000) && decide (m.f.length <= 4000))=false from h] at ksm
 refine aw hC (nf:=N273) rfl rfl ?_
 simp only [ab] at ksm
 simp [N273,ab]
 refine aa ksm (.inl rfl) ?_
 simp
theorem mD (dec : Nat -> List UInt8) (hI : ∀ n : Nat,n < 100 -> C 127 [.int .i64 n] (.str (dec n)) []) (m : Msh) (hz : bM m=true -> m.s.length <= 100 /\ m.f.length <= 100) : C 234 [.agg (aQ m)] (.bool (ao m)) []:=by
 cases hs : bM m
 ·have k:=uq hC m hs
  refine aw hC (nf:=N234) rfl rfl ?_
  simp only [ab] at k
  simp [N234,ab]
  refine aa k (.inr rfl) ?_
  simp [ao,hs]
 ·obtain ⟨h1,h2⟩:=hz hs
  have k:=xx hC dec hI m h1 h2
  have e : ao m=decide ((cp dec 0 (LL m)).length=0):=by
   rw [ao,hs,x1I,x04,x0g,List.length_eq_zero_iff,mN]
  obtain ⟨X,hX⟩ : ∃ X,X=cp dec 0 (LL m):=⟨_,rfl⟩
  rw [e]
  rw [<- hX] at k ⊢
  refine aw hC (nf:=N234) rfl rfl ?_
  simp only [ab] at k
  simp [N234,ab]
  refine aa k (.inr rfl) ?_
  simp
end Go.Gv

namespace Go.Gv
def fD (n : Nat) : List UInt8:=ow n []
def fdL (k : Int) (l : List Nat) : List (Int × List UInt8):=l.map fun i=>(k,fD i)
@[simp] theorem Nf (k : Int) (l : List Nat) : (fdL k l).length=l.length:=by simp [fdL]
def fdR (k : Int) (l : List Nat) : List (List D):=fnR (fdL k l)
@[simp] theorem Nh (k : Int) (l : List Nat) : (fdR k l).length=l.length:=by simp [fdR]
@[simp] theorem Io (k : Int) (l : List Nat) : List.take l.length (fdR k l)=fdR k l:=x0q (by simp)
theorem gc {p : Nat -> Bool} {n : Nat} {k : Int} (h : p n=true) : fdR k (fil p n)++[[D.int .i64 k,.str (fD n)]]=fdR k (fil p (n + 1)):=by
 rw [cx h];simp [fdR,gf,fdL]
theorem dZ {p : Nat -> Bool} {n : Nat} {k : Int} (h : p n=false) : fdR k (fil p n)=fdR k (fil p (n + 1)):=by rw [ky h]
@[simp] theorem BQ (k : Int) (l : List Nat) : (∀ e ∈ fdR k l,∀ c ∈ e,aK c=true)=True:=by simp [fdR,fnR,fnD,fdL]
@[simp] theorem Ng (k : Int) (l : List Nat) (x : List D) : (∀ e,e ∈ fdR k l \/ e=x -> ∀ c,c ∈ e -> aK c=true)=∀ c,c ∈ x -> aK c=true:=by
 apply propext
 constructor
 ·exact fun h=>h x (.inr rfl)
 ·rintro h e (he | rfl)
  ·exact (BQ k l).mpr trivial e he
  ·exact h
@[simp] theorem Ni (k : Int) : fdR k []=[]:=rfl
def fcR (m : Msh) (l : List Nat) : List (List D):=l.map fun k=>br (fce m k)
@[simp] theorem Nc (m : Msh) (l : List Nat) : (fcR m l).length=l.length:=by simp [fcR]
@[simp] theorem Im (m : Msh) (l : List Nat) : List.take l.length (fcR m l)=fcR m l:=x0q (by simp)
@[simp] theorem Nd (m : Msh) : fcR m []=[]:=rfl
theorem x7 {m : Msh} {i : Nat} (h : aF m i=true) : fcR m (fil (aF m) i)++[br (fce m i)]=fcR m (fil (aF m) (i + 1)):=by rw [cx h];simp [fcR]
theorem gT (m : Msh) (l : List Nat) : fcR m l=l.map fun k=>br (fce m k):=rfl
def j9 (p : Nat -> Bool) (l : List Nat) (k : Nat) : Bool:=(l.take k).any p
theorem tm (p : Nat -> Bool) (l : List Nat) : j9 p l 0=false:=by simp [j9]
theorem nG (p : Nat -> Bool) {l : List Nat} {k : Nat} (h : k < l.length) : j9 p l (k + 1)=(j9 p l k || p l[k]):=by
 unfold j9
 rw [List.take_add_one,x0d h,List.any_append]
 simp
theorem pv (p : Nat -> Bool) (l : List Nat) : j9 p l l.length=l.any p:=by simp [j9]
def shP (m : Msh) (i k : Nat) : Bool:=gm (fce m i) (fce m k)
def ovP (m : Msh) (i k : Nat) : Bool:=ovT (aT m (fce m i)) (aT m (fce m k))
theorem uc {m : Msh} {i : Nat} (h : aF m i=true) : bL m i=(fil (aF m) i).any (shP m i):=by
 rw [fil,x0Y,bL,h];rfl
theorem tX {m : Msh} {i : Nat} (h : aF m i=true) : aV m i=(fil (aF m) i).any (ovP m i):=by
 rw [fil,x0Y,aV,h];rfl
def LK (m : Msh) (i k : Nat) : Env:=[(1,.ptr (aQ m)),(3,.ref (.r 10048) 0 7),(10048,.blk 1 [[.own 2 []],[.own 2 (fdR 1 (fil (cQ m) m.s.length))],[.own 2 (fdR 2 (fil (bN m) m.s.length))],[.own 2 (fdR 3 (fil (di m) i))],[.own 2 (fdR 4 (fil (ce m) i))],[.own 2 (fdR 5 (fil (bL m) i))],[.own 2 (fdR 6 (fil (aV m) i))]]),(7,.ref (.r 10112) 0 (fil (aF m) i).length),(10112,.blk 4 (fcR m (fil (aF m) i))),(8,.int .i64 i),(9,.adr (.r 10144) 0 0),(10144,.blk 4 [br (fce m i)]),(10,.bool (j9 (shP m i) (fil (aF m) i) k)),(11,.bool (j9 (ovP m i) (fil (aF m) i) k)),(12,.int .i64 k)]
theorem iH (m : Msh) (i k : Nat) : LK m i k=[(1,.ptr (aQ m)),(3,.ref (.r 10048) 0 7),(10048,.blk 1 [[.own 2 []],[.own 2 (fdR 1 (fil (cQ m) m.s.length))],[.own 2 (fdR 2 (fil (bN m) m.s.length))],[.own 2 (fdR 3 (fil (di m) i))],[.own 2 (fdR 4 (fil (ce m) i))],[.own 2 (fdR 5 (fil (bL m) i))],[.own 2 (fdR 6 (fil (aV m) i))]]),(7,.ref (.r 10112) 0 (fil (aF m) i).length),(10112,.blk 4 (fcR m (fil (aF m) i))),(8,.int .i64 i),(9,.adr (.r 10144) 0 0),(10144,.blk 4 [br (fce m i)]),(10,.bool (j9 (shP m i) (fil (aF m) i) k)),(11,.bool (j9 (ovP m i) (fil (aF m) i) k)),(12,.int .i64 k)]:=zR
def LH (m : Msh) (i : Nat) : Env:=[(1,.ptr (aQ m)),(3,.ref (.r 10048) 0 7),(10048,.blk 1 [[.own 2 []],[.own 2 (fdR 1 (fil (cQ m) i))],[.own 2 (fdR 2 (fil (bN m) i))],[.own 2 []],[.own 2 []],[.own 2 []],[.own 2 []]]),(4,.int .i64 i)]
theorem jQ (m : Msh) (i : Nat) : LH m i=[(1,.ptr (aQ m)),(3,.ref (.r 10048) 0 7),(10048,.blk 1 [[.own 2 []],[.own 2 (fdR 1 (fil (cQ m) i))],[.own 2 (fdR 2 (fil (bN m) i))],[.own 2 []],[.own 2 []],[.own 2 []],[.own 2 []]]),(4,.int .i64 i)]:=zR
def LI (m : Msh) (i k : Nat) : Env:=[(1,.ptr (aQ m)),(3,.ref (.r 10048) 0 7),(10048,.blk 1 [[.own 2 []],[.own 2 (fdR 1 (fil (cQ m) i))],[.own 2 (fdR 2 (fil (bN m) i))],[.own 2 []],[.own 2 []],[.own 2 []],[.own 2 []]]),(4,.int .i64 i),(5,.adr (.r 10080) 0 0),(10080,.blk 3 [eP (spt m i)]),(6,.int .i64 k)]
theorem lS (m : Msh) (i k : Nat) : LI m i k=[(1,.ptr (aQ m)),(3,.ref (.r 10048) 0 7),(10048,.blk 1 [[.own 2 []],[.own 2 (fdR 1 (fil (cQ m) i))],[.own 2 (fdR 2 (fil (bN m) i))],[.own 2 []],[.own 2 []],[.own 2 []],[.own 2 []]]),(4,.int .i64 i),(5,.adr (.r 10080) 0 0),(10080,.blk 3 [eP (spt m i)]),(6,.int .i64 k)]:=zR
def LJ (m : Msh) (i : Nat) : Env:=[(1,.ptr (aQ m)),(3,.ref (.r 10048) 0 7),(10048,.blk 1 [[.own 2 []],[.own 2 (fdR 1 (fil (cQ m) m.s.length))],[.own 2 (fdR 2 (fil (bN m) m.s.length))],[.own 2 (fdR 3 (fil (di m) i))],[.own 2 (fdR 4 (fil (ce m) i))],[.own 2 (fdR 5 (fil (bL m) i))],[.own 2 (fdR 6 (fil (aV m) i))]]),(7,.ref (.r 10112) 0 (fil (aF m) i).length),(10112,.blk 4 (fcR m (fil (aF m) i))),(8,.int .i64 i)]
theorem fw (m : Msh) (i : Nat) : LJ m i=[(1,.ptr (aQ m)),(3,.ref (.r 10048) 0 7),(10048,.blk 1 [[.own 2 []],[.own 2 (fdR 1 (fil (cQ m) m.s.length))],[.own 2 (fdR 2 (fil (bN m) m.s.length))],[.own 2 (fdR 3 (fil (di m) i))],[.own 2 (fdR 4 (fil (ce m) i))],[.own 2 (fdR 5 (fil (bL m) i))],[.own 2 (fdR 6 (fil (aV m) i))]]),(7,.ref (.r 10112) 0 (fil (aF m) i).length),(10112,.blk 4 (fcR m (fil (aF m) i))),(8,.int .i64 i)]:=zR
variable {C : CC} (hC : ay prog C)
include hC
set_option maxRecDepth 4000 in
set_option maxHeartbeats 4000000 in
theorem v8 (m : Msh) (hs : m.s.length <= 100) (hf : m.f.length <= 100) : C 258 [.agg (aQ m)] (.sl ((cp fD 0 (LL m)).map fnD)) []:=by
 have kr:=fun s=>sK hC s
 have kd:=fun n h=>C6 hC n h
 have kp:=fun s=>jP hC s
 refine aw hC (nf:=N258) rfl rfl ?_
 simp [N258,ab]
 refine ar Nat (fun i=>LH m i) (fun i=>i <= m.s.length) (fun i=>m.s.length - i) 0 (by simp) (by simp [jQ,ab,jx,List.replicate]) ?_
 rintro i hi
 simp [jQ,ab]
 refine aj (fun g1=>?_) (fun g1=>?_) <;> simp at g1 <;> simp [g1]
 ·have hw : IntKind.wrap .i64 ((i : Int) + 1)=((i + 1 : Nat) : Int):=ae (by omega) (by omega)
  have kri:=kr (spt m i)
  simp only [b4] at kri
  have kdi:=kd i (by omega)
  have l1:=aO (cQ m) i
  have l2:=aO (bN m) i
  simp [b4]
  refine aa kri (.inl rfl) ?_
  simp
  cases hr1 : aX (spt m i)
  ·have e1:=gc (p:=cQ m) (n:=i) (k:=1) (by simp [cQ,hr1])
   have e2:=dZ (p:=bN m) (n:=i) (k:=2) (by simp [bN,hr1])
   simp
   refine aa kdi (.inl rfl) ?_
   simp
   simp only [fD] at e1
   refine ⟨by omega,ai (by decide +kernel),i + 1,by omega,by omega,?_⟩
   simp [jQ,ab,hw,e1,<- e2]
  ·have e0:=dZ (p:=cQ m) (n:=i) (k:=1) (by simp [cQ,hr1])
   have hsame : bN m i=(List.range i).any fun k=>aX (spt m k) && decide (fI m k=fI m i):=by rw [bN,hr1,x1I]
   simp
   refine ar Nat (fun k=>LI m i k) (fun k=>k <= i /\ ∀ j,j < k -> aX (spt m j)=true -> ¬ fI m j=fI m i) (fun k=>i - k) 0 (by simp) (by simp [lS,ab,b4]) ?_
   rintro k ⟨hk,hK⟩
   simp [lS,ab,b4]
   refine aj (fun g2=>?_) (fun g2=>?_) <;> simp at g2 <;> simp [g2]
   ·have hw2 : IntKind.wrap .i64 ((k : Int) + 1)=((k + 1 : Nat) : Int):=ae (by omega) (by omega)
    have krk:=kr (spt m k)
    have kpk:=kp (spt m k)
    have kpi:=kp (spt m i)
    simp only [b4,ptD] at krk kpk kpi
    have hks : k < m.s.length:=by omega
    simp [hks,b4]
    refine aa krk (.inl rfl) ?_
    simp
    have next : (aX (spt m k)=true -> ¬ fI m k=fI m i) -> ∀ j,j < k + 1 -> aX (spt m j)=true -> ¬ fI m j=fI m i:=fun h j hj=>by
     rcases x0C.1 hj with h2 | rfl
     ·exact hK j h2
     ·exact h
    cases hr2 : aX (spt m k)
    ·simp
     refine ⟨ai (by decide +kernel),?_⟩
     refine ⟨k + 1,⟨by omega,next (by rw [hr2];simp)⟩,by omega,?_⟩
     simp [lS,ab,b4,hw2]
    ·simp [hks,b4]
     refine aa kpk (.inl rfl) ?_
     simp
     refine aa kpi (.inl rfl) ?_
     simp
     refine ⟨ai (by decide +kernel),?_⟩
     by_cases hp : fI m k=fI m i
     ·have hs1 : bN m i=true:=by
       rw [hsame,x0x]
       exact ⟨k,x0H.2 g2,by simp [hr2,hp]⟩
      have e2:=gc (p:=bN m) (n:=i) (k:=2) hs1
      simp only [fD] at e2
      have hp1 : (ptS (spt m k)).1=(ptS (spt m i)).1:=congrArg Prod.fst hp
      have hp2 : (ptS (spt m k)).2=(ptS (spt m i)).2:=congrArg Prod.snd hp
      simp [hp1,hp2]
      refine aa kdi (.inl rfl) ?_
      simp
      refine ⟨by omega,ai (by decide +kernel),i + 1,by omega,by omega,?_⟩
      simp [jQ,ab,hw,<- e0,e2]
     ·have hp1 : ¬ ((ptS (spt m k)).1=(ptS (spt m i)).1 /\ (ptS (spt m k)).2=(ptS (spt m i)).2):=fun h=>hp (Prod.ext h.1 h.2)
      have hp2 : (decide ((ptS (spt m k)).1=(ptS (spt m i)).1) && decide ((ptS (spt m k)).2=(ptS (spt m i)).2))=false:=by
       rw [Bool.eq_false_iff];simpa using hp1
      simp [hp2]
      refine ⟨k + 1,⟨by omega,next (fun _=>hp)⟩,by omega,?_⟩
      simp [lS,ab,b4,hw2]
   ·have hk2 : k=i:=by omega
    subst hk2
    have hs1 : bN m k=false:=by
     rw [hsame,x1H]
     intro j hj
     have:=hK j (x0H.1 hj)
     simpa using this
    have e2:=dZ (p:=bN m) (n:=k) (k:=2) hs1
    refine ⟨k + 1,by omega,by omega,?_⟩
    simp [jQ,ab,hw,<- e0,<- e2]
 ·have hi2 : i=m.s.length:=by omega
  subst hi2
  clear kr kp
  have kc:=fun f=>C8 hC m f (by omega)
  refine ar Nat (fun i=>LJ m i) (fun i=>i <= m.f.length) (fun i=>m.f.length - i) 0 (by simp) (by simp [fw,ab,jx]) ?_
  clear hi g1
  rintro i hi
  simp [fw,ab]
  refine aj (fun g1=>?_) (fun g1=>?_) <;> simp at g1 <;> simp [g1]
  ·have hw : IntKind.wrap .i64 ((i : Int) + 1)=((i + 1 : Nat) : Int):=ae (by omega) (by omega)
   have kci:=kc (fce m i)
   have kdi:=kd i (by omega)
   simp only [ab,aI] at kci
   have l3:=aO (di m) i
   have l4:=aO (ce m) i
   have l5:=aO (bL m) i
   have l6:=aO (aV m) i
   simp [aI]
   refine aa kci (.inl rfl) ?_
   simp
   cases ok : okF m (fce m i)
   ·have hsn : aF m i=false:=by simp [aF,ok]
    have e1:=gc (p:=di m) (n:=i) (k:=3) (by simp [di,ok])
    have e2:=dZ (p:=ce m) (n:=i) (k:=4) (by simp [ce,ok])
    have e3:=dZ (p:=bL m) (n:=i) (k:=5) (by simp [bL,hsn])
    have e4:=dZ (p:=aV m) (n:=i) (k:=6) (by simp [aV,hsn])
    have e5:=ky hsn
    simp only [fD] at e1
    simp
    refine aa kdi (.inl rfl) ?_
    simp
    refine ⟨by omega,ai (by decide +kernel),i + 1,by omega,by omega,?_⟩
    simp [fw,ab,hw,e1,<- e2,<- e3,<- e4,e5]
   ·have hT:=cz ok
    have kt:=sO hC m (fce m i) (iG ok) hT
    simp only [ab,aI] at kt
    have e1:=dZ (p:=di m) (n:=i) (k:=3) (by simp [di,ok])
    simp
    refine aa kt (.inl rfl) ?_
    simp
    refine aj (fun d1=>?_) (fun d1=>?_) <;> simp at d1 <;> simp [d1]
    ·have hfl : ce m i=true:=by simp [ce,ok,d1]
     have hsn : aF m i=false:=by simp [aF,ok];omega
     have e2:=gc (k:=4) hfl
     have e3:=dZ (p:=bL m) (n:=i) (k:=5) (by simp [bL,hsn])
     have e4:=dZ (p:=aV m) (n:=i) (k:=6) (by simp [aV,hsn])
     have e5:=ky hsn
     simp only [fD] at e2
     refine aa kdi (.inl rfl) ?_
     simp
     refine ⟨by omega,ai (by decide +kernel),i + 1,by omega,by omega,?_⟩
     simp [fw,ab,hw,<- e1,e2,<- e3,<- e4,e5]
    ·have hfl : ce m i=false:=by simp [ce,ok];omega
     have hsn : aF m i=true:=by simp [aF,ok,d1]
     have e2:=dZ (k:=4) hfl
     have lsn:=aO (aF m) i
     have hsd:=uc hsn
     have hov:=tX hsn
     refine ar Nat (fun k=>LK m i k) (fun k=>k <= (fil (aF m) i).length) (fun k=>(fil (aF m) i).length - k) 0 (by simp) (by simp [iH,ab,aI,tm]) ?_
     rintro k hk
     simp [iH,ab,aI]
     refine aj (fun g2=>?_) (fun g2=>?_) <;> simp at g2 <;> simp [g2]
     ·have hw2 : IntKind.wrap .i64 ((k : Int) + 1)=((k + 1 : Nat) : Int):=ae (by omega) (by omega)
      have hq:=(dM (x0u g2)).2
      simp only [aF,x0a] at hq
      have ks:=yO hC (fce m i) (fce m (fil (aF m) i)[k])
      have ko:=rM hC m (fce m i) (fce m (fil (aF m) i)[k]) (iG ok) hT (iG hq.1) (cz hq.1)
      have a1:=nG (shP m i) g2
      have a2:=nG (ovP m i) g2
      rw [show shP m i (fil (aF m) i)[k]=gm (fce m i) (fce m (fil (aF m) i)[k]) from rfl] at a1
      rw [show ovP m i (fil (aF m) i)[k]=ovT (aT m (fce m i)) (aT m (fce m (fil (aF m) i)[k])) from rfl] at a2
      simp only [ab,aI] at ks ko
      cases h1 : j9 (shP m i) (fil (aF m) i) k <;> cases h2 : j9 (ovP m i) (fil (aF m) i) k <;> rw [h1] at a1 <;> rw [h2] at a2 <;> simp at a1 a2
      ·simp [gT,g2,aI]
       refine aa ks (.inl rfl) ?_
       simp
       refine ⟨ai (by decide +kernel),?_⟩
       simp [gT,g2,aI]
       refine aa ko (.inl rfl) ?_
       simp
       refine ⟨ai (by decide +kernel),?_⟩
       refine ⟨k + 1,by omega,by omega,?_⟩
       simp [iH,ab,aI,hw2,a1,a2,gT]
      ·simp [gT,g2,aI]
       refine aa ks (.inl rfl) ?_
       simp
       refine ⟨ai (by decide +kernel),ai (by decide +kernel),?_⟩
       refine ⟨k + 1,by omega,by omega,?_⟩
       simp [iH,ab,aI,hw2,a1,a2,gT]
      ·simp
       refine ⟨ai (by decide +kernel),?_⟩
       simp [gT,g2,aI]
       refine aa ko (.inl rfl) ?_
       simp
       refine ⟨ai (by decide +kernel),?_⟩
       refine ⟨k + 1,by omega,by omega,?_⟩
       simp [iH,ab,aI,hw2,a1,a2,gT]
      ·simp
       refine ⟨ai (by decide +kernel),ai (by decide +kernel),?_⟩
       refine ⟨k + 1,by omega,by omega,?_⟩
       simp [iH,ab,aI,hw2,a1,a2,gT]
     ·have hk2 : k=(fil (aF m) i).length:=by omega
      subst hk2
      rw [pv,pv,<- hsd,<- hov]
      have e5:=x7 hsn
      have e8 : (fil (aF m) (i + 1)).length=(fil (aF m) i).length + 1:=by rw [cx hsn];simp
      simp only [aI] at e5
      cases h1 : bL m i
      ·have e3:=dZ (k:=5) h1
       simp
       cases h2 : aV m i
       ·have e4:=dZ (k:=6) h2
        simp
        refine ⟨by omega,i + 1,by omega,by omega,?_⟩
        simp [fw,ab,hw,<- e1,<- e2,<- e3,<- e4,e5,e8]
       ·have e4:=gc (k:=6) h2
        simp only [fD] at e4
        simp
        refine aa kdi (.inl rfl) ?_
        simp
        refine ⟨by omega,ai (by decide +kernel),?_⟩
        refine ⟨by omega,i + 1,by omega,by omega,?_⟩
        simp [fw,ab,hw,<- e1,<- e2,<- e3,e4,e5,e8]
      ·have e3:=gc (k:=5) h1
       simp only [fD] at e3
       simp
       refine aa kdi (.inl rfl) ?_
       simp
       refine ⟨by omega,ai (by decide +kernel),?_⟩
       cases h2 : aV m i
       ·have e4:=dZ (k:=6) h2
        simp
        refine ⟨by omega,i + 1,by omega,by omega,?_⟩
        simp [fw,ab,hw,<- e1,<- e2,e3,<- e4,e5,e8]
       ·have e4:=gc (k:=6) h2
        simp only [fD] at e4
        simp
        refine aa kdi (.inl rfl) ?_
        simp
        refine ⟨by omega,ai (by decide +kernel),?_⟩
        refine ⟨by omega,i + 1,by omega,by omega,?_⟩
        simp [fw,ab,hw,<- e1,<- e2,e3,e4,e5,e8]
  ·have hi2 : i=m.f.length:=by omega
   subst hi2
   have bd : ∀ (p : Nat -> Bool) (n : Nat),n <= 100 -> (fil p n).length <= 100:=fun p n hn=>by have:=aO p n;omega
   have q1:=bd (cQ m) _ hs
   have q2:=bd (bN m) _ hs
   have q3:=bd (di m) _ hf
   have q4:=bd (ce m) _ hf
   have q5:=bd (bL m) _ hf
   have q6:=bd (aV m) _ hf
   have hLL : LL m=[[],fil (cQ m) m.s.length,fil (bN m) m.s.length,fil (di m) m.f.length,fil (ce m) m.f.length,fil (bL m) m.f.length,fil (aV m) m.f.length]:=rfl
   rw [hLL]
   clear hLL bd
   generalize fil (cQ m) m.s.length=L1 at *
   generalize fil (bN m) m.s.length=L2 at *
   generalize fil (di m) m.f.length=L3 at *
   generalize fil (ce m) m.f.length=L4 at *
   generalize fil (bL m) m.f.length=L5 at *
   generalize fil (aV m) m.f.length=L6 at *
   obtain ⟨BK,hBK⟩ : ∃ x : D,x=.blk 1 [[.own 2 []],[.own 2 (fdR 1 L1)],[.own 2 (fdR 2 L2)],[.own 2 (fdR 3 L3)],[.own 2 (fdR 4 L4)],[.own 2 (fdR 5 L5)],[.own 2 (fdR 6 L6)]]:=⟨_,rfl⟩
   obtain ⟨U,hU⟩ : ∃ U : Nat -> List (Int × List UInt8),U=fun k=>cp fD 0 (([([] : List Nat),L1,L2,L3,L4,L5,L6]).take k):=⟨_,rfl⟩
   have hU7 : U 7=cp fD 0 [[],L1,L2,L3,L4,L5,L6]:=by rw [hU];rfl
   have hU0 : U 0=[]:=by rw [hU];rfl
   have hU0s : U 1=U 0++fdL 0 ([] : List Nat):=by
    rw [hU];show cp fD 0 (([([] : List Nat),L1,L2,L3,L4,L5,L6]).take 0++[([] : List Nat)])=_
    rw [cq];simp [cp,fdL]
   have hU1s : U 2=U 1++fdL 1 L1:=by
    rw [hU];show cp fD 0 (([([] : List Nat),L1,L2,L3,L4,L5,L6]).take 1++[L1])=_
    rw [cq];simp [cp,fdL]
   have hU2s : U 3=U 2++fdL 2 L2:=by
    rw [hU];show cp fD 0 (([([] : List Nat),L1,L2,L3,L4,L5,L6]).take 2++[L2])=_
    rw [cq];simp [cp,fdL]
   have hU3s : U 4=U 3++fdL 3 L3:=by
    rw [hU];show cp fD 0 (([([] : List Nat),L1,L2,L3,L4,L5,L6]).take 3++[L3])=_
    rw [cq];simp [cp,fdL]
   have hU4s : U 5=U 4++fdL 4 L4:=by
    rw [hU];show cp fD 0 (([([] : List Nat),L1,L2,L3,L4,L5,L6]).take 4++[L4])=_
    rw [cq];simp [cp,fdL]
   have hU5s : U 6=U 5++fdL 5 L5:=by
    rw [hU];show cp fD 0 (([([] : List Nat),L1,L2,L3,L4,L5,L6]).take 5++[L5])=_
    rw [cq];simp [cp,fdL]
   have hU6s : U 7=U 6++fdL 6 L6:=by
    rw [hU];show cp fD 0 (([([] : List Nat),L1,L2,L3,L4,L5,L6]).take 6++[L6])=_
    rw [cq];simp [cp,fdL]
   have lU0 : (U 0).length <= 0:=by rw [hU0];simp
   have lU1 : (U 1).length <= 100:=by rw [hU0s];simp;omega
   have lU2 : (U 2).length <= 200:=by rw [hU1s];simp;omega
   have lU3 : (U 3).length <= 300:=by rw [hU2s];simp;omega
   have lU4 : (U 4).length <= 400:=by rw [hU3s];simp;omega
   have lU5 : (U 5).length <= 500:=by rw [hU4s];simp;omega
   have lU6 : (U 6).length <= 600:=by rw [hU5s];simp;omega
   rw [<- hU7]
   refine ar Nat (fun k=>[(3,.ref (.r 10048) 0 7),(10048,BK),(13,.ref (.r 10208) 0 (U k).length),(10208,.blk 2 (fnR (U k))),(14,.int .i64 k)]) (fun k=>k <= 7) (fun k=>7 - k) 0 (by simp) (by simp [hU0,hBK]) ?_
   rintro k hk
   rcases (by omega : k=0 \/ k=1 \/ k=2 \/ k=3 \/ k=4 \/ k=5 \/ k=6 \/ k=7) with rfl | rfl | rfl | rfl | rfl | rfl | rfl | rfl
   ·have e : fnR (U 0)++fdR 0 ([] : List Nat)=fnR (U 1):=by rw [hU0s];simp [fnR,fdR]
    have e' : (U 1).length=(U 0).length + (([] : List Nat)).length:=by rw [hU0s];simp
    simp [hBK]
    refine ⟨by omega,1,by omega,by omega,?_,?_,by decide⟩
    ·simpa using e'.symm
    ·simpa using e
   ·have e : fnR (U 1)++fdR 1 L1=fnR (U 2):=by rw [hU1s];simp [fnR,fdR]
    have e' : (U 2).length=(U 1).length + (L1).length:=by rw [hU1s];simp
    simp [hBK]
    refine ⟨by omega,2,by omega,by omega,?_,?_,by decide⟩
    ·simpa using e'.symm
    ·simpa using e
   ·have e : fnR (U 2)++fdR 2 L2=fnR (U 3):=by rw [hU2s];simp [fnR,fdR]
    have e' : (U 3).length=(U 2).length + (L2).length:=by rw [hU2s];simp
    simp [hBK]
    refine ⟨by omega,3,by omega,by omega,?_,?_,by decide⟩
    ·simpa using e'.symm
    ·simpa using e
   ·have e : fnR (U 3)++fdR 3 L3=fnR (U 4):=by rw [hU3s];simp [fnR,fdR]
    have e' : (U 4).length=(U 3).length + (L3).length:=by rw [hU3s];simp
    simp [hBK]
    refine ⟨by omega,4,by omega,by omega,?_,?_,by decide⟩
    ·simpa using e'.symm
    ·simpa using e
   ·have e : fnR (U 4)++fdR 4 L4=fnR (U 5):=by rw [hU4s];simp [fnR,fdR]
    have e' : (U 5).length=(U 4).length + (L4).length:=by rw [hU4s];simp
    simp [hBK]
    refine ⟨by omega,5,by omega,by omega,?_,?_,by decide⟩
    ·simpa using e'.symm
    ·simpa using e
   ·have e : fnR (U 5)++fdR 5 L5=fnR (U 6):=by rw [hU5s];simp [fnR,fdR]
    have e' : (U 6).length=(U 5).length + (L5).length:=by rw [hU5s];simp
    simp [hBK]
    refine ⟨by omega,6,by omega,by omega,?_,?_,by decide⟩
    ·simpa using e'.symm
    ·simpa using e
   ·have e : fnR (U 6)++fdR 6 L6=fnR (U 7):=by rw [hU6s];simp [fnR,fdR]
    have e' : (U 7).length=(U 6).length + (L6).length:=by rw [hU6s];simp
    simp [hBK]
    refine ⟨by omega,7,by omega,by omega,?_,?_,by decide⟩
    ·simpa using e'.symm
    ·simpa using e
   ·simp [hBK]
    rfl
end Go.Gv

namespace Go.Gv
open Go.Lib
theorem mE (a : Nat) (ha : a < 18446744073709551616) : bits .and .u64 (a : Int) 4294967295=((a % 4294967296 : Nat) : Int):=by
 have h:=bits_and_u64_nat a 4294967295 ha (by omega)
 have e : a &&& 4294967295=a % 4294967296:=Nat.and_two_pow_sub_one_eq_mod a 32
 rw [e] at h
 exact h
theorem L7 (a k : Nat) : Int.fdiv (a : Int) (2 ^ k)=((a / 2 ^ k : Nat) : Int):=by
 rw [Int.fdiv_eq_ediv_of_nonneg _ (by exact Int.pow_nonneg (by omega))]
 norm_cast
theorem sR (a : Nat) : Int.fdiv (a : Int) (2 ^ min 32 IntKind.u64.bits)=((a / 4294967296 : Nat) : Int):=L7 a 32
theorem KF (a b : Nat) : (a : Int) * (b : Int)=((a * b : Nat) : Int):=(Int.natCast_mul a b).symm
theorem tj (a b : Nat) : (a : Int) + (b : Int)=((a + b : Nat) : Int):=(Int.natCast_add a b).symm
theorem dh (a : Nat) (ha : a < 18446744073709551616) : IntKind.u64.wrap (a : Int)=(a : Int):=by
 have e1 : IntKind.u64.signed=false:=rfl
 have e3 : (2 ^ IntKind.u64.bits : Int)=18446744073709551616:=rfl
 unfold IntKind.wrap
 simp only [e1,e3,Bool.false_and]
 simp
 omega
theorem Bh (a : Nat) : IntKind.u64.wrap (a : Int)=((a % 18446744073709551616 : Nat) : Int):=by
 have e1 : IntKind.u64.signed=false:=rfl
 have e3 : (2 ^ IntKind.u64.bits : Int)=18446744073709551616:=rfl
 unfold IntKind.wrap
 simp only [e1,e3,Bool.false_and]
 simp
variable {C : CC} (hC : ay prog C)
include hC
theorem sf (x y : Nat) (hx : x < 18446744073709551616) (hy : y < 18446744073709551616) : C 91 [.int .u64 x,.int .u64 y] (.tup [.int .u64 ((x * y / 18446744073709551616 : Nat) : Int),.int .u64 ((x * y % 18446744073709551616 : Nat) : Int)]) []:=by
 refine aw hC (nf:=N91) rfl rfl ?_
 obtain ⟨bd,bt,bw,hhi⟩:=Lib.mul64_hi x y hx hy
 have ba:=Lib.half_mul_le (a:=x / 4294967296) (b:=y / 4294967296) (by omega) (by omega)
 have bb:=Lib.half_mul_le (a:=x / 4294967296) (b:=y % 4294967296) (by omega) (by omega)
 have bc:=Lib.half_mul_le (a:=x % 4294967296) (b:=y / 4294967296) (by omega) (by omega)
 have ba' : x / 4294967296 * (y / 4294967296) < 18446744073709551616:=by omega
 have bb' : x / 4294967296 * (y % 4294967296) < 18446744073709551616:=by omega
 have bc' : x % 4294967296 * (y / 4294967296) < 18446744073709551616:=by omega
 have bh1 : x / 4294967296 * (y / 4294967296) + (x / 4294967296 * (y % 4294967296) + x % 4294967296 * (y % 4294967296) / 4294967296) / 4294967296 < 18446744073709551616:=by omega
 have bh : x / 4294967296 * (y / 4294967296) + (x / 4294967296 * (y % 4294967296) + x % 4294967296 * (y % 4294967296) / 4294967296) / 4294967296 + ((x / 4294967296 * (y % 4294967296) + x % 4294967296 * (y % 4294967296) / 4294967296) % 4294967296 + x % 4294967296 * (y / 4294967296)) / 4294967296 < 18446744073709551616:=by omega
 simp [N91]
 simp only [mE x hx,mE y hy,sR,KF,tj,dh _ bd,dh _ bb',dh _ bt,mE _ bt,dh _ bc',dh _ bw,dh _ ba',dh _ bh1,dh _ bh,Bh (x * y)]
 rw [hhi]
 exact ⟨by omega,by omega⟩
end Go.Gv

namespace Go.Gv
variable {C : CC} (hC : ay prog C)
include hC
end Go.Gv

namespace Go.Gv
structure DvI (u d a b q r : Nat) : Prop where
 sum : q * a + r=u
 ge : (u * 4294967296 + d) / (a * 4294967296 + b) <= q
 rlt : r < 4294967296
 qle : q <= 4294967297
section
variable {u d a b q r : Nat}
theorem Dv.mul (h : q * a + r=u) : q * (a * 4294967296 + b) + r * 4294967296=u * 4294967296 + q * b:=by
 subst h
 rw [Nat.mul_add,<- Nat.mul_assoc,x0D]
 omega
theorem Dv.lt (_ : 0 < a) (hu : u < a * 4294967296 + b) (hd : d < 4294967296) : (u * 4294967296 + d) / (a * 4294967296 + b) < 4294967296:=by
 rw [Nat.div_lt_iff_lt_mul (by omega)]
 have : (u + 1) * 4294967296 <= (a * 4294967296 + b) * 4294967296:=x0n _ hu
 omega
theorem DvI.first (ha : 2147483648 <= a) (ha2 : a < 4294967296) (hb : b < 4294967296) (hu : u < a * 4294967296 + b) (hd : d < 4294967296) : DvI u d a b (u / a) (u % a) where
 sum:=by rw [x1x];exact Nat.div_add_mod u a
 rlt:=by have:=Nat.mod_lt u (show 0 < a by omega);omega
 ge:=by
  rw [Nat.le_div_iff_mul_le (by omega)]
  have h:=Nat.div_mul_le_self (u * 4294967296 + d) (a * 4294967296 + b)
  generalize (u * 4294967296 + d) / (a * 4294967296 + b)=Q at *
  rw [Nat.mul_add,<- Nat.mul_assoc] at h
  generalize Q * b=z at *
  generalize Q * a=x at *
  omega
 qle:=by
  have : u / a < 4294967298:=by
   rw [Nat.div_lt_iff_lt_mul (by omega)]
   omega
  omega
theorem DvI.more (h : DvI u d a b q r) (ha : 0 < a) (hu : u < a * 4294967296 + b) (hd : d < 4294967296) (hc : 4294967296 <= q \/ 4294967296 * r + d < q * b) : (u * 4294967296 + d) / (a * 4294967296 + b) + 1 <= q:=by
 rcases hc with hc | hc
 ·have:=Dv.lt (d:=d) ha hu hd
  omega
 ·have h1:=Dv.mul (b:=b) h.sum
  have : (u * 4294967296 + d) / (a * 4294967296 + b) < q:=by
   rw [Nat.div_lt_iff_lt_mul (by omega)]
   generalize q * (a * 4294967296 + b)=z at *
   generalize q * b=x at *
   omega
  omega
theorem DvI.done (h : DvI u d a b q r) (ha : 0 < a) (hc : q * b <= 4294967296 * r + d) : q=(u * 4294967296 + d) / (a * 4294967296 + b):=by
 have h1:=Dv.mul (b:=b) h.sum
 have h2:=h.ge
 have : q <= (u * 4294967296 + d) / (a * 4294967296 + b):=by
  rw [Nat.le_div_iff_mul_le (by omega)]
  generalize q * (a * 4294967296 + b)=z at *
  generalize q * b=x at *
  omega
 omega
theorem DvI.next (h : DvI u d a b q r) (ha : 0 < a) (hu : u < a * 4294967296 + b) (hd : d < 4294967296) (hc : 4294967296 <= q \/ 4294967296 * r + d < q * b) :
  1 <= q /\ (q - 1) * a + (r + a)=u /\ (u * 4294967296 + d) / (a * 4294967296 + b) <= q - 1 /\ q - 1 <= 4294967296:=by
 have h1:=h.more ha hu hd hc
 have h2:=h.qle
 have h3:=h.sum
 generalize (u * 4294967296 + d) / (a * 4294967296 + b)=Q at *
 obtain ⟨q',rfl⟩ : ∃ q',q=q' + 1:=⟨q - 1,by omega⟩
 refine ⟨by omega,?_,by omega,by omega⟩
 rw [x0D] at h3
 simp only [Nat.add_sub_cancel]
 omega
end
end Go.Gv

namespace Go.Gv
theorem Mq (a : Int) : IntKind.u64.wrap a=a % 18446744073709551616:=by
 have e1 : IntKind.u64.signed=false:=rfl
 have e3 : (2 ^ IntKind.u64.bits : Int)=18446744073709551616:=rfl
 unfold IntKind.wrap
 simp only [e1,e3,Bool.false_and]
 simp
theorem orN (a b i : Nat) (hb : b < 2 ^ i) (h : a * 2 ^ i + b < 18446744073709551616) : bits .or .u64 ((a * 2 ^ i : Nat) : Int) (b : Int)=((a * 2 ^ i + b : Nat) : Int):=by
 rw [bits_or_u64_nat _ _ (by omega) (by omega),x1x a,Nat.two_pow_add_eq_or_of_lt hb]
variable {C : CC} (hC : ay prog C)
include hC
end Go.Gv

namespace Go.Gv
def w9 (n : Nat) : D:=.agg [.int .u64 ((n / 18446744073709551616 : Nat) : Int),.int .u64 ((n % 18446744073709551616 : Nat) : Int)]
variable {C : CC} (hC : ay prog C)
include hC
end Go.Gv

namespace Go.Gv
open Go.Lib
theorem LZ (a k m : Nat) (hm : m=a * 2 ^ k % 18446744073709551616) : IntKind.u64.wrap ((a : Int) * 2 ^ k)=(m : Int):=by
 have e : (a : Int) * 2 ^ k=((a * 2 ^ k : Nat) : Int):=by push_cast;rfl
 rw [e,Bh,hm]
theorem LY (a m : Nat) (hm : m=a * 4294967296 % 18446744073709551616) : IntKind.u64.wrap ((a : Int) * 2 ^ min 32 IntKind.u64.bits)=(m : Int):=LZ a 32 m hm
theorem uw {n : Int} {m : Nat} (h : n=m \/ n=m + 18446744073709551616 \/ n=m - 18446744073709551616) (hm : m < 18446744073709551616) : IntKind.u64.wrap n=(m : Int):=by
 rw [Mq];omega
end Go.Gv

namespace Go.Gv
open Go.Lib
theorem SE (a m : Nat) (hm : m=a * 16 % 18446744073709551616) : IntKind.u64.wrap ((a : Int) * 2 ^ min 4 IntKind.u64.bits)=(m : Int):=LZ a 4 m hm
theorem L0 (a : Nat) : Int.fdiv (a : Int) (2 ^ min 60 IntKind.u64.bits)=((a / 1152921504606846976 : Nat) : Int):=L7 a 60
theorem Cl (a : Nat) (ha : a < 18446744073709551616) : bits .and .u64 (a : Int) 1152921504606846975=((a % 1152921504606846976 : Nat) : Int):=by
 have h:=bits_and_u64_nat a 1152921504606846975 ha (by omega)
 have e : a &&& 1152921504606846975=a % 1152921504606846976:=Nat.and_two_pow_sub_one_eq_mod a 60
 rw [e] at h
 exact h
theorem SC (a b : Nat) (hb : b < 16) (h : a * 16 + b < 18446744073709551616) : bits .or .u64 ((a * 16 : Nat) : Int) (b : Int)=((a * 16 + b : Nat) : Int):=orN a b 4 hb h
def vO (p : Nat) (neg : Bool) : D:=.agg [.int .u64 ((p / 18446744073709551616 : Nat) : Int),.int .u64 ((p % 18446744073709551616 : Nat) : Int),.bool neg]
def wiD (p : Nat) : D:=.agg [.int .i64 ((p / 1152921504606846976 : Nat) : Int),.int .i64 ((p % 1152921504606846976 : Nat) : Int)]
variable {C : CC} (hC : ay prog C)
include hC
theorem tc (n : Nat) (h : n < 9223372036854775808) : C 112 [.int .i64 n] (.int .u64 (n : Int)) []:=by
 refine aw hC (nf:=N112) rfl rfl ?_
 have h0 : ¬ (n : Int) < 0:=by omega
 simp [N112,h0,dh n (by omega)]
theorem wE (a b : Int) (n : Bool) : C 113 [.int .u64 a,.int .u64 b,.bool n] (.agg [.int .u64 a,.int .u64 b,.bool (n && (!decide (a=0) || !decide (b=0)))]) []:=by
 refine aw hC (nf:=N113) rfl rfl ?_
 simp [N113]
 cases n <;> simp
 by_cases h : a=0 <;> simp [h]
theorem xc (x y : Nat) (hx : x < 9223372036854775808) (hy : y < 9223372036854775808) : C 103 [.int .i64 x,.int .i64 y] (vO (x * y) false) []:=by
 refine aw hC (nf:=N103) rfl rfl ?_
 have h0 : ¬ (x : Int) < 0:=by omega
 have h1 : ¬ (y : Int) < 0:=by omega
 have hm:=sf hC x y (by omega) (by omega)
 rw [vO]
 obtain ⟨zh,hzh⟩ : ∃ zh,zh=x * y / 18446744073709551616:=⟨_,rfl⟩
 obtain ⟨zl,hzl⟩ : ∃ zl,zl=x * y % 18446744073709551616:=⟨_,rfl⟩
 rw [<- hzh,<- hzl] at hm ⊢
 simp [N103]
 refine aa (tc hC x hx) (.inl rfl) ?_
 simp
 refine aa (tc hC y hy) (.inl rfl) ?_
 simp
 refine aa hm (.inl rfl) ?_
 simp [h0,h1]
 refine aa (wE hC zh zl false) (.inl rfl) ?_
 simp
end Go.Gv

namespace Go.Gv
open Go.Lib
variable {C : CC} (hC : ay prog C)
include hC
theorem qC (p : Nat) (h : p < 1329227995784915872903807060280344576) : C 106 [wiD p] (.bool true) []:=by
 obtain ⟨ph,hph⟩ : ∃ z,z=p / 1152921504606846976:=⟨_,rfl⟩
 obtain ⟨pl,hpl⟩ : ∃ z,z=p % 1152921504606846976:=⟨_,rfl⟩
 rw [wiD,<- hph,<- hpl]
 have h1 : (-1152921504606846976 : Int) <= ph:=by omega
 have h2 : (ph : Int) < 1152921504606846976:=by omega
 have h3 : (0 : Int) <= pl:=by omega
 have h4 : (pl : Int) < 1152921504606846976:=by omega
 refine aw hC (nf:=N106) rfl rfl ?_
 simp [N106,h1,h2,h3,h4]
theorem vT (p : Nat) (h : p < 1329227995784915872903807060280344576) : C 105 [vO p false] (.tup [wiD p,.int .i64 0]) []:=by
 obtain ⟨ph,hph⟩ : ∃ z,z=p / 1152921504606846976:=⟨_,rfl⟩
 obtain ⟨pl,hpl⟩ : ∃ z,z=p % 1152921504606846976:=⟨_,rfl⟩
 obtain ⟨zh,hzh⟩ : ∃ z,z=p / 18446744073709551616:=⟨_,rfl⟩
 obtain ⟨zl,hzl⟩ : ∃ z,z=p % 18446744073709551616:=⟨_,rfl⟩
 rw [wiD,vO,<- hph,<- hpl,<- hzh,<- hzl]
 obtain ⟨zt,hzt⟩ : ∃ z,z=zl / 1152921504606846976:=⟨_,rfl⟩
 have h1 : ¬ (72057594037927936 : Int) < zh:=by omega
 have h2 : ¬ (zh : Int)=72057594037927936:=by omega
 have e1:=SE zh (zh * 16) (by omega)
 have e2:=L0 zl
 rw [<- hzt] at e2
 have e3:=SC zh zt (by omega) (by omega)
 have e4 : IntKind.i64.wrap ((zh * 16 + zt : Nat) : Int)=(ph : Int):=ae (by omega) (by omega)
 have e5:=Cl zl (by omega)
 have e6 : IntKind.i64.wrap ((zl % 1152921504606846976 : Nat) : Int)=(pl : Int):=ae (by omega) (by omega)
 refine aw hC (nf:=N105) rfl rfl ?_
 simp [N105,h1,h2,e2,-Int.natCast_mul,-Int.natCast_emod]
 refine ⟨ai (by decide +kernel),?_⟩
 rw [e1,e3,e4,e5,e6]
 simp
end Go.Gv

namespace Go.Gv
theorem yx (p : Nat) : ∃ a b : Int,vO p false=.agg [.int .u64 a,.int .u64 b,.bool false]:=⟨_,_,rfl⟩
theorem rY (p : Nat) : ∃ a b : Int,wiD p=.agg [.int .i64 a,.int .i64 b]:=⟨_,_,rfl⟩
variable {C : CC} (hC : ay prog C)
include hC
theorem nF (x y : Nat) (hx : x < 9223372036854775808) (hy : y < 9223372036854775808) (h : x * y < 1329227995784915872903807060280344576) : C 99 [.int .i64 x,.int .i64 y] (.tup [wiD (x * y),.int .i64 0]) []:=by
 have k1:=xc hC x y hx hy
 have k2:=vT hC (x * y) h
 obtain ⟨a,b,e1⟩:=yx (x * y)
 obtain ⟨c,d,e2⟩:=rY (x * y)
 rw [e1] at k1 k2
 rw [e2] at k2 ⊢
 refine aw hC (nf:=N99) rfl rfl ?_
 simp [N99]
 refine aa k1 (.inl rfl) ?_
 simp
 refine aa k2 (.inr rfl) ?_
 simp
end Go.Gv

namespace Go.Gv
def eY (x y : Int) : Int:=if x < y then -1 else if y < x then 1 else 0
theorem tv (p r : Nat) : (if eY ((p / 1152921504606846976 : Nat) : Int) ((r / 1152921504606846976 : Nat) : Int) ≠ 0 then eY ((p / 1152921504606846976 : Nat) : Int) ((r / 1152921504606846976 : Nat) : Int) else eY ((p % 1152921504606846976 : Nat) : Int) ((r % 1152921504606846976 : Nat) : Int))=eY p r:=by
 unfold eY
 have h1:=Nat.div_add_mod p 1152921504606846976
 have h2:=Nat.div_add_mod r 1152921504606846976
 have h3:=Nat.mod_lt p (show 0 < 1152921504606846976 by decide)
 have h4:=Nat.mod_lt r (show 0 < 1152921504606846976 by decide)
 obtain ⟨a,ha⟩ : ∃ a,a=p / 1152921504606846976:=⟨_,rfl⟩
 obtain ⟨b,hb⟩ : ∃ b,b=r / 1152921504606846976:=⟨_,rfl⟩
 obtain ⟨c,hc⟩ : ∃ c,c=p % 1152921504606846976:=⟨_,rfl⟩
 obtain ⟨d,hd⟩ : ∃ d,d=r % 1152921504606846976:=⟨_,rfl⟩
 rw [<- ha,<- hb,<- hc,<- hd]
 rw [<- ha,<- hc] at h1
 rw [<- hb,<- hd] at h2
 rw [<- hc] at h3
 rw [<- hd] at h4
 clear ha hb hc hd
 by_cases e1 : a < b
 ·have : (a : Int) < b:=by omega
  rw [if_pos this,if_pos (by decide),if_pos (by omega)]
 ·by_cases e2 : b < a
  ·have h5 : (b : Int) < a:=by omega
   rw [if_neg (show ¬ (a : Int) < b by omega),if_pos h5,if_pos (by decide),if_neg (by omega),if_pos (by omega)]
  ·have : a=b:=by omega
   subst this
   have z : (if (a : Int) < a then (-1 : Int) else if (a : Int) < a then 1 else 0)=0:=by simp
   rw [z,if_neg (show ¬ (0 : Int) ≠ 0 by decide)]
   by_cases e3 : c < d
   ·rw [if_pos (show (c : Int) < d by omega),if_pos (by omega)]
   ·rw [if_neg (show ¬ (c : Int) < d by omega)]
    by_cases e4 : d < c
    ·rw [if_pos (show (d : Int) < c by omega),if_neg (by omega),if_pos (by omega)]
    ·rw [if_neg (show ¬ (d : Int) < c by omega),if_neg (by omega),if_neg (by omega)]
variable {C : CC} (hC : ay prog C)
include hC
theorem sD (x : Int) : C 299 [.int .i64 x] (.bool false) []:=by
 refine aw hC (nf:=N299) rfl rfl ?_
 simp [N299]
theorem nL (x y : Int) : C 267 [.int .i64 x,.int .i64 y] (.int .i64 (eY x y)) []:=by
 have k1:=sD hC x
 have k2:=sD hC y
 refine aw hC (nf:=N267) rfl rfl ?_
 simp [N267]
 refine aa k1 (.inl rfl) ?_
 simp
 refine aa k2 (.inl rfl) ?_
 simp
 refine aj (fun c1=>?_) (fun c1=>?_) <;> simp at c1 <;> simp [c1]
 ·rw [eY,if_pos c1]
 ·refine aj (fun c2=>?_) (fun c2=>?_) <;> simp at c2 <;> simp [c2]
  ·rw [eY,if_neg (by omega),if_pos c2]
  ·rw [eY,if_neg (by omega),if_neg (by omega)]
theorem xJ (a b : Int) : C 266 [.sl [[.int .i64 a],[.int .i64 b]]] (.int .i64 (if a ≠ 0 then a else b)) []:=by
 have w1 : IntKind.wrap .i64 1=1:=by decide
 have w2 : IntKind.wrap .i64 2=2:=by decide
 refine aw hC (nf:=N266) rfl rfl ?_
 simp [N266]
 refine ar Nat (fun i=>[(3,.int .i64 0),(6,.sl [[.int .i64 a],[.int .i64 b]]),(7,.int .i64 2),(8,.int .i64 i)]) (fun i=>i <= 2 /\ (1 <= i -> a=0) /\ (2 <= i -> b=0)) (fun i=>2 - i) 0 (by simp) (by simp) ?_
 rintro i ⟨hi,s1,s2⟩
 rcases (by omega : i=0 \/ i=1 \/ i=2) with rfl | rfl | rfl
 ·by_cases h : a=0
  ·simp [h,w1]
   refine ⟨1,?_⟩
   simp [h]
  ·simp [h]
 ·have ha:=s1 (by omega)
  by_cases h : b=0
  ·simp [h,ha,w2]
   refine ⟨2,?_⟩
   simp [h,ha]
  ·simp [h,ha]
 ·simp [s1 (by omega),s2 (by omega)]
theorem GR (p r : Nat) (hp : p < 1329227995784915872903807060280344576) (hr : r < 1329227995784915872903807060280344576) : C 225 [wiD p,wiD r] (.tup [.int .i64 (eY p r),.int .i64 0]) []:=by
 have k1:=qC hC p hp
 have k2:=qC hC r hr
 have k3:=nL hC ((p / 1152921504606846976 : Nat) : Int) ((r / 1152921504606846976 : Nat) : Int)
 have k4:=nL hC ((p % 1152921504606846976 : Nat) : Int) ((r % 1152921504606846976 : Nat) : Int)
 have k5:=xJ hC (eY ((p / 1152921504606846976 : Nat) : Int) ((r / 1152921504606846976 : Nat) : Int)) (eY ((p % 1152921504606846976 : Nat) : Int) ((r % 1152921504606846976 : Nat) : Int))
 rw [tv] at k5
 rw [wiD] at k1 k2 ⊢
 rw [wiD]
 obtain ⟨a,ha⟩ : ∃ a : Int,a=((p / 1152921504606846976 : Nat) : Int):=⟨_,rfl⟩
 obtain ⟨b,hb⟩ : ∃ b : Int,b=((r / 1152921504606846976 : Nat) : Int):=⟨_,rfl⟩
 obtain ⟨c,hc⟩ : ∃ c : Int,c=((p % 1152921504606846976 : Nat) : Int):=⟨_,rfl⟩
 obtain ⟨d,hd⟩ : ∃ d : Int,d=((r % 1152921504606846976 : Nat) : Int):=⟨_,rfl⟩
 rw [<- ha,<- hc] at k1 ⊢
 rw [<- hb,<- hd] at k2 ⊢
 rw [<- ha,<- hb] at k3 k5
 rw [<- hc,<- hd] at k4 k5
 refine aw hC (nf:=N225) rfl rfl ?_
 simp [N225]
 refine aa k1 (.inl rfl) ?_
 simp
 refine aa k2 (.inl rfl) ?_
 simp
 refine aa k3 (.inl rfl) ?_
 simp
 refine aa k4 (.inl rfl) ?_
 simp
 refine aa k5 (.inl rfl) ?_
 simp
 exact ai (by decide +kernel)
end Go.Gv

namespace Go.Gv
def KL (m : Msh) (i : Nat) : Env:=[(1,.ptr (aQ m)),(3,.mrf 10224),(10224,.mp 3 2 (iV m i) (kK m i)),(16,slx m.fn (m.f.map br)),(17,.int .i64 m.f.length),(18,.int .i64 i)]
theorem oS (m : Msh) (i : Nat) : KL m i=[(1,.ptr (aQ m)),(3,.mrf 10224),(10224,.mp 3 2 (iV m i) (kK m i)),(16,slx m.fn (m.f.map br)),(17,.int .i64 m.f.length),(18,.int .i64 i)]:=zR
def KM (m : Msh) (i k : Nat) : Env:=[(1,.ptr (aQ m)),(3,.mrf 10224),(10224,.mp 3 2 (sdK (fce m i) k++iV m i) (List.replicate k (.int .i64 i)++kK m i)),(4,.int .i64 i),(5,.adr (.r 10080) 0 0),(10080,.blk 4 [br (fce m i)]),(16,slx m.fn (m.f.map br)),(17,.int .i64 m.f.length),(18,.int .i64 i),(23,.int .i64 k)]
theorem oT (m : Msh) (i k : Nat) : KM m i k=[(1,.ptr (aQ m)),(3,.mrf 10224),(10224,.mp 3 2 (sdK (fce m i) k++iV m i) (List.replicate k (.int .i64 i)++kK m i)),(4,.int .i64 i),(5,.adr (.r 10080) 0 0),(10080,.blk 4 [br (fce m i)]),(16,slx m.fn (m.f.map br)),(17,.int .i64 m.f.length),(18,.int .i64 i),(23,.int .i64 k)]:=zR
def KN (m : Msh) (i : Nat) : Env:=[(3,.mrf 10224),(10224,.mp 3 2 (iV m m.f.length) (kK m m.f.length)),(7,.ref (.r 10112) 0 m.f.length),(10112,.blk 3 (nbR m i 0)),(38,slx m.fn (m.f.map br)),(39,.int .i64 m.f.length),(40,.int .i64 i)]
theorem oU (m : Msh) (i : Nat) : KN m i=[(3,.mrf 10224),(10224,.mp 3 2 (iV m m.f.length) (kK m m.f.length)),(7,.ref (.r 10112) 0 m.f.length),(10112,.blk 3 (nbR m i 0)),(38,slx m.fn (m.f.map br)),(39,.int .i64 m.f.length),(40,.int .i64 i)]:=zR
def KO (m : Msh) (i k : Nat) : Env:=[(3,.mrf 10224),(10224,.mp 3 2 (iV m m.f.length) (kK m m.f.length)),(7,.ref (.r 10112) 0 m.f.length),(10112,.blk 3 (nbR m i k)),(8,.int .i64 i),(9,.adr (.r 10144) 0 0),(10144,.blk 4 [br (fce m i)]),(38,slx m.fn (m.f.map br)),(39,.int .i64 m.f.length),(40,.int .i64 i),(45,.int .i64 k)]
theorem ft (m : Msh) (i k : Nat) : KO m i k=[(3,.mrf 10224),(10224,.mp 3 2 (iV m m.f.length) (kK m m.f.length)),(7,.ref (.r 10112) 0 m.f.length),(10112,.blk 3 (nbR m i k)),(8,.int .i64 i),(9,.adr (.r 10144) 0 0),(10144,.blk 4 [br (fce m i)]),(38,slx m.fn (m.f.map br)),(39,.int .i64 m.f.length),(40,.int .i64 i),(45,.int .i64 k)]:=zR
variable {C : CC} (hC : ay prog C)
include hC
set_option maxHeartbeats 2000000 in
theorem oV (m : Msh) (hv : ao m=true) : C 261 [.agg (aQ m)] (.sl (nbA m)) []:=by
 have hsz:=bO hv
 have hml : maxLen=9223372036854775807:=rfl
 refine aw hC (nf:=N261) rfl rfl ?_
 simp [N261,ab]
 refine ar Nat (fun i=>KL m i) (fun i=>i <= m.f.length) (fun i=>m.f.length - i) 0 (by simp) (by simp [oS,ab,iV,kK]) ?_
 rintro i hi
 simp [oS,ab]
 refine aj (fun g1=>?_) (fun g1=>?_) <;> simp at g1 <;> simp [g1]
 ·have hw : IntKind.wrap .i64 ((i : Int) + 1)=((i + 1 : Nat) : Int):=ae (by omega) (by omega)
  have cb:=fun j=>qL (dt hv g1) j
  have ks:=fun k h=>oO hC (fce m i) k h
  have nl:=qa m i
  simp only [aI] at ks
  simp [aI]
  refine ar Nat (fun k=>KM m i k) (fun k=>k <= 3) (fun k=>3 - k) 0 (by simp) (by simp [oT,ab,aI,sdK]) ?_
  rintro k hk
  simp [oT,ab,aI]
  refine aj (fun g2=>?_) (fun g2=>?_) <;> simp at g2 <;> simp [g2]
  ·have hw2 : IntKind.wrap .i64 ((k : Int) + 1)=((k + 1 : Nat) : Int):=ae (by omega) (by omega)
   have ck:=cb k
   have ck1:=cb (k + 1)
   refine aa (ks k (by omega)) (.inl rfl) ?_
   simp [hw2,jW]
   refine ⟨by omega,⟨⟨by omega,by omega⟩,by omega,by omega⟩,by omega,k + 1,by omega,by omega,?_⟩
   simp [oT,ab,aI,sdK,List.replicate_succ]
  ·have hk3 : k=3:=by omega
   subst hk3
   simp [hw]
   refine ⟨i + 1,by omega,by omega,?_⟩
   simp [oS,ab,iV,kK,List.replicate]
 ·have hi2 : i=m.f.length:=by omega
  subst hi2
  refine ⟨by omega,?_⟩
  refine ar Nat (fun i=>KN m i) (fun i=>i <= m.f.length) (fun i=>m.f.length - i) 0 (by simp) (by simp [oU,ab,vM]) ?_
  clear hi g1
  rintro i hi
  simp [oU,ab]
  refine aj (fun g1=>?_) (fun g1=>?_) <;> simp at g1 <;> simp [g1]
  ·have hw : IntKind.wrap .i64 ((i : Int) + 1)=((i + 1 : Nat) : Int):=ae (by omega) (by omega)
   have cb:=fun j=>qL (dt hv g1) j
   have ks:=fun k h=>oO hC (fce m i) k h
   simp only [aI] at ks
   simp [aI]
   refine ar Nat (fun k=>KO m i k) (fun k=>k <= 3) (fun k=>3 - k) 0 (by simp) (by simp [ft,ab,aI]) ?_
   rintro k hk
   simp [ft,ab,aI]
   refine aj (fun g2=>?_) (fun g2=>?_) <;> simp at g2 <;> simp [g2]
   ·have hw2 : IntKind.wrap .i64 ((k : Int) + 1)=((k + 1 : Nat) : Int):=ae (by omega) (by omega)
    have ck:=cb k
    have ck1:=cb (k + 1)
    have hg:=vN m (crn (fce m i) (k + 1)) (crn (fce m i) k) m.f.length
    have hl : nbF m i k=match jF (fun j=>bS (fce m j) (crn (fce m i) (k + 1)) (crn (fce m i) k)) m.f.length with
     | some j=>(j : Int)
     | none=>-1:=rT hv _ _
    have hset:=yt m g1 (k:=k) (by omega)
    have hget:=yr m (i:=i) (k:=k) g1
    cases hl0 : jF (fun j=>bS (fce m j) (crn (fce m i) (k + 1)) (crn (fce m i) k)) m.f.length with
    | none =>
     rw [hl0] at hg hl
     simp at hg
     rcases (by omega : k=0 \/ k=1 \/ k=2) with rfl | rfl | rfl
     ·refine aa (ks 0 (by omega)) (.inl rfl) ?_
      simp at ck ck1 hset hget
      simp [hg]
      refine ⟨⟨⟨by omega,by omega⟩,by omega,by omega⟩,g1,?_⟩
      rw [hget]
      simp [hget]
      refine ⟨1,by omega,by omega,?_⟩
      rw [hl] at hset
      simp [ft,ab,aI,hset,az,aD,aE]
     ·refine aa (ks 1 (by omega)) (.inl rfl) ?_
      simp at ck ck1 hset hget
      simp [hg]
      refine ⟨⟨⟨by omega,by omega⟩,by omega,by omega⟩,g1,?_⟩
      rw [hget]
      simp [hget]
      refine ⟨2,by omega,by omega,?_⟩
      rw [hl] at hset
      simp [ft,ab,aI,hset,az,aD,aE]
     ·refine aa (ks 2 (by omega)) (.inl rfl) ?_
      simp at ck ck1 hset hget
      simp [hg]
      refine ⟨⟨⟨by omega,by omega⟩,by omega,by omega⟩,g1,?_⟩
      rw [hget]
      simp [hget]
      refine ⟨3,by omega,by omega,?_⟩
      rw [hl] at hset
      simp [ft,ab,aI,hset,az,aD,aE]
    | some j =>
     rw [hl0] at hg hl
     simp at hg
     rcases (by omega : k=0 \/ k=1 \/ k=2) with rfl | rfl | rfl
     ·refine aa (ks 0 (by omega)) (.inl rfl) ?_
      simp at ck ck1 hset hget
      simp [hg]
      refine ⟨⟨⟨by omega,by omega⟩,by omega,by omega⟩,g1,?_⟩
      rw [hget]
      simp [hget]
      refine ⟨1,by omega,by omega,?_⟩
      rw [hl] at hset
      simp [ft,ab,aI,hset,az,aD,aE]
     ·refine aa (ks 1 (by omega)) (.inl rfl) ?_
      simp at ck ck1 hset hget
      simp [hg]
      refine ⟨⟨⟨by omega,by omega⟩,by omega,by omega⟩,g1,?_⟩
      rw [hget]
      simp [hget]
      refine ⟨2,by omega,by omega,?_⟩
      rw [hl] at hset
      simp [ft,ab,aI,hset,az,aD,aE]
     ·refine aa (ks 2 (by omega)) (.inl rfl) ?_
      simp at ck ck1 hset hget
      simp [hg]
      refine ⟨⟨⟨by omega,by omega⟩,by omega,by omega⟩,g1,?_⟩
      rw [hget]
      simp [hget]
      refine ⟨3,by omega,by omega,?_⟩
      rw [hl] at hset
      simp [ft,ab,aI,hset,az,aD,aE]
   ·have hk3 : k=3:=by omega
    subst hk3
    simp [hw]
    refine ⟨i + 1,by omega,by omega,?_⟩
    simp [oU,ab,vL]
  ·have hi2 : i=m.f.length:=by omega
   subst hi2
   rw [yq]
end Go.Gv

namespace Go.Gv
theorem bx {s : Spt} (h : aX s=true) : -16777216 <= s.x /\ s.x <= 16777216 /\ -16777216 <= s.y /\ s.y <= 16777216 /\ -4194304 <= s.z /\ s.z <= 4194304:=by
 simp only [aX,x0a,x0g] at h
 omega
def spA (m : Msh) (i : Nat) : Spt:=spt m (fce m i).a.toNat
def spB (m : Msh) (i : Nat) : Spt:=spt m (fce m i).b.toNat
def spC (m : Msh) (i : Nat) : Spt:=spt m (fce m i).c.toNat
def bF (m : Msh) (i : Nat) : Int:=(spA m i).z + (spB m i).z + (spC m i).z
def bB (m : Msh) (i : Nat) : Int:=(spA m i).x + (spB m i).x + (spC m i).x
def bC (m : Msh) (i : Nat) : Int:=(spA m i).y + (spB m i).y + (spC m i).y
theorem rU (m : Msh) (i : Nat) : spt m (fce m i).a.toNat=spA m i:=rfl
theorem rV (m : Msh) (i : Nat) : spt m (fce m i).b.toNat=spB m i:=rfl
theorem rW (m : Msh) (i : Nat) : spt m (fce m i).c.toNat=spC m i:=rfl
theorem og {m : Msh} (hv : ao m=true) {i : Nat} (hi : i < m.f.length) : aX (spA m i)=true /\ aX (spB m i)=true /\ aX (spC m i)=true:=by
 obtain ⟨⟨_,h1⟩,⟨_,h2⟩,⟨_,h3⟩⟩:=gg (dt hv hi)
 exact ⟨pk hv h1,pk hv h2,pk hv h3⟩
theorem iP {m : Msh} (hv : ao m=true) {i : Nat} (hi : i < m.f.length) : -12582912 <= bF m i /\ bF m i <= 12582912:=by
 obtain ⟨h1,h2,h3⟩:=og hv hi
 have:=bx h1
 have:=bx h2
 have:=bx h3
 unfold bF
 omega
theorem kw {m : Msh} (hv : ao m=true) {i : Nat} (hi : i < m.f.length) : -50331648 <= bB m i /\ bB m i <= 50331648 /\ -50331648 <= bC m i /\ bC m i <= 50331648:=by
 obtain ⟨h1,h2,h3⟩:=og hv hi
 have:=bx h1
 have:=bx h2
 have:=bx h3
 unfold bB bC
 omega
def smR (m : Msh) (i : Nat) : List (List D):=(List.range i).map fun j=>[.int .i64 (bF m j)]
def ctR (m : Msh) (i : Nat) : List (List D):=(List.range i).map fun j=>[.int .i64 (bB m j),.int .i64 (bC m j)]
@[simp] theorem Q6 (m : Msh) (i : Nat) : (smR m i).length=i:=by simp [smR]
@[simp] theorem MD (m : Msh) (i : Nat) : (ctR m i).length=i:=by simp [ctR]
@[simp] theorem Md (m : Msh) (i : Nat) : List.take i (smR m i)=smR m i:=x0q (by simp)
@[simp] theorem HF (m : Msh) (i : Nat) : List.take i (ctR m i)=ctR m i:=x0q (by simp)
theorem sS (m : Msh) (i : Nat) : smR m i++[[.int .i64 (bF m i)]]=smR m (i + 1):=by simp [smR,x08]
theorem xL (m : Msh) (i : Nat) : ctR m i++[[.int .i64 (bB m i),.int .i64 (bC m i)]]=ctR m (i + 1):=by simp [ctR,x08]
@[simp] theorem Q5 (m : Msh) (i : Nat) (x : List D) : (∀ e,e ∈ smR m i \/ e=x -> ∀ c,c ∈ e -> aK c=true)=∀ c,c ∈ x -> aK c=true:=by
 apply propext
 constructor
 ·exact fun h=>h x (.inr rfl)
 ·rintro h e (he | rfl)
  ·obtain ⟨j,_,rfl⟩:=x0s.1 he
   simp
  ·exact h
@[simp] theorem MC (m : Msh) (i : Nat) (x : List D) : (∀ e,e ∈ ctR m i \/ e=x -> ∀ c,c ∈ e -> aK c=true)=∀ c,c ∈ x -> aK c=true:=by
 apply propext
 constructor
 ·exact fun h=>h x (.inr rfl)
 ·rintro h e (he | rfl)
  ·obtain ⟨j,_,rfl⟩:=x0s.1 he
   simp
  ·exact h
def cN (sz : Nat) (es : List (List D)) : D:=match es with
 | []=>.nils
 | e::r=>.own sz (e::r)
@[simp] theorem Hv (sz : Nat) (es : List (List D)) : bq (cN sz es)=slx true es:=by cases es <;> rfl
def grC (m : Msh) : List D:=[.sl (nbA m),slx true (smR m m.f.length),slx true (ctR m m.f.length)]
theorem c9 (m : Msh) : grC m=[.sl (nbA m),slx true (smR m m.f.length),slx true (ctR m m.f.length)]:=zR
def mdE (m : Msh) (i : Nat) : Env:=[(1,.ptr (aQ m)),(6,.adr (.r 10352) 0 0),(10352,.blk 3 [[.sl (nbA m),cN 1 (smR m i),cN 2 (ctR m i)]]),(24,slx m.fn (m.f.map br)),(25,.int .i64 m.f.length),(26,.int .i64 i)]
theorem oM (m : Msh) (i : Nat) : mdE m i=[(1,.ptr (aQ m)),(6,.adr (.r 10352) 0 0),(10352,.blk 3 [[.sl (nbA m),cN 1 (smR m i),cN 2 (ctR m i)]]),(24,slx m.fn (m.f.map br)),(25,.int .i64 m.f.length),(26,.int .i64 i)]:=zR
theorem zU (m : Msh) (i : Nat) : cN 1 (smR m (i + 1))=.own 1 (smR m (i + 1)):=by
 have : (smR m (i + 1)).length=i + 1:=by simp
 cases h : smR m (i + 1) with
 | nil=>rw [h] at this;simp at this
 | cons e r=>rfl
theorem zT (m : Msh) (i : Nat) : cN 2 (ctR m (i + 1))=.own 2 (ctR m (i + 1)):=by
 have : (ctR m (i + 1)).length=i + 1:=by simp
 cases h : ctR m (i + 1) with
 | nil=>rw [h] at this;simp at this
 | cons e r=>rfl
variable {C : CC} (hC : ay prog C)
include hC
theorem jn (dec : Nat -> List UInt8) (hI : ∀ n : Nat,n < 100 -> C 127 [.int .i64 n] (.str (dec n)) []) (m : Msh) (hz : bM m=true -> m.s.length <= 100 /\ m.f.length <= 100) :
  C 221 [.agg (aQ m)] (if ao m then .tup [.sl (nbA m),.int .i64 0] else .tup [.nils,.int .i64 1]) []:=by
 have k:=mD hC dec hI m hz
 refine aw hC (nf:=N221) rfl rfl ?_
 simp only [ab] at k
 simp [N221,ab]
 refine aa k (.inl rfl) ?_
 cases hv : ao m
 ·simp
 ·have k2:=oV hC m hv
  simp only [ab] at k2
  simp
  refine aa k2 (.inr rfl) ?_
  simp
set_option maxRecDepth 8000 in
set_option maxHeartbeats 2000000 in
theorem vF (dec : Nat -> List UInt8) (hI : ∀ n : Nat,n < 100 -> C 127 [.int .i64 n] (.str (dec n)) []) (m : Msh) (hz : bM m=true -> m.s.length <= 100 /\ m.f.length <= 100) :
  C 253 [.agg (aQ m)] (if ao m then .tup [.ptr (grC m),.int .i64 0] else .tup [.nilp,.int .i64 1]) []:=by
 have k:=jn hC dec hI m hz
 refine aw hC (nf:=N253) rfl rfl ?_
 simp only [ab] at k
 simp [N253,ab]
 refine aa k (.inr rfl) ?_
 cases hv : ao m
 ·simp
 ·have hsz:=bO hv
  simp
  refine ar Nat (fun i=>mdE m i) (fun i=>i <= m.f.length) (fun i=>m.f.length - i) 0 (by simp) (by simp [oM,ab,smR,ctR,cN]) ?_
  rintro i hi
  simp [oM,ab]
  refine aj (fun g1=>?_) (fun g1=>?_) <;> simp at g1 <;> simp [g1]
  ·have hw : IntKind.wrap .i64 ((i : Int) + 1)=((i + 1 : Nat) : Int):=ae (by omega) (by omega)
   obtain ⟨⟨a1,a2⟩,⟨b1,b2⟩,⟨c1,c2⟩⟩:=gg (dt hv g1)
   obtain ⟨h1,h2,h3⟩:=og hv g1
   have h1:=bx h1
   have h2:=bx h2
   have h3:=bx h3
   have wz1 : IntKind.wrap .i64 ((spA m i).z + (spB m i).z)=(spA m i).z + (spB m i).z:=ae rfl (by omega)
   have wz2 : IntKind.wrap .i64 ((spA m i).z + (spB m i).z + (spC m i).z)=bF m i:=ae rfl (by unfold bF;omega)
   have wx1 : IntKind.wrap .i64 ((spA m i).x + (spB m i).x)=(spA m i).x + (spB m i).x:=ae rfl (by omega)
   have wx2 : IntKind.wrap .i64 ((spA m i).x + (spB m i).x + (spC m i).x)=bB m i:=ae rfl (by unfold bB;omega)
   have wy1 : IntKind.wrap .i64 ((spA m i).y + (spB m i).y)=(spA m i).y + (spB m i).y:=ae rfl (by omega)
   have wy2 : IntKind.wrap .i64 ((spA m i).y + (spB m i).y + (spC m i).y)=bC m i:=ae rfl (by unfold bC;omega)
   simp [aI,a1,a2,b1,b2,c1,c2,b4,rU,rV,rW]
   refine ⟨ai (by decide +kernel),?_⟩
   cases i with
   | zero =>
    simp [smR,ctR,cN]
    refine ⟨ai (by decide +kernel),ai (by decide +kernel),1,by omega,by omega,?_⟩
    simp [oM,ab,smR,ctR,cN,az,wz1,wz2,wx1,wx2,wy1,wy2]
   | succ j =>
    simp [zU,zT]
    have e1:=sS m (j + 1)
    have e2:=xL m (j + 1)
    refine ⟨by omega,ai (by decide +kernel),by omega,ai (by decide +kernel),j + 1 + 1,by omega,by omega,?_⟩
    simp [oM,ab,zU,zT,wz1,wz2,wx1,wx2,wy1,wy2,e1,e2]
    exact ae rfl (by omega)
  ·have hi2 : i=m.f.length:=by omega
   subst hi2
   simp [c9]
end Go.Gv

namespace Go.Gv
theorem fH (m : Msh) (i : Nat) : smR m i=(List.range i).map fun j=>[.int .i64 (bF m j)]:=rfl
theorem BH (m : Msh) (i : Nat) : ctR m i=(List.range i).map fun j=>[.int .i64 (bB m j),.int .i64 (bC m j)]:=rfl
theorem rB (m : Msh) : nbA m=(List.range m.f.length).map fun j=>[.int .i64 (nbF m j 0),.int .i64 (nbF m j 1),.int .i64 (nbF m j 2)]:=rfl
theorem fV (n i : Nat) (h : i < n) : (List.range n)[i]?.getD default=i:=by simp [h]
theorem mV (n i : Nat) (h : i < n) : (List.range n)[i]?.getD 0=i:=by simp [h]
theorem oH {α : Type} (p : α -> Bool) (xs : List α) : -1 <= dU p xs /\ dU p xs < xs.length:=by
 unfold dU
 split
 ·rename_i i h
  have:=(x1y.1 h).1
  omega
 ·omega
theorem co (m : Msh) (i k : Nat) : -1 <= nbF m i k /\ nbF m i k < m.f.length:=oH _ _
def bsd (m : Msh) (i : Nat) (o : Int) : Bool:=decide (o=nbF m i 0) || (decide (o=nbF m i 1) || decide (o=nbF m i 2))
def dH (m : Msh) (i j : Nat) : Int:=bF m i - bF m j
def fT (m : Msh) (i j : Nat) : Int:=dH m i j * (if dH m i j < -dH m i j then -dH m i j else dH m i j)
def gC (m : Msh) (i j : Nat) : Int:=(bB m i - bB m j) * (bB m i - bB m j) + (bC m i - bC m j) * (bC m i - bC m j)
def jq (m : Msh) (i a b : Nat) : Int:=eY (fT m i a * gC m i b) (fT m i b * gC m i a)
def cG (m : Msh) (i : Nat) (best n : Int) : Int:=if n < 0 \/ bF m i <= bF m n.toNat then best else if best < 0 then n else if 0 < jq m i n.toNat best.toNat \/ (jq m i n.toNat best.toNat=0 /\ n < best) then n else best
def upF (m : Msh) (i : Nat) : Nat -> Int
 | 0=>-2
 | k + 1=>cG m i (upF m i k) (nbF m i k)
def cS (m : Msh) (i : Nat) : Int:=if upF m i 3=-2 /\ bsd m i (-1)=true then -1 else upF m i 3
theorem fJ (m : Msh) (i : Nat) : ∀ k,upF m i k=-2 \/ (0 <= upF m i k /\ upF m i k < m.f.length /\ bF m (upF m i k).toNat < bF m i)
 | 0=>.inl rfl
 | k + 1=>by
  have:=co m i k
  rw [upF,cG]
  by_cases h : nbF m i k < 0 \/ bF m i <= bF m (nbF m i k).toNat
  ·rw [if_pos h];exact fJ m i k
  ·rw [if_neg h]
   have h1 : 0 <= nbF m i k /\ nbF m i k < m.f.length /\ bF m (nbF m i k).toNat < bF m i:=by omega
   split
   ·exact .inr h1
   ·split
    ·exact .inr h1
    ·exact fJ m i k
theorem iF {m : Msh} (hv : ao m=true) {i j : Nat} (hi : i < m.f.length) (hj : j < m.f.length) : -1125899906842624 <= fT m i j /\ fT m i j <= 1125899906842624:=by
 have h1:=iP hv hi
 have h2:=iP hv hj
 unfold fT
 have h3 : -33554432 <= dH m i j /\ dH m i j <= 33554432:=by unfold dH;omega
 exact gi (k:=33554432) (l:=33554432) (by omega) (by omega) (by split <;> omega) (by split <;> omega)
theorem Bc (a : Int) : 0 <= a * a:=by
 rcases Int.le_total 0 a with h | h
 ·exact Int.mul_nonneg h h
 ·exact Int.mul_nonneg_of_nonpos_of_nonpos h h
theorem iz {m : Msh} (hv : ao m=true) {i j : Nat} (hi : i < m.f.length) (hj : j < m.f.length) : 0 <= gC m i j /\ gC m i j <= 36028797018963968:=by
 have h1:=kw hv hi
 have h2:=kw hv hj
 have h3:=gi (k:=134217728) (l:=134217728) (a:=bB m i - bB m j) (b:=bB m i - bB m j) (by omega) (by omega) (by omega) (by omega)
 have h4:=gi (k:=134217728) (l:=134217728) (a:=bC m i - bC m j) (b:=bC m i - bC m j) (by omega) (by omega) (by omega) (by omega)
 have h5:=Bc (bB m i - bB m j)
 have h6:=Bc (bC m i - bC m j)
 unfold gC
 omega
theorem lQ {m : Msh} {i j : Nat} (h : bF m j <= bF m i) : 0 <= fT m i j:=by
 unfold fT
 have : 0 <= dH m i j:=by unfold dH;omega
 exact Int.mul_nonneg this (by split <;> omega)
variable {C : CC} (hC : ay prog C)
include hC
theorem ye {b : Bool} {xs : List Int} (o : Int) (hs : xs.length < 2 ^ 62) : C 262 [slx b (xs.map fun x=>[.int .i64 x]),.int .i64 o] (.int .i64 (dU (fun x=>decide (o=x)) xs)) []:=by
 refine aw hC (nf:=N262) rfl rfl ?_
 simp [N262]
 refine ar Nat (fun i=>[(0,slx b (xs.map fun x=>[.int .i64 x])),(1,.int .i64 o),(7,.int .i64 xs.length),(8,.int .i64 i)]) (fun i=>i <= xs.length /\ ∀ (j : Nat) (h : j < xs.length),j < i -> decide (o=xs[j])=false) (fun i=>xs.length - i) 0 (by simp) (by simp) ?_
 rintro i ⟨hi,hj⟩
 simp
 refine aj (fun h=>?_) (fun h=>?_) <;> simp [h] <;> simp at h
 ·have hw : IntKind.wrap .i64 ((i : Int) + 1)=((i + 1 : Nat) : Int):=ae (by omega) (by omega)
  simp [h,x1C]
  refine aj (fun h1=>?_) (fun h1=>?_) <;> simp at h1 <;> simp [hw]
  ·rw [df hj h (by simpa using h1)]
  ·refine ⟨i + 1,⟨by omega,fun j hl hjj=>?_⟩,by omega,by omega⟩
   rcases x0C.1 hjj with h2 | rfl
   ·simpa using hj j hl h2
   ·exact h1
 ·rw [dF (fun j hl=>hj j hl (by omega))]
theorem sA {b : Bool} {xs : List Int} (o : Int) (hs : xs.length < 2 ^ 62) : C 223 [slx b (xs.map fun x=>[.int .i64 x]),.int .i64 o] (.bool (xs.any fun x=>decide (o=x))) []:=by
 refine aw hC (nf:=N223) rfl rfl ?_
 simp [N223]
 refine aa (ye hC o hs) (.inl rfl) ?_
 simp [jC]
theorem uJ (m : Msh) (i : Nat) (hi : i < m.f.length) (o : Int) : C 263 [.ptr (grC m),.int .i64 i,.int .i64 o] (.bool (bsd m i o)) []:=by
 have k:=sA hC (b:=false) (xs:=[nbF m i 0,nbF m i 1,nbF m i 2]) o (by simp)
 simp at k
 refine aw hC (nf:=N263) rfl rfl ?_
 simp [N263,c9,rB,hi,fV,bV]
 refine aa k (.inl rfl) ?_
 simp [bsd]
set_option maxRecDepth 8000 in
set_option maxHeartbeats 1000000 in
theorem nP (m : Msh) (hv : ao m=true) (i j : Nat) (hi : i < m.f.length) (hj : j < m.f.length) : C 264 [.ptr (grC m),.int .i64 i,.int .i64 j] (.tup [.int .i64 (fT m i j),.int .i64 (gC m i j)]) []:=by
 have h1:=iP hv hi
 have h2:=iP hv hj
 have h3:=kw hv hi
 have h4:=kw hv hj
 have h5:=iF hv hi hj
 have h6:=iz hv hi hj
 have h7:=gi (k:=134217728) (l:=134217728) (a:=bB m i - bB m j) (b:=bB m i - bB m j) (by omega) (by omega) (by omega) (by omega)
 have h8:=gi (k:=134217728) (l:=134217728) (a:=bC m i - bC m j) (b:=bC m i - bC m j) (by omega) (by omega) (by omega) (by omega)
 have w1 : IntKind.wrap .i64 (bF m i - bF m j)=dH m i j:=ae rfl (by unfold dH;omega)
 have w2 : IntKind.wrap .i64 (bB m i - bB m j)=bB m i - bB m j:=ae rfl (by omega)
 have w3 : IntKind.wrap .i64 (bC m i - bC m j)=bC m i - bC m j:=ae rfl (by omega)
 have w4 : IntKind.wrap .i64 (-dH m i j)=-dH m i j:=ae rfl (by unfold dH;omega)
 have w5 : IntKind.wrap .i64 (dH m i j * (if dH m i j < -dH m i j then -dH m i j else dH m i j))=fT m i j:=ae rfl (by omega)
 have w6 : IntKind.wrap .i64 ((bB m i - bB m j) * (bB m i - bB m j))=(bB m i - bB m j) * (bB m i - bB m j):=ae rfl (by omega)
 have w7 : IntKind.wrap .i64 ((bC m i - bC m j) * (bC m i - bC m j))=(bC m i - bC m j) * (bC m i - bC m j):=ae rfl (by omega)
 have w8 : IntKind.wrap .i64 ((bB m i - bB m j) * (bB m i - bB m j) + (bC m i - bC m j) * (bC m i - bC m j))=gC m i j:=ae rfl (by omega)
 refine aw hC (nf:=N264) rfl rfl ?_
 simp [N264,c9,fH,BH,hi,hj,fV,w1,w2,w3,w4,w6,w7,w8]
 exact ⟨ai (by decide +kernel),ai (by decide +kernel),w5.symm⟩
theorem re (m : Msh) (hv : ao m=true) (i a b : Nat) (hi : i < m.f.length) (ha : a < m.f.length) (hb : b < m.f.length) (sa : bF m a <= bF m i) (sb : bF m b <= bF m i) :
  C 268 [.ptr (grC m),.int .i64 i,.int .i64 a,.int .i64 b] (.int .i64 (jq m i a b)) []:=by
 have k1:=nP hC m hv i a hi ha
 have k2:=nP hC m hv i b hi hb
 have n1:=iF hv hi ha
 have n2:=iF hv hi hb
 have n3:=lQ sa
 have n4:=lQ sb
 have d1:=iz hv hi ha
 have d2:=iz hv hi hb
 obtain ⟨x,hx⟩ : ∃ x : Nat,fT m i a=x:=⟨(fT m i a).toNat,by omega⟩
 obtain ⟨y,hy⟩ : ∃ x : Nat,fT m i b=x:=⟨(fT m i b).toNat,by omega⟩
 obtain ⟨p,hp⟩ : ∃ x : Nat,gC m i a=x:=⟨(gC m i a).toNat,by omega⟩
 obtain ⟨q,hq⟩ : ∃ x : Nat,gC m i b=x:=⟨(gC m i b).toNat,by omega⟩
 have b1 : x * q <= 1125899906842624 * 36028797018963968:=Nat.mul_le_mul (by omega) (by omega)
 have b2 : y * p <= 1125899906842624 * 36028797018963968:=Nat.mul_le_mul (by omega) (by omega)
 have k3:=nF hC x q (by omega) (by omega) (by omega)
 have k4:=nF hC y p (by omega) (by omega) (by omega)
 have k5:=GR hC (x * q) (y * p) (by omega) (by omega)
 have e : jq m i a b=eY ((x * q : Nat) : Int) ((y * p : Nat) : Int):=by rw [jq,hx,hy,hp,hq];simp
 rw [hx,hp] at k1
 rw [hy,hq] at k2
 rw [e]
 obtain ⟨c,hc⟩ : ∃ c,c=eY ((x * q : Nat) : Int) ((y * p : Nat) : Int):=⟨_,rfl⟩
 rw [<- hc] at k5 ⊢
 obtain ⟨u1,u2,eu⟩:=rY (x * q)
 obtain ⟨v1,v2,ev⟩:=rY (y * p)
 rw [eu] at k3 k5
 rw [ev] at k4 k5
 obtain ⟨G,hG⟩ : ∃ G,G=grC m:=⟨_,rfl⟩
 rw [<- hG] at k1 k2 ⊢
 refine aw hC (nf:=N268) rfl rfl ?_
 simp [N268]
 refine aa k1 (.inl rfl) ?_
 simp
 refine aa k2 (.inl rfl) ?_
 simp
 refine aa k3 (.inr rfl) ?_
 simp
 refine aa k4 (.inr rfl) ?_
 simp
 refine aa k5 (.inl rfl) ?_
 simp
set_option maxRecDepth 8000 in
set_option maxHeartbeats 2000000 in
theorem Dd (m : Msh) (hv : ao m=true) (i : Nat) (hi : i < m.f.length) : C 256 [.ptr (grC m),.int .i64 i] (.int .i64 (cS m i)) []:=by
 have kb:=uJ hC m i hi (-1)
 have kc:=fun a b ha hb sa sb=>re hC m hv i a b hi ha hb sa sb
 refine aw hC (nf:=N256) rfl rfl ?_
 simp [N256,c9,rB,hi,fV]
 refine ar Nat (fun k=>[(0,.ptr (grC m)),(1,.int .i64 i),(5,.int .i64 (upF m i k)),(15,.agg [.int .i64 (nbF m i 0),.int .i64 (nbF m i 1),.int .i64 (nbF m i 2)]),(16,.int .i64 k)]) (fun k=>k <= 3) (fun k=>3 - k) 0 (by simp) (by simp [c9,rB,upF]) ?_
 rintro k hk
 rcases (by omega : k=0 \/ k=1 \/ k=2 \/ k=3) with rfl | rfl | rfl | rfl
 ·have step : upF m i 1=cG m i (upF m i 0) (nbF m i 0):=rfl
  have nb:=co m i 0
  have ub:=fJ m i 0
  obtain ⟨N,hN⟩ : ∃ N,N=nbF m i 0:=⟨_,rfl⟩
  obtain ⟨B,hB⟩ : ∃ B,B=upF m i 0:=⟨_,rfl⟩
  rw [<- hN] at step nb
  rw [<- hB] at step ub
  simp [az,aD,aE]
  rw [<- hN,<- hB]
  refine aj (fun c1=>?_) (fun c1=>?_) <;> simp at c1
  ·simp [c1,az,aD,aE]
   refine ⟨ai (by decide +kernel),?_⟩
   refine ⟨1,by omega,by omega,?_,?_⟩
   ·rw [step,cG,if_pos (.inl c1)]
   ·simp
  ·have hNl : N.toNat < m.f.length:=by omega
   simp [x0S.2 c1,c1,c9,fH,hi,hNl,fV,mV]
   refine ⟨ai (by decide +kernel),?_⟩
   refine aj (fun c2=>?_) (fun c2=>?_) <;> simp at c2
   ·simp [c2,az,aD,aE]
    refine ⟨1,by omega,by omega,rfl,?_,?_⟩
    ·rw [step,cG,if_pos (.inr c2)]
    ·simp
   ·have hno : ¬ (N < 0 \/ bF m i <= bF m N.toNat):=by omega
    simp [x0X.2 c2]
    refine aj (fun c3=>?_) (fun c3=>?_) <;> simp at c3
    ·simp [c3,az,aD,aE]
     refine ⟨1,by omega,by omega,rfl,?_,?_⟩
     ·rw [step,cG,if_neg hno,if_pos c3]
     ·simp
    ·have hc:=kc N.toNat B.toNat hNl (by omega) (by omega) (by omega)
     rw [x0F c1,x0F c3] at hc
     obtain ⟨c,hcc⟩ : ∃ c,c=jq m i N.toNat B.toNat:=⟨_,rfl⟩
     rw [<- hcc] at hc
     have hB0 : ¬ B < 0:=by omega
     simp only [c9,fH] at hc
     simp [x0S.2 c3,c9,fH]
     refine aa hc (.inl rfl) ?_
     simp
     refine aj (fun c4=>?_) (fun c4=>?_) <;> simp at c4
     ·simp [c4,az,aD,aE]
      refine ⟨1,by omega,by omega,rfl,?_,?_⟩
      ·rw [step,cG,if_neg hno,if_neg hB0,if_pos (.inl (by rw [<- hcc];exact c4))]
      ·simp
     ·simp [x0S.2 c4]
      by_cases c5 : c=0
      ·simp [c5]
       by_cases c6 : N < B
       ·simp [c6,az,aD,aE]
        refine ⟨1,by omega,by omega,rfl,?_,?_⟩
        ·rw [step,cG,if_neg hno,if_neg hB0,if_pos (.inr ⟨by rw [<- hcc];exact c5,c6⟩)]
        ·simp
       ·simp [c6,az,aD,aE]
        refine ⟨1,by omega,by omega,rfl,?_,?_⟩
        ·rw [step,cG,if_neg hno,if_neg hB0,if_neg (by rw [<- hcc];omega)]
        ·simp
      ·simp [c5,az,aD,aE]
       refine ⟨1,by omega,by omega,rfl,?_,?_⟩
       ·rw [step,cG,if_neg hno,if_neg hB0,if_neg (by rw [<- hcc];omega)]
       ·simp
 ·have step : upF m i 2=cG m i (upF m i 1) (nbF m i 1):=rfl
  have nb:=co m i 1
  have ub:=fJ m i 1
  obtain ⟨N,hN⟩ : ∃ N,N=nbF m i 1:=⟨_,rfl⟩
  obtain ⟨B,hB⟩ : ∃ B,B=upF m i 1:=⟨_,rfl⟩
  rw [<- hN] at step nb
  rw [<- hB] at step ub
  simp [az,aD,aE]
  rw [<- hN,<- hB]
  refine aj (fun c1=>?_) (fun c1=>?_) <;> simp at c1
  ·simp [c1,az,aD,aE]
   refine ⟨ai (by decide +kernel),?_⟩
   refine ⟨2,by omega,by omega,?_,?_⟩
   ·rw [step,cG,if_pos (.inl c1)]
   ·simp
  ·have hNl : N.toNat < m.f.length:=by omega
   simp [x0S.2 c1,c1,c9,fH,hi,hNl,fV,mV]
   refine ⟨ai (by decide +kernel),?_⟩
   refine aj (fun c2=>?_) (fun c2=>?_) <;> simp at c2
   ·simp [c2,az,aD,aE]
    refine ⟨2,by omega,by omega,rfl,?_,?_⟩
    ·rw [step,cG,if_pos (.inr c2)]
    ·simp
   ·have hno : ¬ (N < 0 \/ bF m i <= bF m N.toNat):=by omega
    simp [x0X.2 c2]
    refine aj (fun c3=>?_) (fun c3=>?_) <;> simp at c3
    ·simp [c3,az,aD,aE]
     refine ⟨2,by omega,by omega,rfl,?_,?_⟩
     ·rw [step,cG,if_neg hno,if_pos c3]
     ·simp
    ·have hc:=kc N.toNat B.toNat hNl (by omega) (by omega) (by omega)
     rw [x0F c1,x0F c3] at hc
     obtain ⟨c,hcc⟩ : ∃ c,c=jq m i N.toNat B.toNat:=⟨_,rfl⟩
     rw [<- hcc] at hc
     have hB0 : ¬ B < 0:=by omega
     simp only [c9,fH] at hc
     simp [x0S.2 c3,c9,fH]
     refine aa hc (.inl rfl) ?_
     simp
     refine aj (fun c4=>?_) (fun c4=>?_) <;> simp at c4
     ·simp [c4,az,aD,aE]
      refine ⟨2,by omega,by omega,rfl,?_,?_⟩
      ·rw [step,cG,if_neg hno,if_neg hB0,if_pos (.inl (by rw [<- hcc];exact c4))]
      ·simp
     ·simp [x0S.2 c4]
      by_cases c5 : c=0
      ·simp [c5]
       by_cases c6 : N < B
       ·simp [c6,az,aD,aE]
        refine ⟨2,by omega,by omega,rfl,?_,?_⟩
        ·rw [step,cG,if_neg hno,if_neg hB0,if_pos (.inr ⟨by rw [<- hcc];exact c5,c6⟩)]
        ·simp
       ·simp [c6,az,aD,aE]
        refine ⟨2,by omega,by omega,rfl,?_,?_⟩
        ·rw [step,cG,if_neg hno,if_neg hB0,if_neg (by rw [<- hcc];omega)]
        ·simp
      ·simp [c5,az,aD,aE]
       refine ⟨2,by omega,by omega,rfl,?_,?_⟩
       ·rw [step,cG,if_neg hno,if_neg hB0,if_neg (by rw [<- hcc];omega)]
       ·simp
 ·have step : upF m i 3=cG m i (upF m i 2) (nbF m i 2):=rfl
  have nb:=co m i 2
  have ub:=fJ m i 2
  obtain ⟨N,hN⟩ : ∃ N,N=nbF m i 2:=⟨_,rfl⟩
  obtain ⟨B,hB⟩ : ∃ B,B=upF m i 2:=⟨_,rfl⟩
  rw [<- hN] at step nb
  rw [<- hB] at step ub
  simp [az,aD,aE]
  rw [<- hN,<- hB]
  refine aj (fun c1=>?_) (fun c1=>?_) <;> simp at c1
  ·simp [c1,az,aD,aE]
   refine ⟨ai (by decide +kernel),?_⟩
   refine ⟨3,by omega,by omega,?_,?_⟩
   ·rw [step,cG,if_pos (.inl c1)]
   ·simp
  ·have hNl : N.toNat < m.f.length:=by omega
   simp [x0S.2 c1,c1,c9,fH,hi,hNl,fV,mV]
   refine ⟨ai (by decide +kernel),?_⟩
   refine aj (fun c2=>?_) (fun c2=>?_) <;> simp at c2
   ·simp [c2,az,aD,aE]
    refine ⟨3,by omega,by omega,rfl,?_,?_⟩
    ·rw [step,cG,if_pos (.inr c2)]
    ·simp
   ·have hno : ¬ (N < 0 \/ bF m i <= bF m N.toNat):=by omega
    simp [x0X.2 c2]
    refine aj (fun c3=>?_) (fun c3=>?_) <;> simp at c3
    ·simp [c3,az,aD,aE]
     refine ⟨3,by omega,by omega,rfl,?_,?_⟩
     ·rw [step,cG,if_neg hno,if_pos c3]
     ·simp
    ·have hc:=kc N.toNat B.toNat hNl (by omega) (by omega) (by omega)
     rw [x0F c1,x0F c3] at hc
     obtain ⟨c,hcc⟩ : ∃ c,c=jq m i N.toNat B.toNat:=⟨_,rfl⟩
     rw [<- hcc] at hc
     have hB0 : ¬ B < 0:=by omega
     simp only [c9,fH] at hc
     simp [x0S.2 c3,c9,fH]
     refine aa hc (.inl rfl) ?_
     simp
     refine aj (fun c4=>?_) (fun c4=>?_) <;> simp at c4
     ·simp [c4,az,aD,aE]
      refine ⟨3,by omega,by omega,rfl,?_,?_⟩
      ·rw [step,cG,if_neg hno,if_neg hB0,if_pos (.inl (by rw [<- hcc];exact c4))]
      ·simp
     ·simp [x0S.2 c4]
      by_cases c5 : c=0
      ·simp [c5]
       by_cases c6 : N < B
       ·simp [c6,az,aD,aE]
        refine ⟨3,by omega,by omega,rfl,?_,?_⟩
        ·rw [step,cG,if_neg hno,if_neg hB0,if_pos (.inr ⟨by rw [<- hcc];exact c5,c6⟩)]
        ·simp
       ·simp [c6,az,aD,aE]
        refine ⟨3,by omega,by omega,rfl,?_,?_⟩
        ·rw [step,cG,if_neg hno,if_neg hB0,if_neg (by rw [<- hcc];omega)]
        ·simp
      ·simp [c5,az,aD,aE]
       refine ⟨3,by omega,by omega,rfl,?_,?_⟩
       ·rw [step,cG,if_neg hno,if_neg hB0,if_neg (by rw [<- hcc];omega)]
       ·simp
 ·simp
  by_cases u : upF m i 3=-2
  ·simp [u]
   refine aa kb (.inl rfl) ?_
   cases hb : bsd m i (-1) <;> simp [cS,u,hb]
  ·simp [u,cS]
end Go.Gv

namespace Go.Gv
theorem pd (m : Msh) (i : Nat) : cS m i=-1 \/ cS m i=-2 \/ (0 <= cS m i /\ cS m i < m.f.length /\ bF m (cS m i).toNat < bF m i):=by
 have:=fJ m i 3
 unfold cS
 split
 ·exact .inl rfl
 ·rcases this with h | h
  ·exact .inr (.inl h)
  ·exact .inr (.inr h)
def inR (l : List Int) : List (List D):=l.map fun n=>[.int .i64 n]
theorem fb (l : List Int) : inR l=l.map fun n=>[.int .i64 n]:=rfl
@[simp] theorem yf (l : List Int) : (inR l).length=l.length:=by simp [inR]
@[simp] theorem hD (l : List Int) : List.take l.length (inR l)=inR l:=x0q (by simp)
@[simp] theorem vw (l : List Int) : List.map (fun e=>List.map bq e) (inR l)=inR l:=by simp [inR]
@[simp] theorem Nm : inR []=[]:=rfl
theorem sC (l : List Int) (n : Int) : inR l++[[.int .i64 n]]=inR (l++[n]):=by simp [inR]
def bp (m : Msh) : List Int:=(List.range m.f.length).map fun j=>bF m j
def cr (m : Msh) : List Int:=(List.range m.f.length).map fun j=>cS m j
theorem Bb (m : Msh) : smR m m.f.length=inR (bp m):=by simp [smR,inR,bp]
def flT (m : Msh) (i : Nat) : List Int:=(List.range i).map fun j=>cS m j
theorem sx (m : Msh) (i : Nat) : (flT m i).length=i:=by simp [flT]
theorem x8 (m : Msh) (i : Nat) : flT m i++[cS m i]=flT m (i + 1):=by simp [flT,x08]
def flB (m : Msh) : Nat -> List (List D)
 | 0=>List.replicate m.f.length [.int .i64 0]
 | i + 1=>inR (flT m (i + 1))
theorem pI (m : Msh) (i : Nat) : List.take i (flB m i)=inR (flT m i):=by
 cases i with
 | zero=>simp [flB,flT]
 | succ i =>
  have:=hD (flT m (i + 1))
  rw [sx] at this
  exact this
theorem BU (m : Msh) (i : Nat) : List.map (fun e=>List.map bq e) (flB m i)=flB m i:=by cases i <;> simp [flB]
theorem sv (m : Msh) {i : Nat} : i <= (flB m i).length:=by
 cases i with
 | zero=>simp
 | succ i=>simp [flB,sx]
variable {C : CC} (hC : ay prog C)
include hC
theorem we (m : Msh) (hz : bM m=true -> m.s.length <= 100 /\ m.f.length <= 100) : C 215 [.agg (aQ m)] (.bool (ao m)) []:=by
 have ks:=wr hC m
 rw [show (decide (m.s.length <= 2000) && decide (m.f.length <= 4000))=bM m from rfl] at ks
 refine aw hC (nf:=N215) rfl rfl ?_
 simp only [ab] at ks
 simp [N215,ab]
 refine aa ks (.inl rfl) ?_
 cases hs : bM m
 ·simp [ao,hs]
 ·obtain ⟨h1,h2⟩:=hz hs
  have k:=v8 hC m h1 h2
  have e : ao m=decide ((cp fD 0 (LL m)).length=0):=by
   rw [ao,hs,x1I,x04,x0g,List.length_eq_zero_iff,mN]
  rw [e]
  obtain ⟨X,hX⟩ : ∃ X,X=cp fD 0 (LL m):=⟨_,rfl⟩
  rw [<- hX] at k ⊢
  simp only [ab] at k
  simp
  refine aa k (.inr rfl) ?_
  simp
theorem BW (m : Msh) (hv : ao m=true) : C 254 [.ptr (grC m)] (.sl (inR (cr m))) []:=by
 have hsz:=bO hv
 have kr:=fun i hi=>Dd hC m hv i hi
 refine aw hC (nf:=N254) rfl rfl ?_
 simp [N254,c9]
 refine ⟨by omega,?_⟩
 refine ar Nat (fun i=>[(0,.ptr (grC m)),(3,.ref (.r 10048) 0 i),(10048,.blk 1 (flB m i)),(15,.int .i64 m.f.length),(16,.int .i64 i)]) (fun i=>i <= m.f.length) (fun i=>m.f.length - i) 0 (by simp) (by simp [c9,flB]) ?_
 rintro i hi
 simp
 refine aj (fun g1=>?_) (fun g1=>?_) <;> simp at g1 <;> simp [g1]
 ·have hw : IntKind.wrap .i64 ((i : Int) + 1)=((i + 1 : Nat) : Int):=ae (by omega) (by omega)
  refine aa (kr i (by omega)) (.inl rfl) ?_
  simp
  have hl:=sv m (i:=i)
  refine ⟨by omega,by omega,i + 1,by omega,by omega,rfl,?_,hw⟩
  rw [pI,sC,x8]
  rfl
 ·have hi2 : i=m.f.length:=by omega
  subst hi2
  refine ⟨sv m,?_⟩
  rw [BU,pI]
  rfl
theorem Bn (dec : Nat -> List UInt8) (hI : ∀ n : Nat,n < 100 -> C 127 [.int .i64 n] (.str (dec n)) []) (m : Msh) (hz : bM m=true -> m.s.length <= 100 /\ m.f.length <= 100) :
  C 220 [.agg (aQ m)] (if ao m then .tup [slx true (inR (bp m)),.int .i64 0] else .tup [.nils,.int .i64 1]) []:=by
 have k:=vF hC dec hI m hz
 refine aw hC (nf:=N220) rfl rfl ?_
 simp only [ab] at k
 simp [N220,ab]
 refine aa k (.inr rfl) ?_
 cases hv : ao m
 ·simp
 ·simp [c9,Bb]
theorem Bk (dec : Nat -> List UInt8) (hI : ∀ n : Nat,n < 100 -> C 127 [.int .i64 n] (.str (dec n)) []) (m : Msh) (hz : bM m=true -> m.s.length <= 100 /\ m.f.length <= 100) :
  C 213 [.agg (aQ m)] (if ao m then .tup [.sl (inR (cr m)),.int .i64 0] else .tup [.nils,.int .i64 1]) []:=by
 have k:=vF hC dec hI m hz
 refine aw hC (nf:=N213) rfl rfl ?_
 simp only [ab] at k
 simp [N213,ab]
 refine aa k (.inr rfl) ?_
 cases hv : ao m
 ·simp
 ·have kf:=BW hC m hv
  simp
  refine aa kf (.inr rfl) ?_
  simp
end Go.Gv

namespace Go.Gv
def nfR (fs : List Nat) : List (List D):=fs.map fun i : Nat=>[D.int .i64 (i : Int)]
@[simp] theorem Qu (fs : List Nat) : (nfR fs).length=fs.length:=by simp [nfR]
theorem jJ {fs : List Nat} {i : Nat} (h : i < fs.length) : (nfR fs)[i]? = some [.int .i64 (fs[i] : Int)]:=by simp [nfR,h]
theorem CT {fs : List Nat} {i : Nat} (h : i < (nfR fs).length) : (nfR fs)[i]=[.int .i64 (fs[i]'(by simpa using h) : Nat)]:=by simp [nfR]
@[simp] theorem KR (fs : List Nat) (n : Nat) : List.take n (nfR fs)=nfR (fs.take n):=by simp [nfR]
theorem yw (fs : List Nat) (i x : Nat) : (nfR fs).set i [.int .i64 (x : Int)]=nfR (fs.set i x):=by simp [nfR,List.map_set]
theorem yv (fs : List Nat) (x : Nat) : nfR fs++[[.int .i64 (x : Int)]]=nfR (fs++[x]):=by simp [nfR]
theorem kL (fs : List Nat) : ∀ e ∈ nfR fs,∀ c ∈ e,a6 c=true:=by simp [nfR]
theorem CU (fs : List Nat) : ∀ e ∈ nfR fs,∀ c ∈ e,aK c=true:=by simp [nfR]
def qB (fs : List Nat) (sp : List Int) : List (List D):=[[.own 1 (nfR fs),.slv 0 (inR sp)]]
def fAt (fs : List Nat) (i : Nat) : Nat:=fs.getD i 0
def swp (fs : List Nat) (i k : Nat) : List Nat:=(fs.set i (fAt fs k)).set k (fAt fs i)
@[simp] theorem Q8 (fs : List Nat) (i k : Nat) : (swp fs i k).length=fs.length:=by simp [swp]
theorem dw {fs : List Nat} {i : Nat} (h : i < fs.length) : fAt fs i=fs[i]:=by simp [fAt,h]
theorem fa {fs : List Nat} {i : Nat} (h : i < fs.length) : fAt fs i ∈ fs:=by rw [dw h];exact x0u _
theorem cJ {sp : List Int} {i : Nat} (h : i < sp.length) : (inR sp)[i]? = some [.int .i64 (sp.getD i 0)]:=by simp [inR,h]
section
variable {C : Nat -> List D -> D -> List D -> Prop} (hC : f5 prog C)
include hC
theorem vX (fs : List Nat) (sp : List Int) : C 317 [.blk 2 (qB fs sp),.adr (.r 10015) 0 0] (.int .i64 fs.length) [.blk 2 (qB fs sp),.nilp]:=by
 unfold qB
 refine gr hC (nf:=N317) rfl rfl ?_
 simp [N317]
theorem jO (fs : List Nat) (sp : List Int) (i k : Nat) (hi : i < fs.length) (hk : k < fs.length) : C 343 [.blk 2 (qB fs sp),.adr (.r 10015) 0 0,.int .i64 i,.int .i64 k] (.tup []) [.blk 2 (qB (swp fs i k) sp),.nilp]:=by
 rw [show swp fs i k=(fs.set i fs[k]).set k fs[i] by rw [<- dw hi,<- dw hk];rfl]
 unfold qB
 refine gr hC (nf:=N343) rfl rfl ?_
 simp [N343,a8 (jJ hi),a8 (jJ hk),hi,hk,CT,yw]
 exact ai (by decide +kernel)
theorem yC (fs : List Nat) (sp : List Int) (x : Nat) (h : fs.length < 2 ^ 40) : C 342 [.blk 2 (qB fs sp),.adr (.r 10015) 0 0,.ifi 2 x] (.tup []) [.blk 2 (qB (fs++[x]) sp),.nilp]:=by
 unfold qB
 refine gr hC (nf:=N342) rfl rfl ?_
 simp [N342]
 refine ⟨by omega,?_,ai (by decide +kernel),?_⟩
 ·rintro e (he | rfl) c hc
  ·exact CU _ _ he _ hc
  ·simp at hc;subst hc;rfl
 ·exact yv fs x
theorem C5 (fs : List Nat) (sp : List Int) (h : 0 < fs.length) (h2 : fs.length < 2 ^ 40) : C 341 [.blk 2 (qB fs sp),.adr (.r 10015) 0 0] (.ifi 2 (fAt fs (fs.length - 1) : Nat)) [.blk 2 (qB (fs.take (fs.length - 1)) sp),.nilp]:=by
 have e1 : IntKind.wrap .i64 ((fs.length : Int) - 1)=((fs.length - 1 : Nat) : Int):=ae (by omega) (by omega)
 have hl : fs.length - 1 < fs.length:=by omega
 rw [dw hl]
 unfold qB
 refine gr hC (nf:=N341) rfl rfl ?_
 simp [N341,e1,a8 (jJ hl),hl]
 refine ⟨ai (by decide +kernel),?_⟩
 refine zG (b:=10015) (i:=0) (off:=0) (n:=fs.length - 1) rfl (by simp) rfl rfl rfl (by simp) ?_
 simp
 exact ai (by decide +kernel)
def ltF (sp : List Int) (a b : Nat) : Bool:=decide (sp.getD a 0 < sp.getD b 0) || (decide (sp.getD a 0=sp.getD b 0) && decide (a < b))
theorem jN (fs : List Nat) (sp : List Int) (i k : Nat) (hi : i < fs.length) (hk : k < fs.length) (hb : ∀ a ∈ fs,a < sp.length) : C 340 [.blk 2 (qB fs sp),.adr (.r 10015) 0 0,.int .i64 i,.int .i64 k] (.bool (ltF sp (fAt fs i) (fAt fs k))) [.blk 2 (qB fs sp),.nilp]:=by
 rw [dw hi,dw hk]
 unfold qB
 refine gr hC (nf:=N340) rfl rfl ?_
 have hi' : fs[i] < sp.length:=hb _ (x0u _)
 have hk' : fs[k] < sp.length:=hb _ (x0u _)
 simp [N340,a8 (jJ hi),a8 (jJ hk),hi,hk,ap (cJ hi'),ap (cJ hk')]
 refine ⟨ai (by decide +kernel),?_⟩
 refine aj (fun g1=>?_) (fun g1=>?_) <;> simp at g1
 ·simp [g1,ltF]
  exact ai (by decide +kernel)
 ·simp [x0S.2 g1,ap (cJ hi'),ap (cJ hk')]
  refine aj (fun g2=>?_) (fun g2=>?_) <;> simp at g2
  ·simp [g2,ltF]
   exact ai (by decide +kernel)
  ·simp [g2,ltF,x0S.2 g1]
   exact ai (by decide +kernel)
end
end Go.Gv

namespace Go.Gv
def upL (sp : List Int) (fs : List Nat) (j : Nat) : List Nat :=
 if j=0 then fs else if ltF sp (fAt fs j) (fAt fs ((j - 1) / 2)) then upL sp (swp fs ((j - 1) / 2) j) ((j - 1) / 2) else fs
 termination_by j
 decreasing_by omega
def dnJ (sp : List Int) (fs : List Nat) (j n : Nat) : Nat:=if j + 1 < n /\ ltF sp (fAt fs (j + 1)) (fAt fs j)=true then j + 1 else j
theorem mc {sp : List Int} {fs : List Nat} {j n : Nat} (h : j < n) : j <= dnJ sp fs j n /\ dnJ sp fs j n < n:=by
 unfold dnJ
 split <;> omega
def bz (sp : List Int) (fs : List Nat) (i n : Nat) : List Nat × Nat :=
 if h : n <= 2 * i + 1 then (fs,i) else if ltF sp (fAt fs (dnJ sp fs (2 * i + 1) n)) (fAt fs i) then bz sp (swp fs i (dnJ sp fs (2 * i + 1) n)) (dnJ sp fs (2 * i + 1) n) n else (fs,i)
 termination_by n - i
 decreasing_by
 have:=mc (sp:=sp) (fs:=fs) (j:=2 * i + 1) (n:=n) (by omega)
 omega
theorem sQ {fs : List Nat} {i x a : Nat} (h : a ∈ fs.set i x) : a=x \/ a ∈ fs:=by
 rcases List.mem_or_eq_of_mem_set h with h | h
 ·exact .inr h
 ·exact .inl h
theorem jZ {fs : List Nat} {i k a : Nat} (hi : i < fs.length) (hk : k < fs.length) (h : a ∈ swp fs i k) : a ∈ fs:=by
 rcases sQ h with rfl | h
 ·exact fa hi
 ·rcases sQ h with rfl | h
  ·exact fa hk
  ·exact h
section
variable {C : Nat -> List D -> D -> List D -> Prop} (hC : f5 prog C)
include hC
theorem Ix (fs : List Nat) (sp : List Int) (j : Nat) (hj : j < fs.length) (hb : ∀ a ∈ fs,a < sp.length) (h2 : fs.length < 2 ^ 40) : C 334 [.blk 2 (qB fs sp),.ifa 20 (.r 10015) 0 0,.int .i64 j] (.tup []) [.blk 2 (qB (upL sp fs j) sp),.nilp]:=by
 refine gr hC (nf:=N334) rfl rfl ?_
 simp [N334]
 refine ar (List Nat × Nat) (fun s=>[(0,.ifa 20 (.r 10015) 0 0),(1,.int .i64 s.2),(10015,.blk 2 (qB s.1 sp))]) (fun s=>s.2 < s.1.length /\ s.1.length=fs.length /\ (∀ a ∈ s.1,a < sp.length) /\ upL sp s.1 s.2=upL sp fs j) (fun s=>s.2) (fs,j) ⟨hj,rfl,hb,rfl⟩ (by simp) ?_
 rintro ⟨l,i⟩ ⟨k1,k2,k3,k4⟩
 simp only at k1 k2 k3 k4
 obtain ⟨p,hp0⟩ : ∃ p,p=(i - 1) / 2:=⟨_,rfl⟩
 have e1 : IntKind.wrap .i64 ((IntKind.wrap .i64 ((i : Int) - 1)).tdiv 2)=(p : Int):=by
  rw [ae (m:=(i : Int) - 1) rfl (by omega),hp0]
  by_cases h0 : i=0
  ·subst h0;decide
  ·rw [Int.tdiv_eq_ediv_of_nonneg (by omega)]
   exact ae (by omega) (by omega)
 have hp : p < l.length:=by omega
 have hu : upL sp l i=if i=0 then l else if ltF sp (fAt l i) (fAt l p) then upL sp (swp l p i) p else l:=by
  conv=>lhs;unfold upL
  rw [hp0]
 simp [e1]
 refine aj (fun g1=>?_) (fun g1=>?_) <;> simp at g1 <;> simp [g1]
 ·have h0 : i=0:=by omega
  subst h0
  rw [<- k4,hu]
  simp [qB]
 ·have hne : i ≠ 0:=by omega
  have hl:=jN hC l sp i p k1 hp k3
  rw [if_neg hne] at hu
  refine ⟨by simp [qB],?_⟩
  refine cC hl (by simp [qB]) ?_
  simp [b8]
  refine aj (fun g2=>?_) (fun g2=>?_) <;> simp at g2
  ·simp [g2]
   rw [<- k4,hu,g2]
   simp [qB]
  ·simp [g2]
   refine ⟨by simp [qB],?_⟩
   refine cC (jO hC l sp p i hp k1) (by simp [qB]) ?_
   simp [b8]
   exact ⟨swp l p i,p,⟨by simp;exact hp,by simp [k2],fun a ha=>k3 a (jZ hp k1 ha),by rw [<- k4,hu,g2];simp⟩,by omega,rfl,rfl⟩
theorem x9 (fs : List Nat) (sp : List Int) (i0 n : Nat) (hn : n <= fs.length) (hi0 : i0 < fs.length) (hb : ∀ a ∈ fs,a < sp.length) (h2 : fs.length < 2 ^ 40) : C 335 [.blk 2 (qB fs sp),.ifa 20 (.r 10015) 0 0,.int .i64 i0,.int .i64 n] (.bool (decide (i0 < (bz sp fs i0 n).2))) [.blk 2 (qB (bz sp fs i0 n).1 sp),.nilp]:=by
 refine gr hC (nf:=N335) rfl rfl ?_
 simp [N335]
 refine ar (List Nat × Nat) (fun s=>[(0,.ifa 20 (.r 10015) 0 0),(1,.int .i64 i0),(2,.int .i64 n),(7,.int .i64 s.2),(10015,.blk 2 (qB s.1 sp))]) (fun s=>s.2 < s.1.length /\ s.1.length=fs.length /\ (∀ a ∈ s.1,a < sp.length) /\ bz sp s.1 s.2 n=bz sp fs i0 n) (fun s=>fs.length - s.2) (fs,i0) ⟨hi0,rfl,hb,rfl⟩ (by simp) ?_
 rintro ⟨l,i⟩ ⟨k1,k2,k3,k4⟩
 simp only at k1 k2 k3 k4
 have e1 : IntKind.wrap .i64 (IntKind.wrap .i64 (2 * (i : Int)) + 1)=((2 * i + 1 : Nat) : Int):=by
  rw [ae (m:=2 * (i : Int)) rfl (by omega)]
  exact ae (by omega) (by omega)
 have e2 : IntKind.wrap .i64 (((2 * i + 1 : Nat) : Int) + 1)=((2 * i + 1 + 1 : Nat) : Int):=ae (by omega) (by omega)
 obtain ⟨j1,hj1⟩ : ∃ j1,j1=2 * i + 1:=⟨_,rfl⟩
 rw [<- hj1] at e1 e2
 obtain ⟨j2,hj2⟩ : ∃ j2,j2=j1 + 1:=⟨_,rfl⟩
 rw [<- hj2] at e2
 obtain ⟨jm,hjm⟩ : ∃ jm,jm=dnJ sp l j1 n:=⟨_,rfl⟩
 have hu : bz sp l i n=if n <= j1 then (l,i) else if ltF sp (fAt l jm) (fAt l i) then bz sp (swp l i jm) jm n else (l,i):=by
  conv=>lhs;unfold bz
  rw [<- hj1,<- hjm]
  rfl
 simp [e1]
 refine aj (fun g1=>?_) (fun g1=>?_) <;> simp at g1
 ·simp [g1]
  rw [<- k4,hu,if_pos g1]
  simp [qB]
 ·rw [if_neg (by omega)] at hu
  have hj:=mc (sp:=sp) (fs:=l) (j:=j1) (n:=n) g1
  rw [<- hjm] at hj
  have hjl : jm < l.length:=by omega
  simp [Nat.not_le.2 g1,show ¬ ((j1 : Int) < 0) by omega,e2]
  have hm : jm=if j2 < n /\ ltF sp (fAt l j2) (fAt l j1)=true then j2 else j1:=by rw [hjm,hj2];rfl
  refine aj (fun g2=>?_) (fun g2=>?_) <;> simp at g2
  ·simp [g2]
   refine ⟨by simp [qB],?_⟩
   refine cC (jN hC l sp j2 j1 (by omega) (by omega) k3) (by simp [qB]) ?_
   simp [b8]
   refine aj (fun g3=>?_) (fun g3=>?_)
   ·rw [if_pos ⟨g2,g3⟩] at hm
    simp [g3]
    subst hm
    refine ⟨by simp [qB],?_⟩
    refine cC (jN hC l sp _ i hjl k1 k3) (by simp [qB]) ?_
    simp [b8]
    refine aj (fun g4=>?_) (fun g4=>?_) <;> simp at g4
    ·simp [g4]
     rw [<- k4,hu,if_neg (by simp [g4])]
     simp [qB]
    ·simp [g4]
     refine ⟨by simp [qB],?_⟩
     refine cC (jO hC l sp i _ k1 hjl) (by simp [qB]) ?_
     simp [b8]
     exact ⟨swp l i _,_,⟨by simp;exact hjl,by simp [k2],fun a ha=>k3 a (jZ k1 hjl ha),by rw [<- k4,hu,if_pos g4]⟩,by omega,rfl,rfl⟩
   ·rw [if_neg (by simp [g3])] at hm
    simp [g3]
    subst hm
    refine ⟨by simp [qB],?_⟩
    refine cC (jN hC l sp _ i hjl k1 k3) (by simp [qB]) ?_
    simp [b8]
    refine aj (fun g4=>?_) (fun g4=>?_) <;> simp at g4
    ·simp [g4]
     rw [<- k4,hu,if_neg (by simp [g4])]
     simp [qB]
    ·simp [g4]
     refine ⟨by simp [qB],?_⟩
     refine cC (jO hC l sp i _ k1 hjl) (by simp [qB]) ?_
     simp [b8]
     exact ⟨swp l i _,_,⟨by simp;exact hjl,by simp [k2],fun a ha=>k3 a (jZ k1 hjl ha),by rw [<- k4,hu,if_pos g4]⟩,by omega,rfl,rfl⟩
  ·rw [if_neg (by omega)] at hm
   simp [Nat.not_lt.2 g2]
   subst hm
   refine ⟨by simp [qB],?_⟩
   refine cC (jN hC l sp _ i hjl k1 k3) (by simp [qB]) ?_
   simp [b8]
   refine aj (fun g4=>?_) (fun g4=>?_) <;> simp at g4
   ·simp [g4]
    rw [<- k4,hu,if_neg (by simp [g4])]
    simp [qB]
   ·simp [g4]
    refine ⟨by simp [qB],?_⟩
    refine cC (jO hC l sp i _ k1 hjl) (by simp [qB]) ?_
    simp [b8]
    exact ⟨swp l i _,_,⟨by simp;exact hjl,by simp [k2],fun a ha=>k3 a (jZ k1 hjl ha),by rw [<- k4,hu,if_pos g4]⟩,by omega,rfl,rfl⟩
theorem ya (fs : List Nat) (sp : List Int) (x : Nat) (hx : x < sp.length) (hb : ∀ a ∈ fs,a < sp.length) (h2 : fs.length + 1 < 2 ^ 40) : C 316 [.blk 2 (qB fs sp),.ifa 20 (.r 10015) 0 0,.ifi 2 x] (.tup []) [.blk 2 (qB (upL sp (fs++[x]) fs.length) sp),.nilp]:=by
 have hb' : ∀ a ∈ fs++[x],a < sp.length:=by
  intro a ha
  rcases x0m.1 ha with ha | ha
  ·exact hb a ha
  ·simp at ha;omega
 have e1 : IntKind.wrap .i64 (((fs.length + 1 : Nat) : Int) - 1)=(fs.length : Int):=ae (by omega) (by omega)
 refine gr hC (nf:=N316) rfl rfl ?_
 simp [N316]
 refine ⟨by simp [qB],?_⟩
 refine cC (yC hC fs sp x (by omega)) (by simp [qB]) ?_
 simp [b8]
 refine ⟨by simp [qB],?_⟩
 refine cC (vX hC (fs++[x]) sp) (by simp [qB]) ?_
 have hup:=Ix hC (fs++[x]) sp fs.length (by simp) hb' (by simp;omega)
 simp at e1
 simp [b8,e1]
 refine ⟨by simp [qB],?_⟩
 refine cC hup (by simp [qB]) ?_
 simp [b8,qB]
omit hC in
theorem tA (sp : List Int) (fs : List Nat) (i n : Nat) : (bz sp fs i n).1.length=fs.length:=by
 induction fs,i using bz.induct sp n with
 | case1 fs i h=>unfold bz;simp [h]
 | case2 fs i h1 h2 ih=>unfold bz;simp only [dif_neg h1,if_pos h2];rw [ih];simp
 | case3 fs i h1 h2=>unfold bz;simp only [dif_neg h1,if_neg h2]
theorem BY (fs : List Nat) (sp : List Int) (h0 : 0 < fs.length) (hb : ∀ a ∈ fs,a < sp.length) (h2 : fs.length < 2 ^ 40) : C 318 [.blk 2 (qB fs sp),.ifa 20 (.r 10015) 0 0] (.ifi 2 (fAt (bz sp (swp fs 0 (fs.length - 1)) 0 (fs.length - 1)).1 (fs.length - 1) : Nat)) [.blk 2 (qB ((bz sp (swp fs 0 (fs.length - 1)) 0 (fs.length - 1)).1.take (fs.length - 1)) sp),.nilp]:=by
 obtain ⟨n,hn⟩ : ∃ n,n=fs.length - 1:=⟨_,rfl⟩
 have e1 : IntKind.wrap .i64 ((fs.length : Int) - 1)=(n : Int):=ae (by omega) (by omega)
 rw [<- hn]
 have hsw:=jO hC fs sp 0 n h0 (by omega)
 have hdn:=x9 hC (swp fs 0 n) sp 0 n (by simp;omega) (by simp;omega) (fun a ha=>hb a (jZ h0 (by omega) ha)) (by simp;omega)
 have hl : (bz sp (swp fs 0 n) 0 n).1.length=fs.length:=by rw [tA];simp
 have hpo:=C5 hC (bz sp (swp fs 0 n) 0 n).1 sp (by omega) (by omega)
 rw [hl,<- hn] at hpo
 refine gr hC (nf:=N318) rfl rfl ?_
 simp [N318]
 refine ⟨by simp [qB],?_⟩
 refine cC (vX hC fs sp) (by simp [qB]) ?_
 simp [b8,e1]
 refine ⟨by simp [qB],?_⟩
 refine cC hsw (by simp [qB]) ?_
 simp [b8]
 refine ⟨by simp [qB],?_⟩
 refine cC hdn (by simp [qB]) ?_
 simp [b8]
 refine ⟨by simp [qB],?_⟩
 refine cC hpo (by simp [qB]) ?_
 simp [b8,qB]
end
end Go.Gv

namespace Go.Gv
theorem jG {sp : List Int} {a b : Nat} : ltF sp a b=true ↔ sp.getD a 0 < sp.getD b 0 \/ (sp.getD a 0=sp.getD b 0 /\ a < b):=by simp [ltF]
theorem eB {sp : List Int} {a b : Nat} : ltF sp a b=false ↔ sp.getD b 0 < sp.getD a 0 \/ (sp.getD a 0=sp.getD b 0 /\ b <= a):=by
 rw [<- Bool.not_eq_true,jG]
 omega
theorem kY {fs : List Nat} {i k x : Nat} (hi : i < fs.length) (hk : k < fs.length) : fAt (swp fs i k) x=if x=k then fAt fs i else if x=i then fAt fs k else fAt fs x:=by
 unfold swp
 by_cases hx : x < fs.length
 ·rw [dw (by simpa using hx)]
  simp only [List.getElem_set]
  by_cases e1 : k=x
  ·subst e1;simp
  ·rw [if_neg e1,if_neg (Ne.symm e1)]
   by_cases e2 : i=x
   ·subst e2;simp
   ·rw [if_neg e2,if_neg (Ne.symm e2),dw hx]
 ·rw [if_neg (by omega),if_neg (by omega)]
  simp only [fAt,x1o]
  rw [x0N (by simp;omega),x0N (by omega)]
theorem iQ {fs : List Nat} {i k : Nat} (hi : i < fs.length) (hk : k < fs.length) (a : Nat) : (swp fs i k).count a=fs.count a:=by
 have ha:=dw hi
 have hb:=dw hk
 unfold swp
 rw [List.count_set (by simpa using hk),List.count_set hi,ha,hb]
 have h1 : fs[i]=a -> 0 < fs.count a:=fun e=>x03.2 (by rw [<- e];exact x0u _)
 have h2 : fs[k]=a -> 0 < fs.count a:=fun e=>x03.2 (by rw [<- e];exact x0u _)
 simp only [List.getElem_set]
 by_cases e : i=k
 ·subst e
  simp
  by_cases e1 : fs[i]=a
  ·have:=h1 e1;simp [e1];omega
  ·simp [e1]
 ·rw [if_neg e]
  by_cases e1 : fs[i]=a <;> by_cases e2 : fs[k]=a
  ·have:=h1 e1;simp [e1,e2];omega
  ·have:=h1 e1;simp [e1,e2];omega
  ·have:=h2 e2;simp [e1,e2]
  ·simp [e1,e2]
def gX (sp : List Int) (fs : List Nat) (n : Nat) : Prop:=∀ i,0 < i -> i < n -> ltF sp (fAt fs i) (fAt fs ((i - 1) / 2))=false
theorem kZ {sp : List Int} : ∀ (j : Nat) (fs : List Nat),j < fs.length -> ∀ a,(upL sp fs j).count a=fs.count a:=by
 intro j
 induction j using Nat.strongRecOn with
 | _ j ih =>
  intro fs hj a
  unfold upL
  split
  ·rfl
  ·split
   ·rw [ih _ (by omega) _ (by simp;omega)]
    exact iQ (by omega) hj a
   ·rfl
theorem j0 {sp : List Int} : ∀ (j : Nat) (fs : List Nat),(upL sp fs j).length=fs.length:=by
 intro j
 induction j using Nat.strongRecOn with
 | _ j ih =>
  intro fs
  unfold upL
  split
  ·rfl
  ·split
   ·rw [ih _ (by omega)];simp
   ·rfl
theorem wY {sp : List Int} : ∀ (j : Nat) (fs : List Nat),j < fs.length -> (∀ i,0 < i -> i < fs.length -> i ≠ j -> ltF sp (fAt fs i) (fAt fs ((i - 1) / 2))=false) -> (∀ i,0 < i -> i < fs.length -> (i - 1) / 2=j -> 0 < j -> ltF sp (fAt fs i) (fAt fs ((j - 1) / 2))=false) -> gX sp (upL sp fs j) fs.length:=by
 intro j
 induction j using Nat.strongRecOn with
 | _ j ih =>
  intro fs hj h1 h2
  unfold upL
  split
  ·rename_i h0
   intro i hi hin
   exact h1 i hi hin (by omega)
  ·rename_i h0
   split
   ·rename_i hl
    have hp : (j - 1) / 2 < fs.length:=by omega
    have hpj : (j - 1) / 2 < j:=by omega
    have at_:=fun x=>kY (x:=x) hp hj
    have key:=ih ((j - 1) / 2) hpj (swp fs ((j - 1) / 2) j) (by simp;omega) (fun i hi hin hne=>?_) (fun i hi hin hpi h0p=>?_)
    ·simpa using key
    ·simp at hin
     rw [at_,at_]
     by_cases e1 : i=j
     ·subst e1
      rw [if_pos rfl,if_neg (by omega),if_pos rfl]
      rw [eB]
      rw [jG] at hl
      omega
     ·rw [if_neg e1,if_neg hne]
      by_cases e2 : (i - 1) / 2=j
      ·rw [if_pos e2]
       exact h2 i hi hin e2 (by omega)
      ·rw [if_neg e2]
       by_cases e3 : (i - 1) / 2=(j - 1) / 2
       ·rw [if_pos e3]
        have h4:=h1 i hi hin e1
        rw [e3] at h4
        rw [eB] at h4 ⊢
        rw [jG] at hl
        omega
       ·rw [if_neg e3]
        exact h1 i hi hin e1
    ·simp at hin
     rw [at_,at_]
     rw [if_neg (show ((j - 1) / 2 - 1) / 2 ≠ j by omega),if_neg (show ((j - 1) / 2 - 1) / 2 ≠ (j - 1) / 2 by omega)]
     have h5:=h1 ((j - 1) / 2) h0p hp (by omega)
     by_cases e1 : i=j
     ·rw [if_pos e1]
      exact h5
     ·rw [if_neg e1,if_neg (by omega)]
      have h4:=h1 i hi hin e1
      rw [hpi] at h4
      rw [eB] at h4 h5 ⊢
      omega
   ·rename_i hl
    intro i hi hin
    by_cases e : i=j
    ·subst e;simpa using hl
    ·exact h1 i hi hin e
theorem uU {sp : List Int} {fs : List Nat} {j n x : Nat} (hx : (x - 1) / 2=(j - 1) / 2) (hj : j % 2=1) (h0 : 0 < x) (hn : x < n) : ltF sp (fAt fs x) (fAt fs (dnJ sp fs j n))=false:=by
 have hxj : x=j \/ x=j + 1:=by omega
 unfold dnJ
 split
 ·rename_i h
  rcases hxj with rfl | rfl
  ·have:=h.2
   rw [jG] at this
   rw [eB]
   omega
  ·rw [eB];omega
 ·rename_i h
  rcases hxj with rfl | rfl
  ·rw [eB];omega
  ·cases e : ltF sp (fAt fs (j + 1)) (fAt fs j)
   ·rfl
   ·exact absurd ⟨hn,e⟩ h
theorem lj {sp : List Int} {n : Nat} (fs : List Nat) (i : Nat) (hn : n <= fs.length) (a : Nat) : (bz sp fs i n).1.count a=fs.count a:=by
 induction fs,i using bz.induct sp n with
 | case1 fs i h=>unfold bz;simp [h]
 | case2 fs i h1 h2 ih =>
  have hb:=mc (sp:=sp) (fs:=fs) (j:=2 * i + 1) (n:=n) (by omega)
  unfold bz;simp only [dif_neg h1,if_pos h2]
  rw [ih (by simpa using hn)]
  exact iQ (by omega) (by omega) a
 | case3 fs i h1 h2=>unfold bz;simp only [dif_neg h1,if_neg h2]
theorem md {sp : List Int} {n : Nat} (fs : List Nat) (i : Nat) : (bz sp fs i n).1.length=fs.length:=by
 induction fs,i using bz.induct sp n with
 | case1 fs i h=>unfold bz;simp [h]
 | case2 fs i h1 h2 ih=>unfold bz;simp only [dif_neg h1,if_pos h2];rw [ih];simp
 | case3 fs i h1 h2=>unfold bz;simp only [dif_neg h1,if_neg h2]
theorem uV {sp : List Int} {n : Nat} (fs : List Nat) (i : Nat) (hn : n <= fs.length) {x : Nat} (hx : n <= x) : fAt (bz sp fs i n).1 x=fAt fs x:=by
 induction fs,i using bz.induct sp n with
 | case1 fs i h=>unfold bz;simp [h]
 | case2 fs i h1 h2 ih =>
  have hb:=mc (sp:=sp) (fs:=fs) (j:=2 * i + 1) (n:=n) (by omega)
  unfold bz;simp only [dif_neg h1,if_pos h2]
  rw [ih (by simpa using hn),kY (by omega) (by omega),if_neg (by omega),if_neg (by omega)]
 | case3 fs i h1 h2=>unfold bz;simp only [dif_neg h1,if_neg h2]
theorem qN {sp : List Int} {n : Nat} (fs : List Nat) (i : Nat) (hn : n <= fs.length) (hin : i < fs.length) (h1 : ∀ x,0 < x -> x < n -> (x - 1) / 2 ≠ i -> ltF sp (fAt fs x) (fAt fs ((x - 1) / 2))=false) (h2 : ∀ x,0 < x -> x < n -> (x - 1) / 2=i -> 0 < i -> ltF sp (fAt fs x) (fAt fs ((i - 1) / 2))=false) : gX sp (bz sp fs i n).1 n:=by
 induction fs,i using bz.induct sp n with
 | case1 fs i h =>
  unfold bz;simp only [dif_pos h]
  intro x h0 hx
  exact h1 x h0 hx (by omega)
 | case2 fs i g1 g2 ih =>
  obtain ⟨j,hj⟩ : ∃ j,j=dnJ sp fs (2 * i + 1) n:=⟨_,rfl⟩
  have hb:=mc (sp:=sp) (fs:=fs) (j:=2 * i + 1) (n:=n) (by omega)
  have hpar : (j - 1) / 2=i:=by
   rw [hj];unfold dnJ;split <;> omega
  unfold bz;simp only [dif_neg g1,if_pos g2]
  rw [<- hj] at hb g2 ih ⊢
  have at_:=fun x=>kY (fs:=fs) (i:=i) (k:=j) (x:=x) (by omega) (by omega)
  refine ih (by simpa using hn) (by simp;omega) (fun x h0 hx hne=>?_) (fun x h0 hx hp hj0=>?_)
  ·rw [at_,at_]
   by_cases e1 : x=j
   ·subst e1
    rw [if_pos rfl,if_neg (by omega),if_pos (by omega)]
    rw [jG] at g2
    rw [eB]
    omega
   ·rw [if_neg e1,if_neg hne]
    by_cases e2 : x=i
    ·subst e2
     rw [if_pos rfl]
     rw [if_neg (by omega)]
     exact h2 j (by omega) (by omega) hpar (by omega)
    ·rw [if_neg e2]
     by_cases e3 : (x - 1) / 2=i
     ·rw [if_pos e3,hj]
      exact uU (by omega) (by omega) h0 hx
     ·rw [if_neg e3]
      exact h1 x h0 hx e3
  ·rw [at_,at_]
   rw [if_neg (show x ≠ j by omega),if_neg (show x ≠ i by omega),if_neg (show (j - 1) / 2 ≠ j by omega),if_pos hpar]
   have:=h1 x h0 hx (by omega)
   rw [hp] at this
   exact this
 | case3 fs i g1 g2 =>
  unfold bz;simp only [dif_neg g1,if_neg g2]
  intro x h0 hx
  by_cases e : (x - 1) / 2=i
  ·have h3:=uU (sp:=sp) (fs:=fs) (j:=2 * i + 1) (n:=n) (x:=x) (by omega) (by omega) h0 hx
   have h4 : ltF sp (fAt fs (dnJ sp fs (2 * i + 1) n)) (fAt fs i)=false:=by simpa using g2
   rw [e]
   rw [eB] at h3 h4 ⊢
   omega
  ·exact h1 x h0 hx e
theorem tL {sp : List Int} {fs : List Nat} {n : Nat} (h : gX sp fs n) : ∀ x,x < n -> ltF sp (fAt fs x) (fAt fs 0)=false:=by
 intro x
 induction x using Nat.strongRecOn with
 | _ x ih =>
  intro hx
  by_cases h0 : x=0
  ·subst h0;rw [eB];omega
  ·have h1:=h x (by omega) hx
   have h2:=ih ((x - 1) / 2) (by omega) (by omega)
   rw [eB] at h1 h2 ⊢
   omega
theorem vV {sp : List Int} {fs : List Nat} (h : gX sp fs fs.length) (h0 : 0 < fs.length) :
  let r:=(bz sp (swp fs 0 (fs.length - 1)) 0 (fs.length - 1)).1
  fAt r (fs.length - 1)=fAt fs 0 /\ r.length=fs.length /\ gX sp (r.take (fs.length - 1)) (r.take (fs.length - 1)).length /\ (∀ a,fs.count a=(r.take (fs.length - 1)).count a + if a=fAt fs 0 then 1 else 0):=by
 intro r
 have hl : r.length=fs.length:=by show (bz _ _ _ _).1.length=_;rw [md];simp
 have hlast : fAt r (fs.length - 1)=fAt fs 0:=by
  show fAt (bz _ _ _ _).1 _=_
  rw [uV _ _ (by simp) (x0l _),kY h0 (by omega),if_pos rfl]
 have htk : ∀ x,x < fs.length - 1 -> fAt (r.take (fs.length - 1)) x=fAt r x:=fun x hx=>by
  unfold fAt
  simp [x0Q,hx]
 have hlt : (r.take (fs.length - 1)).length=fs.length - 1:=by simp;omega
 refine ⟨hlast,hl,?_,fun a=>?_⟩
 ·rw [hlt]
  intro x hx hxn
  rw [htk x hxn,htk _ (by omega)]
  refine qN _ _ (by simp) (by simp;omega) (fun y hy hyn hp=>?_) (fun y _ _ _ h=>absurd h (by omega)) x hx hxn
  rw [kY h0 (by omega),kY h0 (by omega),if_neg (by omega),if_neg (by omega),if_neg (by omega),if_neg hp]
  exact h y hy (by omega)
 ·have h1 : r.count a=fs.count a:=by
   show (bz _ _ _ _).1.count a=_
   rw [lj _ _ (by simp),iQ h0 (by omega)]
  rw [<- h1]
  have h2 : r=r.take (fs.length - 1)++[fAt fs 0]:=by
   have h3 : r.drop (fs.length - 1)=[fAt fs 0]:=by
    rw [<- hlast,dw (by omega)]
    rw [List.drop_eq_getElem_cons (by omega)]
    rw [List.drop_eq_nil_of_le (by omega)]
   rw [<- h3,List.take_append_drop]
  conv=>lhs;rw [h2]
  rw [List.count_append]
  congr 1
  simp [List.count_singleton]
  by_cases e : fAt fs 0=a
  ·simp [e]
  ·simp [e,Ne.symm e]
theorem kQ {sp : List Int} {fs : List Nat} {x : Nat} (h : gX sp fs fs.length) :
  gX sp (upL sp (fs++[x]) fs.length) (upL sp (fs++[x]) fs.length).length /\ (∀ a,(upL sp (fs++[x]) fs.length).count a=fs.count a + if a=x then 1 else 0) /\ (upL sp (fs++[x]) fs.length).length=fs.length + 1:=by
 have hl : (upL sp (fs++[x]) fs.length).length=fs.length + 1:=by rw [j0];simp
 have at_ : ∀ i,i < fs.length -> fAt (fs++[x]) i=fAt fs i:=fun i hi=>by
  unfold fAt
  simp [List.getElem?_append,hi]
 refine ⟨?_,fun a=>?_,hl⟩
 ·rw [hl]
  have:=wY (sp:=sp) fs.length (fs++[x]) (by simp) (fun i hi hin hne=>?_) (fun i hi hin hp _=>by simp at hin;omega)
  ·simpa using this
  ·simp at hin
   rw [at_ i (by omega),at_ _ (by omega)]
   exact h i hi (by omega)
 ·rw [kZ _ _ (by simp),List.count_append]
  congr 1
  simp [List.count_singleton]
  by_cases e : x=a
  ·simp [e]
  ·simp [e,Ne.symm e]
end Go.Gv

namespace Go.Gv
structure Fl where
 q : List Nat
 rc : List Bool
 sp : List Int
 ou : List Int
def fl0 (m : Msh) : Nat -> List Nat × List Bool
 | 0=>([],List.replicate m.f.length false)
 | i + 1=>if bsd m i (-1) then (upL (bp m) ((fl0 m i).1++[i]) (fl0 m i).1.length,(fl0 m i).2.set i true) else fl0 m i
def mxZ (a b : Int) : Int:=if a < b then b else a
def nv (m : Msh) (i : Nat) (s : Fl) (k : Int) : Fl :=
 if k=-1 \/ s.rc.getD k.toNat false=true then s else
  { q:=upL (s.sp.set k.toNat (mxZ (s.sp.getD i 0) ((bp m).getD k.toNat 0))) (s.q++[k.toNat]) s.q.length,rc:=s.rc.set k.toNat true,sp:=s.sp.set k.toNat (mxZ (s.sp.getD i 0) ((bp m).getD k.toNat 0)),ou:=s.ou.set k.toNat i }
def gG (sp : List Int) (q : List Nat) : List Nat:=(bz sp (swp q 0 (q.length - 1)) 0 (q.length - 1)).1
def flJ (m : Msh) (i : Nat) (s : Fl) : Nat -> Fl
 | 0=>s
 | j + 1=>nv m i (flJ m i s j) (nbF m i j)
def d3 (m : Msh) (s : Fl) : Fl :=
 if s.q.length=0 then s else flJ m (fAt (gG s.sp s.q) (s.q.length - 1)) { s with q:=(gG s.sp s.q).take (s.q.length - 1) } 3
def flN (m : Msh) : Nat -> Fl -> Fl
 | 0,s=>s
 | k + 1,s=>flN m k (d3 m s)
def dN (m : Msh) : Fl:={ q:=(fl0 m m.f.length).1,rc:=(fl0 m m.f.length).2,sp:=bp m,ou:=List.replicate m.f.length (-1) }
def aR (m : Msh) : Fl:=flN m (3 * m.f.length) (dN m)
theorem lP {m : Msh} {i : Nat} (h : i < m.f.length) : (nbA m)[i]? = some [.int .i64 (nbF m i 0),.int .i64 (nbF m i 1),.int .i64 (nbF m i 2)]:=by simp [nbA,h]
@[simp] theorem Qr (m : Msh) : (nbA m).length=m.f.length:=by simp [nbA]
theorem jz (m : Msh) : ∀ i,(fl0 m i).2.length=m.f.length /\ (fl0 m i).1.length <= i /\ (∀ a ∈ (fl0 m i).1,a < i)
 | 0=>by simp [fl0]
 | i + 1=>by
  obtain ⟨h1,h2,h3⟩:=jz m i
  unfold fl0
  split
  ·refine ⟨by simp [h1],by simp [j0];exact h2,fun a ha=>?_⟩
   have h4:=kZ (sp:=bp m) (fl0 m i).1.length ((fl0 m i).1++[i]) (by simp) a
   have h5 : 0 < ((fl0 m i).1++[i]).count a:=by rw [<- h4];exact x03.2 ha
   rcases x0m.1 (x03.1 h5) with h6 | h6
   ·have:=h3 a h6;omega
   ·simp at h6;omega
  ·exact ⟨h1,by omega,fun a ha=>by have:=h3 a ha;omega⟩
@[simp] theorem Q7 (m : Msh) : (bp m).length=m.f.length:=by simp [bp]
def mh (m : Msh) : D:=.ptr [.sl (nbA m),slx true (inR (bp m)),.sl (inR (aR m).sp),.sl (inR (aR m).ou)]
def rcR (l : List Bool) : List (List D):=l.map fun b=>[.bool b]
theorem yK (l : List Bool) : (rcR l).length=l.length:=by simp [rcR]
theorem d8 {l : List Bool} {i : Nat} (h : i < l.length) : (rcR l)[i]? = some [.bool (l.getD i false)]:=by simp [rcR,h]
theorem jR (l : List Bool) (i : Nat) (b : Bool) : (rcR l).set i [.bool b]=rcR (l.set i b):=by simp [rcR,List.map_set]
theorem C7 {l : List Bool} {i : Nat} (h : i < (rcR l).length) : (rcR l)[i]=[.bool (l[i]'(by simpa [rcR] using h))]:=by simp [rcR]
theorem oI (l : List Int) (i : Nat) (x : Int) : (inR l).set i [.int .i64 x]=inR (l.set i x):=by simp [inR,List.map_set]
theorem mA (l : List Int) : ∀ e ∈ inR l,∀ c ∈ e,a6 c=true:=by simp [inR]
structure FlW (m : Msh) (s : Fl) : Prop where
 rc : s.rc.length=m.f.length
 sp : s.sp.length=m.f.length
 ou : s.ou.length=m.f.length
 q : ∀ a ∈ s.q,a < m.f.length
 n : s.q.length + s.rc.count false <= m.f.length
def flM (s : Fl) : Nat:=s.q.length + 2 * s.rc.count false
theorem jX {l : List Bool} {i : Nat} (h : i < l.length) (hf : l.getD i false=false) : (l.set i true).count false + 1=l.count false:=by
 have h1 : l[i]=false:=by simpa [h] using hf
 rw [List.count_set h,h1]
 have : 0 < l.count false:=x03.2 (by rw [<- h1];exact x0u _)
 simp
 omega
theorem zK {sp : List Int} {fs : List Nat} {j a : Nat} (hj : j < fs.length) (h : a ∈ upL sp fs j) : a ∈ fs:=by
 have h4:=kZ (sp:=sp) j fs hj a
 exact x03.1 (by rw [<- h4];exact x03.2 h)
theorem BV {m : Msh} {i : Nat} {s : Fl} {k : Int} (h : FlW m s) (hk : -1 <= k /\ k < m.f.length) : FlW m (nv m i s k) /\ flM (nv m i s k) <= flM s:=by
 unfold nv
 split
 ·exact ⟨h,x0l _⟩
 ·rename_i hn
  have hkl : k.toNat < s.rc.length:=by rw [h.rc];omega
  have hf : s.rc.getD k.toNat false=false:=by
   cases e : s.rc.getD k.toNat false
   ·rfl
   ·exact absurd (.inr e) hn
  have hst:=jX hkl hf
  have hn1:=h.n
  refine ⟨⟨by simp [h.rc],by simp [h.sp],by simp [h.ou],fun a ha=>?_,?_⟩,?_⟩
  ·rcases x0m.1 (zK (by simp) ha) with h1 | h1
   ·exact h.q a h1
   ·simp at h1;omega
  ·simp only [j0,x0I,List.length_singleton]
   omega
  ·simp only [flM,j0,x0I,List.length_singleton]
   omega
theorem sw {m : Msh} {i : Nat} {s : Fl} (h : FlW m s) : ∀ j,FlW m (flJ m i s j) /\ flM (flJ m i s j) <= flM s
 | 0=>⟨h,x0l _⟩
 | j + 1=>by
  obtain ⟨h1,h2⟩:=sw h j
  obtain ⟨h3,h4⟩:=BV (i:=i) h1 (co m i j)
  exact ⟨h3,x1w h4 h2⟩
theorem mS (sp : List Int) (q : List Nat) : (gG sp q).length=q.length:=by unfold gG;rw [md];simp
theorem qc {sp : List Int} {q : List Nat} {a : Nat} (h0 : 0 < q.length) (h : a ∈ gG sp q) : a ∈ q:=by
 have h1:=lj (sp:=sp) (n:=q.length - 1) (swp q 0 (q.length - 1)) 0 (by simp) a
 rw [iQ h0 (by omega)] at h1
 exact x03.1 (by rw [<- h1];exact x03.2 h)
theorem vU {m : Msh} {s : Fl} (h : FlW m s) (h0 : 0 < s.q.length) : FlW m { s with q:=(gG s.sp s.q).take (s.q.length - 1) } /\ flM { s with q:=(gG s.sp s.q).take (s.q.length - 1) } < flM s /\ fAt (gG s.sp s.q) (s.q.length - 1) < m.f.length:=by
 have hn:=h.n
 refine ⟨⟨h.rc,h.sp,h.ou,fun a ha=>h.q a (qc h0 (x0J ha)),?_⟩,?_,h.q _ (qc h0 (fa (by rw [mS];omega)))⟩
 ·simp [mS];omega
 ·simp [flM,mS];omega
theorem fO {m : Msh} {s : Fl} (h : FlW m s) : FlW m (d3 m s) /\ (0 < s.q.length -> flM (d3 m s) < flM s):=by
 unfold d3
 split
 ·exact ⟨h,fun h0=>by omega⟩
 ·rename_i h0
  obtain ⟨h1,h2,_⟩:=vU h (by omega)
  obtain ⟨h3,h4⟩:=sw (i:=fAt (gG s.sp s.q) (s.q.length - 1)) h1 3
  exact ⟨h3,fun _=>by omega⟩
theorem oC (m : Msh) : ∀ (k j : Nat) (s : Fl),flN m (k + j) s=flN m j (flN m k s)
 | 0,j,s=>by simp [flN]
 | k + 1,j,s=>by rw [Nat.succ_add];simp only [flN];exact oC m k j _
theorem mf (m : Msh) {s : Fl} (h : s.q.length=0) : ∀ j,flN m j s=s
 | 0=>rfl
 | j + 1=>by simp only [flN,d3,if_pos h];exact mf m h j
theorem Ay {m : Msh} : ∀ (k : Nat) {s : Fl},FlW m s -> FlW m (flN m k s)
 | 0,s,h=>h
 | k + 1,s,h=>Ay k (fO h).1
theorem nT (m : Msh) : ∀ (i x : Nat),i <= x -> (fl0 m i).2.getD x false=false
 | 0,x,_=>by simp [fl0,x0T];split <;> rfl
 | i + 1,x,h=>by
  unfold fl0
  split
  ·simp only [x1o,List.getElem?_set]
   rw [if_neg (by omega)]
   have:=nT m i x (by omega)
   simpa using this
  ·exact nT m i x (by omega)
theorem Ax (m : Msh) : ∀ i,i <= m.f.length -> (fl0 m i).1.length + (fl0 m i).2.count false=m.f.length
 | 0,_=>by simp [fl0]
 | i + 1,h=>by
  have h1:=Ax m i (by omega)
  unfold fl0
  split
  ·have:=jX (l:=(fl0 m i).2) (i:=i) (by rw [(jz m i).1];omega) (nT m i i (x0l _))
   simp only [j0,x0I,List.length_singleton]
   omega
  ·exact h1
theorem jA (m : Msh) : FlW m (dN m) /\ flM (dN m) <= 2 * m.f.length:=by
 obtain ⟨h1,h2,h3⟩:=jz m m.f.length
 have h4:=Ax m m.f.length (x0l _)
 refine ⟨⟨h1,by simp [dN],by simp [dN],h3,by simp only [dN];omega⟩,?_⟩
 simp only [flM,dN]
 omega
end Go.Gv

namespace Go.Gv
structure Fo (n : Nat) (f : List Nat) : Prop where
 len : f.length=n
 le : ∀ i,i < n -> fAt f i <= i
def ftN (f : List Nat) : Nat -> Nat -> Nat
 | 0,i=>i
 | k + 1,i=>if fAt f i=i then i else ftN f k (fAt f i)
def ftF (f : List Nat) (i : Nat) : Nat:=ftN f i i
theorem vm {n : Nat} {f : List Nat} (h : Fo n f) : ∀ (k i : Nat),i < n -> i <= k -> ftN f k i=ftN f i i:=by
 intro k
 induction k using Nat.strongRecOn with
 | _ k ih =>
  intro i hi hk
  have hle:=h.le i hi
  cases i with
  | zero =>
   cases k with
   | zero=>rfl
   | succ k=>unfold ftN;rw [if_pos (by omega)]
  | succ i =>
   cases k with
   | zero=>omega
   | succ k =>
    simp only [ftN]
    split
    ·rfl
    ·rename_i hne
     by_cases hk2 : k=i
     ·rw [hk2]
     ·rw [ih k (by omega) (fAt f (i + 1)) (by omega) (by omega),ih i (by omega) (fAt f (i + 1)) (by omega) (by omega)]
theorem dO {f : List Nat} {i : Nat} (e : fAt f i=i) : ftF f i=i:=by
 unfold ftF
 cases i with
 | zero=>rfl
 | succ i=>simp only [ftN,e,if_true]
theorem eZ {n : Nat} {f : List Nat} (h : Fo n f) {i : Nat} (hi : i < n) : ftF f i=ftF f (fAt f i):=by
 have hle:=h.le i hi
 by_cases e : fAt f i=i
 ·rw [e]
 ·unfold ftF
  cases i with
  | zero=>omega
  | succ i =>
   rw [ftN,if_neg e]
   exact vm h i _ (by omega) (by omega)
theorem mj {n : Nat} {f : List Nat} (h : Fo n f) : ∀ i,i < n -> ftF f i <= i /\ fAt f (ftF f i)=ftF f i:=by
 intro i
 induction i using Nat.strongRecOn with
 | _ i ih =>
  intro hi
  have hle:=h.le i hi
  by_cases e : fAt f i=i
  ·rw [dO e];exact ⟨x0l _,e⟩
  ·rw [eZ h hi]
   obtain ⟨h1,h2⟩:=ih (fAt f i) (by omega) (by omega)
   exact ⟨by omega,h2⟩
theorem eL {f : List Nat} {i j x : Nat} (h : i < f.length) : fAt (f.set i x) j=if j=i then x else fAt f j:=by
 unfold fAt
 simp only [x1o,List.getElem?_set]
 by_cases e : j=i
 ·subst e;simp [h]
 ·rw [if_neg (fun h=>e h.symm),if_neg e]
theorem RV {n : Nat} {f : List Nat} (h : Fo n f) {i : Nat} (hi : i < n) : Fo n (f.set i (fAt f (fAt f i))) /\ ∀ x,x < n -> ftF (f.set i (fAt f (fAt f i))) x=ftF f x:=by
 have hl : i < f.length:=by rw [h.len];exact hi
 have h1:=h.le i hi
 have h2:=h.le (fAt f i) (by omega)
 have hF : Fo n (f.set i (fAt f (fAt f i))):=by
  refine ⟨by simp [h.len],fun j hj=>?_⟩
  rw [eL hl]
  split
  ·omega
  ·exact h.le j hj
 refine ⟨hF,fun x=>?_⟩
 induction x using Nat.strongRecOn with
 | _ x ih =>
  intro hx
  have hst:=eZ hF hx
  have hx1:=h.le x hx
  rw [eL hl] at hst
  by_cases e : x=i
  ·rw [if_pos e] at hst
   subst e
   by_cases e2 : fAt f (fAt f x)=x
   ·have e3 : fAt f x=x:=by omega
    rw [dO e3]
    exact dO (by rw [eL hl,if_pos rfl];exact e2)
   ·rw [hst,ih _ (by omega) (by omega),eZ h hx,eZ h (by omega : fAt f x < n)]
  ·rw [if_neg e] at hst
   by_cases e2 : fAt f x=x
   ·rw [dO e2]
    exact dO (by rw [eL hl,if_neg e];exact e2)
   ·rw [hst,ih _ (by omega) (by omega),<- eZ h hx]
def hlv (f : List Nat) : Nat -> Nat -> List Nat
 | 0,_=>f
 | k + 1,i=>if fAt f i=i then f else hlv (f.set i (fAt f (fAt f i))) k (fAt f (fAt f i))
def hlL (f : List Nat) (i : Nat) : List Nat:=hlv f i i
theorem pQ {n : Nat} : ∀ (k : Nat) {f : List Nat} {i : Nat},Fo n f -> i < n -> Fo n (hlv f k i) /\ ∀ x,x < n -> ftF (hlv f k i) x=ftF f x
 | 0,f,i,h,_=>⟨h,fun _ _=>rfl⟩
 | k + 1,f,i,h,hi=>by
  unfold hlv
  split
  ·exact ⟨h,fun _ _=>rfl⟩
  ·obtain ⟨h1,h2⟩:=RV h hi
   have h3:=h.le i hi
   have h4:=h.le (fAt f i) (by omega)
   obtain ⟨h5,h6⟩:=pQ k h1 (show fAt f (fAt f i) < n by omega)
   exact ⟨h5,fun x hx=>by rw [h6 x hx,h2 x hx]⟩
theorem pP {n : Nat} {f : List Nat} {i : Nat} (h : Fo n f) (hi : i < n) : Fo n (hlL f i) /\ ∀ x,x < n -> ftF (hlL f i) x=ftF f x:=pQ i h hi
theorem tN {n : Nat} {f : List Nat} (h : Fo n f) {M m : Nat} (hM : M < n) (e1 : fAt f M=M) (e2 : fAt f m=m) (hm : m <= M) :
  Fo n (f.set M m) /\ ∀ x,x < n -> ftF (f.set M m) x=if ftF f x=M then m else ftF f x:=by
 have hl : M < f.length:=by rw [h.len];exact hM
 have hF : Fo n (f.set M m):=by
  refine ⟨by simp [h.len],fun j hj=>?_⟩
  rw [eL hl]
  split
  ·omega
  ·exact h.le j hj
 refine ⟨hF,fun x=>?_⟩
 induction x using Nat.strongRecOn with
 | _ x ih =>
  intro hx
  have hst:=eZ hF hx
  have hx1:=h.le x hx
  rw [eL hl] at hst
  by_cases e : x=M
  ·rw [if_pos e] at hst
   subst e
   rw [dO e1,if_pos rfl,hst]
   by_cases e3 : m=x
   ·subst e3
    exact dO (by rw [eL hl,if_pos rfl])
   ·exact dO (by rw [eL hl,if_neg e3];exact e2)
  ·rw [if_neg e] at hst
   by_cases e3 : fAt f x=x
   ·rw [dO e3,if_neg e]
    exact dO (by rw [eL hl,if_neg e];exact e3)
   ·rw [hst,ih _ (by omega) (by omega),<- eZ h hx]
def sF (f : List Nat) (a b : Nat) : List Nat:=(hlL (hlL f a) b).set (max (ftF f a) (ftF f b)) (min (ftF f a) (ftF f b))
theorem rk {n : Nat} {f : List Nat} (h : Fo n f) {a b : Nat} (ha : a < n) (hb : b < n) :
  Fo n (sF f a b) /\ ∀ x,x < n -> ftF (sF f a b) x=if ftF f x=max (ftF f a) (ftF f b) then min (ftF f a) (ftF f b) else ftF f x:=by
 obtain ⟨h1,r1⟩:=pP h ha
 obtain ⟨h2,r2⟩:=pP h1 hb
 have hr : ∀ x,x < n -> ftF (hlL (hlL f a) b) x=ftF f x:=fun x hx=>by rw [r2 x hx,r1 x hx]
 have ga:=mj h a ha
 have gb:=mj h b hb
 have fx : ∀ x,x < n -> fAt (hlL (hlL f a) b) (ftF f x)=ftF f x:=fun x hx=>by
  have:=(mj h2 x hx).2
  rw [hr x hx] at this
  exact this
 have e1 : fAt (hlL (hlL f a) b) (max (ftF f a) (ftF f b))=max (ftF f a) (ftF f b):=by
  rcases Nat.le_total (ftF f a) (ftF f b) with g | g
  ·rw [Nat.max_eq_right g];exact fx b hb
  ·rw [Nat.max_eq_left g];exact fx a ha
 have e2 : fAt (hlL (hlL f a) b) (min (ftF f a) (ftF f b))=min (ftF f a) (ftF f b):=by
  rcases Nat.le_total (ftF f a) (ftF f b) with g | g
  ·rw [Nat.min_eq_left g];exact fx a ha
  ·rw [Nat.min_eq_right g];exact fx b hb
 obtain ⟨q1,q2⟩:=tN h2 (M:=max (ftF f a) (ftF f b)) (m:=min (ftF f a) (ftF f b)) (by omega) e1 e2 (by omega)
 refine ⟨q1,fun x hx=>?_⟩
 unfold sF
 rw [q2 x hx,hr x hx]
inductive Cn (R : Nat -> Nat -> Prop) : Nat -> Nat -> Prop
 | refl (a : Nat) : Cn R a a
 | step {a b c : Nat} : Cn R a b -> R b c -> Cn R a c
theorem Cn.trans {R : Nat -> Nat -> Prop} {a b c : Nat} (h : Cn R a b) (g : Cn R b c) : Cn R a c:=by
 induction g with
 | refl=>exact h
 | step _ r ih=>exact .step ih r
theorem Cn.symm {R : Nat -> Nat -> Prop} (hs : ∀ a b,R a b -> R b a) {a b : Nat} (h : Cn R a b) : Cn R b a:=by
 induction h with
 | refl=>exact .refl _
 | step _ r ih=>exact (Cn.step (.refl _) (hs _ _ r)).trans ih
theorem Cn.mono {R S : Nat -> Nat -> Prop} (hs : ∀ a b,R a b -> S a b) {a b : Nat} (h : Cn R a b) : Cn S a b:=by
 induction h with
 | refl=>exact .refl _
 | step _ r ih=>exact .step ih (hs _ _ r)
def ur (n : Nat) (R : Nat -> Nat -> Prop) (f : List Nat) : Prop:=∀ x,x < n -> Cn R x (ftF f x)
theorem ur.init {n : Nat} (R : Nat -> Nat -> Prop) : Fo n (List.range n) /\ ur n R (List.range n) /\ ∀ x,x < n -> ftF (List.range n) x=x:=by
 have hf : ∀ x,x < n -> fAt (List.range n) x=x:=fun x hx=>by simp [fAt,hx]
 have hr : ∀ x,x < n -> ftF (List.range n) x=x:=fun x hx=>dO (hf x hx)
 exact ⟨⟨by simp,fun i hi=>by rw [hf i hi];omega⟩,fun x hx=>by rw [hr x hx];exact .refl _,hr⟩
theorem ur.join {n : Nat} {R : Nat -> Nat -> Prop} {f : List Nat} (hs : ∀ a b,R a b -> R b a) (h : Fo n f) (hi : ur n R f) {a b : Nat} (ha : a < n) (hb : b < n) (hr : R a b) : ur n R (sF f a b):=by
 intro x hx
 obtain ⟨_,q⟩:=rk h ha hb
 rw [q x hx]
 have wab : Cn R (ftF f a) (ftF f b):=((hi a ha).symm hs).trans ((Cn.step (.refl _) hr).trans (hi b hb))
 split
 ·rename_i e
  have h1:=hi x hx
  rw [e] at h1
  refine h1.trans ?_
  rcases Nat.le_total (ftF f a) (ftF f b) with g | g
  ·rw [Nat.max_eq_right g,Nat.min_eq_left g];exact wab.symm hs
  ·rw [Nat.max_eq_left g,Nat.min_eq_right g];exact wab
 ·exact hi x hx
theorem Cn.root {R : Nat -> Nat -> Prop} {f : List Nat} (hR : ∀ a b,R a b -> ftF f a=ftF f b) {a b : Nat} (h : Cn R a b) : ftF f a=ftF f b:=by
 induction h with
 | refl=>rfl
 | step _ r ih=>rw [ih,hR _ _ r]
end Go.Gv

namespace Go.Gv
variable {C : CC} (hC : ay prog C)
include hC
theorem se (b : Bool) (xs : List Int) (h2 : xs.length < 2 ^ 40) : C 42 [slx b (xs.map fun n=>[.int .i64 n])] .any [.own 1 (xs.map fun n=>[.int .i64 n])]:=by
 cases xs with
 | nil =>
  cases b with
  | true =>
   show C 42 [.nils] .any [.own 1 []]
   refine pf hC (nf:=N42) rfl rfl ?_
   simp [N42]
  | false =>
   show C 42 [.sl []] .any [.own 1 []]
   refine pf hC (nf:=N42) rfl rfl ?_
   simp [N42]
 | cons x xs =>
  have e : slx b ((x::xs).map fun n=>[D.int .i64 n])=.sl ((x::xs).map fun n=>[D.int .i64 n]):=by cases b <;> rfl
  rw [e]
  obtain ⟨l,hl⟩ : ∃ l,l=x::xs:=⟨_,rfl⟩
  rw [<- hl] at h2 ⊢
  have h : 0 < l.length:=by rw [hl];simp
  refine pf hC (nf:=N42) rfl rfl ?_
  simp [N42]
  refine ⟨fun _=>?_,fun h0=>?_⟩
  ·have : l.length < 1099511627776:=h2
   omega
  ·subst h0
   simp at h
end Go.Gv

set_option maxRecDepth 4000
namespace Go.Gv
def gk (n m : Nat) (v : Int) : List (List D):=List.replicate m [.int .i64 v]++List.replicate (n - m) [.int .i64 0]
theorem qm {n m : Nat} {v : Int} (h : m <= n) : (gk n m v).length=n:=by simp [gk];omega
theorem mY (n m : Nat) (v : Int) : ∀ e ∈ gk n m v,e.length=1 /\ ∀ c ∈ e,aK c=true:=by
 intro e he
 rcases x0m.1 he with h | h <;> (rw [(List.mem_replicate.1 h).2];simp [aK])
theorem oa (n m : Nat) (v : Int) : ∀ e ∈ gk n m v,∀ c ∈ e,aK c=true:=fun e he=>(mY n m v e he).2
theorem n9 (n : Nat) (v : Int) : gk n n v=List.replicate n [.int .i64 v]:=by simp [gk]
theorem oc {n m : Nat} {v : Int} (h : m <= n) : gM (gk n m v) m (((gk n m v).take m).take (n - m))=gk n (min n (m + m)) v:=by
 have h1 : (gk n m v).take m=List.replicate m [.int .i64 v]:=by
  unfold gk
  rw [List.take_append_of_le_length (by simp)]
  simp
 rw [h1,List.take_replicate]
 unfold gM
 rw [h1,List.length_replicate]
 unfold gk
 rw [List.drop_append,List.drop_eq_nil_of_le (by simp),x1e,List.length_replicate,List.drop_replicate]
 have e1 : min n (m + m)=m + min (n - m) m:=by omega
 rw [e1,<- List.replicate_append_replicate]
 congr 2
 omega
theorem rI {n : Nat} {v : Int} (h : 0 < n) : gM (List.replicate n [D.int .i64 0]) 0 ([[D.int .i64 v]].take n)=gk n 1 v:=by
 have : [[D.int .i64 v]].take n=[[.int .i64 v]]:=by
  rw [x0q (by simp;omega)]
 rw [this]
 unfold gM gk
 simp
variable {C : CC} (hC : ay prog C)
include hC
theorem wg (v : Int) (n : Nat) (hn : n < 2 ^ 40) : C 315 [.sl [[.int .i64 v]],.int .i64 n] .any [.own 1 (List.replicate n [.int .i64 v])]:=by
 have k0:=sf hC 1 n (by omega) (by omega)
 have k1 : C 333 [.int .u64 1,.int .u64 n] (.tup [.int .u64 0,.int .u64 n]) []:=by
  have e1 : 1 * n / 2 ^ 64=0:=by omega
  have e2 : 1 * n % 2 ^ 64=n:=by omega
  rw [e1,e2] at k0
  refine aw hC (nf:=N333) rfl rfl ?_
  simp [N333]
  simp at k0
  refine aa k0 (.inl rfl) ?_
  simp
 have w1 : IntKind.wrap .u64 (n : Int)=n:=by
  have e : (2 : Int) ^ IntKind.bits .u64=18446744073709551616:=by decide
  have e2 : IntKind.signed .u64=false:=rfl
  simp only [IntKind.wrap,e,e2,Bool.false_and,x0i,if_false]
  omega
 have w2 : IntKind.wrap .i64 (n : Int)=n:=ae (by omega) (by omega)
 refine pf hC (nf:=N315) rfl rfl ?_
 have hn0 : ¬ (n : Int) < 0:=by omega
 have hn1 : ¬ (9223372036854775807 : Int) < n:=by omega
 have hn2 : (n : Int) * 8 <= 140737488355328:=by omega
 simp [N315,w1,hn0]
 refine aa k1 (.inl rfl) ?_
 simp [w2,hn1,hn2,aK]
 refine ⟨fun h0=>?_,fun h0=>?_⟩
 ·refine ar Nat (fun m=>[(7,.ref (.r 10112) 0 n),(8,.int .i64 m),(10112,.blk 1 (gk n m v))]) (fun m=>m <= n /\ (0 < n -> 0 < m)) (fun m=>n - m) 0 ⟨by omega,by omega⟩ (by subst h0;simp [gk]) ?_
  rintro m ⟨hm,hm0⟩
  simp
  refine aj (fun h=>?_) (fun h=>?_) <;> simp at h
  ·have hm1 : 0 < m:=hm0 (by omega)
   have hl:=qm (v:=v) hm
   have hnx:=oc (v:=v) hm
   have hc:=mY n m v
   have hc1:=oa n m v
   have hnm : ¬ n - m=0:=by omega
   have hpos : 0 < n - m:=by omega
   have htk : ∀ e ∈ (gk n m v).take m,∀ c ∈ e,aK c=true:=fun e he=>hc1 e (x0J he)
   have hw : IntKind.wrap .i64 ((m : Int) + ((min m (n - m) : Nat) : Int))=((min n (m + m) : Nat) : Int):=ae (by omega) (by omega)
   simp [h,hl,hm,nz]
   try refine ⟨htk,hm1,fun hz=>absurd hz hnm,fun _=>⟨hc1,htk,ai (by decide +kernel),min n (m + m),⟨by omega,fun _=>by omega⟩,by omega,hw,hnx⟩⟩
  ·have e : m=n:=by omega
   subst e
   simp [n9]
 ·rw [rI h0]
  have h01 : min 1 n=1:=by omega
  refine ar Nat (fun m=>[(7,.ref (.r 10112) 0 n),(8,.int .i64 m),(10112,.blk 1 (gk n m v))]) (fun m=>m <= n /\ (0 < n -> 0 < m)) (fun m=>n - m) 1 ⟨by omega,by omega⟩ (by simp [h01]) ?_
  rintro m ⟨hm,hm0⟩
  simp
  refine aj (fun h=>?_) (fun h=>?_) <;> simp at h
  ·have hm1 : 0 < m:=hm0 (by omega)
   have hl:=qm (v:=v) hm
   have hnx:=oc (v:=v) hm
   have hc:=mY n m v
   have hc1:=oa n m v
   have hnm : ¬ n - m=0:=by omega
   have hpos : 0 < n - m:=by omega
   have htk : ∀ e ∈ (gk n m v).take m,∀ c ∈ e,aK c=true:=fun e he=>hc1 e (x0J he)
   have hw : IntKind.wrap .i64 ((m : Int) + ((min m (n - m) : Nat) : Int))=((min n (m + m) : Nat) : Int):=ae (by omega) (by omega)
   simp [h,hl,hm,nz]
   try refine ⟨htk,hm1,fun hz=>absurd hz hnm,fun _=>⟨hc1,htk,ai (by decide +kernel),min n (m + m),⟨by omega,fun _=>by omega⟩,by omega,hw,hnx⟩⟩
  ·have e : m=n:=by omega
   subst e
   simp [n9]
end Go.Gv

namespace Go.Gv
section
variable {C : Nat -> List D -> D -> List D -> Prop} (hC : ay prog C)
include hC
theorem vW (fs : List (List D)) (d : D) : C 317 [.ptr [.sl fs,d]] (.int .i64 fs.length) []:=by
 refine aw hC (nf:=N317) rfl rfl ?_
 simp [N317]
theorem sy (fs : List Nat) (sp : List Int) (x : Nat) (hx : x < sp.length) (hb : ∀ a ∈ fs,a < sp.length) (h2 : fs.length + 1 < 2 ^ 40) : C 316 [.blk 2 [[.own 1 (nfR fs),.slv 0 (inR sp)]],.ifa 20 (.r 10015) 0 0,.ifi 2 x] (.tup []) [.blk 2 [[.own 1 (nfR (upL sp (fs++[x]) fs.length)),.slv 0 (inR sp)]],.nils]:=hC.2 316 2 (qB fs sp) [.ifa 20 (.r 10015) 0 0,.ifi 2 x] (.tup []) (qB (upL sp (fs++[x]) fs.length) sp) fun C' h'=>ya h' fs sp x hx hb h2
theorem BZ (fs : List Nat) (sp : List Int) (h0 : 0 < fs.length) (hb : ∀ a ∈ fs,a < sp.length) (h2 : fs.length < 2 ^ 40) : C 318 [.blk 2 [[.own 1 (nfR fs),.slv 0 (inR sp)]],.ifa 20 (.r 10015) 0 0] (.ifi 2 (fAt (gG sp fs) (fs.length - 1) : Nat)) [.blk 2 [[.own 1 (nfR ((gG sp fs).take (fs.length - 1))),.slv 0 (inR sp)]],.nils]:=hC.2 318 2 (qB fs sp) [.ifa 20 (.r 10015) 0 0] (.ifi 2 (fAt (gG sp fs) (fs.length - 1) : Nat)) (qB ((gG sp fs).take (fs.length - 1)) sp) fun C' h'=>BY h' fs sp h0 hb h2
set_option maxRecDepth 8000 in
set_option maxHeartbeats 2000000 in
theorem nV (dec : Nat -> List UInt8) (hI : ∀ n : Nat,n < 100 -> C 127 [.int .i64 n] (.str (dec n)) []) (m : Msh) (hz : bM m=true -> m.s.length <= 100 /\ m.f.length <= 100) :
  C 280 [.agg (aQ m)] (if ao m then .tup [mh m,.int .i64 0] else .tup [.nilp,.int .i64 1]) []:=by
 have k1:=jn hC dec hI m hz
 have k2:=Bn hC dec hI m hz
 simp only [ab] at k1 k2
 refine aw hC (nf:=N280) rfl rfl ?_
 simp [N280,ab]
 refine aa k1 (.inr rfl) ?_
 cases hv : ao m
 ·simp
 ·simp
  refine aa k2 (.inr rfl) ?_
  have hsz:=(bO hv).2
  have kc:=se hC true (bp m) (by simp;omega)
  have kr:=wg hC (-1) m.f.length (by omega)
  rw [<- fb] at kc
  have er : List.replicate m.f.length [D.int .i64 (-1)]=inR (List.replicate m.f.length (-1)):=by simp [inR]
  rw [er] at kr
  simp [hv]
  refine km kc ?_
  simp
  refine km kr ?_
  simp
  have hc1 : ∀ e ∈ inR (bp m),∀ c ∈ e,aK c=true:=by simp [inR]
  refine ⟨by rcases fX true (inR (bp m)) with h | ⟨h,_⟩ <;> rw [h] <;> trivial,?_⟩
  refine uK (sz:=1) (by decide) (by decide) rfl (by decide) rfl (by decide) (by simp) hc1 rfl (by simp [bm,rt]) (fun h0=>?_) (fun hn=>?_)
  ·simp [h0,rt]
   have hsm : bp m=[]:=x0v (by simpa using h0)
   have hnb : nbA m=[]:=x0v (by simpa using h0)
   refine ar Unit (fun _=>[(4,.sl (nbA m)),(7,.ptx [.sl (nbA m),slx true (inR (bp m)),.ref (.r 10544) 0 0,.ref (.r 10608) 0 0]),(8,.adr (.r 10736) 0 0),(9,.ref (.r 10144) 0 0),(50,.sl (nbA m)),(51,.int .i64 0),
    (52,.int .i64 0),(10544,.blk 1 (inR (bp m))),(10608,.blk 1 []),(10736,.blk 2 [[.own 1 [],.any]]),(10144,.blk 1 [])]) (fun _=>True) (fun _=>0) () trivial (by simp) ?_
   rintro _ _
   simp
   refine ar Unit (fun _=>[(4,.sl (nbA m)),(7,.ptx [.sl (nbA m),slx true (inR (bp m)),.ref (.r 10544) 0 0,.ref (.r 10608) 0 0]),(8,.adr (.r 10736) 0 0),(9,.ref (.r 10144) 0 0),(10544,.blk 1 (inR (bp m))),(10608,.blk 1 []),(10736,.blk 2 [[.own 1 [],.any]]),(10144,.blk 1 [])]) (fun _=>True) (fun _=>0) () trivial (by simp) ?_
   rintro _ _
   have kl:=vW hC [] .any
   simp at kl
   simp
   refine aa kl (.inl rfl) ?_
   simp
   simp [mh,aR,h0,flN,dN,hsm]
  ·simp [rt]
   refine ⟨by omega,?_⟩
   have hF:=fun e (he : e ∈ inR (bp m))=>hc1 e he
   have hr0 : List.replicate m.f.length [D.bool false]=rcR (fl0 m 0).2:=by simp [fl0,rcR]
   rw [hr0]
   refine ar Nat (fun i=>[(4,.sl (nbA m)),(7,.ptx [.sl (nbA m),slx true (inR (bp m)),.ref (.n 10736 0 1) 0 m.f.length,.ref (.r 10608) 0 m.f.length]),(8,.adr (.r 10736) 0 0),(9,.ref (.r 10144) 0 m.f.length),(50,.sl (nbA m)),(51,.int .i64 m.f.length),(52,.int .i64 i),
    (10736,.blk 2 [[.own 1 (nfR (fl0 m i).1),.own 1 (inR (bp m))]]),(10608,.blk 1 (inR (List.replicate m.f.length (-1)))),(10144,.blk 1 (rcR (fl0 m i).2))]) (fun i=>i <= m.f.length) (fun i=>m.f.length - i) 0 (by simp) (by simp [fl0,nfR]) ?_
   rintro i hi
   obtain ⟨l1,l2,l3⟩:=jz m i
   have hw : IntKind.wrap .i64 ((i : Int) + 1)=((i + 1 : Nat) : Int):=ae (by omega) (by omega)
   simp
   refine aj (fun g1=>?_) (fun g1=>?_) <;> simp at g1 <;> simp [g1]
   ·have kh:=sA hC (b:=false) (xs:=[nbF m i 0,nbF m i 1,nbF m i 2]) (-1) (by simp)
    have kh2 : C 223 [.sl [[.int .i64 (nbF m i 0)],[.int .i64 (nbF m i 1)],[.int .i64 (nbF m i 2)]],.int .i64 (-1)] (.bool (bsd m i (-1))) []:=by simpa [bsd] using kh
    simp [ap (lP g1),bV]
    refine aa kh2 (.inl rfl) ?_
    simp
    have e0 : fl0 m (i + 1)=if bsd m i (-1) then (upL (bp m) ((fl0 m i).1++[i]) (fl0 m i).1.length,(fl0 m i).2.set i true) else fl0 m i:=rfl
    refine aj (fun g2=>?_) (fun g2=>?_)
    ·rw [if_pos g2] at e0
     simp [g2,l1,g1,d8,yK,jR,C7]
     refine kq (b:=10736) (fs':=nfR (upL (bp m) ((fl0 m i).1++[i]) (fl0 m i).1.length)) (d:=.tup []) rfl (by decide) (by simp) (by simp) rfl rfl (by simp) (kL _) (mA _) (.inr rfl) (kL _) ?_ ?_
     ·exact sy hC (fl0 m i).1 (bp m) i (by simp;omega) (fun a ha=>by have:=l3 a ha;simp;omega) (by omega)
     ·simp [b8]
      exact ⟨i + 1,by omega,by omega,hw,by rw [e0],by rw [e0]⟩
    ·rw [if_neg (by simp [g2])] at e0
     simp [g2]
     exact ⟨i + 1,by omega,by omega,hw,by rw [e0],by rw [e0]⟩
   ·have hi2 : i=m.f.length:=by omega
    subst hi2
    obtain ⟨W0,M0⟩:=jA m
    refine ar (Fl × Nat) (fun s=>[(4,.sl (nbA m)),(7,.ptx [.sl (nbA m),slx true (inR (bp m)),.ref (.n 10736 0 1) 0 m.f.length,.ref (.r 10608) 0 m.f.length]),(8,.adr (.r 10736) 0 0),(9,.ref (.r 10144) 0 m.f.length),
     (10736,.blk 2 [[.own 1 (nfR s.1.q),.own 1 (inR s.1.sp)]]),(10608,.blk 1 (inR s.1.ou)),(10144,.blk 1 (rcR s.1.rc))]) (fun s=>FlW m s.1 /\ s.1=flN m s.2 (dN m) /\ s.2 + flM s.1 <= 2 * m.f.length) (fun s=>flM s.1) (dN m,0) ⟨W0,rfl,by simpa using M0⟩ (by simp [dN]) ?_
    rintro ⟨s,k⟩ ⟨W,hs,hk⟩
    simp only at W hs hk
    have hn:=W.n
    have kl:=vW hC (nfR s.q) (.sl (inR s.sp))
    simp at kl
    simp
    refine aa kl (.inl rfl) ?_
    simp
    refine aj (fun g2=>?_) (fun g2=>?_) <;> simp at g2 <;> simp [g2]
    ·obtain ⟨Wp,Mp,hpi⟩:=vU W g2
     obtain ⟨x,hx⟩ : ∃ x,x=fAt (gG s.sp s.q) (s.q.length - 1):=⟨_,rfl⟩
     obtain ⟨s1,hs1⟩ : ∃ s1 : Fl,s1={ s with q:=(gG s.sp s.q).take (s.q.length - 1) }:=⟨_,rfl⟩
     have hst : d3 m s=flJ m x s1 3:=by
      unfold d3
      rw [if_neg (by omega),<- hx,<- hs1]
     rw [<- hs1] at Wp Mp
     rw [<- hx] at hpi
     refine kq (b:=10736) (fs':=nfR s1.q) (d:=.ifi 2 (x : Int)) rfl (by decide) (by simp) (by simp) rfl rfl (by simp) (kL _) (mA _) (.inl rfl) (kL _) ?_ ?_
     ·have:=BZ hC s.q s.sp g2 (fun a ha=>by rw [W.sp];exact W.q a ha) (by omega)
      rw [<- hx] at this
      rw [hs1]
      exact this
     ·have e1 : s1.sp=s.sp:=by rw [hs1]
      have e2 : s1.ou=s.ou:=by rw [hs1]
      have e3 : s1.rc=s.rc:=by rw [hs1]
      simp [b8,ap (lP hpi)]
      rw [<- e1,<- e2,<- e3]
      refine ar Nat (fun j=>[(4,.sl (nbA m)),(7,.ptx [.sl (nbA m),slx true (inR (bp m)),.ref (.n 10736 0 1) 0 m.f.length,.ref (.r 10608) 0 m.f.length]),(8,.adr (.r 10736) 0 0),(9,.ref (.r 10144) 0 m.f.length),(12,.int .i64 x),(78,.agg [.int .i64 (nbF m x 0),.int .i64 (nbF m x 1),.int .i64 (nbF m x 2)]),(79,.int .i64 j),
       (10736,.blk 2 [[.own 1 (nfR (flJ m x s1 j).q),.own 1 (inR (flJ m x s1 j).sp)]]),(10608,.blk 1 (inR (flJ m x s1 j).ou)),(10144,.blk 1 (rcR (flJ m x s1 j).rc))]) (fun j=>j <= 3) (fun j=>3 - j) 0 (by simp) (by simp [flJ]) ?_
      rintro j hj
      obtain ⟨Wj,Mj⟩:=sw (i:=x) Wp j
      obtain ⟨t,ht⟩ : ∃ t,t=flJ m x s1 j:=⟨_,rfl⟩
      have hnx : flJ m x s1 (j + 1)=nv m x t (nbF m x j):=by rw [ht];rfl
      rw [<- ht] at Wj Mj ⊢
      have htn:=Wj.n
      have hw : IntKind.wrap .i64 ((j : Int) + 1)=((j + 1 : Nat) : Int):=ae (by omega) (by omega)
      simp
      refine aj (fun g3=>?_) (fun g3=>?_) <;> simp at g3
      ·have hxj : ([.int .i64 (nbF m x 0),.int .i64 (nbF m x 1),.int .i64 (nbF m x 2)] : List D)[j]?.getD .any=.int .i64 (nbF m x j):=by
        rcases (by omega : j=0 \/ j=1 \/ j=2) with rfl | rfl | rfl <;> rfl
       have hbd:=co m x j
       obtain ⟨kk,hkk⟩ : ∃ kk,kk=nbF m x j:=⟨_,rfl⟩
       rw [<- hkk] at hxj hbd hnx
       simp [show (j : Int) < 3 by omega,hxj]
       refine ⟨by omega,?_⟩
       refine aj (fun g4=>?_) (fun g4=>?_) <;> simp at g4 <;> simp [g4]
       ·have hst2 : flJ m x s1 (j + 1)=t:=by
         rw [hnx]
         unfold nv
         rw [if_pos (.inl g4)]
        exact ⟨j + 1,by omega,by omega,hw,by rw [hst2];exact ⟨rfl,rfl⟩,by rw [hst2],by rw [hst2]⟩
       ·obtain ⟨c,hc⟩ : ∃ c : Nat,kk=c:=⟨kk.toNat,by omega⟩
        subst hc
        have hcn : c < m.f.length:=by omega
        have hcr : c < t.rc.length:=by rw [Wj.rc];exact hcn
        refine ⟨by omega,by simpa using hcn,?_⟩
        simp [a8 (d8 hcr)]
        cases hrc : t.rc.getD c false
        ·simp at hrc
         have hxs : x < t.sp.length:=by rw [Wj.sp];exact hpi
         have hcs : c < t.sp.length:=by rw [Wj.sp];exact hcn
         have hco : c < t.ou.length:=by rw [Wj.ou];exact hcn
         have hcm : c < (bp m).length:=by simpa using hcn
         simp [hrc,d8 hcr,hcn,hpi,jR,a8 (cJ hxs),ap (cJ hcm),cJ hcs,cJ hco,oI]
         have hmx : (if t.sp[x]?.getD 0 < (bp m)[c] then (bp m)[c] else t.sp[x]?.getD 0)=mxZ (t.sp.getD x 0) ((bp m).getD c 0):=by
          simp [mxZ,hcn]
         rw [hmx]
         obtain ⟨sp',hsp'⟩ : ∃ sp',sp'=t.sp.set c (mxZ (t.sp.getD x 0) ((bp m).getD c 0)):=⟨_,rfl⟩
         rw [<- hsp']
         have hspl : sp'.length=m.f.length:=by rw [hsp'];simp [Wj.sp]
         have hst2 : flJ m x s1 (j + 1)={ q:=upL sp' (t.q++[c]) t.q.length,rc:=t.rc.set c true,sp:=sp',ou:=t.ou.set c x }:=by
          rw [hnx]
          unfold nv
          rw [if_neg (fun h=>by
           rcases h with h | h
           ·omega
           ·simp at h;rw [hrc] at h;cases h),hsp']
          rfl
         have hst3:=jX hcr (by simpa using hrc)
         refine ⟨ai (by decide +kernel),?_⟩
         refine kq (b:=10736) (fs':=nfR (upL sp' (t.q++[c]) t.q.length)) (d:=.tup []) rfl (by decide) (by simp) (by simp) rfl rfl (by simp) (kL _) (mA _) (.inr rfl) (kL _) ?_ ?_
         ·exact sy hC t.q sp' c (by rw [hspl];exact hcn) (fun a ha=>by rw [hspl];exact Wj.q a ha) (by omega)
         ·simp [b8]
          refine ⟨j + 1,by omega,by omega,hw,?_⟩
          rw [hst2]
          simp
        ·have hst2 : flJ m x s1 (j + 1)=t:=by
          rw [hnx]
          unfold nv
          rw [if_pos (.inr (by simpa using hrc))]
         simp at hrc
         simp [hrc]
         exact ⟨j + 1,by omega,by omega,hw,by rw [hst2];exact ⟨rfl,rfl⟩,by rw [hst2],by rw [hst2]⟩
      ·have hj3 : j=3:=by omega
       subst hj3
       rw [<- hst] at ht
       simp
       exact ⟨d3 m s,⟨(fO W).1,k + 1,by rw [oC,<- hs];rfl,by have:=(fO W).2 g2;omega⟩,(fO W).2 g2,by rw [ht];exact ⟨rfl,rfl⟩,by rw [ht],by rw [ht]⟩
    ·have h0 : s.q.length=0:=by simpa using g2
     have hfl : aR m=s:=by
      unfold aR
      rw [show 3 * m.f.length=k + (3 * m.f.length - k) by omega,oC,<- hs]
      exact mf m h0 _
     have hsp:=hD s.sp
     have hou:=hD s.ou
     rw [W.sp] at hsp
     rw [W.ou] at hou
     refine ⟨⟨by rw [W.sp];omega,by rw [W.ou];omega⟩,?_⟩
     rw [mh,hfl,hsp,hou]
end
end Go.Gv

namespace Go.Gv
section
variable {C : Nat -> List D -> D -> List D -> Prop} (hC : f5 prog C)
include hC
end
section
variable {C : Nat -> List D -> D -> List D -> Prop} (hC : ay prog C)
include hC
end
end Go.Gv

namespace Go.Gv
structure RF where
 rc : List Bool
 lf : List Bool
 lv : List Int
 ou : List Int
def act (r : RF) (i : Nat) : Bool:=r.rc.getD i false && !r.lf.getD i false
def rat (r : RF) : Nat -> Int
 | 0=>-1
 | i + 1=>if act r i=true /\ (rat r i < 0 \/ r.lv.getD i 0 < r.lv.getD (rat r i).toNat 0) then (i : Int) else rat r i
theorem eg (r : RF) : ∀ i,(rat r i=-1 /\ ∀ b,b < i -> act r b=false) \/ ∃ a : Nat,rat r i=a /\ a < i /\ act r a=true /\ ∀ b,b < i -> act r b=true -> r.lv.getD a 0 < r.lv.getD b 0 \/ (r.lv.getD a 0=r.lv.getD b 0 /\ a <= b)
 | 0=>.inl ⟨rfl,fun b hb=>by omega⟩
 | i + 1=>by
  rcases eg r i with ⟨h1,h2⟩ | ⟨a,h1,h2,h3,h4⟩
  ·by_cases ha : act r i=true
   ·right
    refine ⟨i,by simp [rat,ha,h1],by omega,ha,fun b hb hab=>?_⟩
    by_cases e : b=i
    ·subst e;exact .inr ⟨rfl,x0l _⟩
    ·rw [h2 b (by omega)] at hab;cases hab
   ·left
    refine ⟨by simp [rat,ha,h1],fun b hb=>?_⟩
    by_cases e : b=i
    ·subst e;simpa using ha
    ·exact h2 b (by omega)
  ·right
   by_cases hc : act r i=true /\ r.lv.getD i 0 < r.lv.getD a 0
   ·refine ⟨i,?_,by omega,hc.1,fun b hb hab=>?_⟩
    ·unfold rat
     rw [if_pos ⟨hc.1,.inr (by rw [h1];exact hc.2)⟩]
    ·by_cases e : b=i
     ·subst e;exact .inr ⟨rfl,x0l _⟩
     ·rcases h4 b (by omega) hab with h5 | h5
      ·exact .inl (by omega)
      ·exact .inl (by omega)
   ·refine ⟨a,?_,by omega,h3,fun b hb hab=>?_⟩
    ·unfold rat
     rw [if_neg,h1]
     rintro ⟨k1,k2⟩
     rcases k2 with k2 | k2
     ·rw [h1] at k2;omega
     ·rw [h1] at k2;exact hc ⟨k1,k2⟩
    ·by_cases e : b=i
     ·subst e
      have : ¬ r.lv.getD b 0 < r.lv.getD a 0:=fun h=>hc ⟨hab,h⟩
      rcases Int.lt_or_eq_of_le (x0S.1 this) with h5 | h5
      ·exact .inl h5
      ·exact .inr ⟨h5,by omega⟩
     ·exact h4 b (by omega) hab
def dT (m : Msh) (i : Nat) (r : RF) (k : Int) : RF :=
 if 0 <= k /\ r.rc.getD k.toNat false=false then { r with rc:=r.rc.set k.toNat true,lv:=r.lv.set k.toNat (if r.lv.getD i 0 < (bp m).getD k.toNat 0 then (bp m).getD k.toNat 0 else r.lv.getD i 0),ou:=r.ou.set k.toNat i } else r
def rfI (m : Msh) (i : Nat) (r : RF) : Nat -> RF
 | 0=>r
 | j + 1=>dT m i (rfI m i r j) (nbF m i j)
def cE (m : Msh) (r : RF) : RF :=
 if rat r m.f.length < 0 then r else rfI m (rat r m.f.length).toNat { r with lf:=r.lf.set (rat r m.f.length).toNat true } 3
def rf0 (m : Msh) : Nat -> List Bool × List Int
 | 0=>(List.replicate m.f.length false,List.replicate m.f.length 0)
 | i + 1=>if bsd m i (-1) then ((rf0 m i).1.set i true,(rf0 m i).2.set i ((bp m).getD i 0)) else rf0 m i
def cM (m : Msh) : RF:={ rc:=(rf0 m m.f.length).1,lf:=List.replicate m.f.length false,lv:=(rf0 m m.f.length).2,ou:=List.replicate m.f.length (-1) }
structure f6 (m : Msh) (s : Fl) (r : RF) : Prop where
 rc : s.rc=r.rc
 ou : s.ou=r.ou
 heap : gX s.sp s.q s.q.length
 cnt : ∀ a,s.q.count a=if act r a then 1 else 0
 lv : ∀ a,r.rc.getD a false=true -> s.sp.getD a 0=r.lv.getD a 0
 un : ∀ a,r.rc.getD a false=false -> s.sp.getD a 0=(bp m).getD a 0
 lf : ∀ a,r.lf.getD a false=true -> r.rc.getD a false=true
 len : r.lf.length=m.f.length /\ r.lv.length=m.f.length
theorem bk {α : Type} {l : List α} {i j : Nat} {x d : α} (h : i < l.length) : (l.set i x).getD j d=if j=i then x else l.getD j d:=by
 simp only [x1o,List.getElem?_set]
 by_cases e : i=j
 ·subst e;simp [h]
 ·rw [if_neg e,if_neg (Ne.symm e)]
theorem pO {sp sp' : List Int} {q : List Nat} (h : gX sp q q.length) (he : ∀ a ∈ q,sp'.getD a 0=sp.getD a 0) : gX sp' q q.length:=by
 intro i h0 hi
 have:=h i h0 hi
 rw [eB] at this ⊢
 rw [he _ (fa hi),he _ (fa (show (i - 1) / 2 < q.length by omega))]
 exact this
theorem f6.p1 {m : Msh} {s : Fl} {r : RF} {i : Nat} {k : Int} (h : f6 m s r) (W : FlW m s) (hi : r.rc.getD i false=true) (hk : -1 <= k /\ k < m.f.length) : f6 m (nv m i s k) (dT m i r k):=by
 unfold nv dT
 by_cases h1 : k=-1
 ·rw [if_pos (.inl h1),if_neg (by omega)]
  exact h
 ·cases h2 : r.rc.getD k.toNat false
  ·rw [if_neg (by rw [h.rc,h2];simp;exact h1),if_pos ⟨by omega,rfl⟩]
   have hkl : k.toNat < m.f.length:=by omega
   have hrl : r.rc.length=m.f.length:=by rw [<- h.rc];exact W.rc
   have hsp:=W.sp
   have hrcs:=fun j=>bk (l:=r.rc) (i:=k.toNat) (j:=j) (x:=true) (d:=false) (by omega)
   have hsps:=fun j x=>bk (l:=s.sp) (i:=k.toNat) (j:=j) (x:=x) (d:=(0 : Int)) (by omega)
   have hlvs:=fun j x=>bk (l:=r.lv) (i:=k.toNat) (j:=j) (x:=x) (d:=(0 : Int)) (by rw [h.len.2];omega)
   have hv : mxZ (s.sp.getD i 0) ((bp m).getD k.toNat 0)=(if r.lv.getD i 0 < (bp m).getD k.toNat 0 then (bp m).getD k.toNat 0 else r.lv.getD i 0):=by rw [h.lv i hi];rfl
   have hnq : k.toNat ∉ s.q:=by
    intro hm
    have h3:=h.cnt k.toNat
    have h4:=x03.2 hm
    simp only [act,h2,Bool.false_and] at h3
    simp at h3
    omega
   obtain ⟨p1,p2,p3⟩:=kQ (sp:=s.sp.set k.toNat (mxZ (s.sp.getD i 0) ((bp m).getD k.toNat 0))) (fs:=s.q) (x:=k.toNat) (pO h.heap (fun a ha=>by
    rw [hsps,if_neg]
    rintro rfl
    exact hnq ha))
   have hlfk : r.lf.getD k.toNat false=false:=by
    cases e : r.lf.getD k.toNat false
    ·rfl
    ·have:=h.lf _ e;rw [h2] at this;cases this
   refine ⟨by simp [h.rc],by simp [h.ou],p1,fun a=>?_,fun a ha=>?_,fun a ha=>?_,fun a ha=>?_,by simp [h.len]⟩
   ·simp only [p2,h.cnt a,act,hrcs]
    by_cases e : a=k.toNat
    ·subst e
     simp only [if_pos,h2,hlfk]
     simp
    ·simp only [if_neg e]
     simp
   ·simp only [hrcs] at ha
    simp only [hsps,hlvs]
    by_cases e : a=k.toNat
    ·rw [if_pos e,if_pos e];exact hv
    ·rw [if_neg e] at ha
     rw [if_neg e,if_neg e]
     exact h.lv a ha
   ·simp only [hrcs] at ha
    simp only [hsps]
    by_cases e : a=k.toNat
    ·rw [if_pos e] at ha;cases ha
    ·rw [if_neg e] at ha
     rw [if_neg e]
     exact h.un a ha
   ·simp only [hrcs]
    split
    ·rfl
    ·exact h.lf a ha
  ·rw [if_pos (.inr (by rw [h.rc];exact h2)),if_neg (by simp)]
   exact h
theorem o9 {m : Msh} {i a : Nat} {r : RF} {k : Int} (h : r.rc.getD a false=true) : (dT m i r k).rc.getD a false=true:=by
 unfold dT
 split
 ·by_cases e : k.toNat < r.rc.length
  ·rw [bk e]
   split
   ·rfl
   ·exact h
  ·rw [List.set_eq_of_length_le (by omega)]
   exact h
 ·exact h
theorem f6.stepI {m : Msh} {s : Fl} {r : RF} {i : Nat} (h : f6 m s r) (W : FlW m s) (hi : r.rc.getD i false=true) : ∀ j,f6 m (flJ m i s j) (rfI m i r j) /\ (rfI m i r j).rc.getD i false=true
 | 0=>⟨h,hi⟩
 | j + 1=>by
  obtain ⟨h1,h2⟩:=f6.stepI h W hi j
  exact ⟨h1.p1 (sw W j).1 h2 (co m i j),o9 h2⟩
theorem f6.step {m : Msh} {s : Fl} {r : RF} (h : f6 m s r) (W : FlW m s) : f6 m (d3 m s) (cE m r) /\ (s.q.length=0 ↔ rat r m.f.length < 0):=by
 have hact : ∀ a,a ∈ s.q ↔ act r a=true:=fun a=>by
  rw [<- x03,h.cnt]
  split <;> simp_all
 rcases eg r m.f.length with ⟨h1,h2⟩ | ⟨a,h1,h2,h3,h4⟩
 ·have h0 : s.q.length=0:=by
   rcases x0P s.q.length with e | e
   ·exact e
   ·have h5:=fa (fs:=s.q) (i:=0) e
    have h6:=h2 _ (W.q _ h5)
    rw [(hact _).1 h5] at h6
    cases h6
  unfold d3 cE
  rw [if_pos h0,if_pos (by omega)]
  exact ⟨h,by rw [h1];exact ⟨fun _=>by omega,fun _=>h0⟩⟩
 ·have hq : a ∈ s.q:=(hact a).2 h3
  have h0 : 0 < s.q.length:=List.length_pos_of_mem hq
  obtain ⟨p1,p2,p3,p4⟩:=vV h.heap h0
  have hfa : fAt s.q 0=a:=by
   have h5:=fa (fs:=s.q) (i:=0) h0
   have h6:=(hact _).1 h5
   have h7:=h4 _ (W.q _ h5) h6
   obtain ⟨x,hx,hxa⟩:=x0M.1 hq
   have h8:=tL h.heap x hx
   rw [dw hx,hxa,eB] at h8
   have hra : r.rc.getD a false=true:=by simp only [act,x0a] at h3;exact h3.1
   have hr0 : r.rc.getD (fAt s.q 0) false=true:=by simp only [act,x0a] at h6;exact h6.1
   rw [h.lv a hra,h.lv _ hr0] at h8
   omega
  have hral : r.rc.getD a false=true:=by simp only [act,x0a] at h3;exact h3.1
  have hlfs:=fun j=>bk (l:=r.lf) (i:=a) (j:=j) (x:=true) (d:=false) (by rw [h.len.1];exact h2)
  have hmid : f6 m { s with q:=(gG s.sp s.q).take (s.q.length - 1) } { r with lf:=r.lf.set a true }:=by
   refine ⟨h.rc,h.ou,p3,fun b=>?_,h.lv,h.un,fun b hb=>?_,by simp [h.len]⟩
   ·have h5:=p4 b
    have h6:=h.cnt b
    have h7 : (gG s.sp s.q)=(bz s.sp (swp s.q 0 (s.q.length - 1)) 0 (s.q.length - 1)).1:=rfl
    rw [h7]
    rw [hfa] at h5
    simp only [act,hlfs]
    by_cases e : b=a
    ·subst e
     rw [if_pos rfl] at h5
     rw [if_pos h3] at h6
     simp
     omega
    ·rw [if_neg e] at h5
     rw [if_neg e]
     simp only [act] at h6
     refine Eq.trans ?_ h6
     omega
   ·simp only [hlfs] at hb
    split at hb
    ·rename_i e;rw [e];exact hral
    ·exact h.lf b hb
  obtain ⟨W1,_,_⟩:=vU W h0
  have hpa : fAt (gG s.sp s.q) (s.q.length - 1)=a:=p1.trans hfa
  refine ⟨?_,by omega⟩
  unfold d3 cE
  rw [if_neg (by omega),if_neg (by omega),h1,hpa]
  exact (hmid.stepI W1 hral 3).1
end Go.Gv
