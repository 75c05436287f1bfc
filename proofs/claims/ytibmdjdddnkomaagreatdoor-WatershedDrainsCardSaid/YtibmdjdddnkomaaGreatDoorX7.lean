/-
  Texts of the proof: H4, H5, H6, H10, K4, K5, K6, K7, K8, M0, W1, W2, W3, H8, H7, H9, H11, H12, SK1, SK2, PH1, SK3p, PT1, S0, S3, SK3, PT2, PF1.
-/
import Derived.Test.YtibmdjdddnkomaaGreatDoorX6
import Derived.Lib.Mul64
import Derived.Laws.Bits64b
import Derived.Laws.MathBits
set_option linter.all false
namespace Go.Gv
def fH (m : Msh) (i : Nat) : Pnt:=ptS (spt m i)
def fil (p : Nat -> Bool) (n : Nat) : List Nat:=(List.range n).filter p
theorem js (p : Nat -> Bool) : fil p 0=[]:=rfl
theorem cv {p : Nat -> Bool} {n : Nat} (h : p n=true) : fil p (n + 1)=fil p n++[n]:=by
 rw [fil,x1e,List.filter_append]
 simp [h,fil]
theorem j9 {p : Nat -> Bool} {n : Nat} (h : p n=false) : fil p (n + 1)=fil p n:=by
 rw [fil,x1e,List.filter_append]
 simp [h,fil]
theorem aO (p : Nat -> Bool) (n : Nat) : (fil p n).length <= n:=by
 have:=List.length_filter_le p (List.range n)
 rw [fil]
 simpa using this
theorem dK {p : Nat -> Bool} {n i : Nat} (h : i ∈ fil p n) : i < n /\ p i=true:=by
 rw [fil,List.mem_filter,x0H] at h
 exact h
theorem lH {p : Nat -> Bool} {n : Nat} : fil p n=[] ↔ ∀ i,i < n -> p i=false:=by
 rw [fil,List.filter_eq_nil_iff]
 simp
def cP (m : Msh) (i : Nat) : Bool:=!aX (spt m i)
def bM (m : Msh) (i : Nat) : Bool:=aX (spt m i) && (List.range i).any fun k=>aX (spt m k) && decide (fH m k=fH m i)
def dh (m : Msh) (i : Nat) : Bool:=!okF m (fce m i)
def cd (m : Msh) (i : Nat) : Bool:=okF m (fce m i) && decide (iY (aR m (fce m i)) <= 0)
def aF (m : Msh) (i : Nat) : Bool:=okF m (fce m i) && decide (0 < iY (aR m (fce m i)))
def bL (m : Msh) (i : Nat) : Bool:=aF m i && (List.range i).any fun k=>aF m k && gl (fce m i) (fce m k)
def aT (m : Msh) (i : Nat) : Bool:=aF m i && (List.range i).any fun k=>aF m k && ovT (aR m (fce m i)) (aR m (fce m k))
def LL (m : Msh) : List (List Nat):=[[],fil (cP m) m.s.length,fil (bM m) m.s.length,fil (dh m) m.f.length,fil (cd m) m.f.length,fil (bL m) m.f.length,fil (aT m) m.f.length]
def co (dec : Nat -> List UInt8) : Nat -> List (List Nat) -> List (Int × List UInt8)
 | _,[]=>[]
 | k,l::r=>(l.map fun i=>((k : Int),dec i))++co dec (k + 1) r
def fnD (x : Int × List UInt8) : List D:=[.int .i64 x.1,.str x.2]
def bV (m : Msh) : Bool:=decide (m.s.length <= 2000) && decide (m.f.length <= 4000)
def ap (m : Msh) : Bool:=bV m && (LL m).all fun l=>decide (l=[])
theorem mJ (dec : Nat -> List UInt8) : ∀ (k : Nat) (ls : List (List Nat)),co dec k ls=[] ↔ (ls.all fun l=>decide (l=[]))=true
 | _,[]=>by simp [co]
 | k,l::r=>by simp [co,mJ dec (k + 1) r]
def iT (m : Msh) : Nat -> List D
 | 0=>[]
 | i + 1=>if aX (spt m i) then .agg (ptD (fH m i))::iT m i else iT m i
def kE (m : Msh) : Nat -> List D
 | 0=>[]
 | i + 1=>if aX (spt m i) then .bool true::kE m i else kE m i
theorem p8 (m : Msh) : ∀ i,(iT m i).length <= i
 | 0=>by simp [iT]
 | i + 1=>by
  have:=p8 m i
  rw [iT]
  split <;> simp <;> omega
theorem BB (p q : Pnt) : eqD (.agg (ptD p)) (.agg (ptD q))=decide (q=p):=by
 obtain ⟨a,b⟩:=p
 obtain ⟨c,d⟩:=q
 simp [eqD,oq,oo,ptD]
 rw [x04]
 simp
 exact ⟨fun h=>⟨h.1.symm,h.2.symm⟩,fun h=>⟨h.1.symm,h.2.symm⟩⟩
theorem rq (m : Msh) (p : Pnt) : ∀ i,(de (iT m i) (kE m i) (.agg (ptD p))).getD (.bool false)=.bool ((List.range i).any fun k=>aX (spt m k) && decide (fH m k=p))
 | 0=>rfl
 | i + 1=>by
  rw [iT,kE,x1e,List.any_append]
  by_cases h : aX (spt m i)=true
  ·rw [if_pos h,if_pos h,de,BB]
   by_cases h2 : fH m i=p
   ·simp [h,h2]
   ·simp [h2,rq m p i]
  ·rw [if_neg h,if_neg h,rq m p i]
   simp [h]
def ew (m : Msh) (i : Nat) : List Bool:=(List.range m.s.length).map fun j=>decide (j < i) && cP m j
theorem jq (m : Msh) (i : Nat) : (ew m i).length=m.s.length:=by simp [ew]
theorem tq (m : Msh) : ew m 0=List.replicate m.s.length false:=by
 refine x1m (by simp [ew]) fun k h1 h2=>?_
 simp [ew]
theorem uZ (m : Msh) {i : Nat} (h : i < m.s.length) : (ew m i).set i (cP m i)=ew m (i + 1):=by
 refine x1m (by simp [ew]) fun k h1 h2=>?_
 rw [List.getElem_set]
 simp only [ew,x1u,List.getElem_range]
 by_cases e : i=k
 ·subst e;simp
 ·rw [if_neg e]
  by_cases e2 : k < i
  ·simp [e2,show k < i + 1 by omega]
  ·simp [e2,show ¬ k < i + 1 by omega]
theorem uX (m : Msh) {k : Nat} (h : k < m.s.length) : (ew m m.s.length)[k]'(by rw [jq];exact h)=cP m k:=by simp [ew,h]
variable {C : CC} (hC : ay prog C)
include hC
theorem vg {b : Bool} {xs : List Tri} {g : Nat} {cs : List D} (p : Tri -> Bool) (hs : xs.length < 2 ^ 62) (hp : ∀ x ∈ xs,C g (.agg (cc x)::cs) (.bool (p x)) []) : C 328 [slx b (xs.map cc),.fn g cs] (.int .i64 (dS p xs)) []:=by
 refine aw hC (nf:=N328) rfl rfl ?_
 simp [N328]
 refine av Nat (fun i=>[(0,slx b (xs.map cc)),(1,.fn g cs),(7,.int .i64 xs.length),(8,.int .i64 i)]) (fun i=>i <= xs.length /\ ∀ (j : Nat) (h : j < xs.length),j < i -> p xs[j]=false) (fun i=>xs.length - i) 0 (by simp) (by simp) ?_
 rintro i ⟨hi,hj⟩
 simp
 refine aj (fun h=>?_) (fun h=>?_) <;> simp [h] <;> simp at h
 ·have hw : IntKind.wrap .i64 ((i : Int) + 1)=((i + 1 : Nat) : Int):=af (by omega) (by omega)
  have hc:=hp _ (x0u h)
  simp [h,x1u,cc] at hc ⊢
  refine aa hc (.inl rfl) ?_
  simp
  refine aj (fun h1=>?_) (fun h1=>?_) <;> simp [h1,hw]
  ·rw [dD hj h h1]
  ·refine ⟨i + 1,⟨by omega,fun j hl hjj=>?_⟩,by omega,by simp [cc]⟩
   rcases x0C.1 hjj with h2 | rfl
   ·exact hj j hl h2
   ·exact h1
 ·rw [dC (fun j hl=>hj j hl (by omega))]
theorem cR {b : Bool} {xs : List Tri} {g : Nat} {cs : List D} (p : Tri -> Bool) (hs : xs.length < 2 ^ 62) (hp : ∀ x ∈ xs,C g (.agg (cc x)::cs) (.bool (p x)) []) : C 309 [slx b (xs.map cc),.fn g cs] (.bool (xs.any p)) []:=by
 refine aw hC (nf:=N309) rfl rfl ?_
 simp [N309]
 refine aa (vg hC p hs hp) (.inl rfl) ?_
 simp [jw]
theorem Bt (m : Msh) (k : Int) (hn : m.s.length < 2 ^ 40) : C 306 [.int .i64 k,.ptr (aW m),.ptr [.sl ((ew m m.s.length).map fun b=>[.bool b])]] (.bool (!(dT m.s.length k && aX (spt m k.toNat)))) []:=by
 have E : dT m.s.length k=(decide (0 <= k) && decide (k < m.s.length)):=rfl
 refine aw hC (nf:=N306) rfl rfl ?_
 simp [N306,aW]
 refine aj (fun c1=>?_) (fun c1=>?_) <;> simp at c1
 ·simp [c1]
  rw [E,decide_eq_false (by omega)];simp
 ·simp [x0S.2 c1]
  refine aj (fun c2=>?_) (fun c2=>?_) <;> simp at c2
  ·simp [c2]
   rw [E,decide_eq_false (show ¬ k < m.s.length by omega)];simp
  ·have c3 : k.toNat < m.s.length:=by omega
   have c4:=uX m c3
   simp [x0X.2 c2,c1,c3,jq]
   rw [c4,E,decide_eq_true c1,decide_eq_true c2]
   simp [cP]
theorem en {t o : Tri} (ht : okT t=true) (ho : okT o=true) : C 310 [.agg (cc o),.ptr (cc t)] (.bool (ovT t o)) []:=by
 have k1:=AW hC ht ho
 have k2:=AW hC ho ht
 refine aw hC (nf:=N310) rfl rfl ?_
 rw [cc,cc] at k1 k2 ⊢
 simp [N310]
 refine aa k1 (.inl rfl) ?_
 simp
 cases h1 : qn t o <;> simp [ovT,h1]
 refine aa k2 (.inl rfl) ?_
 simp
 exact fun _=>h1
end Go.Gv

namespace Go.Gv
def nmR (l : List Nat) : List (List D):=l.map fun (k : Nat)=>[D.int .i64 k]
theorem eA (l : List Nat) : nmR l=l.map fun (k : Nat)=>[D.int .i64 k]:=zR
theorem iA {p : Nat -> Bool} {n : Nat} (h : p n=true) : nmR (fil p n)++[[D.int .i64 n]]=nmR (fil p (n + 1)):=by
 rw [cv h];simp [nmR]
theorem eB {p : Nat -> Bool} {n : Nat} (h : p n=false) : nmR (fil p n)=nmR (fil p (n + 1)):=by rw [j9 h]
@[simp] theorem Qm (l : List Nat) : (nmR l).length=l.length:=by simp [nmR]
@[simp] theorem CK (l : List Nat) : (∀ e ∈ nmR l,∀ c ∈ e,aK c=true)=True:=by simp [nmR]
@[simp] theorem K2 (l : List Nat) : List.take l.length (nmR l)=nmR l:=x0q (by simp)
@[simp] theorem Ql (l : List Nat) (x : List D) : (∀ e,e ∈ nmR l \/ e=x -> ∀ c,c ∈ e -> aK c=true)=∀ c,c ∈ x -> aK c=true:=by
 apply propext
 constructor
 ·exact fun h=>h x (.inr rfl)
 ·rintro h e (he | rfl)
  ·exact (CK l).mpr trivial e he
  ·exact h
@[simp] theorem Qn : nmR []=[]:=rfl
def boR (l : List Bool) : List (List D):=l.map fun b=>[D.bool b]
theorem oh (l : List Bool) : boR l=l.map fun b=>[D.bool b]:=zR
@[simp] theorem Mi (l : List Bool) : (boR l).length=l.length:=by simp [boR]
@[simp] theorem Mh (l : List Bool) (i : Nat) (h : i < (boR l).length) : (boR l)[i]=[D.bool (l[i]'(by simpa using h))]:=by simp [boR]
@[simp] theorem Mk (l : List Bool) (i : Nat) (b : Bool) : (boR l).set i [D.bool b]=boR (l.set i b):=by simp [boR,List.map_set]
theorem tp (m : Msh) {i : Nat} (h : i < m.s.length) : (ew m i).set i (!aX (spt m i))=ew m (i + 1):=uZ m h
theorem xM (m : Msh) {i : Nat} (h : i < m.s.length) (h' : i < (ew m (i + 1)).length) : (ew m (i + 1))[i]=!aX (spt m i):=by simp [ew,cP]
theorem uY (m : Msh) : List.replicate m.s.length [D.bool false]=boR (ew m 0):=by rw [tq];simp [boR]
def Ad (m : Msh) (i : Nat) : Env:=[(1,.ptr (aW m)),(4,.adr (.r 10064) 0 0),(10064,.blk 7 [[.own 1 [],.own 1 (nmR (fil (cP m) i)),.own 1 (nmR (fil (bM m) i)),.own 1 [],.own 1 [],.own 1 [],.own 1 []]]),(5,.adr (.r 10080) 0 0),(10080,.blk 1 [[.own 1 (boR (ew m i))]]),(6,.mrf 10464),(10464,.mp 4 1 (iT m i) (kE m i)),(31,slx m.sn (m.s.map eN)),(32,.int .i64 m.s.length),(33,.int .i64 i)]
theorem gG (m : Msh) (i : Nat) : Ad m i=[(1,.ptr (aW m)),(4,.adr (.r 10064) 0 0),(10064,.blk 7 [[.own 1 [],.own 1 (nmR (fil (cP m) i)),.own 1 (nmR (fil (bM m) i)),.own 1 [],.own 1 [],.own 1 [],.own 1 []]]),(5,.adr (.r 10080) 0 0),(10080,.blk 1 [[.own 1 (boR (ew m i))]]),(6,.mrf 10464),(10464,.mp 4 1 (iT m i) (kE m i)),(31,slx m.sn (m.s.map eN)),(32,.int .i64 m.s.length),(33,.int .i64 i)]:=zR
def trR (m : Msh) (l : List Nat) : List (List D):=l.map fun k=>cc (aR m (fce m k))
theorem eE (m : Msh) (l : List Nat) : trR m l=(l.map fun k=>aR m (fce m k)).map cc:=by simp [trR]
@[simp] theorem QX (m : Msh) (l : List Nat) : (trR m l).length=l.length:=by simp [trR]
@[simp] theorem LZ (m : Msh) (l : List Nat) : List.take l.length (trR m l)=trR m l:=x0q (by simp)
@[simp] theorem Su (m : Msh) (l : List Nat) : List.map (fun e=>List.map bq e) (trR m l)=trR m l:=by simp [trR,cc]
@[simp] theorem QY (m : Msh) : trR m []=[]:=rfl
theorem dt {m : Msh} {i : Nat} (h : aF m i=true) : trR m (fil (aF m) i)++[cc (aR m (fce m i))]=trR m (fil (aF m) (i + 1)):=by rw [cv h];simp [trR]
def sdK (f : Fce) : Nat -> List D
 | 0=>[]
 | j + 1=>.agg [.int .i64 (crn f j),.int .i64 (crn f (j + 1))]::sdK f j
theorem jP (f : Fce) : ∀ j,(sdK f j).length=j
 | 0=>rfl
 | j + 1=>by simp [sdK,jP f j]
def bW (m : Msh) : Nat -> List D
 | 0=>[]
 | i + 1=>if aF m i then sdK (fce m i) 3++bW m i else bW m i
def b8 (m : Msh) : Nat -> List D
 | 0=>[]
 | i + 1=>if aF m i then List.replicate 3 (.bool true)++b8 m i else b8 m i
theorem cE (m : Msh) : ∀ i,(bW m i).length <= 3 * i
 | 0=>by simp [bW]
 | i + 1=>by
  have:=cE m i
  rw [bW]
  split <;> simp [jP] <;> omega
def gT (m : Msh) (i j : Nat) : Bool:=(List.range i).any fun k=>aF m k && (List.range 3).any fun j'=>mtc (fce m i) (fce m k) j j'
theorem Ai (a b c d : Int) : eqD (.agg [.int .i64 a,.int .i64 b]) (.agg [.int .i64 c,.int .i64 d])=(decide (a=c) && decide (b=d)):=by
 simp [eqD,oq,oo]
theorem rP (m : Msh) (a b : Int) : ∀ i,(de (bW m i) (b8 m i) (.agg [.int .i64 a,.int .i64 b])).getD (.bool false)=.bool ((List.range i).any fun k=>aF m k && (List.range 3).any fun j=>decide (a=crn (fce m k) j) && decide (b=crn (fce m k) (j + 1)))
 | 0=>rfl
 | i + 1=>by
  rw [bW,b8,x1e,List.any_append]
  have h3 : List.range 3=[0,1,2]:=rfl
  by_cases h : aF m i=true
  ·rw [if_pos h,if_pos h]
   simp only [sdK,List.replicate,x08,x1d,de,Ai]
   have ih:=rP m a b i
   by_cases c0 : (decide (a=crn (fce m i) 2) && decide (b=crn (fce m i) (2 + 1)))=true
   ·rw [if_pos c0]
    simp only [x1A,x1o,h,h3,c0]
    simp
   ·rw [if_neg c0]
    by_cases c1 : (decide (a=crn (fce m i) 1) && decide (b=crn (fce m i) (1 + 1)))=true
    ·rw [if_pos c1]
     simp only [x1A,x1o,h,h3,c1]
     simp
    ·rw [if_neg c1]
     by_cases c2 : (decide (a=crn (fce m i) 0) && decide (b=crn (fce m i) (0 + 1)))=true
     ·rw [if_pos c2]
      simp only [x1A,x1o,h,h3,c2]
      simp
     ·rw [if_neg c2,ih]
      rw [Bool.not_eq_true] at c0 c1 c2
      simp only [x1A,x1o,h,h3,c0,c1,c2]
      simp
  ·rw [if_neg h,if_neg h,rP m a b i]
   simp [h]
theorem xd {α : Type} (A p q r : α -> Bool) (l : List α) : (l.any fun k=>A k && (p k || (q k || r k)))=((l.any fun k=>A k && p k) || ((l.any fun k=>A k && q k) || (l.any fun k=>A k && r k))):=by
 induction l with
 | nil=>rfl
 | cons x l ih =>
  simp only [x1A,ih]
  cases A x <;> cases p x <;> cases q x <;> cases r x <;> simp
theorem wk {m : Msh} {i : Nat} (h : aF m i=true) : bL m i=(gT m i 0 || (gT m i 1 || gT m i 2)):=by
 unfold bL gl gT
 rw [h,x1J,<- xd]
 have h3 : List.range 3=[0,1,2]:=rfl
 simp only [h3,x1A,x1o,Bool.or_false]
theorem qG {m : Msh} {f : Fce} (h : inS m f=true) (j : Nat) : 0 <= crn f j /\ crn f j < m.s.length:=by
 have:=gf h
 unfold crn
 split <;> omega
def pu (m : Msh) (i k : Nat) : Env:=[(1,.ptr (aW m)),(4,.adr (.r 10064) 0 0),(10064,.blk 7 [[.own 1 [],.own 1 (nmR (fil (cP m) m.s.length)),.own 1 (nmR (fil (bM m) m.s.length)),.own 1 (nmR (fil (dh m) i)),.own 1 (nmR (fil (cd m) i)),.own 1 (nmR (fil (bL m) (i + 1))),.own 1 (nmR (fil (aT m) i))]]),(5,.adr (.r 10080) 0 0),(10080,.blk 1 [[.own 1 (boR (ew m m.s.length))]]),(10,.mrf 11104),(11104,.mp 3 1 (sdK (fce m i) k++bW m i) (List.replicate k (.bool true)++b8 m i)),(11,.ref (.r 10176) 0 (fil (aF m) i).length),(10176,.blk 6 (trR m (fil (aF m) i))),(12,.int .i64 i),(13,.adr (.r 10208) 0 0),(10208,.blk 4 [br (fce m i)]),(15,.adr (.r 10240) 0 0),(10240,.blk 6 [cc (aR m (fce m i))]),(71,slx m.fn (m.f.map br)),(72,.int .i64 m.f.length),(73,.int .i64 i),(159,.int .i64 k)]
theorem fL (m : Msh) (i k : Nat) : pu m i k=[(1,.ptr (aW m)),(4,.adr (.r 10064) 0 0),(10064,.blk 7 [[.own 1 [],.own 1 (nmR (fil (cP m) m.s.length)),.own 1 (nmR (fil (bM m) m.s.length)),.own 1 (nmR (fil (dh m) i)),.own 1 (nmR (fil (cd m) i)),.own 1 (nmR (fil (bL m) (i + 1))),.own 1 (nmR (fil (aT m) i))]]),(5,.adr (.r 10080) 0 0),(10080,.blk 1 [[.own 1 (boR (ew m m.s.length))]]),(10,.mrf 11104),(11104,.mp 3 1 (sdK (fce m i) k++bW m i) (List.replicate k (.bool true)++b8 m i)),(11,.ref (.r 10176) 0 (fil (aF m) i).length),(10176,.blk 6 (trR m (fil (aF m) i))),(12,.int .i64 i),(13,.adr (.r 10208) 0 0),(10208,.blk 4 [br (fce m i)]),(15,.adr (.r 10240) 0 0),(10240,.blk 6 [cc (aR m (fce m i))]),(71,slx m.fn (m.f.map br)),(72,.int .i64 m.f.length),(73,.int .i64 i),(159,.int .i64 k)]:=zR
def fnR (l : List (Int × List UInt8)) : List (List D):=l.map fnD
@[simp] theorem M5 (l : List (Int × List UInt8)) : (fnR l).length=l.length:=by simp [fnR]
@[simp] theorem fP (l : List (Int × List UInt8)) : List.take l.length (fnR l)=fnR l:=x0q (by simp)
@[simp] theorem RG (l : List (Int × List UInt8)) : List.map (fun e=>List.map bq e) (fnR l)=fnR l:=by simp [fnR,fnD]
theorem gd (l : List (Int × List UInt8)) (k : Int) (s : List UInt8) : fnR l++[[.int .i64 k,.str s]]=fnR (l++[(k,s)]):=by simp [fnR,fnD]
@[simp] theorem M6 : fnR []=[]:=rfl
def GY (L1 L2 L3 L4 L5 L6 : List Nat) : D:=.agx [.ref (.n 10064 0 0) 0 0,.ref (.n 10064 0 1) 0 L1.length,.ref (.n 10064 0 2) 0 L2.length,.ref (.n 10064 0 3) 0 L3.length,.ref (.n 10064 0 4) 0 L4.length,.ref (.n 10064 0 5) 0 L5.length,.ref (.n 10064 0 6) 0 L6.length]
theorem aP (L1 L2 L3 L4 L5 L6 : List Nat) : GY L1 L2 L3 L4 L5 L6=.agx [.ref (.n 10064 0 0) 0 0,.ref (.n 10064 0 1) 0 L1.length,.ref (.n 10064 0 2) 0 L2.length,.ref (.n 10064 0 3) 0 L3.length,.ref (.n 10064 0 4) 0 L4.length,.ref (.n 10064 0 5) 0 L5.length,.ref (.n 10064 0 6) 0 L6.length]:=zR
def G8 (L1 L2 L3 L4 L5 L6 : List Nat) : D:=.blk 7 [[.own 1 [],.own 1 (nmR L1),.own 1 (nmR L2),.own 1 (nmR L3),.own 1 (nmR L4),.own 1 (nmR L5),.own 1 (nmR L6)]]
theorem a7 (L1 L2 L3 L4 L5 L6 : List Nat) : G8 L1 L2 L3 L4 L5 L6=.blk 7 [[.own 1 [],.own 1 (nmR L1),.own 1 (nmR L2),.own 1 (nmR L3),.own 1 (nmR L4),.own 1 (nmR L5),.own 1 (nmR L6)]]:=zR
theorem cp (dec : Nat -> List UInt8) : ∀ (a b : List (List Nat)) (k : Nat),co dec k (a++b)=co dec k a++co dec (k + a.length) b
 | [],b,k=>by simp [co]
 | x::a,b,k=>by
  have:=cp dec a b (k + 1)
  simp only [x08,co,this,x01,x0N]
  rw [show k + 1 + a.length=k + (a.length + 1) by omega]
def tkD (dec : Nat -> List UInt8) (k : Int) (L : List Nat) (j : Nat) : List (Int × List UInt8):=(L.take j).map fun i=>(k,dec i)
theorem fd (dec : Nat -> List UInt8) (k : Int) (L : List Nat) : tkD dec k L 0=[]:=by simp [tkD]
theorem fY (dec : Nat -> List UInt8) (k : Int) (L : List Nat) {j : Nat} (h : j < L.length) : tkD dec k L (j + 1)=tkD dec k L j++[(k,dec L[j])]:=by
 unfold tkD
 rw [List.take_add_one,x0d h,List.map_append]
 rfl
theorem iO (dec : Nat -> List UInt8) (k : Int) (L : List Nat) {j : Nat} (h : j <= L.length) : (tkD dec k L j).length=j:=by simp [tkD];omega
theorem iM (dec : Nat -> List UInt8) (k : Int) (L : List Nat) : tkD dec k L L.length=L.map fun i=>(k,dec i):=by simp [tkD]
def Ae (m : Msh) (i : Nat) : Env:=[(1,.ptr (aW m)),(4,.adr (.r 10064) 0 0),(10064,.blk 7 [[.own 1 [],.own 1 (nmR (fil (cP m) m.s.length)),.own 1 (nmR (fil (bM m) m.s.length)),.own 1 (nmR (fil (dh m) i)),.own 1 (nmR (fil (cd m) i)),.own 1 (nmR (fil (bL m) i)),.own 1 (nmR (fil (aT m) i))]]),(5,.adr (.r 10080) 0 0),(10080,.blk 1 [[.own 1 (boR (ew m m.s.length))]]),(10,.mrf 11104),(11104,.mp 3 1 (bW m i) (b8 m i)),(11,.ref (.r 10176) 0 (fil (aF m) i).length),(10176,.blk 6 (trR m (fil (aF m) i))),(71,slx m.fn (m.f.map br)),(72,.int .i64 m.f.length),(73,.int .i64 i)]
theorem cW (m : Msh) (i : Nat) : Ae m i=[(1,.ptr (aW m)),(4,.adr (.r 10064) 0 0),(10064,.blk 7 [[.own 1 [],.own 1 (nmR (fil (cP m) m.s.length)),.own 1 (nmR (fil (bM m) m.s.length)),.own 1 (nmR (fil (dh m) i)),.own 1 (nmR (fil (cd m) i)),.own 1 (nmR (fil (bL m) i)),.own 1 (nmR (fil (aT m) i))]]),(5,.adr (.r 10080) 0 0),(10080,.blk 1 [[.own 1 (boR (ew m m.s.length))]]),(10,.mrf 11104),(11104,.mp 3 1 (bW m i) (b8 m i)),(11,.ref (.r 10176) 0 (fil (aF m) i).length),(10176,.blk 6 (trR m (fil (aF m) i))),(71,slx m.fn (m.f.map br)),(72,.int .i64 m.f.length),(73,.int .i64 i)]:=zR
variable {C : CC} (hC : ay prog C)
include hC
set_option maxHeartbeats 4000000 in
theorem w9 (dec : Nat -> List UInt8) (hI : ∀ n : Nat,n < 100 -> C 127 [.int .i64 n] (.str (dec n)) []) (m : Msh) (hs : m.s.length <= 100) (hf : m.f.length <= 100) : C 273 [.agg (aW m)] (.tup [.sl ((co dec 0 (LL m)).map fnD),.int .i64 0]) []:=by
 have ksm:=pW hC m
 rw [decide_eq_true (show m.s.length <= 2000 by omega),decide_eq_true (show m.f.length <= 4000 by omega)] at ksm
 have kr:=fun s=>vt hC s
 have kp:=fun i h=>jB hC m i h
 refine aw hC (nf:=N273) rfl rfl ?_
 simp only [ab] at ksm
 simp [N273,ab]
 refine aa ksm (.inl rfl) ?_
 simp
 refine ⟨by omega,?_⟩
 refine av Nat (fun i=>Ad m i) (fun i=>i <= m.s.length) (fun i=>m.s.length - i) 0 (by simp) (by simp [gG,ab,js,iT,kE,uY]) ?_
 rintro i hi
 simp [gG,ab]
 refine aj (fun g1=>?_) (fun g1=>?_) <;> simp at g1 <;> simp [g1]
 ·have hw : IntKind.wrap .i64 ((i : Int) + 1)=((i + 1 : Nat) : Int):=af (by omega) (by omega)
  have kri:=kr (spt m i)
  simp only [bZ] at kri
  simp [bZ]
  refine aa kri (.inl rfl) ?_
  simp [jq,g1]
  refine ⟨ai (by decide +kernel),?_⟩
  rw [tp m g1]
  rw [oh]
  simp [jq,g1,xM]
  have kpi:=kp i g1
  simp only [ab] at kpi
  have hr:=oP (s:=spt m i)
  cases hr1 : aX (spt m i)
  ·have e1:=iA (p:=cP m) (n:=i) (by simp [cP,hr1])
   have e2:=eB (p:=bM m) (n:=i) (by simp [bM,hr1])
   have e3 : iT m (i + 1)=iT m i:=by simp [iT,hr1]
   have e4 : kE m (i + 1)=kE m i:=by simp [kE,hr1]
   simp [hw]
   refine ⟨by have:=aO (cP m) i;omega,i + 1,by omega,by omega,?_⟩
   simp [gG,ab,e1,<- e2,e3,e4,<- oh]
  ·have hp:=fF (hr hr1)
   have e2:=eB (p:=cP m) (n:=i) (by simp [cP,hr1])
   have e3 : iT m (i + 1)=.agg (ptD (fH m i))::iT m i:=by simp [iT,hr1]
   have e4 : kE m (i + 1)=.bool true::kE m i:=by simp [kE,hr1]
   have kg:=rq m (fH m i) i
   have kl:=p8 m i
   have hml : maxLen=9223372036854775807:=rfl
   simp [ab]
   refine aa kpi (.inl rfl) ?_
   simp [ptD,ptS,fH] at kg hp
   simp [ptD,ptS,kg]
   refine ⟨⟨by omega,by omega⟩,?_⟩
   have hsame : ((List.range i).any fun k=>aX (spt m k) && (decide ((spt m k).x=(spt m i).x) && decide ((spt m k).y=(spt m i).y)))=bM m i:=by
    simp [bM,hr1,fH,ptS]
   rw [hsame]
   cases hs1 : bM m i
   ·have e1:=eB (p:=bM m) (n:=i) hs1
    simp [hw]
    refine ⟨by omega,⟨by omega,by omega⟩,i + 1,by omega,by omega,?_⟩
    simp [gG,ab,<- e1,<- e2,e3,e4,<- oh,ptD,fH,ptS]
   ·have e1:=iA (p:=bM m) (n:=i) hs1
    simp [hw]
    refine ⟨by have:=aO (bM m) i;omega,by omega,⟨by omega,by omega⟩,i + 1,by omega,by omega,?_⟩
    simp [gG,ab,e1,<- e2,e3,e4,<- oh,ptD,fH,ptS]
 ·have hi2 : i=m.s.length:=by omega
  subst hi2
  refine av Nat (fun i=>Ae m i) (fun i=>i <= m.f.length) (fun i=>m.f.length - i) 0 (by simp) (by simp [cW,ab,js,bW,b8]) ?_
  clear hi g1 kr kp ksm
  rintro i hi
  simp [cW,ab]
  refine aj (fun g1=>?_) (fun g1=>?_) <;> simp at g1 <;> simp [g1]
  ·have hw : IntKind.wrap .i64 ((i : Int) + 1)=((i + 1 : Nat) : Int):=af (by omega) (by omega)
   have kc:=mA hC (fce m i)
   have k1:=mh hC (b:=false) (xs:=[(fce m i).a,(fce m i).b,(fce m i).c]) (g:=306) (cs:=[.ptr (aW m),.ptr [.sl (boR (ew m m.s.length))]]) (fun k=>!(dT m.s.length k && aX (spt m k.toNat))) (by simp) (fun x _=>Bt hC m x (by omega))
   simp only [ab,aI] at kc k1
   simp at k1
   simp [aI]
   refine aa kc (.inl rfl) ?_
   simp [bT]
   obtain ⟨v,hv⟩ : ∃ v,v=(!dT m.s.length (fce m i).a || !aX (spt m (fce m i).a.toNat) || (!dT m.s.length (fce m i).b || !aX (spt m (fce m i).b.toNat) || (!dT m.s.length (fce m i).c || !aX (spt m (fce m i).c.toNat)))):=⟨_,rfl⟩
   rw [<- hv] at k1
   refine aa k1 (.inl rfl) ?_
   have E : dh m i=!(okF m (fce m i)):=rfl
   have E2 : okF m (fce m i)=(okc m (fce m i).a (fce m i).b && okc m (fce m i).b (fce m i).c && okc m (fce m i).c (fce m i).a && decide (0 <= (fce m i).k) && decide ((fce m i).k < 16)):=rfl
   have E3 : ∀ a b : Int,okc m a b=(dT m.s.length a && decide (a ≠ b) && aX (spt m a.toNat)):=fun a b=>rfl
   have bad : dh m i=true -> nmR (fil (dh m) i)++[[D.int .i64 i]]=nmR (fil (dh m) (i + 1)) /\ nmR (fil (cd m) i)=nmR (fil (cd m) (i + 1)) /\ nmR (fil (bL m) i)=nmR (fil (bL m) (i + 1)) /\ nmR (fil (aT m) i)=nmR (fil (aT m) (i + 1)) /\ fil (aF m) (i + 1)=fil (aF m) i /\ bW m (i + 1)=bW m i /\ b8 m (i + 1)=b8 m i:=fun h=>by
    have h0 : okF m (fce m i)=false:=by rw [E] at h;simpa using h
    have h1 : aF m i=false:=by simp [aF,h0]
    exact ⟨iA h,eB (by simp [cd,h0]),eB (by simp [bL,h1]),eB (by simp [aT,h1]),j9 h1,by simp [bW,h1],by simp [b8,h1]⟩
   cases v
   rotate_left
   ·obtain ⟨e1,e2,e3,e4,e5,e6,e7⟩:=bad (by
     rw [E,E2,E3,E3,E3]
     revert hv
     cases dT m.s.length (fce m i).a <;> cases aX (spt m (fce m i).a.toNat) <;> cases dT m.s.length (fce m i).b <;> cases aX (spt m (fce m i).b.toNat) <;> cases dT m.s.length (fce m i).c <;> cases aX (spt m (fce m i).c.toNat) <;> simp)
    simp [hw]
    refine ⟨by have:=aO (dh m) i;omega,i + 1,by omega,by omega,?_⟩
    simp [cW,ab,e1,<- e2,<- e3,<- e4,e5,e6,e7]
   by_cases c1 : (fce m i).a=(fce m i).b
   ·obtain ⟨e1,e2,e3,e4,e5,e6,e7⟩:=bad (by
     rw [E,E2,E3,E3,E3]
     rw [decide_eq_false (show ¬ (fce m i).a ≠ (fce m i).b by omega)];simp)
    simp [c1,hw]
    refine ⟨by have:=aO (dh m) i;omega,i + 1,by omega,by omega,?_⟩
    simp [cW,ab,e1,<- e2,<- e3,<- e4,e5,e6,e7]
   by_cases c2 : (fce m i).b=(fce m i).c
   ·obtain ⟨e1,e2,e3,e4,e5,e6,e7⟩:=bad (by
     rw [E,E2,E3,E3,E3]
     rw [decide_eq_false (show ¬ (fce m i).b ≠ (fce m i).c by omega)];simp)
    simp [(show ¬ (fce m i).a=(fce m i).c by rw [<- c2];exact c1),c2,hw]
    refine ⟨by have:=aO (dh m) i;omega,i + 1,by omega,by omega,?_⟩
    simp [cW,ab,e1,<- e2,<- e3,<- e4,e5,e6,e7]
   by_cases c3 : (fce m i).c=(fce m i).a
   ·obtain ⟨e1,e2,e3,e4,e5,e6,e7⟩:=bad (by
     rw [E,E2,E3,E3,E3]
     rw [decide_eq_false (show ¬ (fce m i).c ≠ (fce m i).a by omega)];simp)
    simp [c1,c2,hw]
    refine aj (fun _=>?_) (fun h=>by simp [c3] at h)
    simp [hw]
    refine ⟨by have:=aO (dh m) i;omega,i + 1,by omega,by omega,?_⟩
    simp [cW,ab,e1,<- e2,<- e3,<- e4,e5,e6,e7]
   have c3' : ¬ (fce m i).a=(fce m i).c:=fun h=>c3 h.symm
   by_cases c4 : (fce m i).k < 0
   ·obtain ⟨e1,e2,e3,e4,e5,e6,e7⟩:=bad (by
     rw [E,E2,E3,E3,E3]
     rw [decide_eq_false (show ¬ 0 <= (fce m i).k by omega)];simp)
    simp [c1,c2,c3,c3',c4,hw]
    refine ⟨by have:=aO (dh m) i;omega,i + 1,by omega,by omega,?_⟩
    simp [cW,ab,e1,<- e2,<- e3,<- e4,e5,e6,e7]
   by_cases c5 : 16 <= (fce m i).k
   ·obtain ⟨e1,e2,e3,e4,e5,e6,e7⟩:=bad (by
     rw [E,E2,E3,E3,E3]
     rw [decide_eq_false (show ¬ (fce m i).k < 16 by omega)];simp)
    simp [c1,c2,c3,c3',c4,c5,hw]
    refine ⟨by have:=aO (dh m) i;omega,i + 1,by omega,by omega,?_⟩
    simp [cW,ab,e1,<- e2,<- e3,<- e4,e5,e6,e7]
   have ok : okF m (fce m i)=true:=by
    rw [E2,E3,E3,E3]
    simp only [x0a,x0g]
    have h:=hv.symm
    simp only [Bool.or_eq_false_iff,Bool.not_eq_false'] at h
    exact ⟨⟨⟨⟨⟨⟨h.1.1,c1⟩,h.1.2⟩,⟨h.2.1.1,c2⟩,h.2.1.2⟩,⟨h.2.2.1,c3⟩,h.2.2.2⟩,by omega⟩,by omega⟩
   have nbad : dh m i=false:=by rw [E,ok];rfl
   have b1:=eB nbad
   have hT:=cB ok
   have kt:=vw hC m (fce m i) (iC ok)
   have kn : C 308 [.agg (ptD (aR m (fce m i)).1),.agg (ptD (aR m (fce m i)).2.1),.agg (ptD (aR m (fce m i)).2.2)] (.int .i64 (iY (aR m (fce m i)))) []:=by
    have h:=hT
    simp only [okT,x0a] at h
    exact oI hC h.1.1 h.1.2 h.2
   have ks:=fun k h=>oH hC (fce m i) k h
   have ks0:=ks 0 (by omega)
   have ks1:=ks 1 (by omega)
   have ks2:=ks 2 (by omega)
   have kg:=fun j=>rP m (crn (fce m i) j) (crn (fce m i) (j + 1)) i
   have kg : ∀ j,(de (bW m i) (b8 m i) (.agg [.int .i64 (crn (fce m i) j),.int .i64 (crn (fce m i) (j + 1))])).getD (.bool false)=.bool (gT m i j):=kg
   have kg0:=kg 0
   have kg1:=kg 1
   have kg2:=kg 2
   simp [c1,c2,c3,c3',c4,c5]
   simp only [ab,aI] at kt
   refine aa kt (.inl rfl) ?_
   simp [cc]
   simp only [ptD] at kn
   refine aa kn (.inl rfl) ?_
   simp
   refine aj (fun d1=>?_) (fun d1=>?_) <;> simp at d1
   ·have hfl : cd m i=true:=by simp [cd,ok,d1]
    have hsn : aF m i=false:=by simp [aF,ok];omega
    have e1:=iA hfl
    have e2:=eB (p:=bL m) (n:=i) (by simp [bL,hsn])
    have e3:=eB (p:=aT m) (n:=i) (by simp [aT,hsn])
    have e5:=j9 hsn
    have e6 : bW m (i + 1)=bW m i:=by simp [bW,hsn]
    have e7 : b8 m (i + 1)=b8 m i:=by simp [b8,hsn]
    simp [d1,hw]
    refine ⟨by have:=aO (cd m) i;omega,i + 1,by omega,by omega,?_⟩
    simp [cW,ab,e1,<- e2,<- e3,<- b1,e5,e6,e7]
   ·have hfl : cd m i=false:=by simp [cd,ok];omega
    have hsn : aF m i=true:=by simp [aF,ok,d1]
    have b2:=eB hfl
    have hsd:=wk hsn
    simp only [aI] at ks ks0 ks1 ks2
    simp at ks0 ks1 ks2 kg0 kg1 kg2
    simp [x0X.2 d1]
    refine aa ks0 (.inl rfl) ?_
    simp [kg0]
    have cb:=fun j=>qG (iC ok) j
    have cb0:=cb 0
    have cb1:=cb 1
    have cb2:=cb 2
    have cb3:=cb 3
    refine ⟨⟨by omega,by omega⟩,?_⟩
    have yes : bL m i=true -> nmR (fil (bL m) i)++[[D.int .i64 i]]=nmR (fil (bL m) (i + 1)):=iA
    have nos : bL m i=false -> nmR (fil (bL m) i)=nmR (fil (bL m) (i + 1)):=eB
    have lsd:=aO (bL m) i
    have kT:=cR hC (b:=false) (xs:=(fil (aF m) i).map fun k=>aR m (fce m k)) (g:=310) (cs:=[.ptr (cc (aR m (fce m i)))]) (fun o=>ovT (aR m (fce m i)) o) (by have:=aO (aF m) i;simp;omega) (fun x hx=>by
     obtain ⟨k,hk,rfl⟩:=x0s.1 hx
     have hk:=(dK hk).2
     simp only [aF,x0a] at hk
     exact en hC hT (cB hk.1))
    rw [<- eE,x1v] at kT
    have hov : (fil (aF m) i).any ((fun o=>ovT (aR m (fce m i)) o) ∘ fun k=>aR m (fce m k))=aT m i:=by
     rw [fil,x0Y,aT,hsn]
     rfl
    rw [hov] at kT
    rw [ce] at kT
    have tl:=cE m i
    have hml : maxLen=9223372036854775807:=rfl
    have e5:=dt hsn
    have e6 : bW m (i + 1)=sdK (fce m i) 3++bW m i:=by simp [bW,hsn]
    have e7 : b8 m (i + 1)=.bool true::.bool true::.bool true::b8 m i:=by
     rw [b8,if_pos hsn];rfl
    have e8 : (fil (aF m) (i + 1)).length=(fil (aF m) i).length + 1:=by rw [cv hsn];simp
    have l8:=aO (aF m) i
    have lov:=aO (aT m) i
    have kT:=cR hC (b:=false) (xs:=(fil (aF m) i).map fun k=>aR m (fce m k)) (g:=310) (cs:=[.ptr (cc (aR m (fce m i)))]) (fun o=>ovT (aR m (fce m i)) o) (by have:=aO (aF m) i;simp;omega) (fun x hx=>by
     obtain ⟨k,hk,rfl⟩:=x0s.1 hx
     have hk:=(dK hk).2
     simp only [aF,x0a] at hk
     exact en hC hT (cB hk.1))
    rw [<- eE,x1v] at kT
    have hov : (fil (aF m) i).any ((fun o=>ovT (aR m (fce m i)) o) ∘ fun k=>aR m (fce m k))=aT m i:=by
     rw [fil,x0Y,aT,hsn]
     rfl
    rw [hov] at kT
    rw [ce] at kT
    have tl:=cE m i
    have hml : maxLen=9223372036854775807:=rfl
    have e5:=dt hsn
    have e6 : bW m (i + 1)=sdK (fce m i) 3++bW m i:=by simp [bW,hsn]
    have e7 : b8 m (i + 1)=.bool true::.bool true::.bool true::b8 m i:=by
     rw [b8,if_pos hsn];rfl
    have e8 : (fil (aF m) (i + 1)).length=(fil (aF m) i).length + 1:=by rw [cv hsn];simp
    have l8:=aO (aF m) i
    have lov:=aO (aT m) i
    have kT:=cR hC (b:=false) (xs:=(fil (aF m) i).map fun k=>aR m (fce m k)) (g:=310) (cs:=[.ptr (cc (aR m (fce m i)))]) (fun o=>ovT (aR m (fce m i)) o) (by have:=aO (aF m) i;simp;omega) (fun x hx=>by
     obtain ⟨k,hk,rfl⟩:=x0s.1 hx
     have hk:=(dK hk).2
     simp only [aF,x0a] at hk
     exact en hC hT (cB hk.1))
    rw [<- eE,x1v] at kT
    have hov : (fil (aF m) i).any ((fun o=>ovT (aR m (fce m i)) o) ∘ fun k=>aR m (fce m k))=aT m i:=by
     rw [fil,x0Y,aT,hsn]
     rfl
    rw [hov] at kT
    rw [ce] at kT
    have tl:=cE m i
    have hml : maxLen=9223372036854775807:=rfl
    have e5:=dt hsn
    have e6 : bW m (i + 1)=sdK (fce m i) 3++bW m i:=by simp [bW,hsn]
    have e7 : b8 m (i + 1)=.bool true::.bool true::.bool true::b8 m i:=by
     rw [b8,if_pos hsn];rfl
    have e8 : (fil (aF m) (i + 1)).length=(fil (aF m) i).length + 1:=by rw [cv hsn];simp
    have l8:=aO (aF m) i
    have lov:=aO (aT m) i
    have kT:=cR hC (b:=false) (xs:=(fil (aF m) i).map fun k=>aR m (fce m k)) (g:=310) (cs:=[.ptr (cc (aR m (fce m i)))]) (fun o=>ovT (aR m (fce m i)) o) (by have:=aO (aF m) i;simp;omega) (fun x hx=>by
     obtain ⟨k,hk,rfl⟩:=x0s.1 hx
     have hk:=(dK hk).2
     simp only [aF,x0a] at hk
     exact en hC hT (cB hk.1))
    rw [<- eE,x1v] at kT
    have hov : (fil (aF m) i).any ((fun o=>ovT (aR m (fce m i)) o) ∘ fun k=>aR m (fce m k))=aT m i:=by
     rw [fil,x0Y,aT,hsn]
     rfl
    rw [hov] at kT
    rw [ce] at kT
    have tl:=cE m i
    have hml : maxLen=9223372036854775807:=rfl
    have e5:=dt hsn
    have e6 : bW m (i + 1)=sdK (fce m i) 3++bW m i:=by simp [bW,hsn]
    have e7 : b8 m (i + 1)=.bool true::.bool true::.bool true::b8 m i:=by
     rw [b8,if_pos hsn];rfl
    have e8 : (fil (aF m) (i + 1)).length=(fil (aF m) i).length + 1:=by rw [cv hsn];simp
    have l8:=aO (aF m) i
    have lov:=aO (aT m) i
    have kT:=cR hC (b:=false) (xs:=(fil (aF m) i).map fun k=>aR m (fce m k)) (g:=310) (cs:=[.ptr (cc (aR m (fce m i)))]) (fun o=>ovT (aR m (fce m i)) o) (by have:=aO (aF m) i;simp;omega) (fun x hx=>by
     obtain ⟨k,hk,rfl⟩:=x0s.1 hx
     have hk:=(dK hk).2
     simp only [aF,x0a] at hk
     exact en hC hT (cB hk.1))
    rw [<- eE,x1v] at kT
    have hov : (fil (aF m) i).any ((fun o=>ovT (aR m (fce m i)) o) ∘ fun k=>aR m (fce m k))=aT m i:=by
     rw [fil,x0Y,aT,hsn]
     rfl
    rw [hov] at kT
    rw [ce] at kT
    have tl:=cE m i
    have hml : maxLen=9223372036854775807:=rfl
    have e5:=dt hsn
    have e6 : bW m (i + 1)=sdK (fce m i) 3++bW m i:=by simp [bW,hsn]
    have e7 : b8 m (i + 1)=.bool true::.bool true::.bool true::b8 m i:=by
     rw [b8,if_pos hsn];rfl
    have e8 : (fil (aF m) (i + 1)).length=(fil (aF m) i).length + 1:=by rw [cv hsn];simp
    have l8:=aO (aF m) i
    have lov:=aO (aT m) i
    have kT:=cR hC (b:=false) (xs:=(fil (aF m) i).map fun k=>aR m (fce m k)) (g:=310) (cs:=[.ptr (cc (aR m (fce m i)))]) (fun o=>ovT (aR m (fce m i)) o) (by have:=aO (aF m) i;simp;omega) (fun x hx=>by
     obtain ⟨k,hk,rfl⟩:=x0s.1 hx
     have hk:=(dK hk).2
     simp only [aF,x0a] at hk
     exact en hC hT (cB hk.1))
    rw [<- eE,x1v] at kT
    have hov : (fil (aF m) i).any ((fun o=>ovT (aR m (fce m i)) o) ∘ fun k=>aR m (fce m k))=aT m i:=by
     rw [fil,x0Y,aT,hsn]
     rfl
    rw [hov] at kT
    rw [ce] at kT
    have tl:=cE m i
    have hml : maxLen=9223372036854775807:=rfl
    have e5:=dt hsn
    have e6 : bW m (i + 1)=sdK (fce m i) 3++bW m i:=by simp [bW,hsn]
    have e7 : b8 m (i + 1)=.bool true::.bool true::.bool true::b8 m i:=by
     rw [b8,if_pos hsn];rfl
    have e8 : (fil (aF m) (i + 1)).length=(fil (aF m) i).length + 1:=by rw [cv hsn];simp
    have l8:=aO (aF m) i
    have lov:=aO (aT m) i
    have kT:=cR hC (b:=false) (xs:=(fil (aF m) i).map fun k=>aR m (fce m k)) (g:=310) (cs:=[.ptr (cc (aR m (fce m i)))]) (fun o=>ovT (aR m (fce m i)) o) (by have:=aO (aF m) i;simp;omega) (fun x hx=>by
     obtain ⟨k,hk,rfl⟩:=x0s.1 hx
     have hk:=(dK hk).2
     simp only [aF,x0a] at hk
     exact en hC hT (cB hk.1))
    rw [<- eE,x1v] at kT
    have hov : (fil (aF m) i).any ((fun o=>ovT (aR m (fce m i)) o) ∘ fun k=>aR m (fce m k))=aT m i:=by
     rw [fil,x0Y,aT,hsn]
     rfl
    rw [hov] at kT
    rw [ce] at kT
    have tl:=cE m i
    have hml : maxLen=9223372036854775807:=rfl
    have e5:=dt hsn
    have e6 : bW m (i + 1)=sdK (fce m i) 3++bW m i:=by simp [bW,hsn]
    have e7 : b8 m (i + 1)=.bool true::.bool true::.bool true::b8 m i:=by
     rw [b8,if_pos hsn];rfl
    have e8 : (fil (aF m) (i + 1)).length=(fil (aF m) i).length + 1:=by rw [cv hsn];simp
    have l8:=aO (aF m) i
    have lov:=aO (aT m) i
    have kT:=cR hC (b:=false) (xs:=(fil (aF m) i).map fun k=>aR m (fce m k)) (g:=310) (cs:=[.ptr (cc (aR m (fce m i)))]) (fun o=>ovT (aR m (fce m i)) o) (by have:=aO (aF m) i;simp;omega) (fun x hx=>by
     obtain ⟨k,hk,rfl⟩:=x0s.1 hx
     have hk:=(dK hk).2
     simp only [aF,x0a] at hk
     exact en hC hT (cB hk.1))
    rw [<- eE,x1v] at kT
    have hov : (fil (aF m) i).any ((fun o=>ovT (aR m (fce m i)) o) ∘ fun k=>aR m (fce m k))=aT m i:=by
     rw [fil,x0Y,aT,hsn]
     rfl
    rw [hov] at kT
    rw [ce] at kT
    have tl:=cE m i
    have hml : maxLen=9223372036854775807:=rfl
    have e5:=dt hsn
    have e6 : bW m (i + 1)=sdK (fce m i) 3++bW m i:=by simp [bW,hsn]
    have e7 : b8 m (i + 1)=.bool true::.bool true::.bool true::b8 m i:=by
     rw [b8,if_pos hsn];rfl
    have e8 : (fil (aF m) (i + 1)).length=(fil (aF m) i).length + 1:=by rw [cv hsn];simp
    have l8:=aO (aF m) i
    have lov:=aO (aT m) i
    have kT:=cR hC (b:=false) (xs:=(fil (aF m) i).map fun k=>aR m (fce m k)) (g:=310) (cs:=[.ptr (cc (aR m (fce m i)))]) (fun o=>ovT (aR m (fce m i)) o) (by have:=aO (aF m) i;simp;omega) (fun x hx=>by
     obtain ⟨k,hk,rfl⟩:=x0s.1 hx
     have hk:=(dK hk).2
     simp only [aF,x0a] at hk
     exact en hC hT (cB hk.1))
    rw [<- eE,x1v] at kT
    have hov : (fil (aF m) i).any ((fun o=>ovT (aR m (fce m i)) o) ∘ fun k=>aR m (fce m k))=aT m i:=by
     rw [fil,x0Y,aT,hsn]
     rfl
    rw [hov] at kT
    rw [ce] at kT
    have tl:=cE m i
    have hml : maxLen=9223372036854775807:=rfl
    have e5:=dt hsn
    have e6 : bW m (i + 1)=sdK (fce m i) 3++bW m i:=by simp [bW,hsn]
    have e7 : b8 m (i + 1)=.bool true::.bool true::.bool true::b8 m i:=by
     rw [b8,if_pos hsn];rfl
    have e8 : (fil (aF m) (i + 1)).length=(fil (aF m) i).length + 1:=by rw [cv hsn];simp
    have l8:=aO (aF m) i
    have lov:=aO (aT m) i
    have kT:=cR hC (b:=false) (xs:=(fil (aF m) i).map fun k=>aR m (fce m k)) (g:=310) (cs:=[.ptr (cc (aR m (fce m i)))]) (fun o=>ovT (aR m (fce m i)) o) (by have:=aO (aF m) i;simp;omega) (fun x hx=>by
     obtain ⟨k,hk,rfl⟩:=x0s.1 hx
     have hk:=(dK hk).2
     simp only [aF,x0a] at hk
     exact en hC hT (cB hk.1))
    rw [<- eE,x1v] at kT
    have hov : (fil (aF m) i).any ((fun o=>ovT (aR m (fce m i)) o) ∘ fun k=>aR m (fce m k))=aT m i:=by
     rw [fil,x0Y,aT,hsn]
     rfl
    rw [hov] at kT
    rw [ce] at kT
    have tl:=cE m i
    have hml : maxLen=9223372036854775807:=rfl
    have e5:=dt hsn
    have e6 : bW m (i + 1)=sdK (fce m i) 3++bW m i:=by simp [bW,hsn]
    have e7 : b8 m (i + 1)=.bool true::.bool true::.bool true::b8 m i:=by
     rw [b8,if_pos hsn];rfl
    have e8 : (fil (aF m) (i + 1)).length=(fil (aF m) i).length + 1:=by rw [cv hsn];simp
    have l8:=aO (aF m) i
    have lov:=aO (aT m) i
    have kT:=cR hC (b:=false) (xs:=(fil (aF m) i).map fun k=>aR m (fce m k)) (g:=310) (cs:=[.ptr (cc (aR m (fce m i)))]) (fun o=>ovT (aR m (fce m i)) o) (by have:=aO (aF m) i;simp;omega) (fun x hx=>by
     obtain ⟨k,hk,rfl⟩:=x0s.1 hx
     have hk:=(dK hk).2
     simp only [aF,x0a] at hk
     exact en hC hT (cB hk.1))
    rw [<- eE,x1v] at kT
    have hov : (fil (aF m) i).any ((fun o=>ovT (aR m (fce m i)) o) ∘ fun k=>aR m (fce m k))=aT m i:=by
     rw [fil,x0Y,aT,hsn]
     rfl
    rw [hov] at kT
    rw [ce] at kT
    have tl:=cE m i
    have hml : maxLen=9223372036854775807:=rfl
    have e5:=dt hsn
    have e6 : bW m (i + 1)=sdK (fce m i) 3++bW m i:=by simp [bW,hsn]
    have e7 : b8 m (i + 1)=.bool true::.bool true::.bool true::b8 m i:=by
     rw [b8,if_pos hsn];rfl
    have e8 : (fil (aF m) (i + 1)).length=(fil (aF m) i).length + 1:=by rw [cv hsn];simp
    have l8:=aO (aF m) i
    have lov:=aO (aT m) i
    have kT:=cR hC (b:=false) (xs:=(fil (aF m) i).map fun k=>aR m (fce m k)) (g:=310) (cs:=[.ptr (cc (aR m (fce m i)))]) (fun o=>ovT (aR m (fce m i)) o) (by have:=aO (aF m) i;simp;omega) (fun x hx=>by
     obtain ⟨k,hk,rfl⟩:=x0s.1 hx
     have hk:=(dK hk).2
     simp only [aF,x0a] at hk
     exact en hC hT (cB hk.1))
    rw [<- eE,x1v] at kT
    have hov : (fil (aF m) i).any ((fun o=>ovT (aR m (fce m i)) o) ∘ fun k=>aR m (fce m k))=aT m i:=by
     rw [fil,x0Y,aT,hsn]
     rfl
    rw [hov] at kT
    rw [ce] at kT
    have tl:=cE m i
    have hml : maxLen=9223372036854775807:=rfl
    have e5:=dt hsn
    have e6 : bW m (i + 1)=sdK (fce m i) 3++bW m i:=by simp [bW,hsn]
    have e7 : b8 m (i + 1)=.bool true::.bool true::.bool true::b8 m i:=by
     rw [b8,if_pos hsn];rfl
    have e8 : (fil (aF m) (i + 1)).length=(fil (aF m) i).length + 1:=by rw [cv hsn];simp
    have l8:=aO (aF m) i
    have lov:=aO (aT m) i
    rcases (by cases gT m i 0 <;> cases gT m i 1 <;> cases gT m i 2 <;> simp : gT m i 0=true \/ (gT m i 0=false /\ gT m i 1=true) \/ (gT m i 0=false /\ gT m i 1=false /\ gT m i 2=true) \/ (gT m i 0=false /\ gT m i 1=false /\ gT m i 2=false)) with h0 | ⟨h0,h1⟩ | ⟨h0,h1,h2⟩ | ⟨h0,h1,h2⟩
    have y:=yes (by rw [hsd,h0];rfl)
    simp [h0]
    refine ⟨by omega,?_⟩
    rw [y]
    refine av Nat (fun k=>pu m i k) (fun k=>k <= 3) (fun k=>3 - k) 0 (by simp) (by simp [fL,ab,aI,cc,sdK]) ?_
    rotate_left
    have y:=yes (by rw [hsd,h0,h1];rfl)
    simp [h0]
    refine aa ks1 (.inl rfl) ?_
    simp [kg1,h1]
    refine ⟨⟨by omega,by omega⟩,by omega,?_⟩
    rw [y]
    refine av Nat (fun k=>pu m i k) (fun k=>k <= 3) (fun k=>3 - k) 0 (by simp) (by simp [fL,ab,aI,cc,sdK]) ?_
    rotate_left
    have y:=yes (by rw [hsd,h0,h1,h2];rfl)
    simp [h0]
    refine aa ks1 (.inl rfl) ?_
    simp [kg1,h1]
    refine ⟨⟨by omega,by omega⟩,?_⟩
    refine aa ks2 (.inl rfl) ?_
    simp [kg2,h2]
    refine ⟨⟨by omega,by omega⟩,by omega,?_⟩
    rw [y]
    refine av Nat (fun k=>pu m i k) (fun k=>k <= 3) (fun k=>3 - k) 0 (by simp) (by simp [fL,ab,aI,cc,sdK]) ?_
    rotate_left
    have y:=nos (by rw [hsd,h0,h1,h2];rfl)
    simp [h0]
    refine aa ks1 (.inl rfl) ?_
    simp [kg1,h1]
    refine ⟨⟨by omega,by omega⟩,?_⟩
    refine aa ks2 (.inl rfl) ?_
    simp [kg2,h2]
    refine ⟨⟨by omega,by omega⟩,?_⟩
    rw [y]
    refine av Nat (fun k=>pu m i k) (fun k=>k <= 3) (fun k=>3 - k) 0 (by simp) (by simp [fL,ab,aI,cc,sdK]) ?_
    rotate_left
    all_goals
     clear y
     rintro k hk
     simp [fL,ab,aI,cc]
     refine aj (fun g2=>?_) (fun g2=>?_) <;> simp at g2 <;> simp [g2]
     ·have hw2 : IntKind.wrap .i64 ((k : Int) + 1)=((k + 1 : Nat) : Int):=af (by omega) (by omega)
      have ck:=cb k
      have ck1:=cb (k + 1)
      refine aa (ks k (by omega)) (.inl rfl) ?_
      simp [hw2,jP]
      refine ⟨by omega,⟨⟨by omega,by omega⟩,by omega,by omega⟩,k + 1,by omega,by omega,?_⟩
      simp [fL,ab,aI,cc,sdK,List.replicate_succ]
     ·have hk3 : k=3:=by omega
      subst hk3
      simp only [cc] at kT
      simp
      refine aa kT (.inl rfl) ?_
      simp
      simp only [cc] at e5
      cases hov2 : aT m i
      ·have e9:=eB hov2
       simp [hw]
       refine ⟨by omega,i + 1,by omega,by omega,?_⟩
       simp [cW,ab,<- b1,<- b2,<- e9,e5,e6,e7,e8]
      ·have e9:=iA hov2
       simp [hw]
       refine ⟨by omega,by omega,i + 1,by omega,by omega,?_⟩
       simp [cW,ab,<- b1,<- b2,e9,e5,e6,e7,e8]
  ·have hi2 : i=m.f.length:=by omega
   subst hi2
   have bd : ∀ (p : Nat -> Bool) (n : Nat),n <= 100 -> (fil p n).length <= 100 /\ ∀ x ∈ fil p n,x < 100:=fun p n hn=>⟨by have:=aO p n;omega,fun x hx=>by have:=(dK hx).1;omega⟩
   have q1:=bd (cP m) _ hs
   have q2:=bd (bM m) _ hs
   have q3:=bd (dh m) _ hf
   have q4:=bd (cd m) _ hf
   have q5:=bd (bL m) _ hf
   have q6:=bd (aT m) _ hf
   have hLL : LL m=[[],fil (cP m) m.s.length,fil (bM m) m.s.length,fil (dh m) m.f.length,fil (cd m) m.f.length,fil (bL m) m.f.length,fil (aT m) m.f.length]:=rfl
   rw [hLL]
   clear hLL bd
   generalize fil (cP m) m.s.length=L1 at *
   generalize fil (bM m) m.s.length=L2 at *
   generalize fil (dh m) m.f.length=L3 at *
   generalize fil (cd m) m.f.length=L4 at *
   generalize fil (bL m) m.f.length=L5 at *
   generalize fil (aT m) m.f.length=L6 at *
   obtain ⟨AG,hAG⟩ : ∃ x,x=GY L1 L2 L3 L4 L5 L6:=⟨_,rfl⟩
   obtain ⟨BK,hBK⟩ : ∃ x,x=G8 L1 L2 L3 L4 L5 L6:=⟨_,rfl⟩
   obtain ⟨U,hU⟩ : ∃ U : Nat -> List (Int × List UInt8),U=fun k=>co dec 0 (([([] : List Nat),L1,L2,L3,L4,L5,L6]).take k):=⟨_,rfl⟩
   have hU7 : U 7=co dec 0 [[],L1,L2,L3,L4,L5,L6]:=by rw [hU];rfl
   have hU0 : U 0=[]:=by rw [hU];rfl
   have bdU : ∀ k (L : List Nat),L.length <= 100 -> (U k).length <= 100 * k -> (U k++L.map fun i=>((k : Int),dec i)).length <= 100 * (k + 1):=fun k L h1 h2=>by simp;omega
   have hU0s : U 1=U 0++(([] : List Nat)).map fun i=>((0 : Int),dec i):=by
    rw [hU];show co dec 0 (([([] : List Nat),L1,L2,L3,L4,L5,L6]).take 0++[([] : List Nat)])=_
    rw [cp];simp [co]
   have hU1s : U 2=U 1++(L1).map fun i=>((1 : Int),dec i):=by
    rw [hU];show co dec 0 (([([] : List Nat),L1,L2,L3,L4,L5,L6]).take 1++[L1])=_
    rw [cp];simp [co]
   have hU2s : U 3=U 2++(L2).map fun i=>((2 : Int),dec i):=by
    rw [hU];show co dec 0 (([([] : List Nat),L1,L2,L3,L4,L5,L6]).take 2++[L2])=_
    rw [cp];simp [co]
   have hU3s : U 4=U 3++(L3).map fun i=>((3 : Int),dec i):=by
    rw [hU];show co dec 0 (([([] : List Nat),L1,L2,L3,L4,L5,L6]).take 3++[L3])=_
    rw [cp];simp [co]
   have hU4s : U 5=U 4++(L4).map fun i=>((4 : Int),dec i):=by
    rw [hU];show co dec 0 (([([] : List Nat),L1,L2,L3,L4,L5,L6]).take 4++[L4])=_
    rw [cp];simp [co]
   have hU5s : U 6=U 5++(L5).map fun i=>((5 : Int),dec i):=by
    rw [hU];show co dec 0 (([([] : List Nat),L1,L2,L3,L4,L5,L6]).take 5++[L5])=_
    rw [cp];simp [co]
   have hU6s : U 7=U 6++(L6).map fun i=>((6 : Int),dec i):=by
    rw [hU];show co dec 0 (([([] : List Nat),L1,L2,L3,L4,L5,L6]).take 6++[L6])=_
    rw [cp];simp [co]
   have lU0 : (U 0).length <= 0:=by rw [hU0];simp
   have lU1 : (U 1).length <= 100:=by rw [hU0s];simp;omega
   have lU2 : (U 2).length <= 200:=by rw [hU1s];simp;omega
   have lU3 : (U 3).length <= 300:=by rw [hU2s];simp;omega
   have lU4 : (U 4).length <= 400:=by rw [hU3s];simp;omega
   have lU5 : (U 5).length <= 500:=by rw [hU4s];simp;omega
   have lU6 : (U 6).length <= 600:=by rw [hU5s];simp;omega
   rw [<- hU7]
   refine av Nat (fun k=>[(17,.ref (.r 10272) 0 (U k).length),(10272,.blk 2 (fnR (U k))),(181,AG),(182,.int .i64 k),(10064,BK)]) (fun k=>k <= 7) (fun k=>7 - k) 0 (by simp) (by simp [hU0,hAG,hBK,aP,a7]) ?_
   rintro k hk
   rcases (by omega : k=0 \/ k=1 \/ k=2 \/ k=3 \/ k=4 \/ k=5 \/ k=6 \/ k=7) with rfl | rfl | rfl | rfl | rfl | rfl | rfl | rfl
   ·simp [hAG,aP]
    refine av Nat (fun j=>[(17,.ref (.r 10272) 0 ((U 0).length + j)),(10272,.blk 2 (fnR (U 0++tkD dec 0 ([] : List Nat) j))),(18,.int .i64 0),(181,AG),(182,.int .i64 0),(186,.ref (.n 10064 0 0) 0 (([] : List Nat)).length),(187,.int .i64 (([] : List Nat)).length),(188,.int .i64 j),(10064,BK)]) (fun j=>j <= (([] : List Nat)).length) (fun j=>(([] : List Nat)).length - j) 0 (by simp) (by simp [hAG,hBK,aP,a7,fd]) ?_
    rintro j hj
    simp [hAG,hBK,aP,a7]
    have hj0 : j=0:=by simpa using hj
    subst hj0
    simp [az,hAG,hBK,aP,a7]
    refine ⟨1,by omega,by omega,?_⟩
    rw [hU0s]
    simp [tkD]
   ·simp [hAG,aP]
    refine av Nat (fun j=>[(17,.ref (.r 10272) 0 ((U 1).length + j)),(10272,.blk 2 (fnR (U 1++tkD dec 1 L1 j))),(18,.int .i64 1),(181,AG),(182,.int .i64 1),(186,.ref (.n 10064 0 1) 0 (L1).length),(187,.int .i64 (L1).length),(188,.int .i64 j),(10064,BK)]) (fun j=>j <= (L1).length) (fun j=>(L1).length - j) 0 (by simp) (by simp [hAG,hBK,aP,a7,fd]) ?_
    rintro j hj
    simp [hAG,hBK,aP,a7]
    refine aj (fun g3=>?_) (fun g3=>?_) <;> simp at g3 <;> simp [g3,hAG,hBK,aP,a7]
    ·have hj2 : j < L1.length:=by omega
     have hw3 : IntKind.wrap .i64 ((j : Int) + 1)=((j + 1 : Nat) : Int):=af (by omega) (by omega)
     have hi:=hI (L1[j]) (q1.2 _ (x0u hj2))
     have ht:=fY dec 1 L1 hj2
     have hl:=iO dec 1 L1 (Nat.le_of_lt hj2)
     rw [eA L1]
     try simp [hj2]
     refine aa hi (.inl rfl) ?_
     simp
     refine ⟨by omega,by omega,j + 1,by omega,by omega,by omega,?_,?_,hw3,?_⟩
     ·have e : (U 1).length + j=(U 1++tkD dec 1 L1 j).length:=by simp [hl]
      rw [e,fP,gd,ht,x01]
     ·rw [hAG,aP]
     ·rw [hBK,a7];simp only [eA]
    ·have hj2 : j=L1.length:=by omega
     subst hj2
     refine ⟨2,by omega,by omega,?_⟩
     rw [hU1s,iM]
     simp [hAG,hBK,aP,a7]
     decide
   ·simp [hAG,aP]
    refine av Nat (fun j=>[(17,.ref (.r 10272) 0 ((U 2).length + j)),(10272,.blk 2 (fnR (U 2++tkD dec 2 L2 j))),(18,.int .i64 2),(181,AG),(182,.int .i64 2),(186,.ref (.n 10064 0 2) 0 (L2).length),(187,.int .i64 (L2).length),(188,.int .i64 j),(10064,BK)]) (fun j=>j <= (L2).length) (fun j=>(L2).length - j) 0 (by simp) (by simp [hAG,hBK,aP,a7,fd]) ?_
    rintro j hj
    simp [hAG,hBK,aP,a7]
    refine aj (fun g3=>?_) (fun g3=>?_) <;> simp at g3 <;> simp [g3,hAG,hBK,aP,a7]
    ·have hj2 : j < L2.length:=by omega
     have hw3 : IntKind.wrap .i64 ((j : Int) + 1)=((j + 1 : Nat) : Int):=af (by omega) (by omega)
     have hi:=hI (L2[j]) (q2.2 _ (x0u hj2))
     have ht:=fY dec 2 L2 hj2
     have hl:=iO dec 2 L2 (Nat.le_of_lt hj2)
     rw [eA L2]
     try simp [hj2]
     refine aa hi (.inl rfl) ?_
     simp
     refine ⟨by omega,by omega,j + 1,by omega,by omega,by omega,?_,?_,hw3,?_⟩
     ·have e : (U 2).length + j=(U 2++tkD dec 2 L2 j).length:=by simp [hl]
      rw [e,fP,gd,ht,x01]
     ·rw [hAG,aP]
     ·rw [hBK,a7];simp only [eA]
    ·have hj2 : j=L2.length:=by omega
     subst hj2
     refine ⟨3,by omega,by omega,?_⟩
     rw [hU2s,iM]
     simp [hAG,hBK,aP,a7]
     decide
   ·simp [hAG,aP]
    refine av Nat (fun j=>[(17,.ref (.r 10272) 0 ((U 3).length + j)),(10272,.blk 2 (fnR (U 3++tkD dec 3 L3 j))),(18,.int .i64 3),(181,AG),(182,.int .i64 3),(186,.ref (.n 10064 0 3) 0 (L3).length),(187,.int .i64 (L3).length),(188,.int .i64 j),(10064,BK)]) (fun j=>j <= (L3).length) (fun j=>(L3).length - j) 0 (by simp) (by simp [hAG,hBK,aP,a7,fd]) ?_
    rintro j hj
    simp [hAG,hBK,aP,a7]
    refine aj (fun g3=>?_) (fun g3=>?_) <;> simp at g3 <;> simp [g3,hAG,hBK,aP,a7]
    ·have hj2 : j < L3.length:=by omega
     have hw3 : IntKind.wrap .i64 ((j : Int) + 1)=((j + 1 : Nat) : Int):=af (by omega) (by omega)
     have hi:=hI (L3[j]) (q3.2 _ (x0u hj2))
     have ht:=fY dec 3 L3 hj2
     have hl:=iO dec 3 L3 (Nat.le_of_lt hj2)
     rw [eA L3]
     try simp [hj2]
     refine aa hi (.inl rfl) ?_
     simp
     refine ⟨by omega,by omega,j + 1,by omega,by omega,by omega,?_,?_,hw3,?_⟩
     ·have e : (U 3).length + j=(U 3++tkD dec 3 L3 j).length:=by simp [hl]
      rw [e,fP,gd,ht,x01]
     ·rw [hAG,aP]
     ·rw [hBK,a7];simp only [eA]
    ·have hj2 : j=L3.length:=by omega
     subst hj2
     refine ⟨4,by omega,by omega,?_⟩
     rw [hU3s,iM]
     simp [hAG,hBK,aP,a7]
     decide
   ·simp [hAG,aP]
    refine av Nat (fun j=>[(17,.ref (.r 10272) 0 ((U 4).length + j)),(10272,.blk 2 (fnR (U 4++tkD dec 4 L4 j))),(18,.int .i64 4),(181,AG),(182,.int .i64 4),(186,.ref (.n 10064 0 4) 0 (L4).length),(187,.int .i64 (L4).length),(188,.int .i64 j),(10064,BK)]) (fun j=>j <= (L4).length) (fun j=>(L4).length - j) 0 (by simp) (by simp [hAG,hBK,aP,a7,fd]) ?_
    rintro j hj
    simp [hAG,hBK,aP,a7]
    refine aj (fun g3=>?_) (fun g3=>?_) <;> simp at g3 <;> simp [g3,hAG,hBK,aP,a7]
    ·have hj2 : j < L4.length:=by omega
     have hw3 : IntKind.wrap .i64 ((j : Int) + 1)=((j + 1 : Nat) : Int):=af (by omega) (by omega)
     have hi:=hI (L4[j]) (q4.2 _ (x0u hj2))
     have ht:=fY dec 4 L4 hj2
     have hl:=iO dec 4 L4 (Nat.le_of_lt hj2)
     rw [eA L4]
     try simp [hj2]
     refine aa hi (.inl rfl) ?_
     simp
     refine ⟨by omega,by omega,j + 1,by omega,by omega,by omega,?_,?_,hw3,?_⟩
     ·have e : (U 4).length + j=(U 4++tkD dec 4 L4 j).length:=by simp [hl]
      rw [e,fP,gd,ht,x01]
     ·rw [hAG,aP]
     ·rw [hBK,a7];simp only [eA]
    ·have hj2 : j=L4.length:=by omega
     subst hj2
     refine ⟨5,by omega,by omega,?_⟩
     rw [hU4s,iM]
     simp [hAG,hBK,aP,a7]
     decide
   ·simp [hAG,aP]
    refine av Nat (fun j=>[(17,.ref (.r 10272) 0 ((U 5).length + j)),(10272,.blk 2 (fnR (U 5++tkD dec 5 L5 j))),(18,.int .i64 5),(181,AG),(182,.int .i64 5),(186,.ref (.n 10064 0 5) 0 (L5).length),(187,.int .i64 (L5).length),(188,.int .i64 j),(10064,BK)]) (fun j=>j <= (L5).length) (fun j=>(L5).length - j) 0 (by simp) (by simp [hAG,hBK,aP,a7,fd]) ?_
    rintro j hj
    simp [hAG,hBK,aP,a7]
    refine aj (fun g3=>?_) (fun g3=>?_) <;> simp at g3 <;> simp [g3,hAG,hBK,aP,a7]
    ·have hj2 : j < L5.length:=by omega
     have hw3 : IntKind.wrap .i64 ((j : Int) + 1)=((j + 1 : Nat) : Int):=af (by omega) (by omega)
     have hi:=hI (L5[j]) (q5.2 _ (x0u hj2))
     have ht:=fY dec 5 L5 hj2
     have hl:=iO dec 5 L5 (Nat.le_of_lt hj2)
     rw [eA L5]
     try simp [hj2]
     refine aa hi (.inl rfl) ?_
     simp
     refine ⟨by omega,by omega,j + 1,by omega,by omega,by omega,?_,?_,hw3,?_⟩
     ·have e : (U 5).length + j=(U 5++tkD dec 5 L5 j).length:=by simp [hl]
      rw [e,fP,gd,ht,x01]
     ·rw [hAG,aP]
     ·rw [hBK,a7];simp only [eA]
    ·have hj2 : j=L5.length:=by omega
     subst hj2
     refine ⟨6,by omega,by omega,?_⟩
     rw [hU5s,iM]
     simp [hAG,hBK,aP,a7]
     decide
   ·simp [hAG,aP]
    refine av Nat (fun j=>[(17,.ref (.r 10272) 0 ((U 6).length + j)),(10272,.blk 2 (fnR (U 6++tkD dec 6 L6 j))),(18,.int .i64 6),(181,AG),(182,.int .i64 6),(186,.ref (.n 10064 0 6) 0 (L6).length),(187,.int .i64 (L6).length),(188,.int .i64 j),(10064,BK)]) (fun j=>j <= (L6).length) (fun j=>(L6).length - j) 0 (by simp) (by simp [hAG,hBK,aP,a7,fd]) ?_
    rintro j hj
    simp [hAG,hBK,aP,a7]
    refine aj (fun g3=>?_) (fun g3=>?_) <;> simp at g3 <;> simp [g3,hAG,hBK,aP,a7]
    ·have hj2 : j < L6.length:=by omega
     have hw3 : IntKind.wrap .i64 ((j : Int) + 1)=((j + 1 : Nat) : Int):=af (by omega) (by omega)
     have hi:=hI (L6[j]) (q6.2 _ (x0u hj2))
     have ht:=fY dec 6 L6 hj2
     have hl:=iO dec 6 L6 (Nat.le_of_lt hj2)
     rw [eA L6]
     try simp [hj2]
     refine aa hi (.inl rfl) ?_
     simp
     refine ⟨by omega,by omega,j + 1,by omega,by omega,by omega,?_,?_,hw3,?_⟩
     ·have e : (U 6).length + j=(U 6++tkD dec 6 L6 j).length:=by simp [hl]
      rw [e,fP,gd,ht,x01]
     ·rw [hAG,aP]
     ·rw [hBK,a7];simp only [eA]
    ·have hj2 : j=L6.length:=by omega
     subst hj2
     refine ⟨7,by omega,by omega,?_⟩
     rw [hU6s,iM]
     simp [hAG,hBK,aP,a7]
     decide
   ·simp [hAG,aP]
    rfl
end Go.Gv

namespace Go.Gv
theorem cy {m : Msh} (h : ap m=true) : m.s.length <= 2000 /\ m.f.length <= 4000:=by
 simp only [ap,bV,x0a,x0g] at h
 exact h.1
theorem jU {m : Msh} (h : ap m=true) : ∀ l ∈ LL m,l=[]:=by
 simp only [ap,x0a,x0f,x0g] at h
 exact h.2
theorem pc {m : Msh} (h : ap m=true) {i : Nat} (hi : i < m.s.length) : aX (spt m i)=true:=by
 have:=lH.1 (jU h (fil (cP m) m.s.length) (by simp [LL])) i hi
 simpa [cP] using this
theorem iQ {m : Msh} (h : ap m=true) {i : Nat} (hi : i < m.f.length) : okF m (fce m i)=true /\ 0 < iY (aR m (fce m i)):=by
 have h1:=lH.1 (jU h (fil (dh m) m.f.length) (by simp [LL])) i hi
 have h2:=lH.1 (jU h (fil (cd m) m.f.length) (by simp [LL])) i hi
 have h3 : okF m (fce m i)=true:=by simpa [dh] using h1
 refine ⟨h3,?_⟩
 simp [cd,h3] at h2
 omega
theorem oa {m : Msh} (h : ap m=true) {i : Nat} (hi : i < m.f.length) : aF m i=true:=by
 have:=iQ h hi
 simp [aF,this]
theorem ne {m : Msh} (h : ap m=true) {i k : Nat} (hi : i < m.f.length) (hk : k < i) : gl (fce m i) (fce m k)=false:=by
 have h1:=lH.1 (jU h (fil (bL m) m.f.length) (by simp [LL])) i hi
 rw [bL,oa h hi,x1J,x1I] at h1
 have:=h1 k (x0H.2 hk)
 rw [oa h (by omega),x1J] at this
 simpa using this
theorem dR {m : Msh} (h : ap m=true) {i : Nat} (hi : i < m.f.length) : inS m (fce m i)=true:=iC (iQ h hi).1
theorem sU {m : Msh} (h : ap m=true) {i : Nat} (hi : i < m.f.length) : okT (aR m (fce m i))=true:=cB (iQ h hi).1
def bQ (f : Fce) (a b : Int) : Bool:=(List.range 3).any fun j=>decide (crn f j=a) && decide (crn f (j + 1)=b)
def io (m : Msh) (a b : Int) : Int:=dS (fun f=>bQ f a b) m.f
def nbF (m : Msh) (i k : Nat) : Int:=io m (crn (fce m i) (k + 1)) (crn (fce m i) k)
def jz (p : Nat -> Bool) : Nat -> Option Nat
 | 0=>none
 | i + 1=>if p i then some i else jz p i
theorem mt (p : Nat -> Bool) : ∀ n,(jz p n=none /\ ∀ i,i < n -> p i=false) \/ ∃ i,jz p n=some i /\ i < n /\ p i=true
 | 0=>.inl ⟨rfl,fun i h=>by omega⟩
 | n + 1=>by
  rw [jz]
  by_cases h : p n=true
  ·rw [if_pos h];exact .inr ⟨n,rfl,by omega,h⟩
  ·rw [if_neg h]
   rcases mt p n with ⟨h1,h2⟩ | ⟨i,h1,h2,h3⟩
   ·refine .inl ⟨h1,fun i hi=>?_⟩
    rcases x0C.1 hi with h3 | rfl
    ·exact h2 i h3
    ·simpa using h
   ·exact .inr ⟨i,h1,by omega,h3⟩
theorem vu {f g : Fce} {a b : Int} (h1 : bQ f a b=true) (h2 : bQ g a b=true) : gl f g=true:=by
 simp only [bQ,x0x,x0H,x0a,x0g] at h1 h2
 obtain ⟨i,hi,rfl,rfl⟩:=h1
 obtain ⟨j,hj,e1,e2⟩:=h2
 simp only [gl,x0x,x0H]
 exact ⟨i,hi,j,hj,by simp [mtc,e1,e2]⟩
theorem km {m : Msh} (h : ap m=true) {i k : Nat} (hi : i < m.f.length) (hk : k < m.f.length) {a b : Int} (h1 : bQ (fce m i) a b=true) (h2 : bQ (fce m k) a b=true) : i=k:=by
 rcases Nat.lt_trichotomy i k with h3 | h3 | h3
 ·have:=ne h hk h3
  rw [vu h2 h1] at this;cases this
 ·exact h3
 ·have:=ne h hi h3
  rw [vu h1 h2] at this;cases this
theorem rL {m : Msh} (h : ap m=true) (a b : Int) : io m a b=match jz (fun i=>bQ (fce m i) a b) m.f.length with
  | some i=>(i : Int)
  | none=>-1:=by
 rcases mt (fun i=>bQ (fce m i) a b) m.f.length with ⟨h1,h2⟩ | ⟨i,h1,h2,h3⟩
 ·rw [h1]
  exact dC fun j hj=>by rw [jr];exact h2 j hj
 ·rw [h1]
  refine dD (fun j hj hji=>?_) h2 (by rw [jr];exact h3)
  rw [jr]
  cases hh : bQ (fce m j) a b
  ·rfl
  ·have:=km h hj h2 hh h3
   omega
def iS (m : Msh) : Nat -> List D
 | 0=>[]
 | i + 1=>sdK (fce m i) 3++iS m i
def kA (m : Msh) : Nat -> List D
 | 0=>[]
 | i + 1=>List.replicate 3 (.int .i64 i)++kA m i
theorem pY (m : Msh) : ∀ i,(iS m i).length=3 * i
 | 0=>by simp [iS]
 | i + 1=>by
  have:=pY m i
  simp [iS,jP];omega
theorem vB (m : Msh) (a b : Int) : ∀ i,de (iS m i) (kA m i) (.agg [.int .i64 a,.int .i64 b])=(jz (fun i=>bQ (fce m i) a b) i).map fun i=>.int .i64 i
 | 0=>rfl
 | i + 1=>by
  have h3 : List.range 3=[0,1,2]:=rfl
  simp only [iS,kA,jz,sdK,List.replicate,x08,x1d,de,Ai]
  have ih:=vB m a b i
  by_cases c0 : (decide (a=crn (fce m i) 2) && decide (b=crn (fce m i) (2 + 1)))=true
  ·have : bQ (fce m i) a b=true:=by
    simp only [x0a,x0g] at c0
    simp [bQ,h3,<- c0.1,<- c0.2]
   rw [if_pos c0,if_pos this];rfl
  ·rw [if_neg c0]
   by_cases c1 : (decide (a=crn (fce m i) 1) && decide (b=crn (fce m i) (1 + 1)))=true
   ·have : bQ (fce m i) a b=true:=by
     simp only [x0a,x0g] at c1
     simp [bQ,h3,<- c1.1,<- c1.2]
    rw [if_pos c1,if_pos this];rfl
   ·rw [if_neg c1]
    by_cases c2 : (decide (a=crn (fce m i) 0) && decide (b=crn (fce m i) (0 + 1)))=true
    ·have : bQ (fce m i) a b=true:=by
      simp only [x0a,x0g] at c2
      simp [bQ,h3,<- c2.1,<- c2.2]
     rw [if_pos c2,if_pos this];rfl
    ·have : bQ (fce m i) a b=false:=by
      simp only [x0a,x0g,not_and] at c0 c1 c2
      simp only [bQ,h3,x1A,x1o,Bool.or_false,Bool.or_eq_false_iff,x0w,x0p]
      omega
     rw [if_neg c2,if_neg (by rw [this];decide),ih]
def nbC (m : Msh) (i k j c : Nat) : Int:=if j < i \/ (j=i /\ c < k) then nbF m j c else 0
def nbR (m : Msh) (i k : Nat) : List (List D):=(List.range m.f.length).map fun j=>[.int .i64 (nbC m i k j 0),.int .i64 (nbC m i k j 1),.int .i64 (nbC m i k j 2)]
def nbA (m : Msh) : List (List D):=(List.range m.f.length).map fun j=>[.int .i64 (nbF m j 0),.int .i64 (nbF m j 1),.int .i64 (nbF m j 2)]
@[simp] theorem Qf (m : Msh) (i k : Nat) : (nbR m i k).length=m.f.length:=by simp [nbR]
@[simp] theorem KC (m : Msh) (i k : Nat) : List.take m.f.length (nbR m i k)=nbR m i k:=x0q (by simp)
@[simp] theorem Sf (m : Msh) (i k : Nat) : List.map (fun e=>List.map bq e) (nbR m i k)=nbR m i k:=by simp [nbR]
theorem vA (m : Msh) : List.replicate m.f.length [D.int .i64 0,D.int .i64 0,D.int .i64 0]=nbR m 0 0:=by
 refine x1m (by simp) fun j h1 h2=>?_
 simp [nbR,nbC]
theorem vz (m : Msh) (i : Nat) : nbR m i 3=nbR m (i + 1) 0:=by
 unfold nbR
 refine x0o fun j _=>?_
 have e : ∀ c,c < 3 -> nbC m i 3 j c=nbC m (i + 1) 0 j c:=fun c hc=>by
  unfold nbC
  by_cases h : j < i + 1
  ·rw [if_pos (by omega),if_pos (by omega)]
  ·rw [if_neg (by omega),if_neg (by omega)]
 rw [e 0 (by omega),e 1 (by omega),e 2 (by omega)]
theorem yb (m : Msh) : nbR m m.f.length 0=nbA m:=by
 unfold nbR nbA
 refine x0o fun j hj=>?_
 have hj:=x0H.1 hj
 simp [nbC,hj]
theorem yc (m : Msh) {i k j : Nat} (h : j < m.f.length) : (nbR m i k)[j]? = some [.int .i64 (nbC m i k j 0),.int .i64 (nbC m i k j 1),.int .i64 (nbC m i k j 2)]:=by
 simp [nbR,h]
theorem ye (m : Msh) {i k : Nat} (h : i < m.f.length) (hk : k < 3) : (nbR m i k).set i (([.int .i64 (nbC m i k i 0),.int .i64 (nbC m i k i 1),.int .i64 (nbC m i k i 2)] : List D).set k (.int .i64 (nbF m i k)))=nbR m i (k + 1):=by
 refine x1m (by simp) fun j h1 h2=>?_
 rw [List.getElem_set]
 by_cases e : i=j
 ·subst e
  rw [if_pos rfl]
  rcases (by omega : k=0 \/ k=1 \/ k=2) with rfl | rfl | rfl <;> simp [nbR,nbC]
 ·rw [if_neg e]
  simp only [nbR,x1u,List.getElem_range]
  have e2 : ∀ c,nbC m i k j c=nbC m i (k + 1) j c:=fun c=>by
   unfold nbC
   by_cases h : j < i
   ·rw [if_pos (by omega),if_pos (by omega)]
   ·rw [if_neg (by omega),if_neg (by omega)]
  rw [e2,e2,e2]
variable {C : CC} (hC : ay prog C)
include hC
theorem uc (m : Msh) (h : bV m=false) : C 273 [.agg (aW m)] (.tup [.nils,.int .i64 4]) []:=by
 have ksm:=pW hC m
 rw [show (decide (m.s.length <= 2000) && decide (m.f.length <= 4000))=false from h] at ksm
 refine aw hC (nf:=N273) rfl rfl ?_
 simp only [ab] at ksm
 simp [N273,ab]
 refine aa ksm (.inl rfl) ?_
 simp
theorem mw (dec : Nat -> List UInt8) (hI : ∀ n : Nat,n < 100 -> C 127 [.int .i64 n] (.str (dec n)) []) (m : Msh) (hz : bV m=true -> m.s.length <= 100 /\ m.f.length <= 100) : C 234 [.agg (aW m)] (.bool (ap m)) []:=by
 cases hs : bV m
 ·have k:=uc hC m hs
  refine aw hC (nf:=N234) rfl rfl ?_
  simp only [ab] at k
  simp [N234,ab]
  refine aa k (.inr rfl) ?_
  simp [ap,hs]
 ·obtain ⟨h1,h2⟩:=hz hs
  have k:=w9 hC dec hI m h1 h2
  have e : ap m=decide ((co dec 0 (LL m)).length=0):=by
   rw [ap,hs,x1J,x04,x0g,List.length_eq_zero_iff,mJ]
  obtain ⟨X,hX⟩ : ∃ X,X=co dec 0 (LL m):=⟨_,rfl⟩
  rw [e]
  rw [<- hX] at k ⊢
  refine aw hC (nf:=N234) rfl rfl ?_
  simp only [ab] at k
  simp [N234,ab]
  refine aa k (.inr rfl) ?_
  simp
end Go.Gv

namespace Go.Gv
def fB (n : Nat) : List UInt8:=ol n []
def fdL (k : Int) (l : List Nat) : List (Int × List UInt8):=l.map fun i=>(k,fB i)
@[simp] theorem MW (k : Int) (l : List Nat) : (fdL k l).length=l.length:=by simp [fdL]
def fdR (k : Int) (l : List Nat) : List (List D):=fnR (fdL k l)
@[simp] theorem MY (k : Int) (l : List Nat) : (fdR k l).length=l.length:=by simp [fdR]
@[simp] theorem Ic (k : Int) (l : List Nat) : List.take l.length (fdR k l)=fdR k l:=x0q (by simp)
theorem f9 {p : Nat -> Bool} {n : Nat} {k : Int} (h : p n=true) : fdR k (fil p n)++[[D.int .i64 k,.str (fB n)]]=fdR k (fil p (n + 1)):=by
 rw [cv h];simp [fdR,gd,fdL]
theorem dY {p : Nat -> Bool} {n : Nat} {k : Int} (h : p n=false) : fdR k (fil p n)=fdR k (fil p (n + 1)):=by rw [j9 h]
@[simp] theorem BD (k : Int) (l : List Nat) : (∀ e ∈ fdR k l,∀ c ∈ e,aK c=true)=True:=by simp [fdR,fnR,fnD,fdL]
@[simp] theorem MX (k : Int) (l : List Nat) (x : List D) : (∀ e,e ∈ fdR k l \/ e=x -> ∀ c,c ∈ e -> aK c=true)=∀ c,c ∈ x -> aK c=true:=by
 apply propext
 constructor
 ·exact fun h=>h x (.inr rfl)
 ·rintro h e (he | rfl)
  ·exact (BD k l).mpr trivial e he
  ·exact h
@[simp] theorem MZ (k : Int) : fdR k []=[]:=rfl
def fcR (m : Msh) (l : List Nat) : List (List D):=l.map fun k=>br (fce m k)
@[simp] theorem MU (m : Msh) (l : List Nat) : (fcR m l).length=l.length:=by simp [fcR]
@[simp] theorem Ib (m : Msh) (l : List Nat) : List.take l.length (fcR m l)=fcR m l:=x0q (by simp)
@[simp] theorem MV (m : Msh) : fcR m []=[]:=rfl
theorem xN {m : Msh} {i : Nat} (h : aF m i=true) : fcR m (fil (aF m) i)++[br (fce m i)]=fcR m (fil (aF m) (i + 1)):=by rw [cv h];simp [fcR]
theorem gP (m : Msh) (l : List Nat) : fcR m l=l.map fun k=>br (fce m k):=rfl
def jZ (p : Nat -> Bool) (l : List Nat) (k : Nat) : Bool:=(l.take k).any p
theorem s8 (p : Nat -> Bool) (l : List Nat) : jZ p l 0=false:=by simp [jZ]
theorem nC (p : Nat -> Bool) {l : List Nat} {k : Nat} (h : k < l.length) : jZ p l (k + 1)=(jZ p l k || p l[k]):=by
 unfold jZ
 rw [List.take_add_one,x0d h,List.any_append]
 simp
theorem pj (p : Nat -> Bool) (l : List Nat) : jZ p l l.length=l.any p:=by simp [jZ]
def shP (m : Msh) (i k : Nat) : Bool:=gl (fce m i) (fce m k)
def ovP (m : Msh) (i k : Nat) : Bool:=ovT (aR m (fce m i)) (aR m (fce m k))
theorem tS {m : Msh} {i : Nat} (h : aF m i=true) : bL m i=(fil (aF m) i).any (shP m i):=by
 rw [fil,x0Y,bL,h];rfl
theorem tL {m : Msh} {i : Nat} (h : aF m i=true) : aT m i=(fil (aF m) i).any (ovP m i):=by
 rw [fil,x0Y,aT,h];rfl
def Lx (m : Msh) (i k : Nat) : Env:=[(1,.ptr (aW m)),(3,.ref (.r 10048) 0 7),(10048,.blk 1 [[.own 2 []],[.own 2 (fdR 1 (fil (cP m) m.s.length))],[.own 2 (fdR 2 (fil (bM m) m.s.length))],[.own 2 (fdR 3 (fil (dh m) i))],[.own 2 (fdR 4 (fil (cd m) i))],[.own 2 (fdR 5 (fil (bL m) i))],[.own 2 (fdR 6 (fil (aT m) i))]]),(7,.ref (.r 10112) 0 (fil (aF m) i).length),(10112,.blk 4 (fcR m (fil (aF m) i))),(8,.int .i64 i),(9,.adr (.r 10144) 0 0),(10144,.blk 4 [br (fce m i)]),(10,.bool (jZ (shP m i) (fil (aF m) i) k)),(11,.bool (jZ (ovP m i) (fil (aF m) i) k)),(12,.int .i64 k)]
theorem iD (m : Msh) (i k : Nat) : Lx m i k=[(1,.ptr (aW m)),(3,.ref (.r 10048) 0 7),(10048,.blk 1 [[.own 2 []],[.own 2 (fdR 1 (fil (cP m) m.s.length))],[.own 2 (fdR 2 (fil (bM m) m.s.length))],[.own 2 (fdR 3 (fil (dh m) i))],[.own 2 (fdR 4 (fil (cd m) i))],[.own 2 (fdR 5 (fil (bL m) i))],[.own 2 (fdR 6 (fil (aT m) i))]]),(7,.ref (.r 10112) 0 (fil (aF m) i).length),(10112,.blk 4 (fcR m (fil (aF m) i))),(8,.int .i64 i),(9,.adr (.r 10144) 0 0),(10144,.blk 4 [br (fce m i)]),(10,.bool (jZ (shP m i) (fil (aF m) i) k)),(11,.bool (jZ (ovP m i) (fil (aF m) i) k)),(12,.int .i64 k)]:=zR
def Lu (m : Msh) (i : Nat) : Env:=[(1,.ptr (aW m)),(3,.ref (.r 10048) 0 7),(10048,.blk 1 [[.own 2 []],[.own 2 (fdR 1 (fil (cP m) i))],[.own 2 (fdR 2 (fil (bM m) i))],[.own 2 []],[.own 2 []],[.own 2 []],[.own 2 []]]),(4,.int .i64 i)]
theorem jJ (m : Msh) (i : Nat) : Lu m i=[(1,.ptr (aW m)),(3,.ref (.r 10048) 0 7),(10048,.blk 1 [[.own 2 []],[.own 2 (fdR 1 (fil (cP m) i))],[.own 2 (fdR 2 (fil (bM m) i))],[.own 2 []],[.own 2 []],[.own 2 []],[.own 2 []]]),(4,.int .i64 i)]:=zR
def Lv (m : Msh) (i k : Nat) : Env:=[(1,.ptr (aW m)),(3,.ref (.r 10048) 0 7),(10048,.blk 1 [[.own 2 []],[.own 2 (fdR 1 (fil (cP m) i))],[.own 2 (fdR 2 (fil (bM m) i))],[.own 2 []],[.own 2 []],[.own 2 []],[.own 2 []]]),(4,.int .i64 i),(5,.adr (.r 10080) 0 0),(10080,.blk 3 [eN (spt m i)]),(6,.int .i64 k)]
theorem lN (m : Msh) (i k : Nat) : Lv m i k=[(1,.ptr (aW m)),(3,.ref (.r 10048) 0 7),(10048,.blk 1 [[.own 2 []],[.own 2 (fdR 1 (fil (cP m) i))],[.own 2 (fdR 2 (fil (bM m) i))],[.own 2 []],[.own 2 []],[.own 2 []],[.own 2 []]]),(4,.int .i64 i),(5,.adr (.r 10080) 0 0),(10080,.blk 3 [eN (spt m i)]),(6,.int .i64 k)]:=zR
def Lw (m : Msh) (i : Nat) : Env:=[(1,.ptr (aW m)),(3,.ref (.r 10048) 0 7),(10048,.blk 1 [[.own 2 []],[.own 2 (fdR 1 (fil (cP m) m.s.length))],[.own 2 (fdR 2 (fil (bM m) m.s.length))],[.own 2 (fdR 3 (fil (dh m) i))],[.own 2 (fdR 4 (fil (cd m) i))],[.own 2 (fdR 5 (fil (bL m) i))],[.own 2 (fdR 6 (fil (aT m) i))]]),(7,.ref (.r 10112) 0 (fil (aF m) i).length),(10112,.blk 4 (fcR m (fil (aF m) i))),(8,.int .i64 i)]
theorem fu (m : Msh) (i : Nat) : Lw m i=[(1,.ptr (aW m)),(3,.ref (.r 10048) 0 7),(10048,.blk 1 [[.own 2 []],[.own 2 (fdR 1 (fil (cP m) m.s.length))],[.own 2 (fdR 2 (fil (bM m) m.s.length))],[.own 2 (fdR 3 (fil (dh m) i))],[.own 2 (fdR 4 (fil (cd m) i))],[.own 2 (fdR 5 (fil (bL m) i))],[.own 2 (fdR 6 (fil (aT m) i))]]),(7,.ref (.r 10112) 0 (fil (aF m) i).length),(10112,.blk 4 (fcR m (fil (aF m) i))),(8,.int .i64 i)]:=zR
variable {C : CC} (hC : ay prog C)
include hC
set_option maxRecDepth 4000 in
set_option maxHeartbeats 4000000 in
theorem vO (m : Msh) (hs : m.s.length <= 100) (hf : m.f.length <= 100) : C 258 [.agg (aW m)] (.sl ((co fB 0 (LL m)).map fnD)) []:=by
 have kr:=fun s=>sB hC s
 have kd:=fun n h=>CV hC n h
 have kp:=fun s=>jI hC s
 refine aw hC (nf:=N258) rfl rfl ?_
 simp [N258,ab]
 refine av Nat (fun i=>Lu m i) (fun i=>i <= m.s.length) (fun i=>m.s.length - i) 0 (by simp) (by simp [jJ,ab,js,List.replicate]) ?_
 rintro i hi
 simp [jJ,ab]
 refine aj (fun g1=>?_) (fun g1=>?_) <;> simp at g1 <;> simp [g1]
 ·have hw : IntKind.wrap .i64 ((i : Int) + 1)=((i + 1 : Nat) : Int):=af (by omega) (by omega)
  have kri:=kr (spt m i)
  simp only [bZ] at kri
  have kdi:=kd i (by omega)
  have l1:=aO (cP m) i
  have l2:=aO (bM m) i
  simp [bZ]
  refine aa kri (.inl rfl) ?_
  simp
  cases hr1 : aX (spt m i)
  ·have e1:=f9 (p:=cP m) (n:=i) (k:=1) (by simp [cP,hr1])
   have e2:=dY (p:=bM m) (n:=i) (k:=2) (by simp [bM,hr1])
   simp
   refine aa kdi (.inl rfl) ?_
   simp
   simp only [fB] at e1
   refine ⟨by omega,ai (by decide +kernel),i + 1,by omega,by omega,?_⟩
   simp [jJ,ab,hw,e1,<- e2]
  ·have e0:=dY (p:=cP m) (n:=i) (k:=1) (by simp [cP,hr1])
   have hsame : bM m i=(List.range i).any fun k=>aX (spt m k) && decide (fH m k=fH m i):=by rw [bM,hr1,x1J]
   simp
   refine av Nat (fun k=>Lv m i k) (fun k=>k <= i /\ ∀ j,j < k -> aX (spt m j)=true -> ¬ fH m j=fH m i) (fun k=>i - k) 0 (by simp) (by simp [lN,ab,bZ]) ?_
   rintro k ⟨hk,hK⟩
   simp [lN,ab,bZ]
   refine aj (fun g2=>?_) (fun g2=>?_) <;> simp at g2 <;> simp [g2]
   ·have hw2 : IntKind.wrap .i64 ((k : Int) + 1)=((k + 1 : Nat) : Int):=af (by omega) (by omega)
    have krk:=kr (spt m k)
    have kpk:=kp (spt m k)
    have kpi:=kp (spt m i)
    simp only [bZ,ptD] at krk kpk kpi
    have hks : k < m.s.length:=by omega
    simp [hks,bZ]
    refine aa krk (.inl rfl) ?_
    simp
    have next : (aX (spt m k)=true -> ¬ fH m k=fH m i) -> ∀ j,j < k + 1 -> aX (spt m j)=true -> ¬ fH m j=fH m i:=fun h j hj=>by
     rcases x0C.1 hj with h2 | rfl
     ·exact hK j h2
     ·exact h
    cases hr2 : aX (spt m k)
    ·simp
     refine ⟨ai (by decide +kernel),?_⟩
     refine ⟨k + 1,⟨by omega,next (by rw [hr2];simp)⟩,by omega,?_⟩
     simp [lN,ab,bZ,hw2]
    ·simp [hks,bZ]
     refine aa kpk (.inl rfl) ?_
     simp
     refine aa kpi (.inl rfl) ?_
     simp
     refine ⟨ai (by decide +kernel),?_⟩
     by_cases hp : fH m k=fH m i
     ·have hs1 : bM m i=true:=by
       rw [hsame,x0x]
       exact ⟨k,x0H.2 g2,by simp [hr2,hp]⟩
      have e2:=f9 (p:=bM m) (n:=i) (k:=2) hs1
      simp only [fB] at e2
      have hp1 : (ptS (spt m k)).1=(ptS (spt m i)).1:=congrArg Prod.fst hp
      have hp2 : (ptS (spt m k)).2=(ptS (spt m i)).2:=congrArg Prod.snd hp
      simp [hp1,hp2]
      refine aa kdi (.inl rfl) ?_
      simp
      refine ⟨by omega,ai (by decide +kernel),i + 1,by omega,by omega,?_⟩
      simp [jJ,ab,hw,<- e0,e2]
     ·have hp1 : ¬ ((ptS (spt m k)).1=(ptS (spt m i)).1 /\ (ptS (spt m k)).2=(ptS (spt m i)).2):=fun h=>hp (Prod.ext h.1 h.2)
      have hp2 : (decide ((ptS (spt m k)).1=(ptS (spt m i)).1) && decide ((ptS (spt m k)).2=(ptS (spt m i)).2))=false:=by
       rw [Bool.eq_false_iff];simpa using hp1
      simp [hp2]
      refine ⟨k + 1,⟨by omega,next (fun _=>hp)⟩,by omega,?_⟩
      simp [lN,ab,bZ,hw2]
   ·have hk2 : k=i:=by omega
    subst hk2
    have hs1 : bM m k=false:=by
     rw [hsame,x1I]
     intro j hj
     have:=hK j (x0H.1 hj)
     simpa using this
    have e2:=dY (p:=bM m) (n:=k) (k:=2) hs1
    refine ⟨k + 1,by omega,by omega,?_⟩
    simp [jJ,ab,hw,<- e0,<- e2]
 ·have hi2 : i=m.s.length:=by omega
  subst hi2
  clear kr kp
  have kc:=fun f=>CX hC m f (by omega)
  refine av Nat (fun i=>Lw m i) (fun i=>i <= m.f.length) (fun i=>m.f.length - i) 0 (by simp) (by simp [fu,ab,js]) ?_
  clear hi g1
  rintro i hi
  simp [fu,ab]
  refine aj (fun g1=>?_) (fun g1=>?_) <;> simp at g1 <;> simp [g1]
  ·have hw : IntKind.wrap .i64 ((i : Int) + 1)=((i + 1 : Nat) : Int):=af (by omega) (by omega)
   have kci:=kc (fce m i)
   have kdi:=kd i (by omega)
   simp only [ab,aI] at kci
   have l3:=aO (dh m) i
   have l4:=aO (cd m) i
   have l5:=aO (bL m) i
   have l6:=aO (aT m) i
   simp [aI]
   refine aa kci (.inl rfl) ?_
   simp
   cases ok : okF m (fce m i)
   ·have hsn : aF m i=false:=by simp [aF,ok]
    have e1:=f9 (p:=dh m) (n:=i) (k:=3) (by simp [dh,ok])
    have e2:=dY (p:=cd m) (n:=i) (k:=4) (by simp [cd,ok])
    have e3:=dY (p:=bL m) (n:=i) (k:=5) (by simp [bL,hsn])
    have e4:=dY (p:=aT m) (n:=i) (k:=6) (by simp [aT,hsn])
    have e5:=j9 hsn
    simp only [fB] at e1
    simp
    refine aa kdi (.inl rfl) ?_
    simp
    refine ⟨by omega,ai (by decide +kernel),i + 1,by omega,by omega,?_⟩
    simp [fu,ab,hw,e1,<- e2,<- e3,<- e4,e5]
   ·have hT:=cB ok
    have kt:=yC hC m (fce m i) (iC ok) hT
    simp only [ab,aI] at kt
    have e1:=dY (p:=dh m) (n:=i) (k:=3) (by simp [dh,ok])
    simp
    refine aa kt (.inl rfl) ?_
    simp
    refine aj (fun d1=>?_) (fun d1=>?_) <;> simp at d1 <;> simp [d1]
    ·have hfl : cd m i=true:=by simp [cd,ok,d1]
     have hsn : aF m i=false:=by simp [aF,ok];omega
     have e2:=f9 (k:=4) hfl
     have e3:=dY (p:=bL m) (n:=i) (k:=5) (by simp [bL,hsn])
     have e4:=dY (p:=aT m) (n:=i) (k:=6) (by simp [aT,hsn])
     have e5:=j9 hsn
     simp only [fB] at e2
     refine aa kdi (.inl rfl) ?_
     simp
     refine ⟨by omega,ai (by decide +kernel),i + 1,by omega,by omega,?_⟩
     simp [fu,ab,hw,<- e1,e2,<- e3,<- e4,e5]
    ·have hfl : cd m i=false:=by simp [cd,ok];omega
     have hsn : aF m i=true:=by simp [aF,ok,d1]
     have e2:=dY (k:=4) hfl
     have lsn:=aO (aF m) i
     have hsd:=tS hsn
     have hov:=tL hsn
     refine av Nat (fun k=>Lx m i k) (fun k=>k <= (fil (aF m) i).length) (fun k=>(fil (aF m) i).length - k) 0 (by simp) (by simp [iD,ab,aI,s8]) ?_
     rintro k hk
     simp [iD,ab,aI]
     refine aj (fun g2=>?_) (fun g2=>?_) <;> simp at g2 <;> simp [g2]
     ·have hw2 : IntKind.wrap .i64 ((k : Int) + 1)=((k + 1 : Nat) : Int):=af (by omega) (by omega)
      have hq:=(dK (x0u g2)).2
      simp only [aF,x0a] at hq
      have ks:=yA hC (fce m i) (fce m (fil (aF m) i)[k])
      have ko:=rF hC m (fce m i) (fce m (fil (aF m) i)[k]) (iC ok) hT (iC hq.1) (cB hq.1)
      have a1:=nC (shP m i) g2
      have a2:=nC (ovP m i) g2
      rw [show shP m i (fil (aF m) i)[k]=gl (fce m i) (fce m (fil (aF m) i)[k]) from rfl] at a1
      rw [show ovP m i (fil (aF m) i)[k]=ovT (aR m (fce m i)) (aR m (fce m (fil (aF m) i)[k])) from rfl] at a2
      simp only [ab,aI] at ks ko
      cases h1 : jZ (shP m i) (fil (aF m) i) k <;> cases h2 : jZ (ovP m i) (fil (aF m) i) k <;> rw [h1] at a1 <;> rw [h2] at a2 <;> simp at a1 a2
      ·simp [gP,g2,aI]
       refine aa ks (.inl rfl) ?_
       simp
       refine ⟨ai (by decide +kernel),?_⟩
       simp [gP,g2,aI]
       refine aa ko (.inl rfl) ?_
       simp
       refine ⟨ai (by decide +kernel),?_⟩
       refine ⟨k + 1,by omega,by omega,?_⟩
       simp [iD,ab,aI,hw2,a1,a2,gP]
      ·simp [gP,g2,aI]
       refine aa ks (.inl rfl) ?_
       simp
       refine ⟨ai (by decide +kernel),ai (by decide +kernel),?_⟩
       refine ⟨k + 1,by omega,by omega,?_⟩
       simp [iD,ab,aI,hw2,a1,a2,gP]
      ·simp
       refine ⟨ai (by decide +kernel),?_⟩
       simp [gP,g2,aI]
       refine aa ko (.inl rfl) ?_
       simp
       refine ⟨ai (by decide +kernel),?_⟩
       refine ⟨k + 1,by omega,by omega,?_⟩
       simp [iD,ab,aI,hw2,a1,a2,gP]
      ·simp
       refine ⟨ai (by decide +kernel),ai (by decide +kernel),?_⟩
       refine ⟨k + 1,by omega,by omega,?_⟩
       simp [iD,ab,aI,hw2,a1,a2,gP]
     ·have hk2 : k=(fil (aF m) i).length:=by omega
      subst hk2
      rw [pj,pj,<- hsd,<- hov]
      have e5:=xN hsn
      have e8 : (fil (aF m) (i + 1)).length=(fil (aF m) i).length + 1:=by rw [cv hsn];simp
      simp only [aI] at e5
      cases h1 : bL m i
      ·have e3:=dY (k:=5) h1
       simp
       cases h2 : aT m i
       ·have e4:=dY (k:=6) h2
        simp
        refine ⟨by omega,i + 1,by omega,by omega,?_⟩
        simp [fu,ab,hw,<- e1,<- e2,<- e3,<- e4,e5,e8]
       ·have e4:=f9 (k:=6) h2
        simp only [fB] at e4
        simp
        refine aa kdi (.inl rfl) ?_
        simp
        refine ⟨by omega,ai (by decide +kernel),?_⟩
        refine ⟨by omega,i + 1,by omega,by omega,?_⟩
        simp [fu,ab,hw,<- e1,<- e2,<- e3,e4,e5,e8]
      ·have e3:=f9 (k:=5) h1
       simp only [fB] at e3
       simp
       refine aa kdi (.inl rfl) ?_
       simp
       refine ⟨by omega,ai (by decide +kernel),?_⟩
       cases h2 : aT m i
       ·have e4:=dY (k:=6) h2
        simp
        refine ⟨by omega,i + 1,by omega,by omega,?_⟩
        simp [fu,ab,hw,<- e1,<- e2,e3,<- e4,e5,e8]
       ·have e4:=f9 (k:=6) h2
        simp only [fB] at e4
        simp
        refine aa kdi (.inl rfl) ?_
        simp
        refine ⟨by omega,ai (by decide +kernel),?_⟩
        refine ⟨by omega,i + 1,by omega,by omega,?_⟩
        simp [fu,ab,hw,<- e1,<- e2,e3,e4,e5,e8]
  ·have hi2 : i=m.f.length:=by omega
   subst hi2
   have bd : ∀ (p : Nat -> Bool) (n : Nat),n <= 100 -> (fil p n).length <= 100:=fun p n hn=>by have:=aO p n;omega
   have q1:=bd (cP m) _ hs
   have q2:=bd (bM m) _ hs
   have q3:=bd (dh m) _ hf
   have q4:=bd (cd m) _ hf
   have q5:=bd (bL m) _ hf
   have q6:=bd (aT m) _ hf
   have hLL : LL m=[[],fil (cP m) m.s.length,fil (bM m) m.s.length,fil (dh m) m.f.length,fil (cd m) m.f.length,fil (bL m) m.f.length,fil (aT m) m.f.length]:=rfl
   rw [hLL]
   clear hLL bd
   generalize fil (cP m) m.s.length=L1 at *
   generalize fil (bM m) m.s.length=L2 at *
   generalize fil (dh m) m.f.length=L3 at *
   generalize fil (cd m) m.f.length=L4 at *
   generalize fil (bL m) m.f.length=L5 at *
   generalize fil (aT m) m.f.length=L6 at *
   obtain ⟨BK,hBK⟩ : ∃ x : D,x=.blk 1 [[.own 2 []],[.own 2 (fdR 1 L1)],[.own 2 (fdR 2 L2)],[.own 2 (fdR 3 L3)],[.own 2 (fdR 4 L4)],[.own 2 (fdR 5 L5)],[.own 2 (fdR 6 L6)]]:=⟨_,rfl⟩
   obtain ⟨U,hU⟩ : ∃ U : Nat -> List (Int × List UInt8),U=fun k=>co fB 0 (([([] : List Nat),L1,L2,L3,L4,L5,L6]).take k):=⟨_,rfl⟩
   have hU7 : U 7=co fB 0 [[],L1,L2,L3,L4,L5,L6]:=by rw [hU];rfl
   have hU0 : U 0=[]:=by rw [hU];rfl
   have hU0s : U 1=U 0++fdL 0 ([] : List Nat):=by
    rw [hU];show co fB 0 (([([] : List Nat),L1,L2,L3,L4,L5,L6]).take 0++[([] : List Nat)])=_
    rw [cp];simp [co,fdL]
   have hU1s : U 2=U 1++fdL 1 L1:=by
    rw [hU];show co fB 0 (([([] : List Nat),L1,L2,L3,L4,L5,L6]).take 1++[L1])=_
    rw [cp];simp [co,fdL]
   have hU2s : U 3=U 2++fdL 2 L2:=by
    rw [hU];show co fB 0 (([([] : List Nat),L1,L2,L3,L4,L5,L6]).take 2++[L2])=_
    rw [cp];simp [co,fdL]
   have hU3s : U 4=U 3++fdL 3 L3:=by
    rw [hU];show co fB 0 (([([] : List Nat),L1,L2,L3,L4,L5,L6]).take 3++[L3])=_
    rw [cp];simp [co,fdL]
   have hU4s : U 5=U 4++fdL 4 L4:=by
    rw [hU];show co fB 0 (([([] : List Nat),L1,L2,L3,L4,L5,L6]).take 4++[L4])=_
    rw [cp];simp [co,fdL]
   have hU5s : U 6=U 5++fdL 5 L5:=by
    rw [hU];show co fB 0 (([([] : List Nat),L1,L2,L3,L4,L5,L6]).take 5++[L5])=_
    rw [cp];simp [co,fdL]
   have hU6s : U 7=U 6++fdL 6 L6:=by
    rw [hU];show co fB 0 (([([] : List Nat),L1,L2,L3,L4,L5,L6]).take 6++[L6])=_
    rw [cp];simp [co,fdL]
   have lU0 : (U 0).length <= 0:=by rw [hU0];simp
   have lU1 : (U 1).length <= 100:=by rw [hU0s];simp;omega
   have lU2 : (U 2).length <= 200:=by rw [hU1s];simp;omega
   have lU3 : (U 3).length <= 300:=by rw [hU2s];simp;omega
   have lU4 : (U 4).length <= 400:=by rw [hU3s];simp;omega
   have lU5 : (U 5).length <= 500:=by rw [hU4s];simp;omega
   have lU6 : (U 6).length <= 600:=by rw [hU5s];simp;omega
   rw [<- hU7]
   refine av Nat (fun k=>[(3,.ref (.r 10048) 0 7),(10048,BK),(13,.ref (.r 10208) 0 (U k).length),(10208,.blk 2 (fnR (U k))),(14,.int .i64 k)]) (fun k=>k <= 7) (fun k=>7 - k) 0 (by simp) (by simp [hU0,hBK]) ?_
   rintro k hk
   rcases (by omega : k=0 \/ k=1 \/ k=2 \/ k=3 \/ k=4 \/ k=5 \/ k=6 \/ k=7) with rfl | rfl | rfl | rfl | rfl | rfl | rfl | rfl
   ·have e : fnR (U 0)++fdR 0 ([] : List Nat)=fnR (U 1):=by rw [hU0s];simp [fnR,fdR]
    have e' : (U 1).length=(U 0).length + (([] : List Nat)).length:=by rw [hU0s];simp
    simp [hBK]
    refine ⟨by omega,1,by omega,by omega,?_,?_,by decide⟩
    ·simpa using e'.symm
    ·simpa using e
   ·have e : fnR (U 1)++fdR 1 L1=fnR (U 2):=by rw [hU1s];simp [fnR,fdR]
    have e' : (U 2).length=(U 1).length + (L1).length:=by rw [hU1s];simp
    simp [hBK]
    refine ⟨by omega,2,by omega,by omega,?_,?_,by decide⟩
    ·simpa using e'.symm
    ·simpa using e
   ·have e : fnR (U 2)++fdR 2 L2=fnR (U 3):=by rw [hU2s];simp [fnR,fdR]
    have e' : (U 3).length=(U 2).length + (L2).length:=by rw [hU2s];simp
    simp [hBK]
    refine ⟨by omega,3,by omega,by omega,?_,?_,by decide⟩
    ·simpa using e'.symm
    ·simpa using e
   ·have e : fnR (U 3)++fdR 3 L3=fnR (U 4):=by rw [hU3s];simp [fnR,fdR]
    have e' : (U 4).length=(U 3).length + (L3).length:=by rw [hU3s];simp
    simp [hBK]
    refine ⟨by omega,4,by omega,by omega,?_,?_,by decide⟩
    ·simpa using e'.symm
    ·simpa using e
   ·have e : fnR (U 4)++fdR 4 L4=fnR (U 5):=by rw [hU4s];simp [fnR,fdR]
    have e' : (U 5).length=(U 4).length + (L4).length:=by rw [hU4s];simp
    simp [hBK]
    refine ⟨by omega,5,by omega,by omega,?_,?_,by decide⟩
    ·simpa using e'.symm
    ·simpa using e
   ·have e : fnR (U 5)++fdR 5 L5=fnR (U 6):=by rw [hU5s];simp [fnR,fdR]
    have e' : (U 6).length=(U 5).length + (L5).length:=by rw [hU5s];simp
    simp [hBK]
    refine ⟨by omega,6,by omega,by omega,?_,?_,by decide⟩
    ·simpa using e'.symm
    ·simpa using e
   ·have e : fnR (U 6)++fdR 6 L6=fnR (U 7):=by rw [hU6s];simp [fnR,fdR]
    have e' : (U 7).length=(U 6).length + (L6).length:=by rw [hU6s];simp
    simp [hBK]
    refine ⟨by omega,7,by omega,by omega,?_,?_,by decide⟩
    ·simpa using e'.symm
    ·simpa using e
   ·simp [hBK]
    rfl
end Go.Gv

namespace Go.Gv
open Go.Lib
theorem mz (a : Nat) (ha : a < 18446744073709551616) : bits .and .u64 (a : Int) 4294967295=((a % 4294967296 : Nat) : Int):=by
 have h:=bits_and_u64_nat a 4294967295 ha (by omega)
 have e : a &&& 4294967295=a % 4294967296:=Nat.and_two_pow_sub_one_eq_mod a 32
 rw [e] at h
 exact h
theorem LO (a k : Nat) : Int.fdiv (a : Int) (2 ^ k)=((a / 2 ^ k : Nat) : Int):=by
 rw [Int.fdiv_eq_ediv_of_nonneg _ (by exact Int.pow_nonneg (by omega))]
 norm_cast
theorem sH (a : Nat) : Int.fdiv (a : Int) (2 ^ min 32 IntKind.u64.bits)=((a / 4294967296 : Nat) : Int):=LO a 32
theorem Ku (a b : Nat) : (a : Int) * (b : Int)=((a * b : Nat) : Int):=(Int.natCast_mul a b).symm
theorem s6 (a b : Nat) : (a : Int) + (b : Int)=((a + b : Nat) : Int):=(Int.natCast_add a b).symm
theorem dg (a : Nat) (ha : a < 18446744073709551616) : IntKind.u64.wrap (a : Int)=(a : Int):=by
 have e1 : IntKind.u64.signed=false:=rfl
 have e3 : (2 ^ IntKind.u64.bits : Int)=18446744073709551616:=rfl
 unfold IntKind.wrap
 simp only [e1,e3,Bool.false_and]
 simp
 omega
theorem A5 (a : Nat) : IntKind.u64.wrap (a : Int)=((a % 18446744073709551616 : Nat) : Int):=by
 have e1 : IntKind.u64.signed=false:=rfl
 have e3 : (2 ^ IntKind.u64.bits : Int)=18446744073709551616:=rfl
 unfold IntKind.wrap
 simp only [e1,e3,Bool.false_and]
 simp
variable {C : CC} (hC : ay prog C)
include hC
theorem rV (x y : Nat) (hx : x < 18446744073709551616) (hy : y < 18446744073709551616) : C 91 [.int .u64 x,.int .u64 y] (.tup [.int .u64 ((x * y / 18446744073709551616 : Nat) : Int),.int .u64 ((x * y % 18446744073709551616 : Nat) : Int)]) []:=by
 refine aw hC (nf:=N91) rfl rfl ?_
 obtain ⟨bd,bt,bw,hhi⟩:=Lib.mul64_hi x y hx hy
 have ba:=Lib.half_mul_le (a:=x / 4294967296) (b:=y / 4294967296) (by omega) (by omega)
 have bb:=Lib.half_mul_le (a:=x / 4294967296) (b:=y % 4294967296) (by omega) (by omega)
 have bc:=Lib.half_mul_le (a:=x % 4294967296) (b:=y / 4294967296) (by omega) (by omega)
 have ba' : x / 4294967296 * (y / 4294967296) < 18446744073709551616:=by omega
 have bb' : x / 4294967296 * (y % 4294967296) < 18446744073709551616:=by omega
 have bc' : x % 4294967296 * (y / 4294967296) < 18446744073709551616:=by omega
 have bh1 : x / 4294967296 * (y / 4294967296) + (x / 4294967296 * (y % 4294967296) + x % 4294967296 * (y % 4294967296) / 4294967296) / 4294967296 < 18446744073709551616:=by omega
 have bh : x / 4294967296 * (y / 4294967296) + (x / 4294967296 * (y % 4294967296) + x % 4294967296 * (y % 4294967296) / 4294967296) / 4294967296 + ((x / 4294967296 * (y % 4294967296) + x % 4294967296 * (y % 4294967296) / 4294967296) % 4294967296 + x % 4294967296 * (y / 4294967296)) / 4294967296 < 18446744073709551616:=by omega
 simp [N91]
 simp only [mz x hx,mz y hy,sH,Ku,s6,dg _ bd,dg _ bb',dg _ bt,mz _ bt,dg _ bc',dg _ bw,dg _ ba',dg _ bh1,dg _ bh,A5 (x * y)]
 rw [hhi]
 exact ⟨by omega,by omega⟩
end Go.Gv

namespace Go.Gv
variable {C : CC} (hC : ay prog C)
include hC
end Go.Gv

namespace Go.Gv
structure DvI (u d a b q r : Nat) : Prop where
 sum : q * a + r=u
 ge : (u * 4294967296 + d) / (a * 4294967296 + b) <= q
 rlt : r < 4294967296
 qle : q <= 4294967297
section
variable {u d a b q r : Nat}
theorem Dv.mul (h : q * a + r=u) : q * (a * 4294967296 + b) + r * 4294967296=u * 4294967296 + q * b:=by
 subst h
 rw [Nat.mul_add,<- Nat.mul_assoc,x0D]
 omega
theorem Dv.lt (_ : 0 < a) (hu : u < a * 4294967296 + b) (hd : d < 4294967296) : (u * 4294967296 + d) / (a * 4294967296 + b) < 4294967296:=by
 rw [Nat.div_lt_iff_lt_mul (by omega)]
 have : (u + 1) * 4294967296 <= (a * 4294967296 + b) * 4294967296:=x0n _ hu
 omega
theorem DvI.first (ha : 2147483648 <= a) (ha2 : a < 4294967296) (hb : b < 4294967296) (hu : u < a * 4294967296 + b) (hd : d < 4294967296) : DvI u d a b (u / a) (u % a) where
 sum:=by rw [x1y];exact Nat.div_add_mod u a
 rlt:=by have:=Nat.mod_lt u (show 0 < a by omega);omega
 ge:=by
  rw [Nat.le_div_iff_mul_le (by omega)]
  have h:=Nat.div_mul_le_self (u * 4294967296 + d) (a * 4294967296 + b)
  generalize (u * 4294967296 + d) / (a * 4294967296 + b)=Q at *
  rw [Nat.mul_add,<- Nat.mul_assoc] at h
  generalize Q * b=z at *
  generalize Q * a=x at *
  omega
 qle:=by
  have : u / a < 4294967298:=by
   rw [Nat.div_lt_iff_lt_mul (by omega)]
   omega
  omega
theorem DvI.more (h : DvI u d a b q r) (ha : 0 < a) (hu : u < a * 4294967296 + b) (hd : d < 4294967296) (hc : 4294967296 <= q \/ 4294967296 * r + d < q * b) : (u * 4294967296 + d) / (a * 4294967296 + b) + 1 <= q:=by
 rcases hc with hc | hc
 ·have:=Dv.lt (d:=d) ha hu hd
  omega
 ·have h1:=Dv.mul (b:=b) h.sum
  have : (u * 4294967296 + d) / (a * 4294967296 + b) < q:=by
   rw [Nat.div_lt_iff_lt_mul (by omega)]
   generalize q * (a * 4294967296 + b)=z at *
   generalize q * b=x at *
   omega
  omega
theorem DvI.done (h : DvI u d a b q r) (ha : 0 < a) (hc : q * b <= 4294967296 * r + d) : q=(u * 4294967296 + d) / (a * 4294967296 + b):=by
 have h1:=Dv.mul (b:=b) h.sum
 have h2:=h.ge
 have : q <= (u * 4294967296 + d) / (a * 4294967296 + b):=by
  rw [Nat.le_div_iff_mul_le (by omega)]
  generalize q * (a * 4294967296 + b)=z at *
  generalize q * b=x at *
  omega
 omega
theorem DvI.next (h : DvI u d a b q r) (ha : 0 < a) (hu : u < a * 4294967296 + b) (hd : d < 4294967296) (hc : 4294967296 <= q \/ 4294967296 * r + d < q * b) :
  1 <= q /\ (q - 1) * a + (r + a)=u /\ (u * 4294967296 + d) / (a * 4294967296 + b) <= q - 1 /\ q - 1 <= 4294967296:=by
 have h1:=h.more ha hu hd hc
 have h2:=h.qle
 have h3:=h.sum
 generalize (u * 4294967296 + d) / (a * 4294967296 + b)=Q at *
 obtain ⟨q',rfl⟩ : ∃ q',q=q' + 1:=⟨q - 1,by omega⟩
 refine ⟨by omega,?_,by omega,by omega⟩
 rw [x0D] at h3
 simp only [Nat.add_sub_cancel]
 omega
end
end Go.Gv

namespace Go.Gv
theorem Mb (a : Int) : IntKind.u64.wrap a=a % 18446744073709551616:=by
 have e1 : IntKind.u64.signed=false:=rfl
 have e3 : (2 ^ IntKind.u64.bits : Int)=18446744073709551616:=rfl
 unfold IntKind.wrap
 simp only [e1,e3,Bool.false_and]
 simp
theorem orN (a b i : Nat) (hb : b < 2 ^ i) (h : a * 2 ^ i + b < 18446744073709551616) : bits .or .u64 ((a * 2 ^ i : Nat) : Int) (b : Int)=((a * 2 ^ i + b : Nat) : Int):=by
 rw [bits_or_u64_nat _ _ (by omega) (by omega),x1y a,Nat.two_pow_add_eq_or_of_lt hb]
variable {C : CC} (hC : ay prog C)
include hC
end Go.Gv

namespace Go.Gv
def wK (n : Nat) : D:=.agg [.int .u64 ((n / 18446744073709551616 : Nat) : Int),.int .u64 ((n % 18446744073709551616 : Nat) : Int)]
variable {C : CC} (hC : ay prog C)
include hC
end Go.Gv

namespace Go.Gv
open Go.Lib
theorem LM (a k m : Nat) (hm : m=a * 2 ^ k % 18446744073709551616) : IntKind.u64.wrap ((a : Int) * 2 ^ k)=(m : Int):=by
 have e : (a : Int) * 2 ^ k=((a * 2 ^ k : Nat) : Int):=by push_cast;rfl
 rw [e,A5,hm]
theorem LK (a m : Nat) (hm : m=a * 4294967296 % 18446744073709551616) : IntKind.u64.wrap ((a : Int) * 2 ^ min 32 IntKind.u64.bits)=(m : Int):=LM a 32 m hm
theorem uw {n : Int} {m : Nat} (h : n=m \/ n=m + 18446744073709551616 \/ n=m - 18446744073709551616) (hm : m < 18446744073709551616) : IntKind.u64.wrap n=(m : Int):=by
 rw [Mb];omega
end Go.Gv

namespace Go.Gv
open Go.Lib
theorem Sq (a m : Nat) (hm : m=a * 16 % 18446744073709551616) : IntKind.u64.wrap ((a : Int) * 2 ^ min 4 IntKind.u64.bits)=(m : Int):=LM a 4 m hm
theorem LN (a : Nat) : Int.fdiv (a : Int) (2 ^ min 60 IntKind.u64.bits)=((a / 1152921504606846976 : Nat) : Int):=LO a 60
theorem B9 (a : Nat) (ha : a < 18446744073709551616) : bits .and .u64 (a : Int) 1152921504606846975=((a % 1152921504606846976 : Nat) : Int):=by
 have h:=bits_and_u64_nat a 1152921504606846975 ha (by omega)
 have e : a &&& 1152921504606846975=a % 1152921504606846976:=Nat.and_two_pow_sub_one_eq_mod a 60
 rw [e] at h
 exact h
theorem So (a b : Nat) (hb : b < 16) (h : a * 16 + b < 18446744073709551616) : bits .or .u64 ((a * 16 : Nat) : Int) (b : Int)=((a * 16 + b : Nat) : Int):=orN a b 4 hb h
def vC (p : Nat) (neg : Bool) : D:=.agg [.int .u64 ((p / 18446744073709551616 : Nat) : Int),.int .u64 ((p % 18446744073709551616 : Nat) : Int),.bool neg]
def wiD (p : Nat) : D:=.agg [.int .i64 ((p / 1152921504606846976 : Nat) : Int),.int .i64 ((p % 1152921504606846976 : Nat) : Int)]
variable {C : CC} (hC : ay prog C)
include hC
theorem sX (n : Nat) (h : n < 9223372036854775808) : C 112 [.int .i64 n] (.int .u64 (n : Int)) []:=by
 refine aw hC (nf:=N112) rfl rfl ?_
 have h0 : ¬ (n : Int) < 0:=by omega
 simp [N112,h0,dg n (by omega)]
theorem wn (a b : Int) (n : Bool) : C 113 [.int .u64 a,.int .u64 b,.bool n] (.agg [.int .u64 a,.int .u64 b,.bool (n && (!decide (a=0) || !decide (b=0)))]) []:=by
 refine aw hC (nf:=N113) rfl rfl ?_
 simp [N113]
 cases n <;> simp
 by_cases h : a=0 <;> simp [h]
theorem wM (x y : Nat) (hx : x < 9223372036854775808) (hy : y < 9223372036854775808) : C 103 [.int .i64 x,.int .i64 y] (vC (x * y) false) []:=by
 refine aw hC (nf:=N103) rfl rfl ?_
 have h0 : ¬ (x : Int) < 0:=by omega
 have h1 : ¬ (y : Int) < 0:=by omega
 have hm:=rV hC x y (by omega) (by omega)
 rw [vC]
 obtain ⟨zh,hzh⟩ : ∃ zh,zh=x * y / 18446744073709551616:=⟨_,rfl⟩
 obtain ⟨zl,hzl⟩ : ∃ zl,zl=x * y % 18446744073709551616:=⟨_,rfl⟩
 rw [<- hzh,<- hzl] at hm ⊢
 simp [N103]
 refine aa (sX hC x hx) (.inl rfl) ?_
 simp
 refine aa (sX hC y hy) (.inl rfl) ?_
 simp
 refine aa hm (.inl rfl) ?_
 simp [h0,h1]
 refine aa (wn hC zh zl false) (.inl rfl) ?_
 simp
end Go.Gv

namespace Go.Gv
open Go.Lib
variable {C : CC} (hC : ay prog C)
include hC
theorem qv (p : Nat) (h : p < 1329227995784915872903807060280344576) : C 106 [wiD p] (.bool true) []:=by
 obtain ⟨ph,hph⟩ : ∃ z,z=p / 1152921504606846976:=⟨_,rfl⟩
 obtain ⟨pl,hpl⟩ : ∃ z,z=p % 1152921504606846976:=⟨_,rfl⟩
 rw [wiD,<- hph,<- hpl]
 have h1 : (-1152921504606846976 : Int) <= ph:=by omega
 have h2 : (ph : Int) < 1152921504606846976:=by omega
 have h3 : (0 : Int) <= pl:=by omega
 have h4 : (pl : Int) < 1152921504606846976:=by omega
 refine aw hC (nf:=N106) rfl rfl ?_
 simp [N106,h1,h2,h3,h4]
theorem vG (p : Nat) (h : p < 1329227995784915872903807060280344576) : C 105 [vC p false] (.tup [wiD p,.int .i64 0]) []:=by
 obtain ⟨ph,hph⟩ : ∃ z,z=p / 1152921504606846976:=⟨_,rfl⟩
 obtain ⟨pl,hpl⟩ : ∃ z,z=p % 1152921504606846976:=⟨_,rfl⟩
 obtain ⟨zh,hzh⟩ : ∃ z,z=p / 18446744073709551616:=⟨_,rfl⟩
 obtain ⟨zl,hzl⟩ : ∃ z,z=p % 18446744073709551616:=⟨_,rfl⟩
 rw [wiD,vC,<- hph,<- hpl,<- hzh,<- hzl]
 obtain ⟨zt,hzt⟩ : ∃ z,z=zl / 1152921504606846976:=⟨_,rfl⟩
 have h1 : ¬ (72057594037927936 : Int) < zh:=by omega
 have h2 : ¬ (zh : Int)=72057594037927936:=by omega
 have e1:=Sq zh (zh * 16) (by omega)
 have e2:=LN zl
 rw [<- hzt] at e2
 have e3:=So zh zt (by omega) (by omega)
 have e4 : IntKind.i64.wrap ((zh * 16 + zt : Nat) : Int)=(ph : Int):=af (by omega) (by omega)
 have e5:=B9 zl (by omega)
 have e6 : IntKind.i64.wrap ((zl % 1152921504606846976 : Nat) : Int)=(pl : Int):=af (by omega) (by omega)
 refine aw hC (nf:=N105) rfl rfl ?_
 simp [N105,h1,h2,e2,-Int.natCast_mul,-Int.natCast_emod]
 refine ⟨ai (by decide +kernel),?_⟩
 rw [e1,e3,e4,e5,e6]
 simp
end Go.Gv

namespace Go.Gv
theorem yi (p : Nat) : ∃ a b : Int,vC p false=.agg [.int .u64 a,.int .u64 b,.bool false]:=⟨_,_,rfl⟩
theorem rQ (p : Nat) : ∃ a b : Int,wiD p=.agg [.int .i64 a,.int .i64 b]:=⟨_,_,rfl⟩
variable {C : CC} (hC : ay prog C)
include hC
theorem nB (x y : Nat) (hx : x < 9223372036854775808) (hy : y < 9223372036854775808) (h : x * y < 1329227995784915872903807060280344576) : C 99 [.int .i64 x,.int .i64 y] (.tup [wiD (x * y),.int .i64 0]) []:=by
 have k1:=wM hC x y hx hy
 have k2:=vG hC (x * y) h
 obtain ⟨a,b,e1⟩:=yi (x * y)
 obtain ⟨c,d,e2⟩:=rQ (x * y)
 rw [e1] at k1 k2
 rw [e2] at k2 ⊢
 refine aw hC (nf:=N99) rfl rfl ?_
 simp [N99]
 refine aa k1 (.inl rfl) ?_
 simp
 refine aa k2 (.inr rfl) ?_
 simp
end Go.Gv

namespace Go.Gv
def eW (x y : Int) : Int:=if x < y then -1 else if y < x then 1 else 0
theorem tg (p r : Nat) : (if eW ((p / 1152921504606846976 : Nat) : Int) ((r / 1152921504606846976 : Nat) : Int) ≠ 0 then eW ((p / 1152921504606846976 : Nat) : Int) ((r / 1152921504606846976 : Nat) : Int) else eW ((p % 1152921504606846976 : Nat) : Int) ((r % 1152921504606846976 : Nat) : Int))=eW p r:=by
 unfold eW
 have h1:=Nat.div_add_mod p 1152921504606846976
 have h2:=Nat.div_add_mod r 1152921504606846976
 have h3:=Nat.mod_lt p (show 0 < 1152921504606846976 by decide)
 have h4:=Nat.mod_lt r (show 0 < 1152921504606846976 by decide)
 obtain ⟨a,ha⟩ : ∃ a,a=p / 1152921504606846976:=⟨_,rfl⟩
 obtain ⟨b,hb⟩ : ∃ b,b=r / 1152921504606846976:=⟨_,rfl⟩
 obtain ⟨c,hc⟩ : ∃ c,c=p % 1152921504606846976:=⟨_,rfl⟩
 obtain ⟨d,hd⟩ : ∃ d,d=r % 1152921504606846976:=⟨_,rfl⟩
 rw [<- ha,<- hb,<- hc,<- hd]
 rw [<- ha,<- hc] at h1
 rw [<- hb,<- hd] at h2
 rw [<- hc] at h3
 rw [<- hd] at h4
 clear ha hb hc hd
 by_cases e1 : a < b
 ·have : (a : Int) < b:=by omega
  rw [if_pos this,if_pos (by decide),if_pos (by omega)]
 ·by_cases e2 : b < a
  ·have h5 : (b : Int) < a:=by omega
   rw [if_neg (show ¬ (a : Int) < b by omega),if_pos h5,if_pos (by decide),if_neg (by omega),if_pos (by omega)]
  ·have : a=b:=by omega
   subst this
   have z : (if (a : Int) < a then (-1 : Int) else if (a : Int) < a then 1 else 0)=0:=by simp
   rw [z,if_neg (show ¬ (0 : Int) ≠ 0 by decide)]
   by_cases e3 : c < d
   ·rw [if_pos (show (c : Int) < d by omega),if_pos (by omega)]
   ·rw [if_neg (show ¬ (c : Int) < d by omega)]
    by_cases e4 : d < c
    ·rw [if_pos (show (d : Int) < c by omega),if_neg (by omega),if_pos (by omega)]
    ·rw [if_neg (show ¬ (d : Int) < c by omega),if_neg (by omega),if_neg (by omega)]
variable {C : CC} (hC : ay prog C)
include hC
theorem sr (x : Int) : C 299 [.int .i64 x] (.bool false) []:=by
 refine aw hC (nf:=N299) rfl rfl ?_
 simp [N299]
theorem nH (x y : Int) : C 267 [.int .i64 x,.int .i64 y] (.int .i64 (eW x y)) []:=by
 have k1:=sr hC x
 have k2:=sr hC y
 refine aw hC (nf:=N267) rfl rfl ?_
 simp [N267]
 refine aa k1 (.inl rfl) ?_
 simp
 refine aa k2 (.inl rfl) ?_
 simp
 refine aj (fun c1=>?_) (fun c1=>?_) <;> simp at c1 <;> simp [c1]
 ·rw [eW,if_pos c1]
 ·refine aj (fun c2=>?_) (fun c2=>?_) <;> simp at c2 <;> simp [c2]
  ·rw [eW,if_neg (by omega),if_pos c2]
  ·rw [eW,if_neg (by omega),if_neg (by omega)]
theorem xr (a b : Int) : C 266 [.sl [[.int .i64 a],[.int .i64 b]]] (.int .i64 (if a ≠ 0 then a else b)) []:=by
 have w1 : IntKind.wrap .i64 1=1:=by decide
 have w2 : IntKind.wrap .i64 2=2:=by decide
 refine aw hC (nf:=N266) rfl rfl ?_
 simp [N266]
 refine av Nat (fun i=>[(3,.int .i64 0),(6,.sl [[.int .i64 a],[.int .i64 b]]),(7,.int .i64 2),(8,.int .i64 i)]) (fun i=>i <= 2 /\ (1 <= i -> a=0) /\ (2 <= i -> b=0)) (fun i=>2 - i) 0 (by simp) (by simp) ?_
 rintro i ⟨hi,s1,s2⟩
 rcases (by omega : i=0 \/ i=1 \/ i=2) with rfl | rfl | rfl
 ·by_cases h : a=0
  ·simp [h,w1]
   refine ⟨1,?_⟩
   simp [h]
  ·simp [h]
 ·have ha:=s1 (by omega)
  by_cases h : b=0
  ·simp [h,ha,w2]
   refine ⟨2,?_⟩
   simp [h,ha]
  ·simp [h,ha]
 ·simp [s1 (by omega),s2 (by omega)]
theorem GH (p r : Nat) (hp : p < 1329227995784915872903807060280344576) (hr : r < 1329227995784915872903807060280344576) : C 225 [wiD p,wiD r] (.tup [.int .i64 (eW p r),.int .i64 0]) []:=by
 have k1:=qv hC p hp
 have k2:=qv hC r hr
 have k3:=nH hC ((p / 1152921504606846976 : Nat) : Int) ((r / 1152921504606846976 : Nat) : Int)
 have k4:=nH hC ((p % 1152921504606846976 : Nat) : Int) ((r % 1152921504606846976 : Nat) : Int)
 have k5:=xr hC (eW ((p / 1152921504606846976 : Nat) : Int) ((r / 1152921504606846976 : Nat) : Int)) (eW ((p % 1152921504606846976 : Nat) : Int) ((r % 1152921504606846976 : Nat) : Int))
 rw [tg] at k5
 rw [wiD] at k1 k2 ⊢
 rw [wiD]
 obtain ⟨a,ha⟩ : ∃ a : Int,a=((p / 1152921504606846976 : Nat) : Int):=⟨_,rfl⟩
 obtain ⟨b,hb⟩ : ∃ b : Int,b=((r / 1152921504606846976 : Nat) : Int):=⟨_,rfl⟩
 obtain ⟨c,hc⟩ : ∃ c : Int,c=((p % 1152921504606846976 : Nat) : Int):=⟨_,rfl⟩
 obtain ⟨d,hd⟩ : ∃ d : Int,d=((r % 1152921504606846976 : Nat) : Int):=⟨_,rfl⟩
 rw [<- ha,<- hc] at k1 ⊢
 rw [<- hb,<- hd] at k2 ⊢
 rw [<- ha,<- hb] at k3 k5
 rw [<- hc,<- hd] at k4 k5
 refine aw hC (nf:=N225) rfl rfl ?_
 simp [N225]
 refine aa k1 (.inl rfl) ?_
 simp
 refine aa k2 (.inl rfl) ?_
 simp
 refine aa k3 (.inl rfl) ?_
 simp
 refine aa k4 (.inl rfl) ?_
 simp
 refine aa k5 (.inl rfl) ?_
 simp
 exact ai (by decide +kernel)
end Go.Gv

namespace Go.Gv
def Ky (m : Msh) (i : Nat) : Env:=[(1,.ptr (aW m)),(3,.mrf 10224),(10224,.mp 3 2 (iS m i) (kA m i)),(16,slx m.fn (m.f.map br)),(17,.int .i64 m.f.length),(18,.int .i64 i)]
theorem oL (m : Msh) (i : Nat) : Ky m i=[(1,.ptr (aW m)),(3,.mrf 10224),(10224,.mp 3 2 (iS m i) (kA m i)),(16,slx m.fn (m.f.map br)),(17,.int .i64 m.f.length),(18,.int .i64 i)]:=zR
def Kz (m : Msh) (i k : Nat) : Env:=[(1,.ptr (aW m)),(3,.mrf 10224),(10224,.mp 3 2 (sdK (fce m i) k++iS m i) (List.replicate k (.int .i64 i)++kA m i)),(4,.int .i64 i),(5,.adr (.r 10080) 0 0),(10080,.blk 4 [br (fce m i)]),(16,slx m.fn (m.f.map br)),(17,.int .i64 m.f.length),(18,.int .i64 i),(23,.int .i64 k)]
theorem oM (m : Msh) (i k : Nat) : Kz m i k=[(1,.ptr (aW m)),(3,.mrf 10224),(10224,.mp 3 2 (sdK (fce m i) k++iS m i) (List.replicate k (.int .i64 i)++kA m i)),(4,.int .i64 i),(5,.adr (.r 10080) 0 0),(10080,.blk 4 [br (fce m i)]),(16,slx m.fn (m.f.map br)),(17,.int .i64 m.f.length),(18,.int .i64 i),(23,.int .i64 k)]:=zR
def KA (m : Msh) (i : Nat) : Env:=[(3,.mrf 10224),(10224,.mp 3 2 (iS m m.f.length) (kA m m.f.length)),(7,.ref (.r 10112) 0 m.f.length),(10112,.blk 3 (nbR m i 0)),(38,slx m.fn (m.f.map br)),(39,.int .i64 m.f.length),(40,.int .i64 i)]
theorem oN (m : Msh) (i : Nat) : KA m i=[(3,.mrf 10224),(10224,.mp 3 2 (iS m m.f.length) (kA m m.f.length)),(7,.ref (.r 10112) 0 m.f.length),(10112,.blk 3 (nbR m i 0)),(38,slx m.fn (m.f.map br)),(39,.int .i64 m.f.length),(40,.int .i64 i)]:=zR
def KB (m : Msh) (i k : Nat) : Env:=[(3,.mrf 10224),(10224,.mp 3 2 (iS m m.f.length) (kA m m.f.length)),(7,.ref (.r 10112) 0 m.f.length),(10112,.blk 3 (nbR m i k)),(8,.int .i64 i),(9,.adr (.r 10144) 0 0),(10144,.blk 4 [br (fce m i)]),(38,slx m.fn (m.f.map br)),(39,.int .i64 m.f.length),(40,.int .i64 i),(45,.int .i64 k)]
theorem fp (m : Msh) (i k : Nat) : KB m i k=[(3,.mrf 10224),(10224,.mp 3 2 (iS m m.f.length) (kA m m.f.length)),(7,.ref (.r 10112) 0 m.f.length),(10112,.blk 3 (nbR m i k)),(8,.int .i64 i),(9,.adr (.r 10144) 0 0),(10144,.blk 4 [br (fce m i)]),(38,slx m.fn (m.f.map br)),(39,.int .i64 m.f.length),(40,.int .i64 i),(45,.int .i64 k)]:=zR
variable {C : CC} (hC : ay prog C)
include hC
set_option maxHeartbeats 2000000 in
theorem oO (m : Msh) (hv : ap m=true) : C 261 [.agg (aW m)] (.sl (nbA m)) []:=by
 have hsz:=cy hv
 have hml : maxLen=9223372036854775807:=rfl
 refine aw hC (nf:=N261) rfl rfl ?_
 simp [N261,ab]
 refine av Nat (fun i=>Ky m i) (fun i=>i <= m.f.length) (fun i=>m.f.length - i) 0 (by simp) (by simp [oL,ab,iS,kA]) ?_
 rintro i hi
 simp [oL,ab]
 refine aj (fun g1=>?_) (fun g1=>?_) <;> simp at g1 <;> simp [g1]
 ·have hw : IntKind.wrap .i64 ((i : Int) + 1)=((i + 1 : Nat) : Int):=af (by omega) (by omega)
  have cb:=fun j=>qG (dR hv g1) j
  have ks:=fun k h=>oH hC (fce m i) k h
  have nl:=pY m i
  simp only [aI] at ks
  simp [aI]
  refine av Nat (fun k=>Kz m i k) (fun k=>k <= 3) (fun k=>3 - k) 0 (by simp) (by simp [oM,ab,aI,sdK]) ?_
  rintro k hk
  simp [oM,ab,aI]
  refine aj (fun g2=>?_) (fun g2=>?_) <;> simp at g2 <;> simp [g2]
  ·have hw2 : IntKind.wrap .i64 ((k : Int) + 1)=((k + 1 : Nat) : Int):=af (by omega) (by omega)
   have ck:=cb k
   have ck1:=cb (k + 1)
   refine aa (ks k (by omega)) (.inl rfl) ?_
   simp [hw2,jP]
   refine ⟨by omega,⟨⟨by omega,by omega⟩,by omega,by omega⟩,by omega,k + 1,by omega,by omega,?_⟩
   simp [oM,ab,aI,sdK,List.replicate_succ]
  ·have hk3 : k=3:=by omega
   subst hk3
   simp [hw]
   refine ⟨i + 1,by omega,by omega,?_⟩
   simp [oL,ab,iS,kA,List.replicate]
 ·have hi2 : i=m.f.length:=by omega
  subst hi2
  refine ⟨by omega,?_⟩
  refine av Nat (fun i=>KA m i) (fun i=>i <= m.f.length) (fun i=>m.f.length - i) 0 (by simp) (by simp [oN,ab,vA]) ?_
  clear hi g1
  rintro i hi
  simp [oN,ab]
  refine aj (fun g1=>?_) (fun g1=>?_) <;> simp at g1 <;> simp [g1]
  ·have hw : IntKind.wrap .i64 ((i : Int) + 1)=((i + 1 : Nat) : Int):=af (by omega) (by omega)
   have cb:=fun j=>qG (dR hv g1) j
   have ks:=fun k h=>oH hC (fce m i) k h
   simp only [aI] at ks
   simp [aI]
   refine av Nat (fun k=>KB m i k) (fun k=>k <= 3) (fun k=>3 - k) 0 (by simp) (by simp [fp,ab,aI]) ?_
   rintro k hk
   simp [fp,ab,aI]
   refine aj (fun g2=>?_) (fun g2=>?_) <;> simp at g2 <;> simp [g2]
   ·have hw2 : IntKind.wrap .i64 ((k : Int) + 1)=((k + 1 : Nat) : Int):=af (by omega) (by omega)
    have ck:=cb k
    have ck1:=cb (k + 1)
    have hg:=vB m (crn (fce m i) (k + 1)) (crn (fce m i) k) m.f.length
    have hl : nbF m i k=match jz (fun j=>bQ (fce m j) (crn (fce m i) (k + 1)) (crn (fce m i) k)) m.f.length with
     | some j=>(j : Int)
     | none=>-1:=rL hv _ _
    have hset:=ye m g1 (k:=k) (by omega)
    have hget:=yc m (i:=i) (k:=k) g1
    cases hl0 : jz (fun j=>bQ (fce m j) (crn (fce m i) (k + 1)) (crn (fce m i) k)) m.f.length with
    | none =>
     rw [hl0] at hg hl
     simp at hg
     rcases (by omega : k=0 \/ k=1 \/ k=2) with rfl | rfl | rfl
     ·refine aa (ks 0 (by omega)) (.inl rfl) ?_
      simp at ck ck1 hset hget
      simp [hg]
      refine ⟨⟨⟨by omega,by omega⟩,by omega,by omega⟩,g1,?_⟩
      rw [hget]
      simp [hget]
      refine ⟨1,by omega,by omega,?_⟩
      rw [hl] at hset
      simp [fp,ab,aI,hset,az,aD,aE]
     ·refine aa (ks 1 (by omega)) (.inl rfl) ?_
      simp at ck ck1 hset hget
      simp [hg]
      refine ⟨⟨⟨by omega,by omega⟩,by omega,by omega⟩,g1,?_⟩
      rw [hget]
      simp [hget]
      refine ⟨2,by omega,by omega,?_⟩
      rw [hl] at hset
      simp [fp,ab,aI,hset,az,aD,aE]
     ·refine aa (ks 2 (by omega)) (.inl rfl) ?_
      simp at ck ck1 hset hget
      simp [hg]
      refine ⟨⟨⟨by omega,by omega⟩,by omega,by omega⟩,g1,?_⟩
      rw [hget]
      simp [hget]
      refine ⟨3,by omega,by omega,?_⟩
      rw [hl] at hset
      simp [fp,ab,aI,hset,az,aD,aE]
    | some j =>
     rw [hl0] at hg hl
     simp at hg
     rcases (by omega : k=0 \/ k=1 \/ k=2) with rfl | rfl | rfl
     ·refine aa (ks 0 (by omega)) (.inl rfl) ?_
      simp at ck ck1 hset hget
      simp [hg]
      refine ⟨⟨⟨by omega,by omega⟩,by omega,by omega⟩,g1,?_⟩
      rw [hget]
      simp [hget]
      refine ⟨1,by omega,by omega,?_⟩
      rw [hl] at hset
      simp [fp,ab,aI,hset,az,aD,aE]
     ·refine aa (ks 1 (by omega)) (.inl rfl) ?_
      simp at ck ck1 hset hget
      simp [hg]
      refine ⟨⟨⟨by omega,by omega⟩,by omega,by omega⟩,g1,?_⟩
      rw [hget]
      simp [hget]
      refine ⟨2,by omega,by omega,?_⟩
      rw [hl] at hset
      simp [fp,ab,aI,hset,az,aD,aE]
     ·refine aa (ks 2 (by omega)) (.inl rfl) ?_
      simp at ck ck1 hset hget
      simp [hg]
      refine ⟨⟨⟨by omega,by omega⟩,by omega,by omega⟩,g1,?_⟩
      rw [hget]
      simp [hget]
      refine ⟨3,by omega,by omega,?_⟩
      rw [hl] at hset
      simp [fp,ab,aI,hset,az,aD,aE]
   ·have hk3 : k=3:=by omega
    subst hk3
    simp [hw]
    refine ⟨i + 1,by omega,by omega,?_⟩
    simp [oN,ab,vz]
  ·have hi2 : i=m.f.length:=by omega
   subst hi2
   rw [yb]
end Go.Gv

namespace Go.Gv
theorem bx {s : Spt} (h : aX s=true) : -16777216 <= s.x /\ s.x <= 16777216 /\ -16777216 <= s.y /\ s.y <= 16777216 /\ -4194304 <= s.z /\ s.z <= 4194304:=by
 simp only [aX,x0a,x0g] at h
 omega
def spA (m : Msh) (i : Nat) : Spt:=spt m (fce m i).a.toNat
def spB (m : Msh) (i : Nat) : Spt:=spt m (fce m i).b.toNat
def spC (m : Msh) (i : Nat) : Spt:=spt m (fce m i).c.toNat
def bF (m : Msh) (i : Nat) : Int:=(spA m i).z + (spB m i).z + (spC m i).z
def bB (m : Msh) (i : Nat) : Int:=(spA m i).x + (spB m i).x + (spC m i).x
def bC (m : Msh) (i : Nat) : Int:=(spA m i).y + (spB m i).y + (spC m i).y
theorem rM (m : Msh) (i : Nat) : spt m (fce m i).a.toNat=spA m i:=rfl
theorem rN (m : Msh) (i : Nat) : spt m (fce m i).b.toNat=spB m i:=rfl
theorem rO (m : Msh) (i : Nat) : spt m (fce m i).c.toNat=spC m i:=rfl
theorem n9 {m : Msh} (hv : ap m=true) {i : Nat} (hi : i < m.f.length) : aX (spA m i)=true /\ aX (spB m i)=true /\ aX (spC m i)=true:=by
 obtain ⟨⟨_,h1⟩,⟨_,h2⟩,⟨_,h3⟩⟩:=gf (dR hv hi)
 exact ⟨pc hv h1,pc hv h2,pc hv h3⟩
theorem iK {m : Msh} (hv : ap m=true) {i : Nat} (hi : i < m.f.length) : -12582912 <= bF m i /\ bF m i <= 12582912:=by
 obtain ⟨h1,h2,h3⟩:=n9 hv hi
 have:=bx h1
 have:=bx h2
 have:=bx h3
 unfold bF
 omega
theorem j7 {m : Msh} (hv : ap m=true) {i : Nat} (hi : i < m.f.length) : -50331648 <= bB m i /\ bB m i <= 50331648 /\ -50331648 <= bC m i /\ bC m i <= 50331648:=by
 obtain ⟨h1,h2,h3⟩:=n9 hv hi
 have:=bx h1
 have:=bx h2
 have:=bx h3
 unfold bB bC
 omega
def smR (m : Msh) (i : Nat) : List (List D):=(List.range i).map fun j=>[.int .i64 (bF m j)]
def ctR (m : Msh) (i : Nat) : List (List D):=(List.range i).map fun j=>[.int .i64 (bB m j),.int .i64 (bC m j)]
@[simp] theorem QT (m : Msh) (i : Nat) : (smR m i).length=i:=by simp [smR]
@[simp] theorem Mq (m : Msh) (i : Nat) : (ctR m i).length=i:=by simp [ctR]
@[simp] theorem LU (m : Msh) (i : Nat) : List.take i (smR m i)=smR m i:=x0q (by simp)
@[simp] theorem Hu (m : Msh) (i : Nat) : List.take i (ctR m i)=ctR m i:=x0q (by simp)
theorem sI (m : Msh) (i : Nat) : smR m i++[[.int .i64 (bF m i)]]=smR m (i + 1):=by simp [smR,x1e]
theorem xx (m : Msh) (i : Nat) : ctR m i++[[.int .i64 (bB m i),.int .i64 (bC m i)]]=ctR m (i + 1):=by simp [ctR,x1e]
@[simp] theorem QS (m : Msh) (i : Nat) (x : List D) : (∀ e,e ∈ smR m i \/ e=x -> ∀ c,c ∈ e -> aK c=true)=∀ c,c ∈ x -> aK c=true:=by
 apply propext
 constructor
 ·exact fun h=>h x (.inr rfl)
 ·rintro h e (he | rfl)
  ·obtain ⟨j,_,rfl⟩:=x0s.1 he
   simp
  ·exact h
@[simp] theorem Mo (m : Msh) (i : Nat) (x : List D) : (∀ e,e ∈ ctR m i \/ e=x -> ∀ c,c ∈ e -> aK c=true)=∀ c,c ∈ x -> aK c=true:=by
 apply propext
 constructor
 ·exact fun h=>h x (.inr rfl)
 ·rintro h e (he | rfl)
  ·obtain ⟨j,_,rfl⟩:=x0s.1 he
   simp
  ·exact h
def cN (sz : Nat) (es : List (List D)) : D:=match es with
 | []=>.nils
 | e::r=>.own sz (e::r)
@[simp] theorem Hk (sz : Nat) (es : List (List D)) : bq (cN sz es)=slx true es:=by cases es <;> rfl
def grC (m : Msh) : List D:=[.sl (nbA m),slx true (smR m m.f.length),slx true (ctR m m.f.length)]
theorem c9 (m : Msh) : grC m=[.sl (nbA m),slx true (smR m m.f.length),slx true (ctR m m.f.length)]:=zR
def mdE (m : Msh) (i : Nat) : Env:=[(1,.ptr (aW m)),(6,.adr (.r 10352) 0 0),(10352,.blk 3 [[.sl (nbA m),cN 1 (smR m i),cN 2 (ctR m i)]]),(24,slx m.fn (m.f.map br)),(25,.int .i64 m.f.length),(26,.int .i64 i)]
theorem oF (m : Msh) (i : Nat) : mdE m i=[(1,.ptr (aW m)),(6,.adr (.r 10352) 0 0),(10352,.blk 3 [[.sl (nbA m),cN 1 (smR m i),cN 2 (ctR m i)]]),(24,slx m.fn (m.f.map br)),(25,.int .i64 m.f.length),(26,.int .i64 i)]:=zR
theorem zF (m : Msh) (i : Nat) : cN 1 (smR m (i + 1))=.own 1 (smR m (i + 1)):=by
 have : (smR m (i + 1)).length=i + 1:=by simp
 cases h : smR m (i + 1) with
 | nil=>rw [h] at this;simp at this
 | cons e r=>rfl
theorem zE (m : Msh) (i : Nat) : cN 2 (ctR m (i + 1))=.own 2 (ctR m (i + 1)):=by
 have : (ctR m (i + 1)).length=i + 1:=by simp
 cases h : ctR m (i + 1) with
 | nil=>rw [h] at this;simp at this
 | cons e r=>rfl
variable {C : CC} (hC : ay prog C)
include hC
theorem jh (dec : Nat -> List UInt8) (hI : ∀ n : Nat,n < 100 -> C 127 [.int .i64 n] (.str (dec n)) []) (m : Msh) (hz : bV m=true -> m.s.length <= 100 /\ m.f.length <= 100) :
  C 221 [.agg (aW m)] (if ap m then .tup [.sl (nbA m),.int .i64 0] else .tup [.nils,.int .i64 1]) []:=by
 have k:=mw hC dec hI m hz
 refine aw hC (nf:=N221) rfl rfl ?_
 simp only [ab] at k
 simp [N221,ab]
 refine aa k (.inl rfl) ?_
 cases hv : ap m
 ·simp
 ·have k2:=oO hC m hv
  simp only [ab] at k2
  simp
  refine aa k2 (.inr rfl) ?_
  simp
set_option maxRecDepth 8000 in
set_option maxHeartbeats 2000000 in
theorem vr (dec : Nat -> List UInt8) (hI : ∀ n : Nat,n < 100 -> C 127 [.int .i64 n] (.str (dec n)) []) (m : Msh) (hz : bV m=true -> m.s.length <= 100 /\ m.f.length <= 100) :
  C 253 [.agg (aW m)] (if ap m then .tup [.ptr (grC m),.int .i64 0] else .tup [.nilp,.int .i64 1]) []:=by
 have k:=jh hC dec hI m hz
 refine aw hC (nf:=N253) rfl rfl ?_
 simp only [ab] at k
 simp [N253,ab]
 refine aa k (.inr rfl) ?_
 cases hv : ap m
 ·simp
 ·have hsz:=cy hv
  simp
  refine av Nat (fun i=>mdE m i) (fun i=>i <= m.f.length) (fun i=>m.f.length - i) 0 (by simp) (by simp [oF,ab,smR,ctR,cN]) ?_
  rintro i hi
  simp [oF,ab]
  refine aj (fun g1=>?_) (fun g1=>?_) <;> simp at g1 <;> simp [g1]
  ·have hw : IntKind.wrap .i64 ((i : Int) + 1)=((i + 1 : Nat) : Int):=af (by omega) (by omega)
   obtain ⟨⟨a1,a2⟩,⟨b1,b2⟩,⟨c1,c2⟩⟩:=gf (dR hv g1)
   obtain ⟨h1,h2,h3⟩:=n9 hv g1
   have h1:=bx h1
   have h2:=bx h2
   have h3:=bx h3
   have wz1 : IntKind.wrap .i64 ((spA m i).z + (spB m i).z)=(spA m i).z + (spB m i).z:=af rfl (by omega)
   have wz2 : IntKind.wrap .i64 ((spA m i).z + (spB m i).z + (spC m i).z)=bF m i:=af rfl (by unfold bF;omega)
   have wx1 : IntKind.wrap .i64 ((spA m i).x + (spB m i).x)=(spA m i).x + (spB m i).x:=af rfl (by omega)
   have wx2 : IntKind.wrap .i64 ((spA m i).x + (spB m i).x + (spC m i).x)=bB m i:=af rfl (by unfold bB;omega)
   have wy1 : IntKind.wrap .i64 ((spA m i).y + (spB m i).y)=(spA m i).y + (spB m i).y:=af rfl (by omega)
   have wy2 : IntKind.wrap .i64 ((spA m i).y + (spB m i).y + (spC m i).y)=bC m i:=af rfl (by unfold bC;omega)
   simp [aI,a1,a2,b1,b2,c1,c2,bZ,rM,rN,rO]
   refine ⟨ai (by decide +kernel),?_⟩
   cases i with
   | zero =>
    simp [smR,ctR,cN]
    refine ⟨ai (by decide +kernel),ai (by decide +kernel),1,by omega,by omega,?_⟩
    simp [oF,ab,smR,ctR,cN,az,wz1,wz2,wx1,wx2,wy1,wy2]
   | succ j =>
    simp [zF,zE]
    have e1:=sI m (j + 1)
    have e2:=xx m (j + 1)
    refine ⟨by omega,ai (by decide +kernel),by omega,ai (by decide +kernel),j + 1 + 1,by omega,by omega,?_⟩
    simp [oF,ab,zF,zE,wz1,wz2,wx1,wx2,wy1,wy2,e1,e2]
    exact af rfl (by omega)
  ·have hi2 : i=m.f.length:=by omega
   subst hi2
   simp [c9]
end Go.Gv

namespace Go.Gv
theorem fG (m : Msh) (i : Nat) : smR m i=(List.range i).map fun j=>[.int .i64 (bF m j)]:=rfl
theorem Bv (m : Msh) (i : Nat) : ctR m i=(List.range i).map fun j=>[.int .i64 (bB m j),.int .i64 (bC m j)]:=rfl
theorem rn (m : Msh) : nbA m=(List.range m.f.length).map fun j=>[.int .i64 (nbF m j 0),.int .i64 (nbF m j 1),.int .i64 (nbF m j 2)]:=rfl
theorem fU (n i : Nat) (h : i < n) : (List.range n)[i]?.getD default=i:=by simp [h]
theorem mQ (n i : Nat) (h : i < n) : (List.range n)[i]?.getD 0=i:=by simp [h]
theorem oB {α : Type} (p : α -> Bool) (xs : List α) : -1 <= dS p xs /\ dS p xs < xs.length:=by
 unfold dS
 split
 ·rename_i i h
  have:=(x1z.1 h).1
  omega
 ·omega
theorem cm (m : Msh) (i k : Nat) : -1 <= nbF m i k /\ nbF m i k < m.f.length:=oB _ _
def bsd (m : Msh) (i : Nat) (o : Int) : Bool:=decide (o=nbF m i 0) || (decide (o=nbF m i 1) || decide (o=nbF m i 2))
def dF (m : Msh) (i j : Nat) : Int:=bF m i - bF m j
def fS (m : Msh) (i j : Nat) : Int:=dF m i j * (if dF m i j < -dF m i j then -dF m i j else dF m i j)
def gz (m : Msh) (i j : Nat) : Int:=(bB m i - bB m j) * (bB m i - bB m j) + (bC m i - bC m j) * (bC m i - bC m j)
def jk (m : Msh) (i a b : Nat) : Int:=eW (fS m i a * gz m i b) (fS m i b * gz m i a)
def cF (m : Msh) (i : Nat) (best n : Int) : Int:=if n < 0 \/ bF m i <= bF m n.toNat then best else if best < 0 then n else if 0 < jk m i n.toNat best.toNat \/ (jk m i n.toNat best.toNat=0 /\ n < best) then n else best
def upF (m : Msh) (i : Nat) : Nat -> Int
 | 0=>-2
 | k + 1=>cF m i (upF m i k) (nbF m i k)
def cS (m : Msh) (i : Nat) : Int:=if upF m i 3=-2 /\ bsd m i (-1)=true then -1 else upF m i 3
theorem fI (m : Msh) (i : Nat) : ∀ k,upF m i k=-2 \/ (0 <= upF m i k /\ upF m i k < m.f.length /\ bF m (upF m i k).toNat < bF m i)
 | 0=>.inl rfl
 | k + 1=>by
  have:=cm m i k
  rw [upF,cF]
  by_cases h : nbF m i k < 0 \/ bF m i <= bF m (nbF m i k).toNat
  ·rw [if_pos h];exact fI m i k
  ·rw [if_neg h]
   have h1 : 0 <= nbF m i k /\ nbF m i k < m.f.length /\ bF m (nbF m i k).toNat < bF m i:=by omega
   split
   ·exact .inr h1
   ·split
    ·exact .inr h1
    ·exact fI m i k
theorem iB {m : Msh} (hv : ap m=true) {i j : Nat} (hi : i < m.f.length) (hj : j < m.f.length) : -1125899906842624 <= fS m i j /\ fS m i j <= 1125899906842624:=by
 have h1:=iK hv hi
 have h2:=iK hv hj
 unfold fS
 have h3 : -33554432 <= dF m i j /\ dF m i j <= 33554432:=by unfold dF;omega
 exact gh (k:=33554432) (l:=33554432) (by omega) (by omega) (by split <;> omega) (by split <;> omega)
theorem AY (a : Int) : 0 <= a * a:=by
 rcases Int.le_total 0 a with h | h
 ·exact Int.mul_nonneg h h
 ·exact Int.mul_nonneg_of_nonpos_of_nonpos h h
theorem iw {m : Msh} (hv : ap m=true) {i j : Nat} (hi : i < m.f.length) (hj : j < m.f.length) : 0 <= gz m i j /\ gz m i j <= 36028797018963968:=by
 have h1:=j7 hv hi
 have h2:=j7 hv hj
 have h3:=gh (k:=134217728) (l:=134217728) (a:=bB m i - bB m j) (b:=bB m i - bB m j) (by omega) (by omega) (by omega) (by omega)
 have h4:=gh (k:=134217728) (l:=134217728) (a:=bC m i - bC m j) (b:=bC m i - bC m j) (by omega) (by omega) (by omega) (by omega)
 have h5:=AY (bB m i - bB m j)
 have h6:=AY (bC m i - bC m j)
 unfold gz
 omega
theorem lL {m : Msh} {i j : Nat} (h : bF m j <= bF m i) : 0 <= fS m i j:=by
 unfold fS
 have : 0 <= dF m i j:=by unfold dF;omega
 exact Int.mul_nonneg this (by split <;> omega)
variable {C : CC} (hC : ay prog C)
include hC
theorem xV {b : Bool} {xs : List Int} (o : Int) (hs : xs.length < 2 ^ 62) : C 262 [slx b (xs.map fun x=>[.int .i64 x]),.int .i64 o] (.int .i64 (dS (fun x=>decide (o=x)) xs)) []:=by
 refine aw hC (nf:=N262) rfl rfl ?_
 simp [N262]
 refine av Nat (fun i=>[(0,slx b (xs.map fun x=>[.int .i64 x])),(1,.int .i64 o),(7,.int .i64 xs.length),(8,.int .i64 i)]) (fun i=>i <= xs.length /\ ∀ (j : Nat) (h : j < xs.length),j < i -> decide (o=xs[j])=false) (fun i=>xs.length - i) 0 (by simp) (by simp) ?_
 rintro i ⟨hi,hj⟩
 simp
 refine aj (fun h=>?_) (fun h=>?_) <;> simp [h] <;> simp at h
 ·have hw : IntKind.wrap .i64 ((i : Int) + 1)=((i + 1 : Nat) : Int):=af (by omega) (by omega)
  simp [h,x1u]
  refine aj (fun h1=>?_) (fun h1=>?_) <;> simp at h1 <;> simp [hw]
  ·rw [dD hj h (by simpa using h1)]
  ·refine ⟨i + 1,⟨by omega,fun j hl hjj=>?_⟩,by omega,by omega⟩
   rcases x0C.1 hjj with h2 | rfl
   ·simpa using hj j hl h2
   ·exact h1
 ·rw [dC (fun j hl=>hj j hl (by omega))]
theorem so {b : Bool} {xs : List Int} (o : Int) (hs : xs.length < 2 ^ 62) : C 223 [slx b (xs.map fun x=>[.int .i64 x]),.int .i64 o] (.bool (xs.any fun x=>decide (o=x))) []:=by
 refine aw hC (nf:=N223) rfl rfl ?_
 simp [N223]
 refine aa (xV hC o hs) (.inl rfl) ?_
 simp [jw]
theorem uv (m : Msh) (i : Nat) (hi : i < m.f.length) (o : Int) : C 263 [.ptr (grC m),.int .i64 i,.int .i64 o] (.bool (bsd m i o)) []:=by
 have k:=so hC (b:=false) (xs:=[nbF m i 0,nbF m i 1,nbF m i 2]) o (by simp)
 simp at k
 refine aw hC (nf:=N263) rfl rfl ?_
 simp [N263,c9,rn,hi,fU,bT]
 refine aa k (.inl rfl) ?_
 simp [bsd]
set_option maxRecDepth 8000 in
set_option maxHeartbeats 1000000 in
theorem nL (m : Msh) (hv : ap m=true) (i j : Nat) (hi : i < m.f.length) (hj : j < m.f.length) : C 264 [.ptr (grC m),.int .i64 i,.int .i64 j] (.tup [.int .i64 (fS m i j),.int .i64 (gz m i j)]) []:=by
 have h1:=iK hv hi
 have h2:=iK hv hj
 have h3:=j7 hv hi
 have h4:=j7 hv hj
 have h5:=iB hv hi hj
 have h6:=iw hv hi hj
 have h7:=gh (k:=134217728) (l:=134217728) (a:=bB m i - bB m j) (b:=bB m i - bB m j) (by omega) (by omega) (by omega) (by omega)
 have h8:=gh (k:=134217728) (l:=134217728) (a:=bC m i - bC m j) (b:=bC m i - bC m j) (by omega) (by omega) (by omega) (by omega)
 have w1 : IntKind.wrap .i64 (bF m i - bF m j)=dF m i j:=af rfl (by unfold dF;omega)
 have w2 : IntKind.wrap .i64 (bB m i - bB m j)=bB m i - bB m j:=af rfl (by omega)
 have w3 : IntKind.wrap .i64 (bC m i - bC m j)=bC m i - bC m j:=af rfl (by omega)
 have w4 : IntKind.wrap .i64 (-dF m i j)=-dF m i j:=af rfl (by unfold dF;omega)
 have w5 : IntKind.wrap .i64 (dF m i j * (if dF m i j < -dF m i j then -dF m i j else dF m i j))=fS m i j:=af rfl (by omega)
 have w6 : IntKind.wrap .i64 ((bB m i - bB m j) * (bB m i - bB m j))=(bB m i - bB m j) * (bB m i - bB m j):=af rfl (by omega)
 have w7 : IntKind.wrap .i64 ((bC m i - bC m j) * (bC m i - bC m j))=(bC m i - bC m j) * (bC m i - bC m j):=af rfl (by omega)
 have w8 : IntKind.wrap .i64 ((bB m i - bB m j) * (bB m i - bB m j) + (bC m i - bC m j) * (bC m i - bC m j))=gz m i j:=af rfl (by omega)
 refine aw hC (nf:=N264) rfl rfl ?_
 simp [N264,c9,fG,Bv,hi,hj,fU,w1,w2,w3,w4,w6,w7,w8]
 exact ⟨ai (by decide +kernel),ai (by decide +kernel),w5.symm⟩
theorem qW (m : Msh) (hv : ap m=true) (i a b : Nat) (hi : i < m.f.length) (ha : a < m.f.length) (hb : b < m.f.length) (sa : bF m a <= bF m i) (sb : bF m b <= bF m i) :
  C 268 [.ptr (grC m),.int .i64 i,.int .i64 a,.int .i64 b] (.int .i64 (jk m i a b)) []:=by
 have k1:=nL hC m hv i a hi ha
 have k2:=nL hC m hv i b hi hb
 have n1:=iB hv hi ha
 have n2:=iB hv hi hb
 have n3:=lL sa
 have n4:=lL sb
 have d1:=iw hv hi ha
 have d2:=iw hv hi hb
 obtain ⟨x,hx⟩ : ∃ x : Nat,fS m i a=x:=⟨(fS m i a).toNat,by omega⟩
 obtain ⟨y,hy⟩ : ∃ x : Nat,fS m i b=x:=⟨(fS m i b).toNat,by omega⟩
 obtain ⟨p,hp⟩ : ∃ x : Nat,gz m i a=x:=⟨(gz m i a).toNat,by omega⟩
 obtain ⟨q,hq⟩ : ∃ x : Nat,gz m i b=x:=⟨(gz m i b).toNat,by omega⟩
 have b1 : x * q <= 1125899906842624 * 36028797018963968:=Nat.mul_le_mul (by omega) (by omega)
 have b2 : y * p <= 1125899906842624 * 36028797018963968:=Nat.mul_le_mul (by omega) (by omega)
 have k3:=nB hC x q (by omega) (by omega) (by omega)
 have k4:=nB hC y p (by omega) (by omega) (by omega)
 have k5:=GH hC (x * q) (y * p) (by omega) (by omega)
 have e : jk m i a b=eW ((x * q : Nat) : Int) ((y * p : Nat) : Int):=by rw [jk,hx,hy,hp,hq];simp
 rw [hx,hp] at k1
 rw [hy,hq] at k2
 rw [e]
 obtain ⟨c,hc⟩ : ∃ c,c=eW ((x * q : Nat) : Int) ((y * p : Nat) : Int):=⟨_,rfl⟩
 rw [<- hc] at k5 ⊢
 obtain ⟨u1,u2,eu⟩:=rQ (x * q)
 obtain ⟨v1,v2,ev⟩:=rQ (y * p)
 rw [eu] at k3 k5
 rw [ev] at k4 k5
 obtain ⟨G,hG⟩ : ∃ G,G=grC m:=⟨_,rfl⟩
 rw [<- hG] at k1 k2 ⊢
 refine aw hC (nf:=N268) rfl rfl ?_
 simp [N268]
 refine aa k1 (.inl rfl) ?_
 simp
 refine aa k2 (.inl rfl) ?_
 simp
 refine aa k3 (.inr rfl) ?_
 simp
 refine aa k4 (.inr rfl) ?_
 simp
 refine aa k5 (.inl rfl) ?_
 simp
set_option maxRecDepth 8000 in
set_option maxHeartbeats 2000000 in
theorem C2 (m : Msh) (hv : ap m=true) (i : Nat) (hi : i < m.f.length) : C 256 [.ptr (grC m),.int .i64 i] (.int .i64 (cS m i)) []:=by
 have kb:=uv hC m i hi (-1)
 have kc:=fun a b ha hb sa sb=>qW hC m hv i a b hi ha hb sa sb
 refine aw hC (nf:=N256) rfl rfl ?_
 simp [N256,c9,rn,hi,fU]
 refine av Nat (fun k=>[(0,.ptr (grC m)),(1,.int .i64 i),(5,.int .i64 (upF m i k)),(15,.agg [.int .i64 (nbF m i 0),.int .i64 (nbF m i 1),.int .i64 (nbF m i 2)]),(16,.int .i64 k)]) (fun k=>k <= 3) (fun k=>3 - k) 0 (by simp) (by simp [c9,rn,upF]) ?_
 rintro k hk
 rcases (by omega : k=0 \/ k=1 \/ k=2 \/ k=3) with rfl | rfl | rfl | rfl
 ·have step : upF m i 1=cF m i (upF m i 0) (nbF m i 0):=rfl
  have nb:=cm m i 0
  have ub:=fI m i 0
  obtain ⟨N,hN⟩ : ∃ N,N=nbF m i 0:=⟨_,rfl⟩
  obtain ⟨B,hB⟩ : ∃ B,B=upF m i 0:=⟨_,rfl⟩
  rw [<- hN] at step nb
  rw [<- hB] at step ub
  simp [az,aD,aE]
  rw [<- hN,<- hB]
  refine aj (fun c1=>?_) (fun c1=>?_) <;> simp at c1
  ·simp [c1,az,aD,aE]
   refine ⟨ai (by decide +kernel),?_⟩
   refine ⟨1,by omega,by omega,?_,?_⟩
   ·rw [step,cF,if_pos (.inl c1)]
   ·simp
  ·have hNl : N.toNat < m.f.length:=by omega
   simp [x0S.2 c1,c1,c9,fG,hi,hNl,fU,mQ]
   refine ⟨ai (by decide +kernel),?_⟩
   refine aj (fun c2=>?_) (fun c2=>?_) <;> simp at c2
   ·simp [c2,az,aD,aE]
    refine ⟨1,by omega,by omega,rfl,?_,?_⟩
    ·rw [step,cF,if_pos (.inr c2)]
    ·simp
   ·have hno : ¬ (N < 0 \/ bF m i <= bF m N.toNat):=by omega
    simp [x0X.2 c2]
    refine aj (fun c3=>?_) (fun c3=>?_) <;> simp at c3
    ·simp [c3,az,aD,aE]
     refine ⟨1,by omega,by omega,rfl,?_,?_⟩
     ·rw [step,cF,if_neg hno,if_pos c3]
     ·simp
    ·have hc:=kc N.toNat B.toNat hNl (by omega) (by omega) (by omega)
     rw [x0F c1,x0F c3] at hc
     obtain ⟨c,hcc⟩ : ∃ c,c=jk m i N.toNat B.toNat:=⟨_,rfl⟩
     rw [<- hcc] at hc
     have hB0 : ¬ B < 0:=by omega
     simp only [c9,fG] at hc
     simp [x0S.2 c3,c9,fG]
     refine aa hc (.inl rfl) ?_
     simp
     refine aj (fun c4=>?_) (fun c4=>?_) <;> simp at c4
     ·simp [c4,az,aD,aE]
      refine ⟨1,by omega,by omega,rfl,?_,?_⟩
      ·rw [step,cF,if_neg hno,if_neg hB0,if_pos (.inl (by rw [<- hcc];exact c4))]
      ·simp
     ·simp [x0S.2 c4]
      by_cases c5 : c=0
      ·simp [c5]
       by_cases c6 : N < B
       ·simp [c6,az,aD,aE]
        refine ⟨1,by omega,by omega,rfl,?_,?_⟩
        ·rw [step,cF,if_neg hno,if_neg hB0,if_pos (.inr ⟨by rw [<- hcc];exact c5,c6⟩)]
        ·simp
       ·simp [c6,az,aD,aE]
        refine ⟨1,by omega,by omega,rfl,?_,?_⟩
        ·rw [step,cF,if_neg hno,if_neg hB0,if_neg (by rw [<- hcc];omega)]
        ·simp
      ·simp [c5,az,aD,aE]
       refine ⟨1,by omega,by omega,rfl,?_,?_⟩
       ·rw [step,cF,if_neg hno,if_neg hB0,if_neg (by rw [<- hcc];omega)]
       ·simp
 ·have step : upF m i 2=cF m i (upF m i 1) (nbF m i 1):=rfl
  have nb:=cm m i 1
  have ub:=fI m i 1
  obtain ⟨N,hN⟩ : ∃ N,N=nbF m i 1:=⟨_,rfl⟩
  obtain ⟨B,hB⟩ : ∃ B,B=upF m i 1:=⟨_,rfl⟩
  rw [<- hN] at step nb
  rw [<- hB] at step ub
  simp [az,aD,aE]
  rw [<- hN,<- hB]
  refine aj (fun c1=>?_) (fun c1=>?_) <;> simp at c1
  ·simp [c1,az,aD,aE]
   refine ⟨ai (by decide +kernel),?_⟩
   refine ⟨2,by omega,by omega,?_,?_⟩
   ·rw [step,cF,if_pos (.inl c1)]
   ·simp
  ·have hNl : N.toNat < m.f.length:=by omega
   simp [x0S.2 c1,c1,c9,fG,hi,hNl,fU,mQ]
   refine ⟨ai (by decide +kernel),?_⟩
   refine aj (fun c2=>?_) (fun c2=>?_) <;> simp at c2
   ·simp [c2,az,aD,aE]
    refine ⟨2,by omega,by omega,rfl,?_,?_⟩
    ·rw [step,cF,if_pos (.inr c2)]
    ·simp
   ·have hno : ¬ (N < 0 \/ bF m i <= bF m N.toNat):=by omega
    simp [x0X.2 c2]
    refine aj (fun c3=>?_) (fun c3=>?_) <;> simp at c3
    ·simp [c3,az,aD,aE]
     refine ⟨2,by omega,by omega,rfl,?_,?_⟩
     ·rw [step,cF,if_neg hno,if_pos c3]
     ·simp
    ·have hc:=kc N.toNat B.toNat hNl (by omega) (by omega) (by omega)
     rw [x0F c1,x0F c3] at hc
     obtain ⟨c,hcc⟩ : ∃ c,c=jk m i N.toNat B.toNat:=⟨_,rfl⟩
     rw [<- hcc] at hc
     have hB0 : ¬ B < 0:=by omega
     simp only [c9,fG] at hc
     simp [x0S.2 c3,c9,fG]
     refine aa hc (.inl rfl) ?_
     simp
     refine aj (fun c4=>?_) (fun c4=>?_) <;> simp at c4
     ·simp [c4,az,aD,aE]
      refine ⟨2,by omega,by omega,rfl,?_,?_⟩
      ·rw [step,cF,if_neg hno,if_neg hB0,if_pos (.inl (by rw [<- hcc];exact c4))]
      ·simp
     ·simp [x0S.2 c4]
      by_cases c5 : c=0
      ·simp [c5]
       by_cases c6 : N < B
       ·simp [c6,az,aD,aE]
        refine ⟨2,by omega,by omega,rfl,?_,?_⟩
        ·rw [step,cF,if_neg hno,if_neg hB0,if_pos (.inr ⟨by rw [<- hcc];exact c5,c6⟩)]
        ·simp
       ·simp [c6,az,aD,aE]
        refine ⟨2,by omega,by omega,rfl,?_,?_⟩
        ·rw [step,cF,if_neg hno,if_neg hB0,if_neg (by rw [<- hcc];omega)]
        ·simp
      ·simp [c5,az,aD,aE]
       refine ⟨2,by omega,by omega,rfl,?_,?_⟩
       ·rw [step,cF,if_neg hno,if_neg hB0,if_neg (by rw [<- hcc];omega)]
       ·simp
 ·have step : upF m i 3=cF m i (upF m i 2) (nbF m i 2):=rfl
  have nb:=cm m i 2
  have ub:=fI m i 2
  obtain ⟨N,hN⟩ : ∃ N,N=nbF m i 2:=⟨_,rfl⟩
  obtain ⟨B,hB⟩ : ∃ B,B=upF m i 2:=⟨_,rfl⟩
  rw [<- hN] at step nb
  rw [<- hB] at step ub
  simp [az,aD,aE]
  rw [<- hN,<- hB]
  refine aj (fun c1=>?_) (fun c1=>?_) <;> simp at c1
  ·simp [c1,az,aD,aE]
   refine ⟨ai (by decide +kernel),?_⟩
   refine ⟨3,by omega,by omega,?_,?_⟩
   ·rw [step,cF,if_pos (.inl c1)]
   ·simp
  ·have hNl : N.toNat < m.f.length:=by omega
   simp [x0S.2 c1,c1,c9,fG,hi,hNl,fU,mQ]
   refine ⟨ai (by decide +kernel),?_⟩
   refine aj (fun c2=>?_) (fun c2=>?_) <;> simp at c2
   ·simp [c2,az,aD,aE]
    refine ⟨3,by omega,by omega,rfl,?_,?_⟩
    ·rw [step,cF,if_pos (.inr c2)]
    ·simp
   ·have hno : ¬ (N < 0 \/ bF m i <= bF m N.toNat):=by omega
    simp [x0X.2 c2]
    refine aj (fun c3=>?_) (fun c3=>?_) <;> simp at c3
    ·simp [c3,az,aD,aE]
     refine ⟨3,by omega,by omega,rfl,?_,?_⟩
     ·rw [step,cF,if_neg hno,if_pos c3]
     ·simp
    ·have hc:=kc N.toNat B.toNat hNl (by omega) (by omega) (by omega)
     rw [x0F c1,x0F c3] at hc
     obtain ⟨c,hcc⟩ : ∃ c,c=jk m i N.toNat B.toNat:=⟨_,rfl⟩
     rw [<- hcc] at hc
     have hB0 : ¬ B < 0:=by omega
     simp only [c9,fG] at hc
     simp [x0S.2 c3,c9,fG]
     refine aa hc (.inl rfl) ?_
     simp
     refine aj (fun c4=>?_) (fun c4=>?_) <;> simp at c4
     ·simp [c4,az,aD,aE]
      refine ⟨3,by omega,by omega,rfl,?_,?_⟩
      ·rw [step,cF,if_neg hno,if_neg hB0,if_pos (.inl (by rw [<- hcc];exact c4))]
      ·simp
     ·simp [x0S.2 c4]
      by_cases c5 : c=0
      ·simp [c5]
       by_cases c6 : N < B
       ·simp [c6,az,aD,aE]
        refine ⟨3,by omega,by omega,rfl,?_,?_⟩
        ·rw [step,cF,if_neg hno,if_neg hB0,if_pos (.inr ⟨by rw [<- hcc];exact c5,c6⟩)]
        ·simp
       ·simp [c6,az,aD,aE]
        refine ⟨3,by omega,by omega,rfl,?_,?_⟩
        ·rw [step,cF,if_neg hno,if_neg hB0,if_neg (by rw [<- hcc];omega)]
        ·simp
      ·simp [c5,az,aD,aE]
       refine ⟨3,by omega,by omega,rfl,?_,?_⟩
       ·rw [step,cF,if_neg hno,if_neg hB0,if_neg (by rw [<- hcc];omega)]
       ·simp
 ·simp
  by_cases u : upF m i 3=-2
  ·simp [u]
   refine aa kb (.inl rfl) ?_
   cases hb : bsd m i (-1) <;> simp [cS,u,hb]
  ·simp [u,cS]
end Go.Gv

namespace Go.Gv
theorem o4 (m : Msh) (i : Nat) : cS m i=-1 \/ cS m i=-2 \/ (0 <= cS m i /\ cS m i < m.f.length /\ bF m (cS m i).toNat < bF m i):=by
 have:=fI m i 3
 unfold cS
 split
 ·exact .inl rfl
 ·rcases this with h | h
  ·exact .inr (.inl h)
  ·exact .inr (.inr h)
def inR (l : List Int) : List (List D):=l.map fun n=>[.int .i64 n]
theorem eZ (l : List Int) : inR l=l.map fun n=>[.int .i64 n]:=rfl
@[simp] theorem xW (l : List Int) : (inR l).length=l.length:=by simp [inR]
@[simp] theorem gX (l : List Int) : List.take l.length (inR l)=inR l:=x0q (by simp)
@[simp] theorem vh (l : List Int) : List.map (fun e=>List.map bq e) (inR l)=inR l:=by simp [inR]
@[simp] theorem M8 : inR []=[]:=rfl
theorem sq (l : List Int) (n : Int) : inR l++[[.int .i64 n]]=inR (l++[n]):=by simp [inR]
def bp (m : Msh) : List Int:=(List.range m.f.length).map fun j=>bF m j
def cQ (m : Msh) : List Int:=(List.range m.f.length).map fun j=>cS m j
theorem AX (m : Msh) : smR m m.f.length=inR (bp m):=by simp [smR,inR,bp]
def flT (m : Msh) (i : Nat) : List Int:=(List.range i).map fun j=>cS m j
theorem sj (m : Msh) (i : Nat) : (flT m i).length=i:=by simp [flT]
theorem xO (m : Msh) (i : Nat) : flT m i++[cS m i]=flT m (i + 1):=by simp [flT,x1e]
def flB (m : Msh) : Nat -> List (List D)
 | 0=>List.replicate m.f.length [.int .i64 0]
 | i + 1=>inR (flT m (i + 1))
theorem pC (m : Msh) (i : Nat) : List.take i (flB m i)=inR (flT m i):=by
 cases i with
 | zero=>simp [flB,flT]
 | succ i =>
  have:=gX (flT m (i + 1))
  rw [sj] at this
  exact this
theorem BH (m : Msh) (i : Nat) : List.map (fun e=>List.map bq e) (flB m i)=flB m i:=by cases i <;> simp [flB]
theorem sg (m : Msh) {i : Nat} : i <= (flB m i).length:=by
 cases i with
 | zero=>simp
 | succ i=>simp [flB,sj]
variable {C : CC} (hC : ay prog C)
include hC
theorem vR (m : Msh) (hz : bV m=true -> m.s.length <= 100 /\ m.f.length <= 100) : C 215 [.agg (aW m)] (.bool (ap m)) []:=by
 have ks:=v7 hC m
 rw [show (decide (m.s.length <= 2000) && decide (m.f.length <= 4000))=bV m from rfl] at ks
 refine aw hC (nf:=N215) rfl rfl ?_
 simp only [ab] at ks
 simp [N215,ab]
 refine aa ks (.inl rfl) ?_
 cases hs : bV m
 ·simp [ap,hs]
 ·obtain ⟨h1,h2⟩:=hz hs
  have k:=vO hC m h1 h2
  have e : ap m=decide ((co fB 0 (LL m)).length=0):=by
   rw [ap,hs,x1J,x04,x0g,List.length_eq_zero_iff,mJ]
  rw [e]
  obtain ⟨X,hX⟩ : ∃ X,X=co fB 0 (LL m):=⟨_,rfl⟩
  rw [<- hX] at k ⊢
  simp only [ab] at k
  simp
  refine aa k (.inr rfl) ?_
  simp
theorem BJ (m : Msh) (hv : ap m=true) : C 254 [.ptr (grC m)] (.sl (inR (cQ m))) []:=by
 have hsz:=cy hv
 have kr:=fun i hi=>C2 hC m hv i hi
 refine aw hC (nf:=N254) rfl rfl ?_
 simp [N254,c9]
 refine ⟨by omega,?_⟩
 refine av Nat (fun i=>[(0,.ptr (grC m)),(3,.ref (.r 10048) 0 i),(10048,.blk 1 (flB m i)),(15,.int .i64 m.f.length),(16,.int .i64 i)]) (fun i=>i <= m.f.length) (fun i=>m.f.length - i) 0 (by simp) (by simp [c9,flB]) ?_
 rintro i hi
 simp
 refine aj (fun g1=>?_) (fun g1=>?_) <;> simp at g1 <;> simp [g1]
 ·have hw : IntKind.wrap .i64 ((i : Int) + 1)=((i + 1 : Nat) : Int):=af (by omega) (by omega)
  refine aa (kr i (by omega)) (.inl rfl) ?_
  simp
  have hl:=sg m (i:=i)
  refine ⟨by omega,by omega,i + 1,by omega,by omega,rfl,?_,hw⟩
  rw [pC,sq,xO]
  rfl
 ·have hi2 : i=m.f.length:=by omega
  subst hi2
  refine ⟨sg m,?_⟩
  rw [BH,pC]
  rfl
theorem Bb (dec : Nat -> List UInt8) (hI : ∀ n : Nat,n < 100 -> C 127 [.int .i64 n] (.str (dec n)) []) (m : Msh) (hz : bV m=true -> m.s.length <= 100 /\ m.f.length <= 100) :
  C 220 [.agg (aW m)] (if ap m then .tup [slx true (inR (bp m)),.int .i64 0] else .tup [.nils,.int .i64 1]) []:=by
 have k:=vr hC dec hI m hz
 refine aw hC (nf:=N220) rfl rfl ?_
 simp only [ab] at k
 simp [N220,ab]
 refine aa k (.inr rfl) ?_
 cases hv : ap m
 ·simp
 ·simp [c9,AX]
theorem A8 (dec : Nat -> List UInt8) (hI : ∀ n : Nat,n < 100 -> C 127 [.int .i64 n] (.str (dec n)) []) (m : Msh) (hz : bV m=true -> m.s.length <= 100 /\ m.f.length <= 100) :
  C 213 [.agg (aW m)] (if ap m then .tup [.sl (inR (cQ m)),.int .i64 0] else .tup [.nils,.int .i64 1]) []:=by
 have k:=vr hC dec hI m hz
 refine aw hC (nf:=N213) rfl rfl ?_
 simp only [ab] at k
 simp [N213,ab]
 refine aa k (.inr rfl) ?_
 cases hv : ap m
 ·simp
 ·have kf:=BJ hC m hv
  simp
  refine aa kf (.inr rfl) ?_
  simp
end Go.Gv

namespace Go.Gv
def nfR (fs : List Nat) : List (List D):=fs.map fun i : Nat=>[D.int .i64 (i : Int)]
@[simp] theorem Qh (fs : List Nat) : (nfR fs).length=fs.length:=by simp [nfR]
theorem jC {fs : List Nat} {i : Nat} (h : i < fs.length) : (nfR fs)[i]? = some [.int .i64 (fs[i] : Int)]:=by simp [nfR,h]
theorem CI {fs : List Nat} {i : Nat} (h : i < (nfR fs).length) : (nfR fs)[i]=[.int .i64 (fs[i]'(by simpa using h) : Nat)]:=by simp [nfR]
@[simp] theorem KE (fs : List Nat) (n : Nat) : List.take n (nfR fs)=nfR (fs.take n):=by simp [nfR]
theorem yh (fs : List Nat) (i x : Nat) : (nfR fs).set i [.int .i64 (x : Int)]=nfR (fs.set i x):=by simp [nfR,List.map_set]
theorem yg (fs : List Nat) (x : Nat) : nfR fs++[[.int .i64 (x : Int)]]=nfR (fs++[x]):=by simp [nfR]
theorem kB (fs : List Nat) : ∀ e ∈ nfR fs,∀ c ∈ e,a6 c=true:=by simp [nfR]
theorem CJ (fs : List Nat) : ∀ e ∈ nfR fs,∀ c ∈ e,aK c=true:=by simp [nfR]
def qB (fs : List Nat) (sp : List Int) : List (List D):=[[.own 1 (nfR fs),.slv 0 (inR sp)]]
def fAt (fs : List Nat) (i : Nat) : Nat:=fs.getD i 0
def swp (fs : List Nat) (i k : Nat) : List Nat:=(fs.set i (fAt fs k)).set k (fAt fs i)
@[simp] theorem QV (fs : List Nat) (i k : Nat) : (swp fs i k).length=fs.length:=by simp [swp]
theorem dj {fs : List Nat} {i : Nat} (h : i < fs.length) : fAt fs i=fs[i]:=by simp [fAt,h]
theorem eY {fs : List Nat} {i : Nat} (h : i < fs.length) : fAt fs i ∈ fs:=by rw [dj h];exact x0u _
theorem cI {sp : List Int} {i : Nat} (h : i < sp.length) : (inR sp)[i]? = some [.int .i64 (sp.getD i 0)]:=by simp [inR,h]
section
variable {C : Nat -> List D -> D -> List D -> Prop} (hC : f5 prog C)
include hC
theorem vK (fs : List Nat) (sp : List Int) : C 317 [.blk 2 (qB fs sp),.adr (.r 10015) 0 0] (.int .i64 fs.length) [.blk 2 (qB fs sp),.nilp]:=by
 unfold qB
 refine gq hC (nf:=N317) rfl rfl ?_
 simp [N317]
theorem jH (fs : List Nat) (sp : List Int) (i k : Nat) (hi : i < fs.length) (hk : k < fs.length) : C 343 [.blk 2 (qB fs sp),.adr (.r 10015) 0 0,.int .i64 i,.int .i64 k] (.tup []) [.blk 2 (qB (swp fs i k) sp),.nilp]:=by
 rw [show swp fs i k=(fs.set i fs[k]).set k fs[i] by rw [<- dj hi,<- dj hk];rfl]
 unfold qB
 refine gq hC (nf:=N343) rfl rfl ?_
 simp [N343,a8 (jC hi),a8 (jC hk),hi,hk,CI,yh]
 exact ai (by decide +kernel)
theorem yn (fs : List Nat) (sp : List Int) (x : Nat) (h : fs.length < 2 ^ 40) : C 342 [.blk 2 (qB fs sp),.adr (.r 10015) 0 0,.ifi 2 x] (.tup []) [.blk 2 (qB (fs++[x]) sp),.nilp]:=by
 unfold qB
 refine gq hC (nf:=N342) rfl rfl ?_
 simp [N342]
 refine ⟨by omega,?_,ai (by decide +kernel),?_⟩
 ·rintro e (he | rfl) c hc
  ·exact CJ _ _ he _ hc
  ·simp at hc;subst hc;rfl
 ·exact yg fs x
theorem CU (fs : List Nat) (sp : List Int) (h : 0 < fs.length) (h2 : fs.length < 2 ^ 40) : C 341 [.blk 2 (qB fs sp),.adr (.r 10015) 0 0] (.ifi 2 (fAt fs (fs.length - 1) : Nat)) [.blk 2 (qB (fs.take (fs.length - 1)) sp),.nilp]:=by
 have e1 : IntKind.wrap .i64 ((fs.length : Int) - 1)=((fs.length - 1 : Nat) : Int):=af (by omega) (by omega)
 have hl : fs.length - 1 < fs.length:=by omega
 rw [dj hl]
 unfold qB
 refine gq hC (nf:=N341) rfl rfl ?_
 simp [N341,e1,a8 (jC hl),hl]
 refine ⟨ai (by decide +kernel),?_⟩
 refine y7 (b:=10015) (i:=0) (off:=0) (n:=fs.length - 1) rfl (by simp) rfl rfl rfl (by simp) ?_
 simp
 exact ai (by decide +kernel)
def ltF (sp : List Int) (a b : Nat) : Bool:=decide (sp.getD a 0 < sp.getD b 0) || (decide (sp.getD a 0=sp.getD b 0) && decide (a < b))
theorem jG (fs : List Nat) (sp : List Int) (i k : Nat) (hi : i < fs.length) (hk : k < fs.length) (hb : ∀ a ∈ fs,a < sp.length) : C 340 [.blk 2 (qB fs sp),.adr (.r 10015) 0 0,.int .i64 i,.int .i64 k] (.bool (ltF sp (fAt fs i) (fAt fs k))) [.blk 2 (qB fs sp),.nilp]:=by
 rw [dj hi,dj hk]
 unfold qB
 refine gq hC (nf:=N340) rfl rfl ?_
 have hi' : fs[i] < sp.length:=hb _ (x0u _)
 have hk' : fs[k] < sp.length:=hb _ (x0u _)
 simp [N340,a8 (jC hi),a8 (jC hk),hi,hk,aq (cI hi'),aq (cI hk')]
 refine ⟨ai (by decide +kernel),?_⟩
 refine aj (fun g1=>?_) (fun g1=>?_) <;> simp at g1
 ·simp [g1,ltF]
  exact ai (by decide +kernel)
 ·simp [x0S.2 g1,aq (cI hi'),aq (cI hk')]
  refine aj (fun g2=>?_) (fun g2=>?_) <;> simp at g2
  ·simp [g2,ltF]
   exact ai (by decide +kernel)
  ·simp [g2,ltF,x0S.2 g1]
   exact ai (by decide +kernel)
end
end Go.Gv

namespace Go.Gv
def upL (sp : List Int) (fs : List Nat) (j : Nat) : List Nat :=
 if j=0 then fs else if ltF sp (fAt fs j) (fAt fs ((j - 1) / 2)) then upL sp (swp fs ((j - 1) / 2) j) ((j - 1) / 2) else fs
 termination_by j
 decreasing_by omega
def dnJ (sp : List Int) (fs : List Nat) (j n : Nat) : Nat:=if j + 1 < n /\ ltF sp (fAt fs (j + 1)) (fAt fs j)=true then j + 1 else j
theorem l0 {sp : List Int} {fs : List Nat} {j n : Nat} (h : j < n) : j <= dnJ sp fs j n /\ dnJ sp fs j n < n:=by
 unfold dnJ
 split <;> omega
def bz (sp : List Int) (fs : List Nat) (i n : Nat) : List Nat × Nat :=
 if h : n <= 2 * i + 1 then (fs,i) else if ltF sp (fAt fs (dnJ sp fs (2 * i + 1) n)) (fAt fs i) then bz sp (swp fs i (dnJ sp fs (2 * i + 1) n)) (dnJ sp fs (2 * i + 1) n) n else (fs,i)
 termination_by n - i
 decreasing_by
 have:=l0 (sp:=sp) (fs:=fs) (j:=2 * i + 1) (n:=n) (by omega)
 omega
theorem sG {fs : List Nat} {i x a : Nat} (h : a ∈ fs.set i x) : a=x \/ a ∈ fs:=by
 rcases List.mem_or_eq_of_mem_set h with h | h
 ·exact .inr h
 ·exact .inl h
theorem jS {fs : List Nat} {i k a : Nat} (hi : i < fs.length) (hk : k < fs.length) (h : a ∈ swp fs i k) : a ∈ fs:=by
 rcases sG h with rfl | h
 ·exact eY hi
 ·rcases sG h with rfl | h
  ·exact eY hk
  ·exact h
section
variable {C : Nat -> List D -> D -> List D -> Prop} (hC : f5 prog C)
include hC
theorem Il (fs : List Nat) (sp : List Int) (j : Nat) (hj : j < fs.length) (hb : ∀ a ∈ fs,a < sp.length) (h2 : fs.length < 2 ^ 40) : C 334 [.blk 2 (qB fs sp),.ifa 20 (.r 10015) 0 0,.int .i64 j] (.tup []) [.blk 2 (qB (upL sp fs j) sp),.nilp]:=by
 refine gq hC (nf:=N334) rfl rfl ?_
 simp [N334]
 refine av (List Nat × Nat) (fun s=>[(0,.ifa 20 (.r 10015) 0 0),(1,.int .i64 s.2),(10015,.blk 2 (qB s.1 sp))]) (fun s=>s.2 < s.1.length /\ s.1.length=fs.length /\ (∀ a ∈ s.1,a < sp.length) /\ upL sp s.1 s.2=upL sp fs j) (fun s=>s.2) (fs,j) ⟨hj,rfl,hb,rfl⟩ (by simp) ?_
 rintro ⟨l,i⟩ ⟨k1,k2,k3,k4⟩
 simp only at k1 k2 k3 k4
 obtain ⟨p,hp0⟩ : ∃ p,p=(i - 1) / 2:=⟨_,rfl⟩
 have e1 : IntKind.wrap .i64 ((IntKind.wrap .i64 ((i : Int) - 1)).tdiv 2)=(p : Int):=by
  rw [af (m:=(i : Int) - 1) rfl (by omega),hp0]
  by_cases h0 : i=0
  ·subst h0;decide
  ·rw [Int.tdiv_eq_ediv_of_nonneg (by omega)]
   exact af (by omega) (by omega)
 have hp : p < l.length:=by omega
 have hu : upL sp l i=if i=0 then l else if ltF sp (fAt l i) (fAt l p) then upL sp (swp l p i) p else l:=by
  conv=>lhs;unfold upL
  rw [hp0]
 simp [e1]
 refine aj (fun g1=>?_) (fun g1=>?_) <;> simp at g1 <;> simp [g1]
 ·have h0 : i=0:=by omega
  subst h0
  rw [<- k4,hu]
  simp [qB]
 ·have hne : i ≠ 0:=by omega
  have hl:=jG hC l sp i p k1 hp k3
  rw [if_neg hne] at hu
  refine ⟨by simp [qB],?_⟩
  refine cA hl (by simp [qB]) ?_
  simp [b7]
  refine aj (fun g2=>?_) (fun g2=>?_) <;> simp at g2
  ·simp [g2]
   rw [<- k4,hu,g2]
   simp [qB]
  ·simp [g2]
   refine ⟨by simp [qB],?_⟩
   refine cA (jH hC l sp p i hp k1) (by simp [qB]) ?_
   simp [b7]
   exact ⟨swp l p i,p,⟨by simp;exact hp,by simp [k2],fun a ha=>k3 a (jS hp k1 ha),by rw [<- k4,hu,g2];simp⟩,by omega,rfl,rfl⟩
theorem xP (fs : List Nat) (sp : List Int) (i0 n : Nat) (hn : n <= fs.length) (hi0 : i0 < fs.length) (hb : ∀ a ∈ fs,a < sp.length) (h2 : fs.length < 2 ^ 40) : C 335 [.blk 2 (qB fs sp),.ifa 20 (.r 10015) 0 0,.int .i64 i0,.int .i64 n] (.bool (decide (i0 < (bz sp fs i0 n).2))) [.blk 2 (qB (bz sp fs i0 n).1 sp),.nilp]:=by
 refine gq hC (nf:=N335) rfl rfl ?_
 simp [N335]
 refine av (List Nat × Nat) (fun s=>[(0,.ifa 20 (.r 10015) 0 0),(1,.int .i64 i0),(2,.int .i64 n),(7,.int .i64 s.2),(10015,.blk 2 (qB s.1 sp))]) (fun s=>s.2 < s.1.length /\ s.1.length=fs.length /\ (∀ a ∈ s.1,a < sp.length) /\ bz sp s.1 s.2 n=bz sp fs i0 n) (fun s=>fs.length - s.2) (fs,i0) ⟨hi0,rfl,hb,rfl⟩ (by simp) ?_
 rintro ⟨l,i⟩ ⟨k1,k2,k3,k4⟩
 simp only at k1 k2 k3 k4
 have e1 : IntKind.wrap .i64 (IntKind.wrap .i64 (2 * (i : Int)) + 1)=((2 * i + 1 : Nat) : Int):=by
  rw [af (m:=2 * (i : Int)) rfl (by omega)]
  exact af (by omega) (by omega)
 have e2 : IntKind.wrap .i64 (((2 * i + 1 : Nat) : Int) + 1)=((2 * i + 1 + 1 : Nat) : Int):=af (by omega) (by omega)
 obtain ⟨j1,hj1⟩ : ∃ j1,j1=2 * i + 1:=⟨_,rfl⟩
 rw [<- hj1] at e1 e2
 obtain ⟨j2,hj2⟩ : ∃ j2,j2=j1 + 1:=⟨_,rfl⟩
 rw [<- hj2] at e2
 obtain ⟨jm,hjm⟩ : ∃ jm,jm=dnJ sp l j1 n:=⟨_,rfl⟩
 have hu : bz sp l i n=if n <= j1 then (l,i) else if ltF sp (fAt l jm) (fAt l i) then bz sp (swp l i jm) jm n else (l,i):=by
  conv=>lhs;unfold bz
  rw [<- hj1,<- hjm]
  rfl
 simp [e1]
 refine aj (fun g1=>?_) (fun g1=>?_) <;> simp at g1
 ·simp [g1]
  rw [<- k4,hu,if_pos g1]
  simp [qB]
 ·rw [if_neg (by omega)] at hu
  have hj:=l0 (sp:=sp) (fs:=l) (j:=j1) (n:=n) g1
  rw [<- hjm] at hj
  have hjl : jm < l.length:=by omega
  simp [Nat.not_le.2 g1,show ¬ ((j1 : Int) < 0) by omega,e2]
  have hm : jm=if j2 < n /\ ltF sp (fAt l j2) (fAt l j1)=true then j2 else j1:=by rw [hjm,hj2];rfl
  refine aj (fun g2=>?_) (fun g2=>?_) <;> simp at g2
  ·simp [g2]
   refine ⟨by simp [qB],?_⟩
   refine cA (jG hC l sp j2 j1 (by omega) (by omega) k3) (by simp [qB]) ?_
   simp [b7]
   refine aj (fun g3=>?_) (fun g3=>?_)
   ·rw [if_pos ⟨g2,g3⟩] at hm
    simp [g3]
    subst hm
    refine ⟨by simp [qB],?_⟩
    refine cA (jG hC l sp _ i hjl k1 k3) (by simp [qB]) ?_
    simp [b7]
    refine aj (fun g4=>?_) (fun g4=>?_) <;> simp at g4
    ·simp [g4]
     rw [<- k4,hu,if_neg (by simp [g4])]
     simp [qB]
    ·simp [g4]
     refine ⟨by simp [qB],?_⟩
     refine cA (jH hC l sp i _ k1 hjl) (by simp [qB]) ?_
     simp [b7]
     exact ⟨swp l i _,_,⟨by simp;exact hjl,by simp [k2],fun a ha=>k3 a (jS k1 hjl ha),by rw [<- k4,hu,if_pos g4]⟩,by omega,rfl,rfl⟩
   ·rw [if_neg (by simp [g3])] at hm
    simp [g3]
    subst hm
    refine ⟨by simp [qB],?_⟩
    refine cA (jG hC l sp _ i hjl k1 k3) (by simp [qB]) ?_
    simp [b7]
    refine aj (fun g4=>?_) (fun g4=>?_) <;> simp at g4
    ·simp [g4]
     rw [<- k4,hu,if_neg (by simp [g4])]
     simp [qB]
    ·simp [g4]
     refine ⟨by simp [qB],?_⟩
     refine cA (jH hC l sp i _ k1 hjl) (by simp [qB]) ?_
     simp [b7]
     exact ⟨swp l i _,_,⟨by simp;exact hjl,by simp [k2],fun a ha=>k3 a (jS k1 hjl ha),by rw [<- k4,hu,if_pos g4]⟩,by omega,rfl,rfl⟩
  ·rw [if_neg (by omega)] at hm
   simp [Nat.not_lt.2 g2]
   subst hm
   refine ⟨by simp [qB],?_⟩
   refine cA (jG hC l sp _ i hjl k1 k3) (by simp [qB]) ?_
   simp [b7]
   refine aj (fun g4=>?_) (fun g4=>?_) <;> simp at g4
   ·simp [g4]
    rw [<- k4,hu,if_neg (by simp [g4])]
    simp [qB]
   ·simp [g4]
    refine ⟨by simp [qB],?_⟩
    refine cA (jH hC l sp i _ k1 hjl) (by simp [qB]) ?_
    simp [b7]
    exact ⟨swp l i _,_,⟨by simp;exact hjl,by simp [k2],fun a ha=>k3 a (jS k1 hjl ha),by rw [<- k4,hu,if_pos g4]⟩,by omega,rfl,rfl⟩
theorem xQ (fs : List Nat) (sp : List Int) (x : Nat) (hx : x < sp.length) (hb : ∀ a ∈ fs,a < sp.length) (h2 : fs.length + 1 < 2 ^ 40) : C 316 [.blk 2 (qB fs sp),.ifa 20 (.r 10015) 0 0,.ifi 2 x] (.tup []) [.blk 2 (qB (upL sp (fs++[x]) fs.length) sp),.nilp]:=by
 have hb' : ∀ a ∈ fs++[x],a < sp.length:=by
  intro a ha
  rcases x0m.1 ha with ha | ha
  ·exact hb a ha
  ·simp at ha;omega
 have e1 : IntKind.wrap .i64 (((fs.length + 1 : Nat) : Int) - 1)=(fs.length : Int):=af (by omega) (by omega)
 refine gq hC (nf:=N316) rfl rfl ?_
 simp [N316]
 refine ⟨by simp [qB],?_⟩
 refine cA (yn hC fs sp x (by omega)) (by simp [qB]) ?_
 simp [b7]
 refine ⟨by simp [qB],?_⟩
 refine cA (vK hC (fs++[x]) sp) (by simp [qB]) ?_
 have hup:=Il hC (fs++[x]) sp fs.length (by simp) hb' (by simp;omega)
 simp at e1
 simp [b7,e1]
 refine ⟨by simp [qB],?_⟩
 refine cA hup (by simp [qB]) ?_
 simp [b7,qB]
omit hC in
theorem tk (sp : List Int) (fs : List Nat) (i n : Nat) : (bz sp fs i n).1.length=fs.length:=by
 induction fs,i using bz.induct sp n with
 | case1 fs i h=>unfold bz;simp [h]
 | case2 fs i h1 h2 ih=>unfold bz;simp only [dif_neg h1,if_pos h2];rw [ih];simp
 | case3 fs i h1 h2=>unfold bz;simp only [dif_neg h1,if_neg h2]
theorem BM (fs : List Nat) (sp : List Int) (h0 : 0 < fs.length) (hb : ∀ a ∈ fs,a < sp.length) (h2 : fs.length < 2 ^ 40) : C 318 [.blk 2 (qB fs sp),.ifa 20 (.r 10015) 0 0] (.ifi 2 (fAt (bz sp (swp fs 0 (fs.length - 1)) 0 (fs.length - 1)).1 (fs.length - 1) : Nat)) [.blk 2 (qB ((bz sp (swp fs 0 (fs.length - 1)) 0 (fs.length - 1)).1.take (fs.length - 1)) sp),.nilp]:=by
 obtain ⟨n,hn⟩ : ∃ n,n=fs.length - 1:=⟨_,rfl⟩
 have e1 : IntKind.wrap .i64 ((fs.length : Int) - 1)=(n : Int):=af (by omega) (by omega)
 rw [<- hn]
 have hsw:=jH hC fs sp 0 n h0 (by omega)
 have hdn:=xP hC (swp fs 0 n) sp 0 n (by simp;omega) (by simp;omega) (fun a ha=>hb a (jS h0 (by omega) ha)) (by simp;omega)
 have hl : (bz sp (swp fs 0 n) 0 n).1.length=fs.length:=by rw [tk];simp
 have hpo:=CU hC (bz sp (swp fs 0 n) 0 n).1 sp (by omega) (by omega)
 rw [hl,<- hn] at hpo
 refine gq hC (nf:=N318) rfl rfl ?_
 simp [N318]
 refine ⟨by simp [qB],?_⟩
 refine cA (vK hC fs sp) (by simp [qB]) ?_
 simp [b7,e1]
 refine ⟨by simp [qB],?_⟩
 refine cA hsw (by simp [qB]) ?_
 simp [b7]
 refine ⟨by simp [qB],?_⟩
 refine cA hdn (by simp [qB]) ?_
 simp [b7]
 refine ⟨by simp [qB],?_⟩
 refine cA hpo (by simp [qB]) ?_
 simp [b7,qB]
end
end Go.Gv

namespace Go.Gv
theorem jA {sp : List Int} {a b : Nat} : ltF sp a b=true ↔ sp.getD a 0 < sp.getD b 0 \/ (sp.getD a 0=sp.getD b 0 /\ a < b):=by simp [ltF]
theorem ez {sp : List Int} {a b : Nat} : ltF sp a b=false ↔ sp.getD b 0 < sp.getD a 0 \/ (sp.getD a 0=sp.getD b 0 /\ b <= a):=by
 rw [<- Bool.not_eq_true,jA]
 omega
theorem kP {fs : List Nat} {i k x : Nat} (hi : i < fs.length) (hk : k < fs.length) : fAt (swp fs i k) x=if x=k then fAt fs i else if x=i then fAt fs k else fAt fs x:=by
 unfold swp
 by_cases hx : x < fs.length
 ·rw [dj (by simpa using hx)]
  simp only [List.getElem_set]
  by_cases e1 : k=x
  ·subst e1;simp
  ·rw [if_neg e1,if_neg (Ne.symm e1)]
   by_cases e2 : i=x
   ·subst e2;simp
   ·rw [if_neg e2,if_neg (Ne.symm e2),dj hx]
 ·rw [if_neg (by omega),if_neg (by omega)]
  simp only [fAt,x1p]
  rw [x0M (by simp;omega),x0M (by omega)]
theorem iL {fs : List Nat} {i k : Nat} (hi : i < fs.length) (hk : k < fs.length) (a : Nat) : (swp fs i k).count a=fs.count a:=by
 have ha:=dj hi
 have hb:=dj hk
 unfold swp
 rw [List.count_set (by simpa using hk),List.count_set hi,ha,hb]
 have h1 : fs[i]=a -> 0 < fs.count a:=fun e=>x03.2 (by rw [<- e];exact x0u _)
 have h2 : fs[k]=a -> 0 < fs.count a:=fun e=>x03.2 (by rw [<- e];exact x0u _)
 simp only [List.getElem_set]
 by_cases e : i=k
 ·subst e
  simp
  by_cases e1 : fs[i]=a
  ·have:=h1 e1;simp [e1];omega
  ·simp [e1]
 ·rw [if_neg e]
  by_cases e1 : fs[i]=a <;> by_cases e2 : fs[k]=a
  ·have:=h1 e1;simp [e1,e2];omega
  ·have:=h1 e1;simp [e1,e2];omega
  ·have:=h2 e2;simp [e1,e2]
  ·simp [e1,e2]
def gU (sp : List Int) (fs : List Nat) (n : Nat) : Prop:=∀ i,0 < i -> i < n -> ltF sp (fAt fs i) (fAt fs ((i - 1) / 2))=false
theorem kQ {sp : List Int} : ∀ (j : Nat) (fs : List Nat),j < fs.length -> ∀ a,(upL sp fs j).count a=fs.count a:=by
 intro j
 induction j using Nat.strongRecOn with
 | _ j ih =>
  intro fs hj a
  unfold upL
  split
  ·rfl
  ·split
   ·rw [ih _ (by omega) _ (by simp;omega)]
    exact iL (by omega) hj a
   ·rfl
theorem jT {sp : List Int} : ∀ (j : Nat) (fs : List Nat),(upL sp fs j).length=fs.length:=by
 intro j
 induction j using Nat.strongRecOn with
 | _ j ih =>
  intro fs
  unfold upL
  split
  ·rfl
  ·split
   ·rw [ih _ (by omega)];simp
   ·rfl
theorem wI {sp : List Int} : ∀ (j : Nat) (fs : List Nat),j < fs.length -> (∀ i,0 < i -> i < fs.length -> i ≠ j -> ltF sp (fAt fs i) (fAt fs ((i - 1) / 2))=false) -> (∀ i,0 < i -> i < fs.length -> (i - 1) / 2=j -> 0 < j -> ltF sp (fAt fs i) (fAt fs ((j - 1) / 2))=false) -> gU sp (upL sp fs j) fs.length:=by
 intro j
 induction j using Nat.strongRecOn with
 | _ j ih =>
  intro fs hj h1 h2
  unfold upL
  split
  ·rename_i h0
   intro i hi hin
   exact h1 i hi hin (by omega)
  ·rename_i h0
   split
   ·rename_i hl
    have hp : (j - 1) / 2 < fs.length:=by omega
    have hpj : (j - 1) / 2 < j:=by omega
    have at_:=fun x=>kP (x:=x) hp hj
    have key:=ih ((j - 1) / 2) hpj (swp fs ((j - 1) / 2) j) (by simp;omega) (fun i hi hin hne=>?_) (fun i hi hin hpi h0p=>?_)
    ·simpa using key
    ·simp at hin
     rw [at_,at_]
     by_cases e1 : i=j
     ·subst e1
      rw [if_pos rfl,if_neg (by omega),if_pos rfl]
      rw [ez]
      rw [jA] at hl
      omega
     ·rw [if_neg e1,if_neg hne]
      by_cases e2 : (i - 1) / 2=j
      ·rw [if_pos e2]
       exact h2 i hi hin e2 (by omega)
      ·rw [if_neg e2]
       by_cases e3 : (i - 1) / 2=(j - 1) / 2
       ·rw [if_pos e3]
        have h4:=h1 i hi hin e1
        rw [e3] at h4
        rw [ez] at h4 ⊢
        rw [jA] at hl
        omega
       ·rw [if_neg e3]
        exact h1 i hi hin e1
    ·simp at hin
     rw [at_,at_]
     rw [if_neg (show ((j - 1) / 2 - 1) / 2 ≠ j by omega),if_neg (show ((j - 1) / 2 - 1) / 2 ≠ (j - 1) / 2 by omega)]
     have h5:=h1 ((j - 1) / 2) h0p hp (by omega)
     by_cases e1 : i=j
     ·rw [if_pos e1]
      exact h5
     ·rw [if_neg e1,if_neg (by omega)]
      have h4:=h1 i hi hin e1
      rw [hpi] at h4
      rw [ez] at h4 h5 ⊢
      omega
   ·rename_i hl
    intro i hi hin
    by_cases e : i=j
    ·subst e;simpa using hl
    ·exact h1 i hi hin e
theorem uI {sp : List Int} {fs : List Nat} {j n x : Nat} (hx : (x - 1) / 2=(j - 1) / 2) (hj : j % 2=1) (h0 : 0 < x) (hn : x < n) : ltF sp (fAt fs x) (fAt fs (dnJ sp fs j n))=false:=by
 have hxj : x=j \/ x=j + 1:=by omega
 unfold dnJ
 split
 ·rename_i h
  rcases hxj with rfl | rfl
  ·have:=h.2
   rw [jA] at this
   rw [ez]
   omega
  ·rw [ez];omega
 ·rename_i h
  rcases hxj with rfl | rfl
  ·rw [ez];omega
  ·cases e : ltF sp (fAt fs (j + 1)) (fAt fs j)
   ·rfl
   ·exact absurd ⟨hn,e⟩ h
theorem k9 {sp : List Int} {n : Nat} (fs : List Nat) (i : Nat) (hn : n <= fs.length) (a : Nat) : (bz sp fs i n).1.count a=fs.count a:=by
 induction fs,i using bz.induct sp n with
 | case1 fs i h=>unfold bz;simp [h]
 | case2 fs i h1 h2 ih =>
  have hb:=l0 (sp:=sp) (fs:=fs) (j:=2 * i + 1) (n:=n) (by omega)
  unfold bz;simp only [dif_neg h1,if_pos h2]
  rw [ih (by simpa using hn)]
  exact iL (by omega) (by omega) a
 | case3 fs i h1 h2=>unfold bz;simp only [dif_neg h1,if_neg h2]
theorem l7 {sp : List Int} {n : Nat} (fs : List Nat) (i : Nat) : (bz sp fs i n).1.length=fs.length:=by
 induction fs,i using bz.induct sp n with
 | case1 fs i h=>unfold bz;simp [h]
 | case2 fs i h1 h2 ih=>unfold bz;simp only [dif_neg h1,if_pos h2];rw [ih];simp
 | case3 fs i h1 h2=>unfold bz;simp only [dif_neg h1,if_neg h2]
theorem uJ {sp : List Int} {n : Nat} (fs : List Nat) (i : Nat) (hn : n <= fs.length) {x : Nat} (hx : n <= x) : fAt (bz sp fs i n).1 x=fAt fs x:=by
 induction fs,i using bz.induct sp n with
 | case1 fs i h=>unfold bz;simp [h]
 | case2 fs i h1 h2 ih =>
  have hb:=l0 (sp:=sp) (fs:=fs) (j:=2 * i + 1) (n:=n) (by omega)
  unfold bz;simp only [dif_neg h1,if_pos h2]
  rw [ih (by simpa using hn),kP (by omega) (by omega),if_neg (by omega),if_neg (by omega)]
 | case3 fs i h1 h2=>unfold bz;simp only [dif_neg h1,if_neg h2]
theorem qI {sp : List Int} {n : Nat} (fs : List Nat) (i : Nat) (hn : n <= fs.length) (hin : i < fs.length) (h1 : ∀ x,0 < x -> x < n -> (x - 1) / 2 ≠ i -> ltF sp (fAt fs x) (fAt fs ((x - 1) / 2))=false) (h2 : ∀ x,0 < x -> x < n -> (x - 1) / 2=i -> 0 < i -> ltF sp (fAt fs x) (fAt fs ((i - 1) / 2))=false) : gU sp (bz sp fs i n).1 n:=by
 induction fs,i using bz.induct sp n with
 | case1 fs i h =>
  unfold bz;simp only [dif_pos h]
  intro x h0 hx
  exact h1 x h0 hx (by omega)
 | case2 fs i g1 g2 ih =>
  obtain ⟨j,hj⟩ : ∃ j,j=dnJ sp fs (2 * i + 1) n:=⟨_,rfl⟩
  have hb:=l0 (sp:=sp) (fs:=fs) (j:=2 * i + 1) (n:=n) (by omega)
  have hpar : (j - 1) / 2=i:=by
   rw [hj];unfold dnJ;split <;> omega
  unfold bz;simp only [dif_neg g1,if_pos g2]
  rw [<- hj] at hb g2 ih ⊢
  have at_:=fun x=>kP (fs:=fs) (i:=i) (k:=j) (x:=x) (by omega) (by omega)
  refine ih (by simpa using hn) (by simp;omega) (fun x h0 hx hne=>?_) (fun x h0 hx hp hj0=>?_)
  ·rw [at_,at_]
   by_cases e1 : x=j
   ·subst e1
    rw [if_pos rfl,if_neg (by omega),if_pos (by omega)]
    rw [jA] at g2
    rw [ez]
    omega
   ·rw [if_neg e1,if_neg hne]
    by_cases e2 : x=i
    ·subst e2
     rw [if_pos rfl]
     rw [if_neg (by omega)]
     exact h2 j (by omega) (by omega) hpar (by omega)
    ·rw [if_neg e2]
     by_cases e3 : (x - 1) / 2=i
     ·rw [if_pos e3,hj]
      exact uI (by omega) (by omega) h0 hx
     ·rw [if_neg e3]
      exact h1 x h0 hx e3
  ·rw [at_,at_]
   rw [if_neg (show x ≠ j by omega),if_neg (show x ≠ i by omega),if_neg (show (j - 1) / 2 ≠ j by omega),if_pos hpar]
   have:=h1 x h0 hx (by omega)
   rw [hp] at this
   exact this
 | case3 fs i g1 g2 =>
  unfold bz;simp only [dif_neg g1,if_neg g2]
  intro x h0 hx
  by_cases e : (x - 1) / 2=i
  ·have h3:=uI (sp:=sp) (fs:=fs) (j:=2 * i + 1) (n:=n) (x:=x) (by omega) (by omega) h0 hx
   have h4 : ltF sp (fAt fs (dnJ sp fs (2 * i + 1) n)) (fAt fs i)=false:=by simpa using g2
   rw [e]
   rw [ez] at h3 h4 ⊢
   omega
  ·exact h1 x h0 hx e
theorem tz {sp : List Int} {fs : List Nat} {n : Nat} (h : gU sp fs n) : ∀ x,x < n -> ltF sp (fAt fs x) (fAt fs 0)=false:=by
 intro x
 induction x using Nat.strongRecOn with
 | _ x ih =>
  intro hx
  by_cases h0 : x=0
  ·subst h0;rw [ez];omega
  ·have h1:=h x (by omega) hx
   have h2:=ih ((x - 1) / 2) (by omega) (by omega)
   rw [ez] at h1 h2 ⊢
   omega
theorem vI {sp : List Int} {fs : List Nat} (h : gU sp fs fs.length) (h0 : 0 < fs.length) :
  let r:=(bz sp (swp fs 0 (fs.length - 1)) 0 (fs.length - 1)).1
  fAt r (fs.length - 1)=fAt fs 0 /\ r.length=fs.length /\ gU sp (r.take (fs.length - 1)) (r.take (fs.length - 1)).length /\ (∀ a,fs.count a=(r.take (fs.length - 1)).count a + if a=fAt fs 0 then 1 else 0):=by
 intro r
 have hl : r.length=fs.length:=by show (bz _ _ _ _).1.length=_;rw [l7];simp
 have hlast : fAt r (fs.length - 1)=fAt fs 0:=by
  show fAt (bz _ _ _ _).1 _=_
  rw [uJ _ _ (by simp) (x0l _),kP h0 (by omega),if_pos rfl]
 have htk : ∀ x,x < fs.length - 1 -> fAt (r.take (fs.length - 1)) x=fAt r x:=fun x hx=>by
  unfold fAt
  simp [x0Q,hx]
 have hlt : (r.take (fs.length - 1)).length=fs.length - 1:=by simp;omega
 refine ⟨hlast,hl,?_,fun a=>?_⟩
 ·rw [hlt]
  intro x hx hxn
  rw [htk x hxn,htk _ (by omega)]
  refine qI _ _ (by simp) (by simp;omega) (fun y hy hyn hp=>?_) (fun y _ _ _ h=>absurd h (by omega)) x hx hxn
  rw [kP h0 (by omega),kP h0 (by omega),if_neg (by omega),if_neg (by omega),if_neg (by omega),if_neg hp]
  exact h y hy (by omega)
 ·have h1 : r.count a=fs.count a:=by
   show (bz _ _ _ _).1.count a=_
   rw [k9 _ _ (by simp),iL h0 (by omega)]
  rw [<- h1]
  have h2 : r=r.take (fs.length - 1)++[fAt fs 0]:=by
   have h3 : r.drop (fs.length - 1)=[fAt fs 0]:=by
    rw [<- hlast,dj (by omega)]
    rw [List.drop_eq_getElem_cons (by omega)]
    rw [List.drop_eq_nil_of_le (by omega)]
   rw [<- h3,List.take_append_drop]
  conv=>lhs;rw [h2]
  rw [List.count_append]
  congr 1
  simp [List.count_singleton]
  by_cases e : fAt fs 0=a
  ·simp [e]
  ·simp [e,Ne.symm e]
theorem kG {sp : List Int} {fs : List Nat} {x : Nat} (h : gU sp fs fs.length) :
  gU sp (upL sp (fs++[x]) fs.length) (upL sp (fs++[x]) fs.length).length /\ (∀ a,(upL sp (fs++[x]) fs.length).count a=fs.count a + if a=x then 1 else 0) /\ (upL sp (fs++[x]) fs.length).length=fs.length + 1:=by
 have hl : (upL sp (fs++[x]) fs.length).length=fs.length + 1:=by rw [jT];simp
 have at_ : ∀ i,i < fs.length -> fAt (fs++[x]) i=fAt fs i:=fun i hi=>by
  unfold fAt
  simp [List.getElem?_append,hi]
 refine ⟨?_,fun a=>?_,hl⟩
 ·rw [hl]
  have:=wI (sp:=sp) fs.length (fs++[x]) (by simp) (fun i hi hin hne=>?_) (fun i hi hin hp _=>by simp at hin;omega)
  ·simpa using this
  ·simp at hin
   rw [at_ i (by omega),at_ _ (by omega)]
   exact h i hi (by omega)
 ·rw [kQ _ _ (by simp),List.count_append]
  congr 1
  simp [List.count_singleton]
  by_cases e : x=a
  ·simp [e]
  ·simp [e,Ne.symm e]
end Go.Gv

namespace Go.Gv
structure Fl where
 q : List Nat
 rc : List Bool
 sp : List Int
 ou : List Int
def fl0 (m : Msh) : Nat -> List Nat × List Bool
 | 0=>([],List.replicate m.f.length false)
 | i + 1=>if bsd m i (-1) then (upL (bp m) ((fl0 m i).1++[i]) (fl0 m i).1.length,(fl0 m i).2.set i true) else fl0 m i
def mxZ (a b : Int) : Int:=if a < b then b else a
def nk (m : Msh) (i : Nat) (s : Fl) (k : Int) : Fl :=
 if k=-1 \/ s.rc.getD k.toNat false=true then s else
  { q:=upL (s.sp.set k.toNat (mxZ (s.sp.getD i 0) ((bp m).getD k.toNat 0))) (s.q++[k.toNat]) s.q.length,rc:=s.rc.set k.toNat true,sp:=s.sp.set k.toNat (mxZ (s.sp.getD i 0) ((bp m).getD k.toNat 0)),ou:=s.ou.set k.toNat i }
def gB (sp : List Int) (q : List Nat) : List Nat:=(bz sp (swp q 0 (q.length - 1)) 0 (q.length - 1)).1
def flJ (m : Msh) (i : Nat) (s : Fl) : Nat -> Fl
 | 0=>s
 | j + 1=>nk m i (flJ m i s j) (nbF m i j)
def dZ (m : Msh) (s : Fl) : Fl :=
 if s.q.length=0 then s else flJ m (fAt (gB s.sp s.q) (s.q.length - 1)) { s with q:=(gB s.sp s.q).take (s.q.length - 1) } 3
def flN (m : Msh) : Nat -> Fl -> Fl
 | 0,s=>s
 | k + 1,s=>flN m k (dZ m s)
def dL (m : Msh) : Fl:={ q:=(fl0 m m.f.length).1,rc:=(fl0 m m.f.length).2,sp:=bp m,ou:=List.replicate m.f.length (-1) }
def aV (m : Msh) : Fl:=flN m (3 * m.f.length) (dL m)
theorem lK {m : Msh} {i : Nat} (h : i < m.f.length) : (nbA m)[i]? = some [.int .i64 (nbF m i 0),.int .i64 (nbF m i 1),.int .i64 (nbF m i 2)]:=by simp [nbA,h]
@[simp] theorem Qe (m : Msh) : (nbA m).length=m.f.length:=by simp [nbA]
theorem ju (m : Msh) : ∀ i,(fl0 m i).2.length=m.f.length /\ (fl0 m i).1.length <= i /\ (∀ a ∈ (fl0 m i).1,a < i)
 | 0=>by simp [fl0]
 | i + 1=>by
  obtain ⟨h1,h2,h3⟩:=ju m i
  unfold fl0
  split
  ·refine ⟨by simp [h1],by simp [jT];exact h2,fun a ha=>?_⟩
   have h4:=kQ (sp:=bp m) (fl0 m i).1.length ((fl0 m i).1++[i]) (by simp) a
   have h5 : 0 < ((fl0 m i).1++[i]).count a:=by rw [<- h4];exact x03.2 ha
   rcases x0m.1 (x03.1 h5) with h6 | h6
   ·have:=h3 a h6;omega
   ·simp at h6;omega
  ·exact ⟨h1,by omega,fun a ha=>by have:=h3 a ha;omega⟩
@[simp] theorem QU (m : Msh) : (bp m).length=m.f.length:=by simp [bp]
def mc (m : Msh) : D:=.ptr [.sl (nbA m),slx true (inR (bp m)),.sl (inR (aV m).sp),.sl (inR (aV m).ou)]
def rcR (l : List Bool) : List (List D):=l.map fun b=>[.bool b]
theorem yw (l : List Bool) : (rcR l).length=l.length:=by simp [rcR]
theorem d7 {l : List Bool} {i : Nat} (h : i < l.length) : (rcR l)[i]? = some [.bool (l.getD i false)]:=by simp [rcR,h]
theorem jK (l : List Bool) (i : Nat) (b : Bool) : (rcR l).set i [.bool b]=rcR (l.set i b):=by simp [rcR,List.map_set]
theorem CW {l : List Bool} {i : Nat} (h : i < (rcR l).length) : (rcR l)[i]=[.bool (l[i]'(by simpa [rcR] using h))]:=by simp [rcR]
theorem oC (l : List Int) (i : Nat) (x : Int) : (inR l).set i [.int .i64 x]=inR (l.set i x):=by simp [inR,List.map_set]
theorem mq (l : List Int) : ∀ e ∈ inR l,∀ c ∈ e,a6 c=true:=by simp [inR]
structure FlW (m : Msh) (s : Fl) : Prop where
 rc : s.rc.length=m.f.length
 sp : s.sp.length=m.f.length
 ou : s.ou.length=m.f.length
 q : ∀ a ∈ s.q,a < m.f.length
 n : s.q.length + s.rc.count false <= m.f.length
def flM (s : Fl) : Nat:=s.q.length + 2 * s.rc.count false
theorem jQ {l : List Bool} {i : Nat} (h : i < l.length) (hf : l.getD i false=false) : (l.set i true).count false + 1=l.count false:=by
 have h1 : l[i]=false:=by simpa [h] using hf
 rw [List.count_set h,h1]
 have : 0 < l.count false:=x03.2 (by rw [<- h1];exact x0u _)
 simp
 omega
theorem ze {sp : List Int} {fs : List Nat} {j a : Nat} (hj : j < fs.length) (h : a ∈ upL sp fs j) : a ∈ fs:=by
 have h4:=kQ (sp:=sp) j fs hj a
 exact x03.1 (by rw [<- h4];exact x03.2 h)
theorem BI {m : Msh} {i : Nat} {s : Fl} {k : Int} (h : FlW m s) (hk : -1 <= k /\ k < m.f.length) : FlW m (nk m i s k) /\ flM (nk m i s k) <= flM s:=by
 unfold nk
 split
 ·exact ⟨h,x0l _⟩
 ·rename_i hn
  have hkl : k.toNat < s.rc.length:=by rw [h.rc];omega
  have hf : s.rc.getD k.toNat false=false:=by
   cases e : s.rc.getD k.toNat false
   ·rfl
   ·exact absurd (.inr e) hn
  have hst:=jQ hkl hf
  have hn1:=h.n
  refine ⟨⟨by simp [h.rc],by simp [h.sp],by simp [h.ou],fun a ha=>?_,?_⟩,?_⟩
  ·rcases x0m.1 (ze (by simp) ha) with h1 | h1
   ·exact h.q a h1
   ·simp at h1;omega
  ·simp only [jT,x0I,List.length_singleton]
   omega
  ·simp only [flM,jT,x0I,List.length_singleton]
   omega
theorem si {m : Msh} {i : Nat} {s : Fl} (h : FlW m s) : ∀ j,FlW m (flJ m i s j) /\ flM (flJ m i s j) <= flM s
 | 0=>⟨h,x0l _⟩
 | j + 1=>by
  obtain ⟨h1,h2⟩:=si h j
  obtain ⟨h3,h4⟩:=BI (i:=i) h1 (cm m i j)
  exact ⟨h3,x1x h4 h2⟩
theorem mN (sp : List Int) (q : List Nat) : (gB sp q).length=q.length:=by unfold gB;rw [l7];simp
theorem p6 {sp : List Int} {q : List Nat} {a : Nat} (h0 : 0 < q.length) (h : a ∈ gB sp q) : a ∈ q:=by
 have h1:=k9 (sp:=sp) (n:=q.length - 1) (swp q 0 (q.length - 1)) 0 (by simp) a
 rw [iL h0 (by omega)] at h1
 exact x03.1 (by rw [<- h1];exact x03.2 h)
theorem vH {m : Msh} {s : Fl} (h : FlW m s) (h0 : 0 < s.q.length) : FlW m { s with q:=(gB s.sp s.q).take (s.q.length - 1) } /\ flM { s with q:=(gB s.sp s.q).take (s.q.length - 1) } < flM s /\ fAt (gB s.sp s.q) (s.q.length - 1) < m.f.length:=by
 have hn:=h.n
 refine ⟨⟨h.rc,h.sp,h.ou,fun a ha=>h.q a (p6 h0 (x0J ha)),?_⟩,?_,h.q _ (p6 h0 (eY (by rw [mN];omega)))⟩
 ·simp [mN];omega
 ·simp [flM,mN];omega
theorem fN {m : Msh} {s : Fl} (h : FlW m s) : FlW m (dZ m s) /\ (0 < s.q.length -> flM (dZ m s) < flM s):=by
 unfold dZ
 split
 ·exact ⟨h,fun h0=>by omega⟩
 ·rename_i h0
  obtain ⟨h1,h2,_⟩:=vH h (by omega)
  obtain ⟨h3,h4⟩:=si (i:=fAt (gB s.sp s.q) (s.q.length - 1)) h1 3
  exact ⟨h3,fun _=>by omega⟩
theorem ow (m : Msh) : ∀ (k j : Nat) (s : Fl),flN m (k + j) s=flN m j (flN m k s)
 | 0,j,s=>by simp [flN]
 | k + 1,j,s=>by rw [Nat.succ_add];simp only [flN];exact ow m k j _
theorem ma (m : Msh) {s : Fl} (h : s.q.length=0) : ∀ j,flN m j s=s
 | 0=>rfl
 | j + 1=>by simp only [flN,dZ,if_pos h];exact ma m h j
theorem Am {m : Msh} : ∀ (k : Nat) {s : Fl},FlW m s -> FlW m (flN m k s)
 | 0,s,h=>h
 | k + 1,s,h=>Am k (fN h).1
theorem nN (m : Msh) : ∀ (i x : Nat),i <= x -> (fl0 m i).2.getD x false=false
 | 0,x,_=>by simp [fl0,x0T];split <;> rfl
 | i + 1,x,h=>by
  unfold fl0
  split
  ·simp only [x1p,List.getElem?_set]
   rw [if_neg (by omega)]
   have:=nN m i x (by omega)
   simpa using this
  ·exact nN m i x (by omega)
theorem Al (m : Msh) : ∀ i,i <= m.f.length -> (fl0 m i).1.length + (fl0 m i).2.count false=m.f.length
 | 0,_=>by simp [fl0]
 | i + 1,h=>by
  have h1:=Al m i (by omega)
  unfold fl0
  split
  ·have:=jQ (l:=(fl0 m i).2) (i:=i) (by rw [(ju m i).1];omega) (nN m i i (x0l _))
   simp only [jT,x0I,List.length_singleton]
   omega
  ·exact h1
theorem jv (m : Msh) : FlW m (dL m) /\ flM (dL m) <= 2 * m.f.length:=by
 obtain ⟨h1,h2,h3⟩:=ju m m.f.length
 have h4:=Al m m.f.length (x0l _)
 refine ⟨⟨h1,by simp [dL],by simp [dL],h3,by simp only [dL];omega⟩,?_⟩
 simp only [flM,dL]
 omega
end Go.Gv

namespace Go.Gv
structure Fo (n : Nat) (f : List Nat) : Prop where
 len : f.length=n
 le : ∀ i,i < n -> fAt f i <= i
def ftN (f : List Nat) : Nat -> Nat -> Nat
 | 0,i=>i
 | k + 1,i=>if fAt f i=i then i else ftN f k (fAt f i)
def ftF (f : List Nat) (i : Nat) : Nat:=ftN f i i
theorem u7 {n : Nat} {f : List Nat} (h : Fo n f) : ∀ (k i : Nat),i < n -> i <= k -> ftN f k i=ftN f i i:=by
 intro k
 induction k using Nat.strongRecOn with
 | _ k ih =>
  intro i hi hk
  have hle:=h.le i hi
  cases i with
  | zero =>
   cases k with
   | zero=>rfl
   | succ k=>unfold ftN;rw [if_pos (by omega)]
  | succ i =>
   cases k with
   | zero=>omega
   | succ k =>
    simp only [ftN]
    split
    ·rfl
    ·rename_i hne
     by_cases hk2 : k=i
     ·rw [hk2]
     ·rw [ih k (by omega) (fAt f (i + 1)) (by omega) (by omega),ih i (by omega) (fAt f (i + 1)) (by omega) (by omega)]
theorem dM {f : List Nat} {i : Nat} (e : fAt f i=i) : ftF f i=i:=by
 unfold ftF
 cases i with
 | zero=>rfl
 | succ i=>simp only [ftN,e,if_true]
theorem eX {n : Nat} {f : List Nat} (h : Fo n f) {i : Nat} (hi : i < n) : ftF f i=ftF f (fAt f i):=by
 have hle:=h.le i hi
 by_cases e : fAt f i=i
 ·rw [e]
 ·unfold ftF
  cases i with
  | zero=>omega
  | succ i =>
   rw [ftN,if_neg e]
   exact u7 h i _ (by omega) (by omega)
theorem me {n : Nat} {f : List Nat} (h : Fo n f) : ∀ i,i < n -> ftF f i <= i /\ fAt f (ftF f i)=ftF f i:=by
 intro i
 induction i using Nat.strongRecOn with
 | _ i ih =>
  intro hi
  have hle:=h.le i hi
  by_cases e : fAt f i=i
  ·rw [dM e];exact ⟨x0l _,e⟩
  ·rw [eX h hi]
   obtain ⟨h1,h2⟩:=ih (fAt f i) (by omega) (by omega)
   exact ⟨by omega,h2⟩
theorem eJ {f : List Nat} {i j x : Nat} (h : i < f.length) : fAt (f.set i x) j=if j=i then x else fAt f j:=by
 unfold fAt
 simp only [x1p,List.getElem?_set]
 by_cases e : j=i
 ·subst e;simp [h]
 ·rw [if_neg (fun h=>e h.symm),if_neg e]
theorem RH {n : Nat} {f : List Nat} (h : Fo n f) {i : Nat} (hi : i < n) : Fo n (f.set i (fAt f (fAt f i))) /\ ∀ x,x < n -> ftF (f.set i (fAt f (fAt f i))) x=ftF f x:=by
 have hl : i < f.length:=by rw [h.len];exact hi
 have h1:=h.le i hi
 have h2:=h.le (fAt f i) (by omega)
 have hF : Fo n (f.set i (fAt f (fAt f i))):=by
  refine ⟨by simp [h.len],fun j hj=>?_⟩
  rw [eJ hl]
  split
  ·omega
  ·exact h.le j hj
 refine ⟨hF,fun x=>?_⟩
 induction x using Nat.strongRecOn with
 | _ x ih =>
  intro hx
  have hst:=eX hF hx
  have hx1:=h.le x hx
  rw [eJ hl] at hst
  by_cases e : x=i
  ·rw [if_pos e] at hst
   subst e
   by_cases e2 : fAt f (fAt f x)=x
   ·have e3 : fAt f x=x:=by omega
    rw [dM e3]
    exact dM (by rw [eJ hl,if_pos rfl];exact e2)
   ·rw [hst,ih _ (by omega) (by omega),eX h hx,eX h (by omega : fAt f x < n)]
  ·rw [if_neg e] at hst
   by_cases e2 : fAt f x=x
   ·rw [dM e2]
    exact dM (by rw [eJ hl,if_neg e];exact e2)
   ·rw [hst,ih _ (by omega) (by omega),<- eX h hx]
def hlv (f : List Nat) : Nat -> Nat -> List Nat
 | 0,_=>f
 | k + 1,i=>if fAt f i=i then f else hlv (f.set i (fAt f (fAt f i))) k (fAt f (fAt f i))
def hlL (f : List Nat) (i : Nat) : List Nat:=hlv f i i
theorem pL {n : Nat} : ∀ (k : Nat) {f : List Nat} {i : Nat},Fo n f -> i < n -> Fo n (hlv f k i) /\ ∀ x,x < n -> ftF (hlv f k i) x=ftF f x
 | 0,f,i,h,_=>⟨h,fun _ _=>rfl⟩
 | k + 1,f,i,h,hi=>by
  unfold hlv
  split
  ·exact ⟨h,fun _ _=>rfl⟩
  ·obtain ⟨h1,h2⟩:=RH h hi
   have h3:=h.le i hi
   have h4:=h.le (fAt f i) (by omega)
   obtain ⟨h5,h6⟩:=pL k h1 (show fAt f (fAt f i) < n by omega)
   exact ⟨h5,fun x hx=>by rw [h6 x hx,h2 x hx]⟩
theorem pK {n : Nat} {f : List Nat} {i : Nat} (h : Fo n f) (hi : i < n) : Fo n (hlL f i) /\ ∀ x,x < n -> ftF (hlL f i) x=ftF f x:=pL i h hi
theorem tB {n : Nat} {f : List Nat} (h : Fo n f) {M m : Nat} (hM : M < n) (e1 : fAt f M=M) (e2 : fAt f m=m) (hm : m <= M) :
  Fo n (f.set M m) /\ ∀ x,x < n -> ftF (f.set M m) x=if ftF f x=M then m else ftF f x:=by
 have hl : M < f.length:=by rw [h.len];exact hM
 have hF : Fo n (f.set M m):=by
  refine ⟨by simp [h.len],fun j hj=>?_⟩
  rw [eJ hl]
  split
  ·omega
  ·exact h.le j hj
 refine ⟨hF,fun x=>?_⟩
 induction x using Nat.strongRecOn with
 | _ x ih =>
  intro hx
  have hst:=eX hF hx
  have hx1:=h.le x hx
  rw [eJ hl] at hst
  by_cases e : x=M
  ·rw [if_pos e] at hst
   subst e
   rw [dM e1,if_pos rfl,hst]
   by_cases e3 : m=x
   ·subst e3
    exact dM (by rw [eJ hl,if_pos rfl])
   ·exact dM (by rw [eJ hl,if_neg e3];exact e2)
  ·rw [if_neg e] at hst
   by_cases e3 : fAt f x=x
   ·rw [dM e3,if_neg e]
    exact dM (by rw [eJ hl,if_neg e];exact e3)
   ·rw [hst,ih _ (by omega) (by omega),<- eX h hx]
def sv (f : List Nat) (a b : Nat) : List Nat:=(hlL (hlL f a) b).set (max (ftF f a) (ftF f b)) (min (ftF f a) (ftF f b))
theorem re {n : Nat} {f : List Nat} (h : Fo n f) {a b : Nat} (ha : a < n) (hb : b < n) :
  Fo n (sv f a b) /\ ∀ x,x < n -> ftF (sv f a b) x=if ftF f x=max (ftF f a) (ftF f b) then min (ftF f a) (ftF f b) else ftF f x:=by
 obtain ⟨h1,r1⟩:=pK h ha
 obtain ⟨h2,r2⟩:=pK h1 hb
 have hr : ∀ x,x < n -> ftF (hlL (hlL f a) b) x=ftF f x:=fun x hx=>by rw [r2 x hx,r1 x hx]
 have ga:=me h a ha
 have gb:=me h b hb
 have fx : ∀ x,x < n -> fAt (hlL (hlL f a) b) (ftF f x)=ftF f x:=fun x hx=>by
  have:=(me h2 x hx).2
  rw [hr x hx] at this
  exact this
 have e1 : fAt (hlL (hlL f a) b) (max (ftF f a) (ftF f b))=max (ftF f a) (ftF f b):=by
  rcases Nat.le_total (ftF f a) (ftF f b) with g | g
  ·rw [Nat.max_eq_right g];exact fx b hb
  ·rw [Nat.max_eq_left g];exact fx a ha
 have e2 : fAt (hlL (hlL f a) b) (min (ftF f a) (ftF f b))=min (ftF f a) (ftF f b):=by
  rcases Nat.le_total (ftF f a) (ftF f b) with g | g
  ·rw [Nat.min_eq_left g];exact fx a ha
  ·rw [Nat.min_eq_right g];exact fx b hb
 obtain ⟨q1,q2⟩:=tB h2 (M:=max (ftF f a) (ftF f b)) (m:=min (ftF f a) (ftF f b)) (by omega) e1 e2 (by omega)
 refine ⟨q1,fun x hx=>?_⟩
 unfold sv
 rw [q2 x hx,hr x hx]
inductive Cn (R : Nat -> Nat -> Prop) : Nat -> Nat -> Prop
 | refl (a : Nat) : Cn R a a
 | step {a b c : Nat} : Cn R a b -> R b c -> Cn R a c
theorem Cn.trans {R : Nat -> Nat -> Prop} {a b c : Nat} (h : Cn R a b) (g : Cn R b c) : Cn R a c:=by
 induction g with
 | refl=>exact h
 | step _ r ih=>exact .step ih r
theorem Cn.symm {R : Nat -> Nat -> Prop} (hs : ∀ a b,R a b -> R b a) {a b : Nat} (h : Cn R a b) : Cn R b a:=by
 induction h with
 | refl=>exact .refl _
 | step _ r ih=>exact (Cn.step (.refl _) (hs _ _ r)).trans ih
theorem Cn.mono {R S : Nat -> Nat -> Prop} (hs : ∀ a b,R a b -> S a b) {a b : Nat} (h : Cn R a b) : Cn S a b:=by
 induction h with
 | refl=>exact .refl _
 | step _ r ih=>exact .step ih (hs _ _ r)
def ud (n : Nat) (R : Nat -> Nat -> Prop) (f : List Nat) : Prop:=∀ x,x < n -> Cn R x (ftF f x)
theorem ud.init {n : Nat} (R : Nat -> Nat -> Prop) : Fo n (List.range n) /\ ud n R (List.range n) /\ ∀ x,x < n -> ftF (List.range n) x=x:=by
 have hf : ∀ x,x < n -> fAt (List.range n) x=x:=fun x hx=>by simp [fAt,hx]
 have hr : ∀ x,x < n -> ftF (List.range n) x=x:=fun x hx=>dM (hf x hx)
 exact ⟨⟨by simp,fun i hi=>by rw [hf i hi];omega⟩,fun x hx=>by rw [hr x hx];exact .refl _,hr⟩
theorem ud.join {n : Nat} {R : Nat -> Nat -> Prop} {f : List Nat} (hs : ∀ a b,R a b -> R b a) (h : Fo n f) (hi : ud n R f) {a b : Nat} (ha : a < n) (hb : b < n) (hr : R a b) : ud n R (sv f a b):=by
 intro x hx
 obtain ⟨_,q⟩:=re h ha hb
 rw [q x hx]
 have wab : Cn R (ftF f a) (ftF f b):=((hi a ha).symm hs).trans ((Cn.step (.refl _) hr).trans (hi b hb))
 split
 ·rename_i e
  have h1:=hi x hx
  rw [e] at h1
  refine h1.trans ?_
  rcases Nat.le_total (ftF f a) (ftF f b) with g | g
  ·rw [Nat.max_eq_right g,Nat.min_eq_left g];exact wab.symm hs
  ·rw [Nat.max_eq_left g,Nat.min_eq_right g];exact wab
 ·exact hi x hx
theorem Cn.root {R : Nat -> Nat -> Prop} {f : List Nat} (hR : ∀ a b,R a b -> ftF f a=ftF f b) {a b : Nat} (h : Cn R a b) : ftF f a=ftF f b:=by
 induction h with
 | refl=>rfl
 | step _ r ih=>rw [ih,hR _ _ r]
end Go.Gv

namespace Go.Gv
variable {C : CC} (hC : ay prog C)
include hC
theorem rU (b : Bool) (xs : List Int) (h2 : xs.length < 2 ^ 40) : C 42 [slx b (xs.map fun n=>[.int .i64 n])] .any [.own 1 (xs.map fun n=>[.int .i64 n])]:=by
 cases xs with
 | nil =>
  cases b with
  | true =>
   show C 42 [.nils] .any [.own 1 []]
   refine o6 hC (nf:=N42) rfl rfl ?_
   simp [N42]
  | false =>
   show C 42 [.sl []] .any [.own 1 []]
   refine o6 hC (nf:=N42) rfl rfl ?_
   simp [N42]
 | cons x xs =>
  have e : slx b ((x::xs).map fun n=>[D.int .i64 n])=.sl ((x::xs).map fun n=>[D.int .i64 n]):=by cases b <;> rfl
  rw [e]
  obtain ⟨l,hl⟩ : ∃ l,l=x::xs:=⟨_,rfl⟩
  rw [<- hl] at h2 ⊢
  have h : 0 < l.length:=by rw [hl];simp
  refine o6 hC (nf:=N42) rfl rfl ?_
  simp [N42]
  refine ⟨fun _=>?_,fun h0=>?_⟩
  ·have : l.length < 1099511627776:=h2
   omega
  ·subst h0
   simp at h
end Go.Gv

set_option maxRecDepth 4000
namespace Go.Gv
def gj (n m : Nat) (v : Int) : List (List D):=List.replicate m [.int .i64 v]++List.replicate (n - m) [.int .i64 0]
theorem qg {n m : Nat} {v : Int} (h : m <= n) : (gj n m v).length=n:=by simp [gj];omega
theorem mU (n m : Nat) (v : Int) : ∀ e ∈ gj n m v,e.length=1 /\ ∀ c ∈ e,aK c=true:=by
 intro e he
 rcases x0m.1 he with h | h <;> (rw [(List.mem_replicate.1 h).2];simp [aK])
theorem n5 (n m : Nat) (v : Int) : ∀ e ∈ gj n m v,∀ c ∈ e,aK c=true:=fun e he=>(mU n m v e he).2
theorem nZ (n : Nat) (v : Int) : gj n n v=List.replicate n [.int .i64 v]:=by simp [gj]
theorem n6 {n m : Nat} {v : Int} (h : m <= n) : gJ (gj n m v) m (((gj n m v).take m).take (n - m))=gj n (min n (m + m)) v:=by
 have h1 : (gj n m v).take m=List.replicate m [.int .i64 v]:=by
  unfold gj
  rw [List.take_append_of_le_length (by simp)]
  simp
 rw [h1,List.take_replicate]
 unfold gJ
 rw [h1,List.length_replicate]
 unfold gj
 rw [List.drop_append,List.drop_eq_nil_of_le (by simp),x1d,List.length_replicate,List.drop_replicate]
 have e1 : min n (m + m)=m + min (n - m) m:=by omega
 rw [e1,<- List.replicate_append_replicate]
 congr 2
 omega
theorem rB {n : Nat} {v : Int} (h : 0 < n) : gJ (List.replicate n [D.int .i64 0]) 0 ([[D.int .i64 v]].take n)=gj n 1 v:=by
 have : [[D.int .i64 v]].take n=[[.int .i64 v]]:=by
  rw [x0q (by simp;omega)]
 rw [this]
 unfold gJ gj
 simp
variable {C : CC} (hC : ay prog C)
include hC
theorem vT (v : Int) (n : Nat) (hn : n < 2 ^ 40) : C 315 [.sl [[.int .i64 v]],.int .i64 n] .any [.own 1 (List.replicate n [.int .i64 v])]:=by
 have k0:=rV hC 1 n (by omega) (by omega)
 have k1 : C 333 [.int .u64 1,.int .u64 n] (.tup [.int .u64 0,.int .u64 n]) []:=by
  have e1 : 1 * n / 2 ^ 64=0:=by omega
  have e2 : 1 * n % 2 ^ 64=n:=by omega
  rw [e1,e2] at k0
  refine aw hC (nf:=N333) rfl rfl ?_
  simp [N333]
  simp at k0
  refine aa k0 (.inl rfl) ?_
  simp
 have w1 : IntKind.wrap .u64 (n : Int)=n:=by
  have e : (2 : Int) ^ IntKind.bits .u64=18446744073709551616:=by decide
  have e2 : IntKind.signed .u64=false:=rfl
  simp only [IntKind.wrap,e,e2,Bool.false_and,x0i,if_false]
  omega
 have w2 : IntKind.wrap .i64 (n : Int)=n:=af (by omega) (by omega)
 refine o6 hC (nf:=N315) rfl rfl ?_
 have hn0 : ¬ (n : Int) < 0:=by omega
 have hn1 : ¬ (9223372036854775807 : Int) < n:=by omega
 have hn2 : (n : Int) * 8 <= 140737488355328:=by omega
 simp [N315,w1,hn0]
 refine aa k1 (.inl rfl) ?_
 simp [w2,hn1,hn2,aK]
 refine ⟨fun h0=>?_,fun h0=>?_⟩
 ·refine av Nat (fun m=>[(7,.ref (.r 10112) 0 n),(8,.int .i64 m),(10112,.blk 1 (gj n m v))]) (fun m=>m <= n /\ (0 < n -> 0 < m)) (fun m=>n - m) 0 ⟨by omega,by omega⟩ (by subst h0;simp [gj]) ?_
  rintro m ⟨hm,hm0⟩
  simp
  refine aj (fun h=>?_) (fun h=>?_) <;> simp at h
  ·have hm1 : 0 < m:=hm0 (by omega)
   have hl:=qg (v:=v) hm
   have hnx:=n6 (v:=v) hm
   have hc:=mU n m v
   have hc1:=n5 n m v
   have hnm : ¬ n - m=0:=by omega
   have hpos : 0 < n - m:=by omega
   have htk : ∀ e ∈ (gj n m v).take m,∀ c ∈ e,aK c=true:=fun e he=>hc1 e (x0J he)
   have hw : IntKind.wrap .i64 ((m : Int) + ((min m (n - m) : Nat) : Int))=((min n (m + m) : Nat) : Int):=af (by omega) (by omega)
   simp [h,hl,hm,nv]
   try refine ⟨htk,hm1,fun hz=>absurd hz hnm,fun _=>⟨hc1,htk,ai (by decide +kernel),min n (m + m),⟨by omega,fun _=>by omega⟩,by omega,hw,hnx⟩⟩
  ·have e : m=n:=by omega
   subst e
   simp [nZ]
 ·rw [rB h0]
  have h01 : min 1 n=1:=by omega
  refine av Nat (fun m=>[(7,.ref (.r 10112) 0 n),(8,.int .i64 m),(10112,.blk 1 (gj n m v))]) (fun m=>m <= n /\ (0 < n -> 0 < m)) (fun m=>n - m) 1 ⟨by omega,by omega⟩ (by simp [h01]) ?_
  rintro m ⟨hm,hm0⟩
  simp
  refine aj (fun h=>?_) (fun h=>?_) <;> simp at h
  ·have hm1 : 0 < m:=hm0 (by omega)
   have hl:=qg (v:=v) hm
   have hnx:=n6 (v:=v) hm
   have hc:=mU n m v
   have hc1:=n5 n m v
   have hnm : ¬ n - m=0:=by omega
   have hpos : 0 < n - m:=by omega
   have htk : ∀ e ∈ (gj n m v).take m,∀ c ∈ e,aK c=true:=fun e he=>hc1 e (x0J he)
   have hw : IntKind.wrap .i64 ((m : Int) + ((min m (n - m) : Nat) : Int))=((min n (m + m) : Nat) : Int):=af (by omega) (by omega)
   simp [h,hl,hm,nv]
   try refine ⟨htk,hm1,fun hz=>absurd hz hnm,fun _=>⟨hc1,htk,ai (by decide +kernel),min n (m + m),⟨by omega,fun _=>by omega⟩,by omega,hw,hnx⟩⟩
  ·have e : m=n:=by omega
   subst e
   simp [nZ]
end Go.Gv

namespace Go.Gv
section
variable {C : Nat -> List D -> D -> List D -> Prop} (hC : ay prog C)
include hC
theorem vJ (fs : List (List D)) (d : D) : C 317 [.ptr [.sl fs,d]] (.int .i64 fs.length) []:=by
 refine aw hC (nf:=N317) rfl rfl ?_
 simp [N317]
theorem sk (fs : List Nat) (sp : List Int) (x : Nat) (hx : x < sp.length) (hb : ∀ a ∈ fs,a < sp.length) (h2 : fs.length + 1 < 2 ^ 40) : C 316 [.blk 2 [[.own 1 (nfR fs),.slv 0 (inR sp)]],.ifa 20 (.r 10015) 0 0,.ifi 2 x] (.tup []) [.blk 2 [[.own 1 (nfR (upL sp (fs++[x]) fs.length)),.slv 0 (inR sp)]],.nils]:=hC.2 316 2 (qB fs sp) [.ifa 20 (.r 10015) 0 0,.ifi 2 x] (.tup []) (qB (upL sp (fs++[x]) fs.length) sp) fun C' h'=>xQ h' fs sp x hx hb h2
theorem BN (fs : List Nat) (sp : List Int) (h0 : 0 < fs.length) (hb : ∀ a ∈ fs,a < sp.length) (h2 : fs.length < 2 ^ 40) : C 318 [.blk 2 [[.own 1 (nfR fs),.slv 0 (inR sp)]],.ifa 20 (.r 10015) 0 0] (.ifi 2 (fAt (gB sp fs) (fs.length - 1) : Nat)) [.blk 2 [[.own 1 (nfR ((gB sp fs).take (fs.length - 1))),.slv 0 (inR sp)]],.nils]:=hC.2 318 2 (qB fs sp) [.ifa 20 (.r 10015) 0 0] (.ifi 2 (fAt (gB sp fs) (fs.length - 1) : Nat)) (qB ((gB sp fs).take (fs.length - 1)) sp) fun C' h'=>BM h' fs sp h0 hb h2
set_option maxRecDepth 8000 in
set_option maxHeartbeats 2000000 in
theorem nP (dec : Nat -> List UInt8) (hI : ∀ n : Nat,n < 100 -> C 127 [.int .i64 n] (.str (dec n)) []) (m : Msh) (hz : bV m=true -> m.s.length <= 100 /\ m.f.length <= 100) :
  C 280 [.agg (aW m)] (if ap m then .tup [mc m,.int .i64 0] else .tup [.nilp,.int .i64 1]) []:=by
 have k1:=jh hC dec hI m hz
 have k2:=Bb hC dec hI m hz
 simp only [ab] at k1 k2
 refine aw hC (nf:=N280) rfl rfl ?_
 simp [N280,ab]
 refine aa k1 (.inr rfl) ?_
 cases hv : ap m
 ·simp
 ·simp
  refine aa k2 (.inr rfl) ?_
  have hsz:=(cy hv).2
  have kc:=rU hC true (bp m) (by simp;omega)
  have kr:=vT hC (-1) m.f.length (by omega)
  rw [<- eZ] at kc
  have er : List.replicate m.f.length [D.int .i64 (-1)]=inR (List.replicate m.f.length (-1)):=by simp [inR]
  rw [er] at kr
  simp [hv]
  refine j4 kc ?_
  simp
  refine j4 kr ?_
  simp
  have hc1 : ∀ e ∈ inR (bp m),∀ c ∈ e,aK c=true:=by simp [inR]
  refine ⟨by rcases fW true (inR (bp m)) with h | ⟨h,_⟩ <;> rw [h] <;> trivial,?_⟩
  refine ux (sz:=1) (by decide) (by decide) rfl (by decide) rfl (by decide) (by simp) hc1 rfl (by simp [bm,rt]) (fun h0=>?_) (fun hn=>?_)
  ·simp [h0,rt]
   have hsm : bp m=[]:=x0v (by simpa using h0)
   have hnb : nbA m=[]:=x0v (by simpa using h0)
   refine av Unit (fun _=>[(4,.sl (nbA m)),(7,.ptx [.sl (nbA m),slx true (inR (bp m)),.ref (.r 10544) 0 0,.ref (.r 10608) 0 0]),(8,.adr (.r 10736) 0 0),(9,.ref (.r 10144) 0 0),(50,.sl (nbA m)),(51,.int .i64 0),
    (52,.int .i64 0),(10544,.blk 1 (inR (bp m))),(10608,.blk 1 []),(10736,.blk 2 [[.own 1 [],.any]]),(10144,.blk 1 [])]) (fun _=>True) (fun _=>0) () trivial (by simp) ?_
   rintro _ _
   simp
   refine av Unit (fun _=>[(4,.sl (nbA m)),(7,.ptx [.sl (nbA m),slx true (inR (bp m)),.ref (.r 10544) 0 0,.ref (.r 10608) 0 0]),(8,.adr (.r 10736) 0 0),(9,.ref (.r 10144) 0 0),(10544,.blk 1 (inR (bp m))),(10608,.blk 1 []),(10736,.blk 2 [[.own 1 [],.any]]),(10144,.blk 1 [])]) (fun _=>True) (fun _=>0) () trivial (by simp) ?_
   rintro _ _
   have kl:=vJ hC [] .any
   simp at kl
   simp
   refine aa kl (.inl rfl) ?_
   simp
   simp [mc,aV,h0,flN,dL,hsm]
  ·simp [rt]
   refine ⟨by omega,?_⟩
   have hF:=fun e (he : e ∈ inR (bp m))=>hc1 e he
   have hr0 : List.replicate m.f.length [D.bool false]=rcR (fl0 m 0).2:=by simp [fl0,rcR]
   rw [hr0]
   refine av Nat (fun i=>[(4,.sl (nbA m)),(7,.ptx [.sl (nbA m),slx true (inR (bp m)),.ref (.n 10736 0 1) 0 m.f.length,.ref (.r 10608) 0 m.f.length]),(8,.adr (.r 10736) 0 0),(9,.ref (.r 10144) 0 m.f.length),(50,.sl (nbA m)),(51,.int .i64 m.f.length),(52,.int .i64 i),
    (10736,.blk 2 [[.own 1 (nfR (fl0 m i).1),.own 1 (inR (bp m))]]),(10608,.blk 1 (inR (List.replicate m.f.length (-1)))),(10144,.blk 1 (rcR (fl0 m i).2))]) (fun i=>i <= m.f.length) (fun i=>m.f.length - i) 0 (by simp) (by simp [fl0,nfR]) ?_
   rintro i hi
   obtain ⟨l1,l2,l3⟩:=ju m i
   have hw : IntKind.wrap .i64 ((i : Int) + 1)=((i + 1 : Nat) : Int):=af (by omega) (by omega)
   simp
   refine aj (fun g1=>?_) (fun g1=>?_) <;> simp at g1 <;> simp [g1]
   ·have kh:=so hC (b:=false) (xs:=[nbF m i 0,nbF m i 1,nbF m i 2]) (-1) (by simp)
    have kh2 : C 223 [.sl [[.int .i64 (nbF m i 0)],[.int .i64 (nbF m i 1)],[.int .i64 (nbF m i 2)]],.int .i64 (-1)] (.bool (bsd m i (-1))) []:=by simpa [bsd] using kh
    simp [aq (lK g1),bT]
    refine aa kh2 (.inl rfl) ?_
    simp
    have e0 : fl0 m (i + 1)=if bsd m i (-1) then (upL (bp m) ((fl0 m i).1++[i]) (fl0 m i).1.length,(fl0 m i).2.set i true) else fl0 m i:=rfl
    refine aj (fun g2=>?_) (fun g2=>?_)
    ·rw [if_pos g2] at e0
     simp [g2,l1,g1,d7,yw,jK,CW]
     refine j5 (b:=10736) (fs':=nfR (upL (bp m) ((fl0 m i).1++[i]) (fl0 m i).1.length)) (d:=.tup []) rfl (by decide) (by simp) (by simp) rfl rfl (by simp) (kB _) (mq _) (.inr rfl) (kB _) ?_ ?_
     ·exact sk hC (fl0 m i).1 (bp m) i (by simp;omega) (fun a ha=>by have:=l3 a ha;simp;omega) (by omega)
     ·simp [b7]
      exact ⟨i + 1,by omega,by omega,hw,by rw [e0],by rw [e0]⟩
    ·rw [if_neg (by simp [g2])] at e0
     simp [g2]
     exact ⟨i + 1,by omega,by omega,hw,by rw [e0],by rw [e0]⟩
   ·have hi2 : i=m.f.length:=by omega
    subst hi2
    obtain ⟨W0,M0⟩:=jv m
    refine av (Fl × Nat) (fun s=>[(4,.sl (nbA m)),(7,.ptx [.sl (nbA m),slx true (inR (bp m)),.ref (.n 10736 0 1) 0 m.f.length,.ref (.r 10608) 0 m.f.length]),(8,.adr (.r 10736) 0 0),(9,.ref (.r 10144) 0 m.f.length),
     (10736,.blk 2 [[.own 1 (nfR s.1.q),.own 1 (inR s.1.sp)]]),(10608,.blk 1 (inR s.1.ou)),(10144,.blk 1 (rcR s.1.rc))]) (fun s=>FlW m s.1 /\ s.1=flN m s.2 (dL m) /\ s.2 + flM s.1 <= 2 * m.f.length) (fun s=>flM s.1) (dL m,0) ⟨W0,rfl,by simpa using M0⟩ (by simp [dL]) ?_
    rintro ⟨s,k⟩ ⟨W,hs,hk⟩
    simp only at W hs hk
    have hn:=W.n
    have kl:=vJ hC (nfR s.q) (.sl (inR s.sp))
    simp at kl
    simp
    refine aa kl (.inl rfl) ?_
    simp
    refine aj (fun g2=>?_) (fun g2=>?_) <;> simp at g2 <;> simp [g2]
    ·obtain ⟨Wp,Mp,hpi⟩:=vH W g2
     obtain ⟨x,hx⟩ : ∃ x,x=fAt (gB s.sp s.q) (s.q.length - 1):=⟨_,rfl⟩
     obtain ⟨s1,hs1⟩ : ∃ s1 : Fl,s1={ s with q:=(gB s.sp s.q).take (s.q.length - 1) }:=⟨_,rfl⟩
     have hst : dZ m s=flJ m x s1 3:=by
      unfold dZ
      rw [if_neg (by omega),<- hx,<- hs1]
     rw [<- hs1] at Wp Mp
     rw [<- hx] at hpi
     refine j5 (b:=10736) (fs':=nfR s1.q) (d:=.ifi 2 (x : Int)) rfl (by decide) (by simp) (by simp) rfl rfl (by simp) (kB _) (mq _) (.inl rfl) (kB _) ?_ ?_
     ·have:=BN hC s.q s.sp g2 (fun a ha=>by rw [W.sp];exact W.q a ha) (by omega)
      rw [<- hx] at this
      rw [hs1]
      exact this
     ·have e1 : s1.sp=s.sp:=by rw [hs1]
      have e2 : s1.ou=s.ou:=by rw [hs1]
      have e3 : s1.rc=s.rc:=by rw [hs1]
      simp [b7,aq (lK hpi)]
      rw [<- e1,<- e2,<- e3]
      refine av Nat (fun j=>[(4,.sl (nbA m)),(7,.ptx [.sl (nbA m),slx true (inR (bp m)),.ref (.n 10736 0 1) 0 m.f.length,.ref (.r 10608) 0 m.f.length]),(8,.adr (.r 10736) 0 0),(9,.ref (.r 10144) 0 m.f.length),(12,.int .i64 x),(78,.agg [.int .i64 (nbF m x 0),.int .i64 (nbF m x 1),.int .i64 (nbF m x 2)]),(79,.int .i64 j),
       (10736,.blk 2 [[.own 1 (nfR (flJ m x s1 j).q),.own 1 (inR (flJ m x s1 j).sp)]]),(10608,.blk 1 (inR (flJ m x s1 j).ou)),(10144,.blk 1 (rcR (flJ m x s1 j).rc))]) (fun j=>j <= 3) (fun j=>3 - j) 0 (by simp) (by simp [flJ]) ?_
      rintro j hj
      obtain ⟨Wj,Mj⟩:=si (i:=x) Wp j
      obtain ⟨t,ht⟩ : ∃ t,t=flJ m x s1 j:=⟨_,rfl⟩
      have hnx : flJ m x s1 (j + 1)=nk m x t (nbF m x j):=by rw [ht];rfl
      rw [<- ht] at Wj Mj ⊢
      have htn:=Wj.n
      have hw : IntKind.wrap .i64 ((j : Int) + 1)=((j + 1 : Nat) : Int):=af (by omega) (by omega)
      simp
      refine aj (fun g3=>?_) (fun g3=>?_) <;> simp at g3
      ·have hxj : ([.int .i64 (nbF m x 0),.int .i64 (nbF m x 1),.int .i64 (nbF m x 2)] : List D)[j]?.getD .any=.int .i64 (nbF m x j):=by
        rcases (by omega : j=0 \/ j=1 \/ j=2) with rfl | rfl | rfl <;> rfl
       have hbd:=cm m x j
       obtain ⟨kk,hkk⟩ : ∃ kk,kk=nbF m x j:=⟨_,rfl⟩
       rw [<- hkk] at hxj hbd hnx
       simp [show (j : Int) < 3 by omega,hxj]
       refine ⟨by omega,?_⟩
       refine aj (fun g4=>?_) (fun g4=>?_) <;> simp at g4 <;> simp [g4]
       ·have hst2 : flJ m x s1 (j + 1)=t:=by
         rw [hnx]
         unfold nk
         rw [if_pos (.inl g4)]
        exact ⟨j + 1,by omega,by omega,hw,by rw [hst2];exact ⟨rfl,rfl⟩,by rw [hst2],by rw [hst2]⟩
       ·obtain ⟨c,hc⟩ : ∃ c : Nat,kk=c:=⟨kk.toNat,by omega⟩
        subst hc
        have hcn : c < m.f.length:=by omega
        have hcr : c < t.rc.length:=by rw [Wj.rc];exact hcn
        refine ⟨by omega,by simpa using hcn,?_⟩
        simp [a8 (d7 hcr)]
        cases hrc : t.rc.getD c false
        ·simp at hrc
         have hxs : x < t.sp.length:=by rw [Wj.sp];exact hpi
         have hcs : c < t.sp.length:=by rw [Wj.sp];exact hcn
         have hco : c < t.ou.length:=by rw [Wj.ou];exact hcn
         have hcm : c < (bp m).length:=by simpa using hcn
         simp [hrc,d7 hcr,hcn,hpi,jK,a8 (cI hxs),aq (cI hcm),cI hcs,cI hco,oC]
         have hmx : (if t.sp[x]?.getD 0 < (bp m)[c] then (bp m)[c] else t.sp[x]?.getD 0)=mxZ (t.sp.getD x 0) ((bp m).getD c 0):=by
          simp [mxZ,hcn]
         rw [hmx]
         obtain ⟨sp',hsp'⟩ : ∃ sp',sp'=t.sp.set c (mxZ (t.sp.getD x 0) ((bp m).getD c 0)):=⟨_,rfl⟩
         rw [<- hsp']
         have hspl : sp'.length=m.f.length:=by rw [hsp'];simp [Wj.sp]
         have hst2 : flJ m x s1 (j + 1)={ q:=upL sp' (t.q++[c]) t.q.length,rc:=t.rc.set c true,sp:=sp',ou:=t.ou.set c x }:=by
          rw [hnx]
          unfold nk
          rw [if_neg (fun h=>by
           rcases h with h | h
           ·omega
           ·simp at h;rw [hrc] at h;cases h),hsp']
          rfl
         have hst3:=jQ hcr (by simpa using hrc)
         refine ⟨ai (by decide +kernel),?_⟩
         refine j5 (b:=10736) (fs':=nfR (upL sp' (t.q++[c]) t.q.length)) (d:=.tup []) rfl (by decide) (by simp) (by simp) rfl rfl (by simp) (kB _) (mq _) (.inr rfl) (kB _) ?_ ?_
         ·exact sk hC t.q sp' c (by rw [hspl];exact hcn) (fun a ha=>by rw [hspl];exact Wj.q a ha) (by omega)
         ·simp [b7]
          refine ⟨j + 1,by omega,by omega,hw,?_⟩
          rw [hst2]
          simp
        ·have hst2 : flJ m x s1 (j + 1)=t:=by
          rw [hnx]
          unfold nk
          rw [if_pos (.inr (by simpa using hrc))]
         simp at hrc
         simp [hrc]
         exact ⟨j + 1,by omega,by omega,hw,by rw [hst2];exact ⟨rfl,rfl⟩,by rw [hst2],by rw [hst2]⟩
      ·have hj3 : j=3:=by omega
       subst hj3
       rw [<- hst] at ht
       simp
       exact ⟨dZ m s,⟨(fN W).1,k + 1,by rw [ow,<- hs];rfl,by have:=(fN W).2 g2;omega⟩,(fN W).2 g2,by rw [ht];exact ⟨rfl,rfl⟩,by rw [ht],by rw [ht]⟩
    ·have h0 : s.q.length=0:=by simpa using g2
     have hfl : aV m=s:=by
      unfold aV
      rw [show 3 * m.f.length=k + (3 * m.f.length - k) by omega,ow,<- hs]
      exact ma m h0 _
     have hsp:=gX s.sp
     have hou:=gX s.ou
     rw [W.sp] at hsp
     rw [W.ou] at hou
     refine ⟨⟨by rw [W.sp];omega,by rw [W.ou];omega⟩,?_⟩
     rw [mc,hfl,hsp,hou]
end
end Go.Gv

namespace Go.Gv
section
variable {C : Nat -> List D -> D -> List D -> Prop} (hC : f5 prog C)
include hC
end
section
variable {C : Nat -> List D -> D -> List D -> Prop} (hC : ay prog C)
include hC
end
end Go.Gv

namespace Go.Gv
structure RF where
 rc : List Bool
 lf : List Bool
 lv : List Int
 ou : List Int
def act (r : RF) (i : Nat) : Bool:=r.rc.getD i false && !r.lf.getD i false
def rat (r : RF) : Nat -> Int
 | 0=>-1
 | i + 1=>if act r i=true /\ (rat r i < 0 \/ r.lv.getD i 0 < r.lv.getD (rat r i).toNat 0) then (i : Int) else rat r i
theorem ef (r : RF) : ∀ i,(rat r i=-1 /\ ∀ b,b < i -> act r b=false) \/ ∃ a : Nat,rat r i=a /\ a < i /\ act r a=true /\ ∀ b,b < i -> act r b=true -> r.lv.getD a 0 < r.lv.getD b 0 \/ (r.lv.getD a 0=r.lv.getD b 0 /\ a <= b)
 | 0=>.inl ⟨rfl,fun b hb=>by omega⟩
 | i + 1=>by
  rcases ef r i with ⟨h1,h2⟩ | ⟨a,h1,h2,h3,h4⟩
  ·by_cases ha : act r i=true
   ·right
    refine ⟨i,by simp [rat,ha,h1],by omega,ha,fun b hb hab=>?_⟩
    by_cases e : b=i
    ·subst e;exact .inr ⟨rfl,x0l _⟩
    ·rw [h2 b (by omega)] at hab;cases hab
   ·left
    refine ⟨by simp [rat,ha,h1],fun b hb=>?_⟩
    by_cases e : b=i
    ·subst e;simpa using ha
    ·exact h2 b (by omega)
  ·right
   by_cases hc : act r i=true /\ r.lv.getD i 0 < r.lv.getD a 0
   ·refine ⟨i,?_,by omega,hc.1,fun b hb hab=>?_⟩
    ·unfold rat
     rw [if_pos ⟨hc.1,.inr (by rw [h1];exact hc.2)⟩]
    ·by_cases e : b=i
     ·subst e;exact .inr ⟨rfl,x0l _⟩
     ·rcases h4 b (by omega) hab with h5 | h5
      ·exact .inl (by omega)
      ·exact .inl (by omega)
   ·refine ⟨a,?_,by omega,h3,fun b hb hab=>?_⟩
    ·unfold rat
     rw [if_neg,h1]
     rintro ⟨k1,k2⟩
     rcases k2 with k2 | k2
     ·rw [h1] at k2;omega
     ·rw [h1] at k2;exact hc ⟨k1,k2⟩
    ·by_cases e : b=i
     ·subst e
      have : ¬ r.lv.getD b 0 < r.lv.getD a 0:=fun h=>hc ⟨hab,h⟩
      rcases Int.lt_or_eq_of_le (x0S.1 this) with h5 | h5
      ·exact .inl h5
      ·exact .inr ⟨h5,by omega⟩
     ·exact h4 b (by omega) hab
def dQ (m : Msh) (i : Nat) (r : RF) (k : Int) : RF :=
 if 0 <= k /\ r.rc.getD k.toNat false=false then { r with rc:=r.rc.set k.toNat true,lv:=r.lv.set k.toNat (if r.lv.getD i 0 < (bp m).getD k.toNat 0 then (bp m).getD k.toNat 0 else r.lv.getD i 0),ou:=r.ou.set k.toNat i } else r
def rfI (m : Msh) (i : Nat) (r : RF) : Nat -> RF
 | 0=>r
 | j + 1=>dQ m i (rfI m i r j) (nbF m i j)
def cD (m : Msh) (r : RF) : RF :=
 if rat r m.f.length < 0 then r else rfI m (rat r m.f.length).toNat { r with lf:=r.lf.set (rat r m.f.length).toNat true } 3
def rf0 (m : Msh) : Nat -> List Bool × List Int
 | 0=>(List.replicate m.f.length false,List.replicate m.f.length 0)
 | i + 1=>if bsd m i (-1) then ((rf0 m i).1.set i true,(rf0 m i).2.set i ((bp m).getD i 0)) else rf0 m i
def cL (m : Msh) : RF:={ rc:=(rf0 m m.f.length).1,lf:=List.replicate m.f.length false,lv:=(rf0 m m.f.length).2,ou:=List.replicate m.f.length (-1) }
structure f6 (m : Msh) (s : Fl) (r : RF) : Prop where
 rc : s.rc=r.rc
 ou : s.ou=r.ou
 heap : gU s.sp s.q s.q.length
 cnt : ∀ a,s.q.count a=if act r a then 1 else 0
 lv : ∀ a,r.rc.getD a false=true -> s.sp.getD a 0=r.lv.getD a 0
 un : ∀ a,r.rc.getD a false=false -> s.sp.getD a 0=(bp m).getD a 0
 lf : ∀ a,r.lf.getD a false=true -> r.rc.getD a false=true
 len : r.lf.length=m.f.length /\ r.lv.length=m.f.length
theorem bk {α : Type} {l : List α} {i j : Nat} {x d : α} (h : i < l.length) : (l.set i x).getD j d=if j=i then x else l.getD j d:=by
 simp only [x1p,List.getElem?_set]
 by_cases e : i=j
 ·subst e;simp [h]
 ·rw [if_neg e,if_neg (Ne.symm e)]
theorem pJ {sp sp' : List Int} {q : List Nat} (h : gU sp q q.length) (he : ∀ a ∈ q,sp'.getD a 0=sp.getD a 0) : gU sp' q q.length:=by
 intro i h0 hi
 have:=h i h0 hi
 rw [ez] at this ⊢
 rw [he _ (eY hi),he _ (eY (show (i - 1) / 2 < q.length by omega))]
 exact this
theorem f6.p1 {m : Msh} {s : Fl} {r : RF} {i : Nat} {k : Int} (h : f6 m s r) (W : FlW m s) (hi : r.rc.getD i false=true) (hk : -1 <= k /\ k < m.f.length) : f6 m (nk m i s k) (dQ m i r k):=by
 unfold nk dQ
 by_cases h1 : k=-1
 ·rw [if_pos (.inl h1),if_neg (by omega)]
  exact h
 ·cases h2 : r.rc.getD k.toNat false
  ·rw [if_neg (by rw [h.rc,h2];simp;exact h1),if_pos ⟨by omega,rfl⟩]
   have hkl : k.toNat < m.f.length:=by omega
   have hrl : r.rc.length=m.f.length:=by rw [<- h.rc];exact W.rc
   have hsp:=W.sp
   have hrcs:=fun j=>bk (l:=r.rc) (i:=k.toNat) (j:=j) (x:=true) (d:=false) (by omega)
   have hsps:=fun j x=>bk (l:=s.sp) (i:=k.toNat) (j:=j) (x:=x) (d:=(0 : Int)) (by omega)
   have hlvs:=fun j x=>bk (l:=r.lv) (i:=k.toNat) (j:=j) (x:=x) (d:=(0 : Int)) (by rw [h.len.2];omega)
   have hv : mxZ (s.sp.getD i 0) ((bp m).getD k.toNat 0)=(if r.lv.getD i 0 < (bp m).getD k.toNat 0 then (bp m).getD k.toNat 0 else r.lv.getD i 0):=by rw [h.lv i hi];rfl
   have hnq : k.toNat ∉ s.q:=by
    intro hm
    have h3:=h.cnt k.toNat
    have h4:=x03.2 hm
    simp only [act,h2,Bool.false_and] at h3
    simp at h3
    omega
   obtain ⟨p1,p2,p3⟩:=kG (sp:=s.sp.set k.toNat (mxZ (s.sp.getD i 0) ((bp m).getD k.toNat 0))) (fs:=s.q) (x:=k.toNat) (pJ h.heap (fun a ha=>by
    rw [hsps,if_neg]
    rintro rfl
    exact hnq ha))
   have hlfk : r.lf.getD k.toNat false=false:=by
    cases e : r.lf.getD k.toNat false
    ·rfl
    ·have:=h.lf _ e;rw [h2] at this;cases this
   refine ⟨by simp [h.rc],by simp [h.ou],p1,fun a=>?_,fun a ha=>?_,fun a ha=>?_,fun a ha=>?_,by simp [h.len]⟩
   ·simp only [p2,h.cnt a,act,hrcs]
    by_cases e : a=k.toNat
    ·subst e
     simp only [if_pos,h2,hlfk]
     simp
    ·simp only [if_neg e]
     simp
   ·simp only [hrcs] at ha
    simp only [hsps,hlvs]
    by_cases e : a=k.toNat
    ·rw [if_pos e,if_pos e];exact hv
    ·rw [if_neg e] at ha
     rw [if_neg e,if_neg e]
     exact h.lv a ha
   ·simp only [hrcs] at ha
    simp only [hsps]
    by_cases e : a=k.toNat
    ·rw [if_pos e] at ha;cases ha
    ·rw [if_neg e] at ha
     rw [if_neg e]
     exact h.un a ha
   ·simp only [hrcs]
    split
    ·rfl
    ·exact h.lf a ha
  ·rw [if_pos (.inr (by rw [h.rc];exact h2)),if_neg (by simp)]
   exact h
theorem oX {m : Msh} {i a : Nat} {r : RF} {k : Int} (h : r.rc.getD a false=true) : (dQ m i r k).rc.getD a false=true:=by
 unfold dQ
 split
 ·by_cases e : k.toNat < r.rc.length
  ·rw [bk e]
   split
   ·rfl
   ·exact h
  ·rw [List.set_eq_of_length_le (by omega)]
   exact h
 ·exact h
theorem f6.stepI {m : Msh} {s : Fl} {r : RF} {i : Nat} (h : f6 m s r) (W : FlW m s) (hi : r.rc.getD i false=true) : ∀ j,f6 m (flJ m i s j) (rfI m i r j) /\ (rfI m i r j).rc.getD i false=true
 | 0=>⟨h,hi⟩
 | j + 1=>by
  obtain ⟨h1,h2⟩:=f6.stepI h W hi j
  exact ⟨h1.p1 (si W j).1 h2 (cm m i j),oX h2⟩
theorem f6.step {m : Msh} {s : Fl} {r : RF} (h : f6 m s r) (W : FlW m s) : f6 m (dZ m s) (cD m r) /\ (s.q.length=0 ↔ rat r m.f.length < 0):=by
 have hact : ∀ a,a ∈ s.q ↔ act r a=true:=fun a=>by
  rw [<- x03,h.cnt]
  split <;> simp_all
 rcases ef r m.f.length with ⟨h1,h2⟩ | ⟨a,h1,h2,h3,h4⟩
 ·have h0 : s.q.length=0:=by
   rcases x0P s.q.length with e | e
   ·exact e
   ·have h5:=eY (fs:=s.q) (i:=0) e
    have h6:=h2 _ (W.q _ h5)
    rw [(hact _).1 h5] at h6
    cases h6
  unfold dZ cD
  rw [if_pos h0,if_pos (by omega)]
  exact ⟨h,by rw [h1];exact ⟨fun _=>by omega,fun _=>h0⟩⟩
 ·have hq : a ∈ s.q:=(hact a).2 h3
  have h0 : 0 < s.q.length:=List.length_pos_of_mem hq
  obtain ⟨p1,p2,p3,p4⟩:=vI h.heap h0
  have hfa : fAt s.q 0=a:=by
   have h5:=eY (fs:=s.q) (i:=0) h0
   have h6:=(hact _).1 h5
   have h7:=h4 _ (W.q _ h5) h6
   obtain ⟨x,hx,hxa⟩:=x0L.1 hq
   have h8:=tz h.heap x hx
   rw [dj hx,hxa,ez] at h8
   have hra : r.rc.getD a false=true:=by simp only [act,x0a] at h3;exact h3.1
   have hr0 : r.rc.getD (fAt s.q 0) false=true:=by simp only [act,x0a] at h6;exact h6.1
   rw [h.lv a hra,h.lv _ hr0] at h8
   omega
  have hral : r.rc.getD a false=true:=by simp only [act,x0a] at h3;exact h3.1
  have hlfs:=fun j=>bk (l:=r.lf) (i:=a) (j:=j) (x:=true) (d:=false) (by rw [h.len.1];exact h2)
  have hmid : f6 m { s with q:=(gB s.sp s.q).take (s.q.length - 1) } { r with lf:=r.lf.set a true }:=by
   refine ⟨h.rc,h.ou,p3,fun b=>?_,h.lv,h.un,fun b hb=>?_,by simp [h.len]⟩
   ·have h5:=p4 b
    have h6:=h.cnt b
    have h7 : (gB s.sp s.q)=(bz s.sp (swp s.q 0 (s.q.length - 1)) 0 (s.q.length - 1)).1:=rfl
    rw [h7]
    rw [hfa] at h5
    simp only [act,hlfs]
    by_cases e : b=a
    ·subst e
     rw [if_pos rfl] at h5
     rw [if_pos h3] at h6
     simp
     omega
    ·rw [if_neg e] at h5
     rw [if_neg e]
     simp only [act] at h6
     refine Eq.trans ?_ h6
     omega
   ·simp only [hlfs] at hb
    split at hb
    ·rename_i e;rw [e];exact hral
    ·exact h.lf b hb
  obtain ⟨W1,_,_⟩:=vH W h0
  have hpa : fAt (gB s.sp s.q) (s.q.length - 1)=a:=p1.trans hfa
  refine ⟨?_,by omega⟩
  unfold dZ cD
  rw [if_neg (by omega),if_neg (by omega),h1,hpa]
  exact (hmid.stepI W1 hral 3).1
end Go.Gv
