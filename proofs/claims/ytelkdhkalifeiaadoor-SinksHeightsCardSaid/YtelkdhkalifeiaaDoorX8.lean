/-
  Texts of the proof: H5, H6, H10, K4, K5, K6, K7, K8, M0, W1, W2, W3, H8, H7, H9, H11, H12, SK1, SK2, PH1, SK3p, PT1, S0, S3, SK3, PT2, PF1, PF2, V1, V2, V3, V4, PF3, PF4, PF5, PT3, PT5, I3, I1, I2, I4, H13, H14, H15.
-/
import Derived.Test.YtelkdhkalifeiaaDoorX7
import Derived.Lib.Mul64
import Derived.Laws.Bits64b
import Derived.Laws.MathBits
set_option linter.all false
namespace Go.Gv
def nmR (l : List Nat) : List (List D):=l.map fun (k : Nat)=>[D.int .i64 k]
theorem en (l : List Nat) : nmR l=l.map fun (k : Nat)=>[D.int .i64 k]:=_root_.id rfl
theorem iq {p : Nat -> Bool} {n : Nat} (h : p n=true) : nmR (fil p n)++[[D.int .i64 n]]=nmR (fil p (n + 1)):=by
 rw [cB h];simp [nmR]
theorem ep {p : Nat -> Bool} {n : Nat} (h : p n=false) : nmR (fil p n)=nmR (fil p (n + 1)):=by rw [pw h]
@[simp] theorem OM (l : List Nat) : (nmR l).length=l.length:=by simp [nmR]
@[simp] theorem AV (l : List Nat) : (∀ e ∈ nmR l,∀ c ∈ e,ar c=true)=True:=by simp [nmR]
@[simp] theorem Jv (l : List Nat) : List.take l.length (nmR l)=nmR l:=List.take_of_length_le (by simp)
@[simp] theorem OL (l : List Nat) (x : List D) : (∀ e,e ∈ nmR l \/ e=x -> ∀ c,c ∈ e -> ar c=true)=∀ c,c ∈ x -> ar c=true:=by
 apply propext
 constructor
 ·exact fun h=>h x (.inr rfl)
 ·rintro h e (he | rfl)
  ·exact (AV l).mpr trivial e he
  ·exact h
@[simp] theorem ON : nmR []=[]:=rfl
def boR (l : List Bool) : List (List D):=l.map fun b=>[D.bool b]
theorem nq (l : List Bool) : boR l=l.map fun b=>[D.bool b]:=_root_.id rfl
@[simp] theorem Ks (l : List Bool) : (boR l).length=l.length:=by simp [boR]
@[simp] theorem Kr (l : List Bool) (i : Nat) (h : i < (boR l).length) : (boR l)[i]=[D.bool (l[i]'(by simpa using h))]:=by simp [boR]
@[simp] theorem Kt (l : List Bool) (i : Nat) (b : Bool) : (boR l).set i [D.bool b]=boR (l.set i b):=by simp [boR,List.map_set]
theorem ry (m : Msh) {i : Nat} (h : i < m.s.length) : (d9 m i).set i (!br (spt m i))=d9 m (i + 1):=tv m h
theorem vO (m : Msh) {i : Nat} (h : i < m.s.length) (h' : i < (d9 m (i + 1)).length) : (d9 m (i + 1))[i]=!br (spt m i):=by simp [d9,dX]
theorem tu (m : Msh) : List.replicate m.s.length [D.bool false]=boR (d9 m 0):=by rw [rA];simp [boR]
def xW (m : Msh) (i : Nat) : Env:=[(1,.ptr (ci m)),(4,.adr (.r 10064) 0 0),(10064,.blk 7 [[.own 1 [],.own 1 (nmR (fil (dX m) i)),.own 1 (nmR (fil (cV m) i)),.own 1 [],.own 1 [],.own 1 [],.own 1 []]]),(5,.adr (.r 10080) 0 0),(10080,.blk 1 [[.own 1 (boR (d9 m i))]]),(6,.mrf 10464),(10464,.mp 4 1 (iE m i) (jV m i)),(31,slx m.sn (m.s.map ju)),(32,.int .i64 m.s.length),(33,.int .i64 i)]
theorem gC (m : Msh) (i : Nat) : xW m i=[(1,.ptr (ci m)),(4,.adr (.r 10064) 0 0),(10064,.blk 7 [[.own 1 [],.own 1 (nmR (fil (dX m) i)),.own 1 (nmR (fil (cV m) i)),.own 1 [],.own 1 [],.own 1 [],.own 1 []]]),(5,.adr (.r 10080) 0 0),(10080,.blk 1 [[.own 1 (boR (d9 m i))]]),(6,.mrf 10464),(10464,.mp 4 1 (iE m i) (jV m i)),(31,slx m.sn (m.s.map ju)),(32,.int .i64 m.s.length),(33,.int .i64 i)]:=_root_.id rfl
def trR (m : Msh) (l : List Nat) : List (List D):=l.map fun k=>bY (aX m (fce m k))
theorem eA (m : Msh) (l : List Nat) : trR m l=(l.map fun k=>aX m (fce m k)).map bY:=by simp [trR]
@[simp] theorem Pr (m : Msh) (l : List Nat) : (trR m l).length=l.length:=by simp [trR]
@[simp] theorem Kg (m : Msh) (l : List Nat) : List.take l.length (trR m l)=trR m l:=List.take_of_length_le (by simp)
@[simp] theorem Q9 (m : Msh) (l : List Nat) : List.map (fun e=>List.map aT e) (trR m l)=trR m l:=by simp [trR,bY]
@[simp] theorem Ps (m : Msh) : trR m []=[]:=rfl
theorem c8 {m : Msh} {i : Nat} (h : aC m i=true) : trR m (fil (aC m) i)++[bY (aX m (fce m i))]=trR m (fil (aC m) (i + 1)):=by rw [cB h];simp [trR]
def sdK (f : Fce) : Nat -> List D
 | 0=>[]
 | j + 1=>.agg [.int .i64 (crn f j),.int .i64 (crn f (j + 1))]::sdK f j
theorem jt (f : Fce) : ∀ j,(sdK f j).length=j
 | 0=>rfl
 | j + 1=>by simp [sdK,jt f j]
def bQ (m : Msh) : Nat -> List D
 | 0=>[]
 | i + 1=>if aC m i then sdK (fce m i) 3++bQ m i else bQ m i
def bT (m : Msh) : Nat -> List D
 | 0=>[]
 | i + 1=>if aC m i then List.replicate 3 (.bool true)++bT m i else bT m i
theorem cq (m : Msh) : ∀ i,(bQ m i).length <= 3 * i
 | 0=>by simp [bQ]
 | i + 1=>by
  have:=cq m i
  rw [bQ]
  split <;> simp [jt] <;> omega
def gN (m : Msh) (i j : Nat) : Bool:=(List.range i).any fun k=>aC m k && (List.range 3).any fun j'=>mtc (fce m i) (fce m k) j j'
theorem x6 (a b c d : Int) : eqD (.agg [.int .i64 a,.int .i64 b]) (.agg [.int .i64 c,.int .i64 d])=(decide (a=c) && decide (b=d)):=by
 simp [eqD,nu,nr]
theorem qi (m : Msh) (a b : Int) : ∀ i,(cO (bQ m i) (bT m i) (.agg [.int .i64 a,.int .i64 b])).getD (.bool false)=.bool ((List.range i).any fun k=>aC m k && (List.range 3).any fun j=>decide (a=crn (fce m k) j) && decide (b=crn (fce m k) (j + 1)))
 | 0=>rfl
 | i + 1=>by
  rw [bQ,bT,List.range_succ,List.any_append]
  have h3 : List.range 3=[0,1,2]:=rfl
  by_cases h : aC m i=true
  ·rw [if_pos h,if_pos h]
   simp only [sdK,List.replicate,List.cons_append,List.nil_append,cO,x6]
   have ih:=qi m a b i
   by_cases c0 : (decide (a=crn (fce m i) 2) && decide (b=crn (fce m i) (2 + 1)))=true
   ·rw [if_pos c0]
    simp only [List.any_cons,List.any_nil,h,h3,c0]
    simp
   ·rw [if_neg c0]
    by_cases c1 : (decide (a=crn (fce m i) 1) && decide (b=crn (fce m i) (1 + 1)))=true
    ·rw [if_pos c1]
     simp only [List.any_cons,List.any_nil,h,h3,c1]
     simp
    ·rw [if_neg c1]
     by_cases c2 : (decide (a=crn (fce m i) 0) && decide (b=crn (fce m i) (0 + 1)))=true
     ·rw [if_pos c2]
      simp only [List.any_cons,List.any_nil,h,h3,c2]
      simp
     ·rw [if_neg c2,ih]
      rw [Bool.not_eq_true] at c0 c1 c2
      simp only [List.any_cons,List.any_nil,h,h3,c0,c1,c2]
      simp
  ·rw [if_neg h,if_neg h,qi m a b i]
   simp [h]
theorem vj {α : Type} (A p q r : α -> Bool) (l : List α) : (l.any fun k=>A k && (p k || (q k || r k)))=((l.any fun k=>A k && p k) || ((l.any fun k=>A k && q k) || (l.any fun k=>A k && r k))):=by
 induction l with
 | nil=>rfl
 | cons x l ih =>
  simp only [List.any_cons,ih]
  cases A x <;> cases p x <;> cases q x <;> cases r x <;> simp
theorem uC {m : Msh} {i : Nat} (h : aC m i=true) : cv m i=(gN m i 0 || (gN m i 1 || gN m i 2)):=by
 unfold cv j0 gN
 rw [h,Bool.true_and,<- vj]
 have h3 : List.range 3=[0,1,2]:=rfl
 simp only [h3,List.any_cons,List.any_nil,Bool.or_false]
theorem pq {m : Msh} {f : Fce} (h : inS m f=true) (j : Nat) : 0 <= crn f j /\ crn f j < m.s.length:=by
 have:=nB h
 unfold crn
 split <;> omega
def oo (m : Msh) (i k : Nat) : Env:=[(1,.ptr (ci m)),(4,.adr (.r 10064) 0 0),(10064,.blk 7 [[.own 1 [],.own 1 (nmR (fil (dX m) m.s.length)),.own 1 (nmR (fil (cV m) m.s.length)),.own 1 (nmR (fil (eQ m) i)),.own 1 (nmR (fil (dh m) i)),.own 1 (nmR (fil (cv m) (i + 1))),.own 1 (nmR (fil (a6 m) i))]]),(5,.adr (.r 10080) 0 0),(10080,.blk 1 [[.own 1 (boR (d9 m m.s.length))]]),(10,.mrf 11104),(11104,.mp 3 1 (sdK (fce m i) k++bQ m i) (List.replicate k (.bool true)++bT m i)),(11,.ref (.r 10176) 0 (fil (aC m) i).length),(10176,.blk 6 (trR m (fil (aC m) i))),(12,.int .i64 i),(13,.adr (.r 10208) 0 0),(10208,.blk 4 [cE (fce m i)]),(15,.adr (.r 10240) 0 0),(10240,.blk 6 [bY (aX m (fce m i))]),(71,slx m.fn (m.f.map cE)),(72,.int .i64 m.f.length),(73,.int .i64 i),(159,.int .i64 k)]
theorem fH (m : Msh) (i k : Nat) : oo m i k=[(1,.ptr (ci m)),(4,.adr (.r 10064) 0 0),(10064,.blk 7 [[.own 1 [],.own 1 (nmR (fil (dX m) m.s.length)),.own 1 (nmR (fil (cV m) m.s.length)),.own 1 (nmR (fil (eQ m) i)),.own 1 (nmR (fil (dh m) i)),.own 1 (nmR (fil (cv m) (i + 1))),.own 1 (nmR (fil (a6 m) i))]]),(5,.adr (.r 10080) 0 0),(10080,.blk 1 [[.own 1 (boR (d9 m m.s.length))]]),(10,.mrf 11104),(11104,.mp 3 1 (sdK (fce m i) k++bQ m i) (List.replicate k (.bool true)++bT m i)),(11,.ref (.r 10176) 0 (fil (aC m) i).length),(10176,.blk 6 (trR m (fil (aC m) i))),(12,.int .i64 i),(13,.adr (.r 10208) 0 0),(10208,.blk 4 [cE (fce m i)]),(15,.adr (.r 10240) 0 0),(10240,.blk 6 [bY (aX m (fce m i))]),(71,slx m.fn (m.f.map cE)),(72,.int .i64 m.f.length),(73,.int .i64 i),(159,.int .i64 k)]:=_root_.id rfl
def fnR (l : List (Int × List UInt8)) : List (List D):=l.map fnD
@[simp] theorem Lj (l : List (Int × List UInt8)) : (fnR l).length=l.length:=by simp [fnR]
@[simp] theorem fK (l : List (Int × List UInt8)) : List.take l.length (fnR l)=fnR l:=List.take_of_length_le (by simp)
@[simp] theorem Qe (l : List (Int × List UInt8)) : List.map (fun e=>List.map aT e) (fnR l)=fnR l:=by simp [fnR,fnD]
theorem ik (l : List (Int × List UInt8)) (k : Int) (s : List UInt8) : fnR l++[[.int .i64 k,.str s]]=fnR (l++[(k,s)]):=by simp [fnR,fnD]
@[simp] theorem Lk : fnR []=[]:=rfl
def Fe (L1 L2 L3 L4 L5 L6 : List Nat) : D:=.agx [.ref (.n 10064 0 0) 0 0,.ref (.n 10064 0 1) 0 L1.length,.ref (.n 10064 0 2) 0 L2.length,.ref (.n 10064 0 3) 0 L3.length,.ref (.n 10064 0 4) 0 L4.length,.ref (.n 10064 0 5) 0 L5.length,.ref (.n 10064 0 6) 0 L6.length]
theorem aF (L1 L2 L3 L4 L5 L6 : List Nat) : Fe L1 L2 L3 L4 L5 L6=.agx [.ref (.n 10064 0 0) 0 0,.ref (.n 10064 0 1) 0 L1.length,.ref (.n 10064 0 2) 0 L2.length,.ref (.n 10064 0 3) 0 L3.length,.ref (.n 10064 0 4) 0 L4.length,.ref (.n 10064 0 5) 0 L5.length,.ref (.n 10064 0 6) 0 L6.length]:=_root_.id rfl
def Fq (L1 L2 L3 L4 L5 L6 : List Nat) : D:=.blk 7 [[.own 1 [],.own 1 (nmR L1),.own 1 (nmR L2),.own 1 (nmR L3),.own 1 (nmR L4),.own 1 (nmR L5),.own 1 (nmR L6)]]
theorem aS (L1 L2 L3 L4 L5 L6 : List Nat) : Fq L1 L2 L3 L4 L5 L6=.blk 7 [[.own 1 [],.own 1 (nmR L1),.own 1 (nmR L2),.own 1 (nmR L3),.own 1 (nmR L4),.own 1 (nmR L5),.own 1 (nmR L6)]]:=_root_.id rfl
theorem dZ (dec : Nat -> List UInt8) : ∀ (a b : List (List Nat)) (k : Nat),dI dec k (a++b)=dI dec k a++dI dec (k + a.length) b
 | [],b,k=>by simp [dI]
 | x::a,b,k=>by
  have:=dZ dec a b (k + 1)
  simp only [List.cons_append,dI,this,List.append_assoc,List.length_cons]
  rw [show k + 1 + a.length=k + (a.length + 1) by omega]
def tkD (dec : Nat -> List UInt8) (k : Int) (L : List Nat) (j : Nat) : List (Int × List UInt8):=(L.take j).map fun i=>(k,dec i)
theorem fc (dec : Nat -> List UInt8) (k : Int) (L : List Nat) : tkD dec k L 0=[]:=by simp [tkD]
theorem f4 (dec : Nat -> List UInt8) (k : Int) (L : List Nat) {j : Nat} (h : j < L.length) : tkD dec k L (j + 1)=tkD dec k L j++[(k,dec L[j])]:=by
 unfold tkD
 rw [List.take_add_one,List.getElem?_eq_getElem h,List.map_append]
 rfl
theorem iA (dec : Nat -> List UInt8) (k : Int) (L : List Nat) {j : Nat} (h : j <= L.length) : (tkD dec k L j).length=j:=by simp [tkD];omega
theorem iz (dec : Nat -> List UInt8) (k : Int) (L : List Nat) : tkD dec k L L.length=L.map fun i=>(k,dec i):=by simp [tkD]
def xX (m : Msh) (i : Nat) : Env:=[(1,.ptr (ci m)),(4,.adr (.r 10064) 0 0),(10064,.blk 7 [[.own 1 [],.own 1 (nmR (fil (dX m) m.s.length)),.own 1 (nmR (fil (cV m) m.s.length)),.own 1 (nmR (fil (eQ m) i)),.own 1 (nmR (fil (dh m) i)),.own 1 (nmR (fil (cv m) i)),.own 1 (nmR (fil (a6 m) i))]]),(5,.adr (.r 10080) 0 0),(10080,.blk 1 [[.own 1 (boR (d9 m m.s.length))]]),(10,.mrf 11104),(11104,.mp 3 1 (bQ m i) (bT m i)),(11,.ref (.r 10176) 0 (fil (aC m) i).length),(10176,.blk 6 (trR m (fil (aC m) i))),(71,slx m.fn (m.f.map cE)),(72,.int .i64 m.f.length),(73,.int .i64 i)]
theorem cH (m : Msh) (i : Nat) : xX m i=[(1,.ptr (ci m)),(4,.adr (.r 10064) 0 0),(10064,.blk 7 [[.own 1 [],.own 1 (nmR (fil (dX m) m.s.length)),.own 1 (nmR (fil (cV m) m.s.length)),.own 1 (nmR (fil (eQ m) i)),.own 1 (nmR (fil (dh m) i)),.own 1 (nmR (fil (cv m) i)),.own 1 (nmR (fil (a6 m) i))]]),(5,.adr (.r 10080) 0 0),(10080,.blk 1 [[.own 1 (boR (d9 m m.s.length))]]),(10,.mrf 11104),(11104,.mp 3 1 (bQ m i) (bT m i)),(11,.ref (.r 10176) 0 (fil (aC m) i).length),(10176,.blk 6 (trR m (fil (aC m) i))),(71,slx m.fn (m.f.map cE)),(72,.int .i64 m.f.length),(73,.int .i64 i)]:=_root_.id rfl
variable {C : CC} (hC : az prog C)
include hC
set_option maxHeartbeats 4000000 in
theorem vf (dec : Nat -> List UInt8) (hI : ∀ n : Nat,n < 100 -> C 127 [.int .i64 n] (.str (dec n)) []) (m : Msh) (hs : m.s.length <= 100) (hf : m.f.length <= 100) : C 273 [.agg (ci m)] (.tup [.sl ((dI dec 0 (LL m)).map fnD),.int .i64 0]) []:=by
 have ksm:=oO hC m
 rw [decide_eq_true (show m.s.length <= 2000 by omega),decide_eq_true (show m.f.length <= 4000 by omega)] at ksm
 have kr:=fun s=>tV hC s
 have kp:=fun i h=>je hC m i h
 refine bp hC (nf:=N273) rfl rfl ?_
 simp only [ai] at ksm
 simp [N273,ai]
 refine ae ksm (.inl rfl) ?_
 simp
 refine ⟨by omega,?_⟩
 refine aE Nat (fun i=>xW m i) (fun i=>i <= m.s.length) (fun i=>m.s.length - i) 0 (by simp) (by simp [gC,ai,ox,iE,jV,tu]) ?_
 rintro i hi
 simp [gC,ai]
 refine av (fun g1=>?_) (fun g1=>?_) <;> simp at g1 <;> simp [g1]
 ·have hw : IntKind.wrap .i64 ((i : Int) + 1)=((i + 1 : Nat) : Int):=am (by omega) (by omega)
  have kri:=kr (spt m i)
  simp only [k8] at kri
  simp [k8]
  refine ae kri (.inl rfl) ?_
  simp [i7,g1]
  refine ⟨aV (by decide +kernel),?_⟩
  rw [ry m g1]
  rw [nq]
  simp [i7,g1,vO]
  have kpi:=kp i g1
  simp only [ai] at kpi
  have hr:=nP (s:=spt m i)
  cases hr1 : br (spt m i)
  ·have e1:=iq (p:=dX m) (n:=i) (by simp [dX,hr1])
   have e2:=ep (p:=cV m) (n:=i) (by simp [cV,hr1])
   have e3 : iE m (i + 1)=iE m i:=by simp [iE,hr1]
   have e4 : jV m (i + 1)=jV m i:=by simp [jV,hr1]
   simp [hw]
   refine ⟨by have:=aN (dX m) i;omega,i + 1,by omega,by omega,?_⟩
   simp [gC,ai,e1,<- e2,e3,e4,<- nq]
  ·have hp:=iT (hr hr1)
   have e2:=ep (p:=dX m) (n:=i) (by simp [dX,hr1])
   have e3 : iE m (i + 1)=.agg (ptD (mc m i))::iE m i:=by simp [iE,hr1]
   have e4 : jV m (i + 1)=.bool true::jV m i:=by simp [jV,hr1]
   have kg:=p6 m (mc m i) i
   have kl:=oU m i
   have hml : maxLen=9223372036854775807:=rfl
   simp [ai]
   refine ae kpi (.inl rfl) ?_
   simp [ptD,ptS,mc] at kg hp
   simp [ptD,ptS,kg]
   refine ⟨⟨by omega,by omega⟩,?_⟩
   have hsame : ((List.range i).any fun k=>br (spt m k) && (decide ((spt m k).x=(spt m i).x) && decide ((spt m k).y=(spt m i).y)))=cV m i:=by
    simp [cV,hr1,mc,ptS]
   rw [hsame]
   cases hs1 : cV m i
   ·have e1:=ep (p:=cV m) (n:=i) hs1
    simp [hw]
    refine ⟨by omega,⟨by omega,by omega⟩,i + 1,by omega,by omega,?_⟩
    simp [gC,ai,<- e1,<- e2,e3,e4,<- nq,ptD,mc,ptS]
   ·have e1:=iq (p:=cV m) (n:=i) hs1
    simp [hw]
    refine ⟨by have:=aN (cV m) i;omega,by omega,⟨by omega,by omega⟩,i + 1,by omega,by omega,?_⟩
    simp [gC,ai,e1,<- e2,e3,e4,<- nq,ptD,mc,ptS]
 ·have hi2 : i=m.s.length:=by omega
  subst hi2
  refine aE Nat (fun i=>xX m i) (fun i=>i <= m.f.length) (fun i=>m.f.length - i) 0 (by simp) (by simp [cH,ai,ox,bQ,bT]) ?_
  clear hi g1 kr kp ksm
  rintro i hi
  simp [cH,ai]
  refine av (fun g1=>?_) (fun g1=>?_) <;> simp at g1 <;> simp [g1]
  ·have hw : IntKind.wrap .i64 ((i : Int) + 1)=((i + 1 : Nat) : Int):=am (by omega) (by omega)
   have kc:=lJ hC (fce m i)
   have k1:=tH hC (b:=false) (xs:=[(fce m i).a,(fce m i).b,(fce m i).c]) (g:=306) (cs:=[.ptr (ci m),.ptr [.sl (boR (d9 m m.s.length))]]) (fun k=>!(fB m.s.length k && br (spt m k.toNat))) (by simp) (fun x _=>zz hC m x (by omega))
   simp only [ai,bv] at kc k1
   simp at k1
   simp [bv]
   refine ae kc (.inl rfl) ?_
   simp [bP]
   obtain ⟨v,hv⟩ : ∃ v,v=(!fB m.s.length (fce m i).a || !br (spt m (fce m i).a.toNat) || (!fB m.s.length (fce m i).b || !br (spt m (fce m i).b.toNat) || (!fB m.s.length (fce m i).c || !br (spt m (fce m i).c.toNat)))):=⟨_,rfl⟩
   rw [<- hv] at k1
   refine ae k1 (.inl rfl) ?_
   have E : eQ m i=!(okF m (fce m i)):=rfl
   have E2 : okF m (fce m i)=(okc m (fce m i).a (fce m i).b && okc m (fce m i).b (fce m i).c && okc m (fce m i).c (fce m i).a && decide (0 <= (fce m i).k) && decide ((fce m i).k < 16)):=rfl
   have E3 : ∀ a b : Int,okc m a b=(fB m.s.length a && decide (a ≠ b) && br (spt m a.toNat)):=fun a b=>rfl
   have bad : eQ m i=true -> nmR (fil (eQ m) i)++[[D.int .i64 i]]=nmR (fil (eQ m) (i + 1)) /\ nmR (fil (dh m) i)=nmR (fil (dh m) (i + 1)) /\ nmR (fil (cv m) i)=nmR (fil (cv m) (i + 1)) /\ nmR (fil (a6 m) i)=nmR (fil (a6 m) (i + 1)) /\ fil (aC m) (i + 1)=fil (aC m) i /\ bQ m (i + 1)=bQ m i /\ bT m (i + 1)=bT m i:=fun h=>by
    have h0 : okF m (fce m i)=false:=by rw [E] at h;simpa using h
    have h1 : aC m i=false:=by simp [aC,h0]
    exact ⟨iq h,ep (by simp [dh,h0]),ep (by simp [cv,h1]),ep (by simp [a6,h1]),pw h1,by simp [bQ,h1],by simp [bT,h1]⟩
   cases v
   rotate_left
   ·obtain ⟨e1,e2,e3,e4,e5,e6,e7⟩:=bad (by
     rw [E,E2,E3,E3,E3]
     revert hv
     cases fB m.s.length (fce m i).a <;> cases br (spt m (fce m i).a.toNat) <;> cases fB m.s.length (fce m i).b <;> cases br (spt m (fce m i).b.toNat) <;> cases fB m.s.length (fce m i).c <;> cases br (spt m (fce m i).c.toNat) <;> simp)
    simp [hw]
    refine ⟨by have:=aN (eQ m) i;omega,i + 1,by omega,by omega,?_⟩
    simp [cH,ai,e1,<- e2,<- e3,<- e4,e5,e6,e7]
   by_cases c1 : (fce m i).a=(fce m i).b
   ·obtain ⟨e1,e2,e3,e4,e5,e6,e7⟩:=bad (by
     rw [E,E2,E3,E3,E3]
     rw [decide_eq_false (show ¬ (fce m i).a ≠ (fce m i).b by omega)];simp)
    simp [c1,hw]
    refine ⟨by have:=aN (eQ m) i;omega,i + 1,by omega,by omega,?_⟩
    simp [cH,ai,e1,<- e2,<- e3,<- e4,e5,e6,e7]
   by_cases c2 : (fce m i).b=(fce m i).c
   ·obtain ⟨e1,e2,e3,e4,e5,e6,e7⟩:=bad (by
     rw [E,E2,E3,E3,E3]
     rw [decide_eq_false (show ¬ (fce m i).b ≠ (fce m i).c by omega)];simp)
    simp [(show ¬ (fce m i).a=(fce m i).c by rw [<- c2];exact c1),c2,hw]
    refine ⟨by have:=aN (eQ m) i;omega,i + 1,by omega,by omega,?_⟩
    simp [cH,ai,e1,<- e2,<- e3,<- e4,e5,e6,e7]
   by_cases c3 : (fce m i).c=(fce m i).a
   ·obtain ⟨e1,e2,e3,e4,e5,e6,e7⟩:=bad (by
     rw [E,E2,E3,E3,E3]
     rw [decide_eq_false (show ¬ (fce m i).c ≠ (fce m i).a by omega)];simp)
    simp [c1,c2,hw]
    refine av (fun _=>?_) (fun h=>by simp [c3] at h)
    simp [hw]
    refine ⟨by have:=aN (eQ m) i;omega,i + 1,by omega,by omega,?_⟩
    simp [cH,ai,e1,<- e2,<- e3,<- e4,e5,e6,e7]
   have c3' : ¬ (fce m i).a=(fce m i).c:=fun h=>c3 h.symm
   by_cases c4 : (fce m i).k < 0
   ·obtain ⟨e1,e2,e3,e4,e5,e6,e7⟩:=bad (by
     rw [E,E2,E3,E3,E3]
     rw [decide_eq_false (show ¬ 0 <= (fce m i).k by omega)];simp)
    simp [c1,c2,c3,c3',c4,hw]
    refine ⟨by have:=aN (eQ m) i;omega,i + 1,by omega,by omega,?_⟩
    simp [cH,ai,e1,<- e2,<- e3,<- e4,e5,e6,e7]
   by_cases c5 : 16 <= (fce m i).k
   ·obtain ⟨e1,e2,e3,e4,e5,e6,e7⟩:=bad (by
     rw [E,E2,E3,E3,E3]
     rw [decide_eq_false (show ¬ (fce m i).k < 16 by omega)];simp)
    simp [c1,c2,c3,c3',c4,c5,hw]
    refine ⟨by have:=aN (eQ m) i;omega,i + 1,by omega,by omega,?_⟩
    simp [cH,ai,e1,<- e2,<- e3,<- e4,e5,e6,e7]
   have ok : okF m (fce m i)=true:=by
    rw [E2,E3,E3,E3]
    simp only [Bool.and_eq_true,decide_eq_true_eq]
    have h:=hv.symm
    simp only [Bool.or_eq_false_iff,Bool.not_eq_false'] at h
    exact ⟨⟨⟨⟨⟨⟨h.1.1,c1⟩,h.1.2⟩,⟨h.2.1.1,c2⟩,h.2.1.2⟩,⟨h.2.2.1,c3⟩,h.2.2.2⟩,by omega⟩,by omega⟩
   have nbad : eQ m i=false:=by rw [E,ok];rfl
   have b1:=ep nbad
   have hT:=cT ok
   have kt:=AS hC m (fce m i) (nO ok)
   have kn : C 308 [.agg (ptD (aX m (fce m i)).1),.agg (ptD (aX m (fce m i)).2.1),.agg (ptD (aX m (fce m i)).2.2)] (.int .i64 (mg (aX m (fce m i)))) []:=by
    have h:=hT
    simp only [okT,Bool.and_eq_true] at h
    exact qF hC h.1.1 h.1.2 h.2
   have ks:=fun k h=>nG hC (fce m i) k h
   have ks0:=ks 0 (by omega)
   have ks1:=ks 1 (by omega)
   have ks2:=ks 2 (by omega)
   have kg:=fun j=>qi m (crn (fce m i) j) (crn (fce m i) (j + 1)) i
   have kg : ∀ j,(cO (bQ m i) (bT m i) (.agg [.int .i64 (crn (fce m i) j),.int .i64 (crn (fce m i) (j + 1))])).getD (.bool false)=.bool (gN m i j):=kg
   have kg0:=kg 0
   have kg1:=kg 1
   have kg2:=kg 2
   simp [c1,c2,c3,c3',c4,c5]
   simp only [ai,bv] at kt
   refine ae kt (.inl rfl) ?_
   simp [bY]
   simp only [ptD] at kn
   refine ae kn (.inl rfl) ?_
   simp
   refine av (fun d1=>?_) (fun d1=>?_) <;> simp at d1
   ·have hfl : dh m i=true:=by simp [dh,ok,d1]
    have hsn : aC m i=false:=by simp [aC,ok];omega
    have e1:=iq hfl
    have e2:=ep (p:=cv m) (n:=i) (by simp [cv,hsn])
    have e3:=ep (p:=a6 m) (n:=i) (by simp [a6,hsn])
    have e5:=pw hsn
    have e6 : bQ m (i + 1)=bQ m i:=by simp [bQ,hsn]
    have e7 : bT m (i + 1)=bT m i:=by simp [bT,hsn]
    simp [d1,hw]
    refine ⟨by have:=aN (dh m) i;omega,i + 1,by omega,by omega,?_⟩
    simp [cH,ai,e1,<- e2,<- e3,<- b1,e5,e6,e7]
   ·have hfl : dh m i=false:=by simp [dh,ok];omega
    have hsn : aC m i=true:=by simp [aC,ok,d1]
    have b2:=ep hfl
    have hsd:=uC hsn
    simp only [bv] at ks ks0 ks1 ks2
    simp at ks0 ks1 ks2 kg0 kg1 kg2
    simp [Int.not_le.2 d1]
    refine ae ks0 (.inl rfl) ?_
    simp [kg0]
    have cb:=fun j=>pq (nO ok) j
    have cb0:=cb 0
    have cb1:=cb 1
    have cb2:=cb 2
    have cb3:=cb 3
    refine ⟨⟨by omega,by omega⟩,?_⟩
    have yes : cv m i=true -> nmR (fil (cv m) i)++[[D.int .i64 i]]=nmR (fil (cv m) (i + 1)):=iq
    have nos : cv m i=false -> nmR (fil (cv m) i)=nmR (fil (cv m) (i + 1)):=ep
    have lsd:=aN (cv m) i
    have kT:=cz hC (b:=false) (xs:=(fil (aC m) i).map fun k=>aX m (fce m k)) (g:=310) (cs:=[.ptr (bY (aX m (fce m i)))]) (fun o=>ovT (aX m (fce m i)) o) (by have:=aN (aC m) i;simp;omega) (fun x hx=>by
     obtain ⟨k,hk,rfl⟩:=List.mem_map.1 hx
     have hk:=(dN hk).2
     simp only [aC,Bool.and_eq_true] at hk
     exact d8 hC hT (cT hk.1))
    rw [<- eA,List.any_map] at kT
    have hov : (fil (aC m) i).any ((fun o=>ovT (aX m (fce m i)) o) ∘ fun k=>aX m (fce m k))=a6 m i:=by
     rw [fil,List.any_filter,a6,hsn]
     rfl
    rw [hov] at kT
    rw [b9] at kT
    have tl:=cq m i
    have hml : maxLen=9223372036854775807:=rfl
    have e5:=c8 hsn
    have e6 : bQ m (i + 1)=sdK (fce m i) 3++bQ m i:=by simp [bQ,hsn]
    have e7 : bT m (i + 1)=.bool true::.bool true::.bool true::bT m i:=by
     rw [bT,if_pos hsn];rfl
    have e8 : (fil (aC m) (i + 1)).length=(fil (aC m) i).length + 1:=by rw [cB hsn];simp
    have l8:=aN (aC m) i
    have lov:=aN (a6 m) i
    have kT:=cz hC (b:=false) (xs:=(fil (aC m) i).map fun k=>aX m (fce m k)) (g:=310) (cs:=[.ptr (bY (aX m (fce m i)))]) (fun o=>ovT (aX m (fce m i)) o) (by have:=aN (aC m) i;simp;omega) (fun x hx=>by
     obtain ⟨k,hk,rfl⟩:=List.mem_map.1 hx
     have hk:=(dN hk).2
     simp only [aC,Bool.and_eq_true] at hk
     exact d8 hC hT (cT hk.1))
    rw [<- eA,List.any_map] at kT
    have hov : (fil (aC m) i).any ((fun o=>ovT (aX m (fce m i)) o) ∘ fun k=>aX m (fce m k))=a6 m i:=by
     rw [fil,List.any_filter,a6,hsn]
     rfl
    rw [hov] at kT
    rw [b9] at kT
    have tl:=cq m i
    have hml : maxLen=9223372036854775807:=rfl
    have e5:=c8 hsn
    have e6 : bQ m (i + 1)=sdK (fce m i) 3++bQ m i:=by simp [bQ,hsn]
    have e7 : bT m (i + 1)=.bool true::.bool true::.bool true::bT m i:=by
     rw [bT,if_pos hsn];rfl
    have e8 : (fil (aC m) (i + 1)).length=(fil (aC m) i).length + 1:=by rw [cB hsn];simp
    have l8:=aN (aC m) i
    have lov:=aN (a6 m) i
    have kT:=cz hC (b:=false) (xs:=(fil (aC m) i).map fun k=>aX m (fce m k)) (g:=310) (cs:=[.ptr (bY (aX m (fce m i)))]) (fun o=>ovT (aX m (fce m i)) o) (by have:=aN (aC m) i;simp;omega) (fun x hx=>by
     obtain ⟨k,hk,rfl⟩:=List.mem_map.1 hx
     have hk:=(dN hk).2
     simp only [aC,Bool.and_eq_true] at hk
     exact d8 hC hT (cT hk.1))
    rw [<- eA,List.any_map] at kT
    have hov : (fil (aC m) i).any ((fun o=>ovT (aX m (fce m i)) o) ∘ fun k=>aX m (fce m k))=a6 m i:=by
     rw [fil,List.any_filter,a6,hsn]
     rfl
    rw [hov] at kT
    rw [b9] at kT
    have tl:=cq m i
    have hml : maxLen=9223372036854775807:=rfl
    have e5:=c8 hsn
    have e6 : bQ m (i + 1)=sdK (fce m i) 3++bQ m i:=by simp [bQ,hsn]
    have e7 : bT m (i + 1)=.bool true::.bool true::.bool true::bT m i:=by
     rw [bT,if_pos hsn];rfl
    have e8 : (fil (aC m) (i + 1)).length=(fil (aC m) i).length + 1:=by rw [cB hsn];simp
    have l8:=aN (aC m) i
    have lov:=aN (a6 m) i
    have kT:=cz hC (b:=false) (xs:=(fil (aC m) i).map fun k=>aX m (fce m k)) (g:=310) (cs:=[.ptr (bY (aX m (fce m i)))]) (fun o=>ovT (aX m (fce m i)) o) (by have:=aN (aC m) i;simp;omega) (fun x hx=>by
     obtain ⟨k,hk,rfl⟩:=List.mem_map.1 hx
     have hk:=(dN hk).2
     simp only [aC,Bool.and_eq_true] at hk
     exact d8 hC hT (cT hk.1))
    rw [<- eA,List.any_map] at kT
    have hov : (fil (aC m) i).any ((fun o=>ovT (aX m (fce m i)) o) ∘ fun k=>aX m (fce m k))=a6 m i:=by
     rw [fil,List.any_filter,a6,hsn]
     rfl
    rw [hov] at kT
    rw [b9] at kT
    have tl:=cq m i
    have hml : maxLen=9223372036854775807:=rfl
    have e5:=c8 hsn
    have e6 : bQ m (i + 1)=sdK (fce m i) 3++bQ m i:=by simp [bQ,hsn]
    have e7 : bT m (i + 1)=.bool true::.bool true::.bool true::bT m i:=by
     rw [bT,if_pos hsn];rfl
    have e8 : (fil (aC m) (i + 1)).length=(fil (aC m) i).length + 1:=by rw [cB hsn];simp
    have l8:=aN (aC m) i
    have lov:=aN (a6 m) i
    have kT:=cz hC (b:=false) (xs:=(fil (aC m) i).map fun k=>aX m (fce m k)) (g:=310) (cs:=[.ptr (bY (aX m (fce m i)))]) (fun o=>ovT (aX m (fce m i)) o) (by have:=aN (aC m) i;simp;omega) (fun x hx=>by
     obtain ⟨k,hk,rfl⟩:=List.mem_map.1 hx
     have hk:=(dN hk).2
     simp only [aC,Bool.and_eq_true] at hk
     exact d8 hC hT (cT hk.1))
    rw [<- eA,List.any_map] at kT
    have hov : (fil (aC m) i).any ((fun o=>ovT (aX m (fce m i)) o) ∘ fun k=>aX m (fce m k))=a6 m i:=by
     rw [fil,List.any_filter,a6,hsn]
     rfl
    rw [hov] at kT
    rw [b9] at kT
    have tl:=cq m i
    have hml : maxLen=9223372036854775807:=rfl
    have e5:=c8 hsn
    have e6 : bQ m (i + 1)=sdK (fce m i) 3++bQ m i:=by simp [bQ,hsn]
    have e7 : bT m (i + 1)=.bool true::.bool true::.bool true::bT m i:=by
     rw [bT,if_pos hsn];rfl
    have e8 : (fil (aC m) (i + 1)).length=(fil (aC m) i).length + 1:=by rw [cB hsn];simp
    have l8:=aN (aC m) i
    have lov:=aN (a6 m) i
    have kT:=cz hC (b:=false) (xs:=(fil (aC m) i).map fun k=>aX m (fce m k)) (g:=310) (cs:=[.ptr (bY (aX m (fce m i)))]) (fun o=>ovT (aX m (fce m i)) o) (by have:=aN (aC m) i;simp;omega) (fun x hx=>by
     obtain ⟨k,hk,rfl⟩:=List.mem_map.1 hx
     have hk:=(dN hk).2
     simp only [aC,Bool.and_eq_true] at hk
     exact d8 hC hT (cT hk.1))
    rw [<- eA,List.any_map] at kT
    have hov : (fil (aC m) i).any ((fun o=>ovT (aX m (fce m i)) o) ∘ fun k=>aX m (fce m k))=a6 m i:=by
     rw [fil,List.any_filter,a6,hsn]
     rfl
    rw [hov] at kT
    rw [b9] at kT
    have tl:=cq m i
    have hml : maxLen=9223372036854775807:=rfl
    have e5:=c8 hsn
    have e6 : bQ m (i + 1)=sdK (fce m i) 3++bQ m i:=by simp [bQ,hsn]
    have e7 : bT m (i + 1)=.bool true::.bool true::.bool true::bT m i:=by
     rw [bT,if_pos hsn];rfl
    have e8 : (fil (aC m) (i + 1)).length=(fil (aC m) i).length + 1:=by rw [cB hsn];simp
    have l8:=aN (aC m) i
    have lov:=aN (a6 m) i
    have kT:=cz hC (b:=false) (xs:=(fil (aC m) i).map fun k=>aX m (fce m k)) (g:=310) (cs:=[.ptr (bY (aX m (fce m i)))]) (fun o=>ovT (aX m (fce m i)) o) (by have:=aN (aC m) i;simp;omega) (fun x hx=>by
     obtain ⟨k,hk,rfl⟩:=List.mem_map.1 hx
     have hk:=(dN hk).2
     simp only [aC,Bool.and_eq_true] at hk
     exact d8 hC hT (cT hk.1))
    rw [<- eA,List.any_map] at kT
    have hov : (fil (aC m) i).any ((fun o=>ovT (aX m (fce m i)) o) ∘ fun k=>aX m (fce m k))=a6 m i:=by
     rw [fil,List.any_filter,a6,hsn]
     rfl
    rw [hov] at kT
    rw [b9] at kT
    have tl:=cq m i
    have hml : maxLen=9223372036854775807:=rfl
    have e5:=c8 hsn
    have e6 : bQ m (i + 1)=sdK (fce m i) 3++bQ m i:=by simp [bQ,hsn]
    have e7 : bT m (i + 1)=.bool true::.bool true::.bool true::bT m i:=by
     rw [bT,if_pos hsn];rfl
    have e8 : (fil (aC m) (i + 1)).length=(fil (aC m) i).length + 1:=by rw [cB hsn];simp
    have l8:=aN (aC m) i
    have lov:=aN (a6 m) i
    have kT:=cz hC (b:=false) (xs:=(fil (aC m) i).map fun k=>aX m (fce m k)) (g:=310) (cs:=[.ptr (bY (aX m (fce m i)))]) (fun o=>ovT (aX m (fce m i)) o) (by have:=aN (aC m) i;simp;omega) (fun x hx=>by
     obtain ⟨k,hk,rfl⟩:=List.mem_map.1 hx
     have hk:=(dN hk).2
     simp only [aC,Bool.and_eq_true] at hk
     exact d8 hC hT (cT hk.1))
    rw [<- eA,List.any_map] at kT
    have hov : (fil (aC m) i).any ((fun o=>ovT (aX m (fce m i)) o) ∘ fun k=>aX m (fce m k))=a6 m i:=by
     rw [fil,List.any_filter,a6,hsn]
     rfl
    rw [hov] at kT
    rw [b9] at kT
    have tl:=cq m i
    have hml : maxLen=9223372036854775807:=rfl
    have e5:=c8 hsn
    have e6 : bQ m (i + 1)=sdK (fce m i) 3++bQ m i:=by simp [bQ,hsn]
    have e7 : bT m (i + 1)=.bool true::.bool true::.bool true::bT m i:=by
     rw [bT,if_pos hsn];rfl
    have e8 : (fil (aC m) (i + 1)).length=(fil (aC m) i).length + 1:=by rw [cB hsn];simp
    have l8:=aN (aC m) i
    have lov:=aN (a6 m) i
    have kT:=cz hC (b:=false) (xs:=(fil (aC m) i).map fun k=>aX m (fce m k)) (g:=310) (cs:=[.ptr (bY (aX m (fce m i)))]) (fun o=>ovT (aX m (fce m i)) o) (by have:=aN (aC m) i;simp;omega) (fun x hx=>by
     obtain ⟨k,hk,rfl⟩:=List.mem_map.1 hx
     have hk:=(dN hk).2
     simp only [aC,Bool.and_eq_true] at hk
     exact d8 hC hT (cT hk.1))
    rw [<- eA,List.any_map] at kT
    have hov : (fil (aC m) i).any ((fun o=>ovT (aX m (fce m i)) o) ∘ fun k=>aX m (fce m k))=a6 m i:=by
     rw [fil,List.any_filter,a6,hsn]
     rfl
    rw [hov] at kT
    rw [b9] at kT
    have tl:=cq m i
    have hml : maxLen=9223372036854775807:=rfl
    have e5:=c8 hsn
    have e6 : bQ m (i + 1)=sdK (fce m i) 3++bQ m i:=by simp [bQ,hsn]
    have e7 : bT m (i + 1)=.bool true::.bool true::.bool true::bT m i:=by
     rw [bT,if_pos hsn];rfl
    have e8 : (fil (aC m) (i + 1)).length=(fil (aC m) i).length + 1:=by rw [cB hsn];simp
    have l8:=aN (aC m) i
    have lov:=aN (a6 m) i
    have kT:=cz hC (b:=false) (xs:=(fil (aC m) i).map fun k=>aX m (fce m k)) (g:=310) (cs:=[.ptr (bY (aX m (fce m i)))]) (fun o=>ovT (aX m (fce m i)) o) (by have:=aN (aC m) i;simp;omega) (fun x hx=>by
     obtain ⟨k,hk,rfl⟩:=List.mem_map.1 hx
     have hk:=(dN hk).2
     simp only [aC,Bool.and_eq_true] at hk
     exact d8 hC hT (cT hk.1))
    rw [<- eA,List.any_map] at kT
    have hov : (fil (aC m) i).any ((fun o=>ovT (aX m (fce m i)) o) ∘ fun k=>aX m (fce m k))=a6 m i:=by
     rw [fil,List.any_filter,a6,hsn]
     rfl
    rw [hov] at kT
    rw [b9] at kT
    have tl:=cq m i
    have hml : maxLen=9223372036854775807:=rfl
    have e5:=c8 hsn
    have e6 : bQ m (i + 1)=sdK (fce m i) 3++bQ m i:=by simp [bQ,hsn]
    have e7 : bT m (i + 1)=.bool true::.bool true::.bool true::bT m i:=by
     rw [bT,if_pos hsn];rfl
    have e8 : (fil (aC m) (i + 1)).length=(fil (aC m) i).length + 1:=by rw [cB hsn];simp
    have l8:=aN (aC m) i
    have lov:=aN (a6 m) i
    have kT:=cz hC (b:=false) (xs:=(fil (aC m) i).map fun k=>aX m (fce m k)) (g:=310) (cs:=[.ptr (bY (aX m (fce m i)))]) (fun o=>ovT (aX m (fce m i)) o) (by have:=aN (aC m) i;simp;omega) (fun x hx=>by
     obtain ⟨k,hk,rfl⟩:=List.mem_map.1 hx
     have hk:=(dN hk).2
     simp only [aC,Bool.and_eq_true] at hk
     exact d8 hC hT (cT hk.1))
    rw [<- eA,List.any_map] at kT
    have hov : (fil (aC m) i).any ((fun o=>ovT (aX m (fce m i)) o) ∘ fun k=>aX m (fce m k))=a6 m i:=by
     rw [fil,List.any_filter,a6,hsn]
     rfl
    rw [hov] at kT
    rw [b9] at kT
    have tl:=cq m i
    have hml : maxLen=9223372036854775807:=rfl
    have e5:=c8 hsn
    have e6 : bQ m (i + 1)=sdK (fce m i) 3++bQ m i:=by simp [bQ,hsn]
    have e7 : bT m (i + 1)=.bool true::.bool true::.bool true::bT m i:=by
     rw [bT,if_pos hsn];rfl
    have e8 : (fil (aC m) (i + 1)).length=(fil (aC m) i).length + 1:=by rw [cB hsn];simp
    have l8:=aN (aC m) i
    have lov:=aN (a6 m) i
    have kT:=cz hC (b:=false) (xs:=(fil (aC m) i).map fun k=>aX m (fce m k)) (g:=310) (cs:=[.ptr (bY (aX m (fce m i)))]) (fun o=>ovT (aX m (fce m i)) o) (by have:=aN (aC m) i;simp;omega) (fun x hx=>by
     obtain ⟨k,hk,rfl⟩:=List.mem_map.1 hx
     have hk:=(dN hk).2
     simp only [aC,Bool.and_eq_true] at hk
     exact d8 hC hT (cT hk.1))
    rw [<- eA,List.any_map] at kT
    have hov : (fil (aC m) i).any ((fun o=>ovT (aX m (fce m i)) o) ∘ fun k=>aX m (fce m k))=a6 m i:=by
     rw [fil,List.any_filter,a6,hsn]
     rfl
    rw [hov] at kT
    rw [b9] at kT
    have tl:=cq m i
    have hml : maxLen=9223372036854775807:=rfl
    have e5:=c8 hsn
    have e6 : bQ m (i + 1)=sdK (fce m i) 3++bQ m i:=by simp [bQ,hsn]
    have e7 : bT m (i + 1)=.bool true::.bool true::.bool true::bT m i:=by
     rw [bT,if_pos hsn];rfl
    have e8 : (fil (aC m) (i + 1)).length=(fil (aC m) i).length + 1:=by rw [cB hsn];simp
    have l8:=aN (aC m) i
    have lov:=aN (a6 m) i
    rcases (by cases gN m i 0 <;> cases gN m i 1 <;> cases gN m i 2 <;> simp : gN m i 0=true \/ (gN m i 0=false /\ gN m i 1=true) \/ (gN m i 0=false /\ gN m i 1=false /\ gN m i 2=true) \/ (gN m i 0=false /\ gN m i 1=false /\ gN m i 2=false)) with h0 | ⟨h0,h1⟩ | ⟨h0,h1,h2⟩ | ⟨h0,h1,h2⟩
    have y:=yes (by rw [hsd,h0];rfl)
    simp [h0]
    refine ⟨by omega,?_⟩
    rw [y]
    refine aE Nat (fun k=>oo m i k) (fun k=>k <= 3) (fun k=>3 - k) 0 (by simp) (by simp [fH,ai,bv,bY,sdK]) ?_
    rotate_left
    have y:=yes (by rw [hsd,h0,h1];rfl)
    simp [h0]
    refine ae ks1 (.inl rfl) ?_
    simp [kg1,h1]
    refine ⟨⟨by omega,by omega⟩,by omega,?_⟩
    rw [y]
    refine aE Nat (fun k=>oo m i k) (fun k=>k <= 3) (fun k=>3 - k) 0 (by simp) (by simp [fH,ai,bv,bY,sdK]) ?_
    rotate_left
    have y:=yes (by rw [hsd,h0,h1,h2];rfl)
    simp [h0]
    refine ae ks1 (.inl rfl) ?_
    simp [kg1,h1]
    refine ⟨⟨by omega,by omega⟩,?_⟩
    refine ae ks2 (.inl rfl) ?_
    simp [kg2,h2]
    refine ⟨⟨by omega,by omega⟩,by omega,?_⟩
    rw [y]
    refine aE Nat (fun k=>oo m i k) (fun k=>k <= 3) (fun k=>3 - k) 0 (by simp) (by simp [fH,ai,bv,bY,sdK]) ?_
    rotate_left
    have y:=nos (by rw [hsd,h0,h1,h2];rfl)
    simp [h0]
    refine ae ks1 (.inl rfl) ?_
    simp [kg1,h1]
    refine ⟨⟨by omega,by omega⟩,?_⟩
    refine ae ks2 (.inl rfl) ?_
    simp [kg2,h2]
    refine ⟨⟨by omega,by omega⟩,?_⟩
    rw [y]
    refine aE Nat (fun k=>oo m i k) (fun k=>k <= 3) (fun k=>3 - k) 0 (by simp) (by simp [fH,ai,bv,bY,sdK]) ?_
    rotate_left
    all_goals
     clear y
     rintro k hk
     simp [fH,ai,bv,bY]
     refine av (fun g2=>?_) (fun g2=>?_) <;> simp at g2 <;> simp [g2]
     ·have hw2 : IntKind.wrap .i64 ((k : Int) + 1)=((k + 1 : Nat) : Int):=am (by omega) (by omega)
      have ck:=cb k
      have ck1:=cb (k + 1)
      refine ae (ks k (by omega)) (.inl rfl) ?_
      simp [hw2,jt]
      refine ⟨by omega,⟨⟨by omega,by omega⟩,by omega,by omega⟩,k + 1,by omega,by omega,?_⟩
      simp [fH,ai,bv,bY,sdK,List.replicate_succ]
     ·have hk3 : k=3:=by omega
      subst hk3
      simp only [bY] at kT
      simp
      refine ae kT (.inl rfl) ?_
      simp
      simp only [bY] at e5
      cases hov2 : a6 m i
      ·have e9:=ep hov2
       simp [hw]
       refine ⟨by omega,i + 1,by omega,by omega,?_⟩
       simp [cH,ai,<- b1,<- b2,<- e9,e5,e6,e7,e8]
      ·have e9:=iq hov2
       simp [hw]
       refine ⟨by omega,by omega,i + 1,by omega,by omega,?_⟩
       simp [cH,ai,<- b1,<- b2,e9,e5,e6,e7,e8]
  ·have hi2 : i=m.f.length:=by omega
   subst hi2
   have bd : ∀ (p : Nat -> Bool) (n : Nat),n <= 100 -> (fil p n).length <= 100 /\ ∀ x ∈ fil p n,x < 100:=fun p n hn=>⟨by have:=aN p n;omega,fun x hx=>by have:=(dN hx).1;omega⟩
   have q1:=bd (dX m) _ hs
   have q2:=bd (cV m) _ hs
   have q3:=bd (eQ m) _ hf
   have q4:=bd (dh m) _ hf
   have q5:=bd (cv m) _ hf
   have q6:=bd (a6 m) _ hf
   have hLL : LL m=[[],fil (dX m) m.s.length,fil (cV m) m.s.length,fil (eQ m) m.f.length,fil (dh m) m.f.length,fil (cv m) m.f.length,fil (a6 m) m.f.length]:=rfl
   rw [hLL]
   clear hLL bd
   generalize fil (dX m) m.s.length=L1 at *
   generalize fil (cV m) m.s.length=L2 at *
   generalize fil (eQ m) m.f.length=L3 at *
   generalize fil (dh m) m.f.length=L4 at *
   generalize fil (cv m) m.f.length=L5 at *
   generalize fil (a6 m) m.f.length=L6 at *
   obtain ⟨AG,hAG⟩ : ∃ x,x=Fe L1 L2 L3 L4 L5 L6:=⟨_,rfl⟩
   obtain ⟨BK,hBK⟩ : ∃ x,x=Fq L1 L2 L3 L4 L5 L6:=⟨_,rfl⟩
   obtain ⟨U,hU⟩ : ∃ U : Nat -> List (Int × List UInt8),U=fun k=>dI dec 0 (([([] : List Nat),L1,L2,L3,L4,L5,L6]).take k):=⟨_,rfl⟩
   have hU7 : U 7=dI dec 0 [[],L1,L2,L3,L4,L5,L6]:=by rw [hU];rfl
   have hU0 : U 0=[]:=by rw [hU];rfl
   have bdU : ∀ k (L : List Nat),L.length <= 100 -> (U k).length <= 100 * k -> (U k++L.map fun i=>((k : Int),dec i)).length <= 100 * (k + 1):=fun k L h1 h2=>by simp;omega
   have hU0s : U 1=U 0++(([] : List Nat)).map fun i=>((0 : Int),dec i):=by
    rw [hU];show dI dec 0 (([([] : List Nat),L1,L2,L3,L4,L5,L6]).take 0++[([] : List Nat)])=_
    rw [dZ];simp [dI]
   have hU1s : U 2=U 1++(L1).map fun i=>((1 : Int),dec i):=by
    rw [hU];show dI dec 0 (([([] : List Nat),L1,L2,L3,L4,L5,L6]).take 1++[L1])=_
    rw [dZ];simp [dI]
   have hU2s : U 3=U 2++(L2).map fun i=>((2 : Int),dec i):=by
    rw [hU];show dI dec 0 (([([] : List Nat),L1,L2,L3,L4,L5,L6]).take 2++[L2])=_
    rw [dZ];simp [dI]
   have hU3s : U 4=U 3++(L3).map fun i=>((3 : Int),dec i):=by
    rw [hU];show dI dec 0 (([([] : List Nat),L1,L2,L3,L4,L5,L6]).take 3++[L3])=_
    rw [dZ];simp [dI]
   have hU4s : U 5=U 4++(L4).map fun i=>((4 : Int),dec i):=by
    rw [hU];show dI dec 0 (([([] : List Nat),L1,L2,L3,L4,L5,L6]).take 4++[L4])=_
    rw [dZ];simp [dI]
   have hU5s : U 6=U 5++(L5).map fun i=>((5 : Int),dec i):=by
    rw [hU];show dI dec 0 (([([] : List Nat),L1,L2,L3,L4,L5,L6]).take 5++[L5])=_
    rw [dZ];simp [dI]
   have hU6s : U 7=U 6++(L6).map fun i=>((6 : Int),dec i):=by
    rw [hU];show dI dec 0 (([([] : List Nat),L1,L2,L3,L4,L5,L6]).take 6++[L6])=_
    rw [dZ];simp [dI]
   have lU0 : (U 0).length <= 0:=by rw [hU0];simp
   have lU1 : (U 1).length <= 100:=by rw [hU0s];simp;omega
   have lU2 : (U 2).length <= 200:=by rw [hU1s];simp;omega
   have lU3 : (U 3).length <= 300:=by rw [hU2s];simp;omega
   have lU4 : (U 4).length <= 400:=by rw [hU3s];simp;omega
   have lU5 : (U 5).length <= 500:=by rw [hU4s];simp;omega
   have lU6 : (U 6).length <= 600:=by rw [hU5s];simp;omega
   rw [<- hU7]
   refine aE Nat (fun k=>[(17,.ref (.r 10272) 0 (U k).length),(10272,.blk 2 (fnR (U k))),(181,AG),(182,.int .i64 k),(10064,BK)]) (fun k=>k <= 7) (fun k=>7 - k) 0 (by simp) (by simp [hU0,hAG,hBK,aF,aS]) ?_
   rintro k hk
   rcases (by omega : k=0 \/ k=1 \/ k=2 \/ k=3 \/ k=4 \/ k=5 \/ k=6 \/ k=7) with rfl | rfl | rfl | rfl | rfl | rfl | rfl | rfl
   ·simp [hAG,aF]
    refine aE Nat (fun j=>[(17,.ref (.r 10272) 0 ((U 0).length + j)),(10272,.blk 2 (fnR (U 0++tkD dec 0 ([] : List Nat) j))),(18,.int .i64 0),(181,AG),(182,.int .i64 0),(186,.ref (.n 10064 0 0) 0 (([] : List Nat)).length),(187,.int .i64 (([] : List Nat)).length),(188,.int .i64 j),(10064,BK)]) (fun j=>j <= (([] : List Nat)).length) (fun j=>(([] : List Nat)).length - j) 0 (by simp) (by simp [hAG,hBK,aF,aS,fc]) ?_
    rintro j hj
    simp [hAG,hBK,aF,aS]
    have hj0 : j=0:=by simpa using hj
    subst hj0
    simp [dy,hAG,hBK,aF,aS]
    refine ⟨1,by omega,by omega,?_⟩
    rw [hU0s]
    simp [tkD]
   ·simp [hAG,aF]
    refine aE Nat (fun j=>[(17,.ref (.r 10272) 0 ((U 1).length + j)),(10272,.blk 2 (fnR (U 1++tkD dec 1 L1 j))),(18,.int .i64 1),(181,AG),(182,.int .i64 1),(186,.ref (.n 10064 0 1) 0 (L1).length),(187,.int .i64 (L1).length),(188,.int .i64 j),(10064,BK)]) (fun j=>j <= (L1).length) (fun j=>(L1).length - j) 0 (by simp) (by simp [hAG,hBK,aF,aS,fc]) ?_
    rintro j hj
    simp [hAG,hBK,aF,aS]
    refine av (fun g3=>?_) (fun g3=>?_) <;> simp at g3 <;> simp [g3,hAG,hBK,aF,aS]
    ·have hj2 : j < L1.length:=by omega
     have hw3 : IntKind.wrap .i64 ((j : Int) + 1)=((j + 1 : Nat) : Int):=am (by omega) (by omega)
     have hi:=hI (L1[j]) (q1.2 _ (List.getElem_mem hj2))
     have ht:=f4 dec 1 L1 hj2
     have hl:=iA dec 1 L1 (Nat.le_of_lt hj2)
     rw [en L1]
     try simp [hj2]
     refine ae hi (.inl rfl) ?_
     simp
     refine ⟨by omega,by omega,j + 1,by omega,by omega,by omega,?_,?_,hw3,?_⟩
     ·have e : (U 1).length + j=(U 1++tkD dec 1 L1 j).length:=by simp [hl]
      rw [e,fK,ik,ht,List.append_assoc]
     ·rw [hAG,aF]
     ·rw [hBK,aS];simp only [en]
    ·have hj2 : j=L1.length:=by omega
     subst hj2
     refine ⟨2,by omega,by omega,?_⟩
     rw [hU1s,iz]
     simp [hAG,hBK,aF,aS]
     decide
   ·simp [hAG,aF]
    refine aE Nat (fun j=>[(17,.ref (.r 10272) 0 ((U 2).length + j)),(10272,.blk 2 (fnR (U 2++tkD dec 2 L2 j))),(18,.int .i64 2),(181,AG),(182,.int .i64 2),(186,.ref (.n 10064 0 2) 0 (L2).length),(187,.int .i64 (L2).length),(188,.int .i64 j),(10064,BK)]) (fun j=>j <= (L2).length) (fun j=>(L2).length - j) 0 (by simp) (by simp [hAG,hBK,aF,aS,fc]) ?_
    rintro j hj
    simp [hAG,hBK,aF,aS]
    refine av (fun g3=>?_) (fun g3=>?_) <;> simp at g3 <;> simp [g3,hAG,hBK,aF,aS]
    ·have hj2 : j < L2.length:=by omega
     have hw3 : IntKind.wrap .i64 ((j : Int) + 1)=((j + 1 : Nat) : Int):=am (by omega) (by omega)
     have hi:=hI (L2[j]) (q2.2 _ (List.getElem_mem hj2))
     have ht:=f4 dec 2 L2 hj2
     have hl:=iA dec 2 L2 (Nat.le_of_lt hj2)
     rw [en L2]
     try simp [hj2]
     refine ae hi (.inl rfl) ?_
     simp
     refine ⟨by omega,by omega,j + 1,by omega,by omega,by omega,?_,?_,hw3,?_⟩
     ·have e : (U 2).length + j=(U 2++tkD dec 2 L2 j).length:=by simp [hl]
      rw [e,fK,ik,ht,List.append_assoc]
     ·rw [hAG,aF]
     ·rw [hBK,aS];simp only [en]
    ·have hj2 : j=L2.length:=by omega
     subst hj2
     refine ⟨3,by omega,by omega,?_⟩
     rw [hU2s,iz]
     simp [hAG,hBK,aF,aS]
     decide
   ·simp [hAG,aF]
    refine aE Nat (fun j=>[(17,.ref (.r 10272) 0 ((U 3).length + j)),(10272,.blk 2 (fnR (U 3++tkD dec 3 L3 j))),(18,.int .i64 3),(181,AG),(182,.int .i64 3),(186,.ref (.n 10064 0 3) 0 (L3).length),(187,.int .i64 (L3).length),(188,.int .i64 j),(10064,BK)]) (fun j=>j <= (L3).length) (fun j=>(L3).length - j) 0 (by simp) (by simp [hAG,hBK,aF,aS,fc]) ?_
    rintro j hj
    simp [hAG,hBK,aF,aS]
    refine av (fun g3=>?_) (fun g3=>?_) <;> simp at g3 <;> simp [g3,hAG,hBK,aF,aS]
    ·have hj2 : j < L3.length:=by omega
     have hw3 : IntKind.wrap .i64 ((j : Int) + 1)=((j + 1 : Nat) : Int):=am (by omega) (by omega)
     have hi:=hI (L3[j]) (q3.2 _ (List.getElem_mem hj2))
     have ht:=f4 dec 3 L3 hj2
     have hl:=iA dec 3 L3 (Nat.le_of_lt hj2)
     rw [en L3]
     try simp [hj2]
     refine ae hi (.inl rfl) ?_
     simp
     refine ⟨by omega,by omega,j + 1,by omega,by omega,by omega,?_,?_,hw3,?_⟩
     ·have e : (U 3).length + j=(U 3++tkD dec 3 L3 j).length:=by simp [hl]
      rw [e,fK,ik,ht,List.append_assoc]
     ·rw [hAG,aF]
     ·rw [hBK,aS];simp only [en]
    ·have hj2 : j=L3.length:=by omega
     subst hj2
     refine ⟨4,by omega,by omega,?_⟩
     rw [hU3s,iz]
     simp [hAG,hBK,aF,aS]
     decide
   ·simp [hAG,aF]
    refine aE Nat (fun j=>[(17,.ref (.r 10272) 0 ((U 4).length + j)),(10272,.blk 2 (fnR (U 4++tkD dec 4 L4 j))),(18,.int .i64 4),(181,AG),(182,.int .i64 4),(186,.ref (.n 10064 0 4) 0 (L4).length),(187,.int .i64 (L4).length),(188,.int .i64 j),(10064,BK)]) (fun j=>j <= (L4).length) (fun j=>(L4).length - j) 0 (by simp) (by simp [hAG,hBK,aF,aS,fc]) ?_
    rintro j hj
    simp [hAG,hBK,aF,aS]
    refine av (fun g3=>?_) (fun g3=>?_) <;> simp at g3 <;> simp [g3,hAG,hBK,aF,aS]
    ·have hj2 : j < L4.length:=by omega
     have hw3 : IntKind.wrap .i64 ((j : Int) + 1)=((j + 1 : Nat) : Int):=am (by omega) (by omega)
     have hi:=hI (L4[j]) (q4.2 _ (List.getElem_mem hj2))
     have ht:=f4 dec 4 L4 hj2
     have hl:=iA dec 4 L4 (Nat.le_of_lt hj2)
     rw [en L4]
     try simp [hj2]
     refine ae hi (.inl rfl) ?_
     simp
     refine ⟨by omega,by omega,j + 1,by omega,by omega,by omega,?_,?_,hw3,?_⟩
     ·have e : (U 4).length + j=(U 4++tkD dec 4 L4 j).length:=by simp [hl]
      rw [e,fK,ik,ht,List.append_assoc]
     ·rw [hAG,aF]
     ·rw [hBK,aS];simp only [en]
    ·have hj2 : j=L4.length:=by omega
     subst hj2
     refine ⟨5,by omega,by omega,?_⟩
     rw [hU4s,iz]
     simp [hAG,hBK,aF,aS]
     decide
   ·simp [hAG,aF]
    refine aE Nat (fun j=>[(17,.ref (.r 10272) 0 ((U 5).length + j)),(10272,.blk 2 (fnR (U 5++tkD dec 5 L5 j))),(18,.int .i64 5),(181,AG),(182,.int .i64 5),(186,.ref (.n 10064 0 5) 0 (L5).length),(187,.int .i64 (L5).length),(188,.int .i64 j),(10064,BK)]) (fun j=>j <= (L5).length) (fun j=>(L5).length - j) 0 (by simp) (by simp [hAG,hBK,aF,aS,fc]) ?_
    rintro j hj
    simp [hAG,hBK,aF,aS]
    refine av (fun g3=>?_) (fun g3=>?_) <;> simp at g3 <;> simp [g3,hAG,hBK,aF,aS]
    ·have hj2 : j < L5.length:=by omega
     have hw3 : IntKind.wrap .i64 ((j : Int) + 1)=((j + 1 : Nat) : Int):=am (by omega) (by omega)
     have hi:=hI (L5[j]) (q5.2 _ (List.getElem_mem hj2))
     have ht:=f4 dec 5 L5 hj2
     have hl:=iA dec 5 L5 (Nat.le_of_lt hj2)
     rw [en L5]
     try simp [hj2]
     refine ae hi (.inl rfl) ?_
     simp
     refine ⟨by omega,by omega,j + 1,by omega,by omega,by omega,?_,?_,hw3,?_⟩
     ·have e : (U 5).length + j=(U 5++tkD dec 5 L5 j).length:=by simp [hl]
      rw [e,fK,ik,ht,List.append_assoc]
     ·rw [hAG,aF]
     ·rw [hBK,aS];simp only [en]
    ·have hj2 : j=L5.length:=by omega
     subst hj2
     refine ⟨6,by omega,by omega,?_⟩
     rw [hU5s,iz]
     simp [hAG,hBK,aF,aS]
     decide
   ·simp [hAG,aF]
    refine aE Nat (fun j=>[(17,.ref (.r 10272) 0 ((U 6).length + j)),(10272,.blk 2 (fnR (U 6++tkD dec 6 L6 j))),(18,.int .i64 6),(181,AG),(182,.int .i64 6),(186,.ref (.n 10064 0 6) 0 (L6).length),(187,.int .i64 (L6).length),(188,.int .i64 j),(10064,BK)]) (fun j=>j <= (L6).length) (fun j=>(L6).length - j) 0 (by simp) (by simp [hAG,hBK,aF,aS,fc]) ?_
    rintro j hj
    simp [hAG,hBK,aF,aS]
    refine av (fun g3=>?_) (fun g3=>?_) <;> simp at g3 <;> simp [g3,hAG,hBK,aF,aS]
    ·have hj2 : j < L6.length:=by omega
     have hw3 : IntKind.wrap .i64 ((j : Int) + 1)=((j + 1 : Nat) : Int):=am (by omega) (by omega)
     have hi:=hI (L6[j]) (q6.2 _ (List.getElem_mem hj2))
     have ht:=f4 dec 6 L6 hj2
     have hl:=iA dec 6 L6 (Nat.le_of_lt hj2)
     rw [en L6]
     try simp [hj2]
     refine ae hi (.inl rfl) ?_
     simp
     refine ⟨by omega,by omega,j + 1,by omega,by omega,by omega,?_,?_,hw3,?_⟩
     ·have e : (U 6).length + j=(U 6++tkD dec 6 L6 j).length:=by simp [hl]
      rw [e,fK,ik,ht,List.append_assoc]
     ·rw [hAG,aF]
     ·rw [hBK,aS];simp only [en]
    ·have hj2 : j=L6.length:=by omega
     subst hj2
     refine ⟨7,by omega,by omega,?_⟩
     rw [hU6s,iz]
     simp [hAG,hBK,aF,aS]
     decide
   ·simp [hAG,aF]
    rfl
end Go.Gv

namespace Go.Gv
theorem dx {m : Msh} (h : au m=true) : m.s.length <= 2000 /\ m.f.length <= 4000:=by
 simp only [au,cY,Bool.and_eq_true,decide_eq_true_eq] at h
 exact h.1
theorem jz {m : Msh} (h : au m=true) : ∀ l ∈ LL m,l=[]:=by
 simp only [au,Bool.and_eq_true,List.all_eq_true,decide_eq_true_eq] at h
 exact h.2
theorem n9 {m : Msh} (h : au m=true) {i : Nat} (hi : i < m.s.length) : br (spt m i)=true:=by
 have:=kV.1 (jz h (fil (dX m) m.s.length) (by simp [LL])) i hi
 simpa [dX] using this
theorem lb {m : Msh} (h : au m=true) {i : Nat} (hi : i < m.f.length) : okF m (fce m i)=true /\ 0 < mg (aX m (fce m i)):=by
 have h1:=kV.1 (jz h (fil (eQ m) m.f.length) (by simp [LL])) i hi
 have h2:=kV.1 (jz h (fil (dh m) m.f.length) (by simp [LL])) i hi
 have h3 : okF m (fce m i)=true:=by simpa [eQ] using h1
 refine ⟨h3,?_⟩
 simp [dh,h3] at h2
 omega
theorem ne {m : Msh} (h : au m=true) {i : Nat} (hi : i < m.f.length) : aC m i=true:=by
 have:=lb h hi
 simp [aC,this]
theorem mh {m : Msh} (h : au m=true) {i k : Nat} (hi : i < m.f.length) (hk : k < i) : j0 (fce m i) (fce m k)=false:=by
 have h1:=kV.1 (jz h (fil (cv m) m.f.length) (by simp [LL])) i hi
 rw [cv,ne h hi,Bool.true_and,List.any_eq_false] at h1
 have:=h1 k (List.mem_range.2 hk)
 rw [ne h (by omega),Bool.true_and] at this
 simpa using this
theorem jA {m : Msh} (h : au m=true) {i : Nat} (hi : i < m.f.length) : inS m (fce m i)=true:=nO (lb h hi).1
def cc (f : Fce) (a b : Int) : Bool:=(List.range 3).any fun j=>decide (crn f j=a) && decide (crn f (j + 1)=b)
def o8 (m : Msh) (a b : Int) : Int:=gr (fun f=>cc f a b) m.f
def nbF (m : Msh) (i k : Nat) : Int:=o8 m (crn (fce m i) (k + 1)) (crn (fce m i) k)
def jc (p : Nat -> Bool) : Nat -> Option Nat
 | 0=>none
 | i + 1=>if p i then some i else jc p i
theorem lI (p : Nat -> Bool) : ∀ n,(jc p n=none /\ ∀ i,i < n -> p i=false) \/ ∃ i,jc p n=some i /\ i < n /\ p i=true
 | 0=>.inl ⟨rfl,fun i h=>by omega⟩
 | n + 1=>by
  rw [jc]
  by_cases h : p n=true
  ·rw [if_pos h];exact .inr ⟨n,rfl,by omega,h⟩
  ·rw [if_neg h]
   rcases lI p n with ⟨h1,h2⟩ | ⟨i,h1,h2,h3⟩
   ·refine .inl ⟨h1,fun i hi=>?_⟩
    rcases Nat.lt_succ_iff_lt_or_eq.1 hi with h3 | rfl
    ·exact h2 i h3
    ·simpa using h
   ·exact .inr ⟨i,h1,by omega,h3⟩
theorem tW {f g : Fce} {a b : Int} (h1 : cc f a b=true) (h2 : cc g a b=true) : j0 f g=true:=by
 simp only [cc,List.any_eq_true,List.mem_range,Bool.and_eq_true,decide_eq_true_eq] at h1 h2
 obtain ⟨i,hi,rfl,rfl⟩:=h1
 obtain ⟨j,hj,e1,e2⟩:=h2
 simp only [j0,List.any_eq_true,List.mem_range]
 exact ⟨i,hi,j,hj,by simp [mtc,e1,e2]⟩
theorem jM {m : Msh} (h : au m=true) {i k : Nat} (hi : i < m.f.length) (hk : k < m.f.length) {a b : Int} (h1 : cc (fce m i) a b=true) (h2 : cc (fce m k) a b=true) : i=k:=by
 rcases Nat.lt_trichotomy i k with h3 | h3 | h3
 ·have:=mh h hk h3
  rw [tW h2 h1] at this;cases this
 ·exact h3
 ·have:=mh h hi h3
  rw [tW h1 h2] at this;cases this
theorem qh {m : Msh} (h : au m=true) (a b : Int) : o8 m a b=match jc (fun i=>cc (fce m i) a b) m.f.length with
  | some i=>(i : Int)
  | none=>-1:=by
 rcases lI (fun i=>cc (fce m i) a b) m.f.length with ⟨h1,h2⟩ | ⟨i,h1,h2,h3⟩
 ·rw [h1]
  exact im fun j hj=>by rw [mH];exact h2 j hj
 ·rw [h1]
  refine fO (fun j hj hji=>?_) h2 (by rw [mH];exact h3)
  rw [mH]
  cases hh : cc (fce m j) a b
  ·rfl
  ·have:=jM h hj h2 hh h3
   omega
def iD (m : Msh) : Nat -> List D
 | 0=>[]
 | i + 1=>sdK (fce m i) 3++iD m i
def jT (m : Msh) : Nat -> List D
 | 0=>[]
 | i + 1=>List.replicate 3 (.int .i64 i)++jT m i
theorem oQ (m : Msh) : ∀ i,(iD m i).length=3 * i
 | 0=>by simp [iD]
 | i + 1=>by
  have:=oQ m i
  simp [iD,jt];omega
theorem t8 (m : Msh) (a b : Int) : ∀ i,cO (iD m i) (jT m i) (.agg [.int .i64 a,.int .i64 b])=(jc (fun i=>cc (fce m i) a b) i).map fun i=>.int .i64 i
 | 0=>rfl
 | i + 1=>by
  have h3 : List.range 3=[0,1,2]:=rfl
  simp only [iD,jT,jc,sdK,List.replicate,List.cons_append,List.nil_append,cO,x6]
  have ih:=t8 m a b i
  by_cases c0 : (decide (a=crn (fce m i) 2) && decide (b=crn (fce m i) (2 + 1)))=true
  ·have : cc (fce m i) a b=true:=by
    simp only [Bool.and_eq_true,decide_eq_true_eq] at c0
    simp [cc,h3,<- c0.1,<- c0.2]
   rw [if_pos c0,if_pos this];rfl
  ·rw [if_neg c0]
   by_cases c1 : (decide (a=crn (fce m i) 1) && decide (b=crn (fce m i) (1 + 1)))=true
   ·have : cc (fce m i) a b=true:=by
     simp only [Bool.and_eq_true,decide_eq_true_eq] at c1
     simp [cc,h3,<- c1.1,<- c1.2]
    rw [if_pos c1,if_pos this];rfl
   ·rw [if_neg c1]
    by_cases c2 : (decide (a=crn (fce m i) 0) && decide (b=crn (fce m i) (0 + 1)))=true
    ·have : cc (fce m i) a b=true:=by
      simp only [Bool.and_eq_true,decide_eq_true_eq] at c2
      simp [cc,h3,<- c2.1,<- c2.2]
     rw [if_pos c2,if_pos this];rfl
    ·have : cc (fce m i) a b=false:=by
      simp only [Bool.and_eq_true,decide_eq_true_eq,not_and] at c0 c1 c2
      simp only [cc,h3,List.any_cons,List.any_nil,Bool.or_false,Bool.or_eq_false_iff,Bool.and_eq_false_iff,decide_eq_false_iff_not]
      omega
     rw [if_neg c2,if_neg (by rw [this];decide),ih]
def nbC (m : Msh) (i k j c : Nat) : Int:=if j < i \/ (j=i /\ c < k) then nbF m j c else 0
def nbR (m : Msh) (i k : Nat) : List (List D):=(List.range m.f.length).map fun j=>[.int .i64 (nbC m i k j 0),.int .i64 (nbC m i k j 1),.int .i64 (nbC m i k j 2)]
def nbA (m : Msh) : List (List D):=(List.range m.f.length).map fun j=>[.int .i64 (nbF m j 0),.int .i64 (nbF m j 1),.int .i64 (nbF m j 2)]
@[simp] theorem OF (m : Msh) (i k : Nat) : (nbR m i k).length=m.f.length:=by simp [nbR]
@[simp] theorem I8 (m : Msh) (i k : Nat) : List.take m.f.length (nbR m i k)=nbR m i k:=List.take_of_length_le (by simp)
@[simp] theorem QR (m : Msh) (i k : Nat) : List.map (fun e=>List.map aT e) (nbR m i k)=nbR m i k:=by simp [nbR]
theorem t7 (m : Msh) : List.replicate m.f.length [D.int .i64 0,D.int .i64 0,D.int .i64 0]=nbR m 0 0:=by
 refine List.ext_getElem (by simp) fun j h1 h2=>?_
 simp [nbR,nbC]
theorem t6 (m : Msh) (i : Nat) : nbR m i 3=nbR m (i + 1) 0:=by
 unfold nbR
 refine List.map_congr_left fun j _=>?_
 have e : ∀ c,c < 3 -> nbC m i 3 j c=nbC m (i + 1) 0 j c:=fun c hc=>by
  unfold nbC
  by_cases h : j < i + 1
  ·rw [if_pos (by omega),if_pos (by omega)]
  ·rw [if_neg (by omega),if_neg (by omega)]
 rw [e 0 (by omega),e 1 (by omega),e 2 (by omega)]
theorem wh (m : Msh) : nbR m m.f.length 0=nbA m:=by
 unfold nbR nbA
 refine List.map_congr_left fun j hj=>?_
 have hj:=List.mem_range.1 hj
 simp [nbC,hj]
theorem wm (m : Msh) {i k j : Nat} (h : j < m.f.length) : (nbR m i k)[j]? = some [.int .i64 (nbC m i k j 0),.int .i64 (nbC m i k j 1),.int .i64 (nbC m i k j 2)]:=by
 simp [nbR,h]
theorem wn (m : Msh) {i k : Nat} (h : i < m.f.length) (hk : k < 3) : (nbR m i k).set i (([.int .i64 (nbC m i k i 0),.int .i64 (nbC m i k i 1),.int .i64 (nbC m i k i 2)] : List D).set k (.int .i64 (nbF m i k)))=nbR m i (k + 1):=by
 refine List.ext_getElem (by simp) fun j h1 h2=>?_
 rw [List.getElem_set]
 by_cases e : i=j
 ·subst e
  rw [if_pos rfl]
  rcases (by omega : k=0 \/ k=1 \/ k=2) with rfl | rfl | rfl <;> simp [nbR,nbC]
 ·rw [if_neg e]
  simp only [nbR,List.getElem_map,List.getElem_range]
  have e2 : ∀ c,nbC m i k j c=nbC m i (k + 1) j c:=fun c=>by
   unfold nbC
   by_cases h : j < i
   ·rw [if_pos (by omega),if_pos (by omega)]
   ·rw [if_neg (by omega),if_neg (by omega)]
  rw [e2,e2,e2]
variable {C : CC} (hC : az prog C)
include hC
theorem sA (m : Msh) (h : cY m=false) : C 273 [.agg (ci m)] (.tup [.nils,.int .i64 4]) []:=by
 have ksm:=oO hC m
 rw [show (decide (m.s.length <= 2000) && decide (m.f.length <= 4000))=false from h] at ksm
 refine bp hC (nf:=N273) rfl rfl ?_
 simp only [ai] at ksm
 simp [N273,ai]
 refine ae ksm (.inl rfl) ?_
 simp
theorem tT (dec : Nat -> List UInt8) (hI : ∀ n : Nat,n < 100 -> C 127 [.int .i64 n] (.str (dec n)) []) (m : Msh) (hz : cY m=true -> m.s.length <= 100 /\ m.f.length <= 100) : C 234 [.agg (ci m)] (.bool (au m)) []:=by
 cases hs : cY m
 ·have k:=sA hC m hs
  refine bp hC (nf:=N234) rfl rfl ?_
  simp only [ai] at k
  simp [N234,ai]
  refine ae k (.inr rfl) ?_
  simp [au,hs]
 ·obtain ⟨h1,h2⟩:=hz hs
  have k:=vf hC dec hI m h1 h2
  have e : au m=decide ((dI dec 0 (LL m)).length=0):=by
   rw [au,hs,Bool.true_and,Bool.eq_iff_iff,decide_eq_true_eq,List.length_eq_zero_iff,oS]
  obtain ⟨X,hX⟩ : ∃ X,X=dI dec 0 (LL m):=⟨_,rfl⟩
  rw [e]
  rw [<- hX] at k ⊢
  refine bp hC (nf:=N234) rfl rfl ?_
  simp only [ai] at k
  simp [N234,ai]
  refine ae k (.inr rfl) ?_
  simp
end Go.Gv

namespace Go.Gv
def PJ (n : Nat) : List UInt8:=zF n []
def fdL (k : Int) (l : List Nat) : List (Int × List UInt8):=l.map fun i=>(k,PJ i)
@[simp] theorem Lf (k : Int) (l : List Nat) : (fdL k l).length=l.length:=by simp [fdL]
def fdR (k : Int) (l : List Nat) : List (List D):=fnR (fdL k l)
@[simp] theorem Lh (k : Int) (l : List Nat) : (fdR k l).length=l.length:=by simp [fdR]
@[simp] theorem Gq (k : Int) (l : List Nat) : List.take l.length (fdR k l)=fdR k l:=List.take_of_length_le (by simp)
@[simp] theorem zQ (k : Int) (l : List Nat) : (∀ e ∈ fdR k l,∀ c ∈ e,ar c=true)=True:=by simp [fdR,fnR,fnD,fdL]
@[simp] theorem Lg (k : Int) (l : List Nat) (x : List D) : (∀ e,e ∈ fdR k l \/ e=x -> ∀ c,c ∈ e -> ar c=true)=∀ c,c ∈ x -> ar c=true:=by
 apply propext
 constructor
 ·exact fun h=>h x (.inr rfl)
 ·rintro h e (he | rfl)
  ·exact (zQ k l).mpr trivial e he
  ·exact h
@[simp] theorem Li (k : Int) : fdR k []=[]:=rfl
def fcR (m : Msh) (l : List Nat) : List (List D):=l.map fun k=>cE (fce m k)
@[simp] theorem Ld (m : Msh) (l : List Nat) : (fcR m l).length=l.length:=by simp [fcR]
@[simp] theorem Gp (m : Msh) (l : List Nat) : List.take l.length (fcR m l)=fcR m l:=List.take_of_length_le (by simp)
@[simp] theorem Le (m : Msh) : fcR m []=[]:=rfl
def Ff (p : Nat -> Bool) (l : List Nat) (k : Nat) : Bool:=(l.take k).any p
def shP (m : Msh) (i k : Nat) : Bool:=j0 (fce m i) (fce m k)
def ovP (m : Msh) (i k : Nat) : Bool:=ovT (aX m (fce m i)) (aX m (fce m k))
def Rz (m : Msh) (i k : Nat) : Env:=[(1,.ptr (ci m)),(3,.ref (.r 10048) 0 7),(10048,.blk 1 [[.own 2 []],[.own 2 (fdR 1 (fil (dX m) m.s.length))],[.own 2 (fdR 2 (fil (cV m) m.s.length))],[.own 2 (fdR 3 (fil (eQ m) i))],[.own 2 (fdR 4 (fil (dh m) i))],[.own 2 (fdR 5 (fil (cv m) i))],[.own 2 (fdR 6 (fil (a6 m) i))]]),(7,.ref (.r 10112) 0 (fil (aC m) i).length),(10112,.blk 4 (fcR m (fil (aC m) i))),(8,.int .i64 i),(9,.adr (.r 10144) 0 0),(10144,.blk 4 [cE (fce m i)]),(10,.bool (Ff (shP m i) (fil (aC m) i) k)),(11,.bool (Ff (ovP m i) (fil (aC m) i) k)),(12,.int .i64 k)]
def Rw (m : Msh) (i : Nat) : Env:=[(1,.ptr (ci m)),(3,.ref (.r 10048) 0 7),(10048,.blk 1 [[.own 2 []],[.own 2 (fdR 1 (fil (dX m) i))],[.own 2 (fdR 2 (fil (cV m) i))],[.own 2 []],[.own 2 []],[.own 2 []],[.own 2 []]]),(4,.int .i64 i)]
def Rx (m : Msh) (i k : Nat) : Env:=[(1,.ptr (ci m)),(3,.ref (.r 10048) 0 7),(10048,.blk 1 [[.own 2 []],[.own 2 (fdR 1 (fil (dX m) i))],[.own 2 (fdR 2 (fil (cV m) i))],[.own 2 []],[.own 2 []],[.own 2 []],[.own 2 []]]),(4,.int .i64 i),(5,.adr (.r 10080) 0 0),(10080,.blk 3 [ju (spt m i)]),(6,.int .i64 k)]
def Ry (m : Msh) (i : Nat) : Env:=[(1,.ptr (ci m)),(3,.ref (.r 10048) 0 7),(10048,.blk 1 [[.own 2 []],[.own 2 (fdR 1 (fil (dX m) m.s.length))],[.own 2 (fdR 2 (fil (cV m) m.s.length))],[.own 2 (fdR 3 (fil (eQ m) i))],[.own 2 (fdR 4 (fil (dh m) i))],[.own 2 (fdR 5 (fil (cv m) i))],[.own 2 (fdR 6 (fil (a6 m) i))]]),(7,.ref (.r 10112) 0 (fil (aC m) i).length),(10112,.blk 4 (fcR m (fil (aC m) i))),(8,.int .i64 i)]
variable {C : CC} (hC : az prog C)
include hC
end Go.Gv

namespace Go.Gv
open Go.Lib
theorem tU (a : Nat) (ha : a < 18446744073709551616) : bits .and .u64 (a : Int) 4294967295=((a % 4294967296 : Nat) : Int):=by
 have h:=bits_and_u64_nat a 4294967295 ha (by omega)
 have e : a &&& 4294967295=a % 4294967296:=Nat.and_two_pow_sub_one_eq_mod a 32
 rw [e] at h
 exact h
theorem Q4 (a k : Nat) : Int.fdiv (a : Int) (2 ^ k)=((a / 2 ^ k : Nat) : Int):=by
 rw [Int.fdiv_eq_ediv_of_nonneg _ (by exact Int.pow_nonneg (by omega))]
 norm_cast
theorem J5 (a : Nat) : Int.fdiv (a : Int) (2 ^ min 32 IntKind.u64.bits)=((a / 4294967296 : Nat) : Int):=Q4 a 32
theorem QP (a b : Nat) : (a : Int) * (b : Int)=((a * b : Nat) : Int):=(Int.natCast_mul a b).symm
theorem Pz (a b : Nat) : (a : Int) + (b : Int)=((a + b : Nat) : Int):=(Int.natCast_add a b).symm
theorem kM (a : Nat) (ha : a < 18446744073709551616) : IntKind.u64.wrap (a : Int)=(a : Int):=by
 have e1 : IntKind.u64.signed=false:=rfl
 have e3 : (2 ^ IntKind.u64.bits : Int)=18446744073709551616:=rfl
 unfold IntKind.wrap
 simp only [e1,e3,Bool.false_and]
 simp
 omega
theorem Kl (a : Nat) : IntKind.u64.wrap (a : Int)=((a % 18446744073709551616 : Nat) : Int):=by
 have e1 : IntKind.u64.signed=false:=rfl
 have e3 : (2 ^ IntKind.u64.bits : Int)=18446744073709551616:=rfl
 unfold IntKind.wrap
 simp only [e1,e3,Bool.false_and]
 simp
variable {C : CC} (hC : az prog C)
include hC
theorem vh (x y : Nat) (hx : x < 18446744073709551616) (hy : y < 18446744073709551616) : C 91 [.int .u64 x,.int .u64 y] (.tup [.int .u64 ((x * y / 18446744073709551616 : Nat) : Int),.int .u64 ((x * y % 18446744073709551616 : Nat) : Int)]) []:=by
 refine bp hC (nf:=N91) rfl rfl ?_
 obtain ⟨bd,bt,bw,hhi⟩:=Lib.mul64_hi x y hx hy
 have ba:=Lib.half_mul_le (a:=x / 4294967296) (b:=y / 4294967296) (by omega) (by omega)
 have bb:=Lib.half_mul_le (a:=x / 4294967296) (b:=y % 4294967296) (by omega) (by omega)
 have bc:=Lib.half_mul_le (a:=x % 4294967296) (b:=y / 4294967296) (by omega) (by omega)
 have ba' : x / 4294967296 * (y / 4294967296) < 18446744073709551616:=by omega
 have bb' : x / 4294967296 * (y % 4294967296) < 18446744073709551616:=by omega
 have bc' : x % 4294967296 * (y / 4294967296) < 18446744073709551616:=by omega
 have bh1 : x / 4294967296 * (y / 4294967296) + (x / 4294967296 * (y % 4294967296) + x % 4294967296 * (y % 4294967296) / 4294967296) / 4294967296 < 18446744073709551616:=by omega
 have bh : x / 4294967296 * (y / 4294967296) + (x / 4294967296 * (y % 4294967296) + x % 4294967296 * (y % 4294967296) / 4294967296) / 4294967296 + ((x / 4294967296 * (y % 4294967296) + x % 4294967296 * (y % 4294967296) / 4294967296) % 4294967296 + x % 4294967296 * (y / 4294967296)) / 4294967296 < 18446744073709551616:=by omega
 simp [N91]
 simp only [tU x hx,tU y hy,J5,QP,Pz,kM _ bd,kM _ bb',kM _ bt,tU _ bt,kM _ bc',kM _ bw,kM _ ba',kM _ bh1,kM _ bh,Kl (x * y)]
 rw [hhi]
 exact ⟨by omega,by omega⟩
end Go.Gv

namespace Go.Gv
variable {C : CC} (hC : az prog C)
include hC
end Go.Gv

namespace Go.Gv
structure DvI (u d a b q r : Nat) : Prop where
 sum : q * a + r=u
 ge : (u * 4294967296 + d) / (a * 4294967296 + b) <= q
 rlt : r < 4294967296
 qle : q <= 4294967297
section
variable {u d a b q r : Nat}
theorem Dv.mul (h : q * a + r=u) : q * (a * 4294967296 + b) + r * 4294967296=u * 4294967296 + q * b:=by
 subst h
 rw [Nat.mul_add,<- Nat.mul_assoc,Nat.add_mul]
 omega
theorem Dv.lt (_ : 0 < a) (hu : u < a * 4294967296 + b) (hd : d < 4294967296) : (u * 4294967296 + d) / (a * 4294967296 + b) < 4294967296:=by
 rw [Nat.div_lt_iff_lt_mul (by omega)]
 have : (u + 1) * 4294967296 <= (a * 4294967296 + b) * 4294967296:=Nat.mul_le_mul_right _ hu
 omega
theorem DvI.first (ha : 2147483648 <= a) (ha2 : a < 4294967296) (hb : b < 4294967296) (hu : u < a * 4294967296 + b) (hd : d < 4294967296) : DvI u d a b (u / a) (u % a) where
 sum:=by rw [Nat.mul_comm];exact Nat.div_add_mod u a
 rlt:=by have:=Nat.mod_lt u (show 0 < a by omega);omega
 ge:=by
  rw [Nat.le_div_iff_mul_le (by omega)]
  have h:=Nat.div_mul_le_self (u * 4294967296 + d) (a * 4294967296 + b)
  generalize (u * 4294967296 + d) / (a * 4294967296 + b)=Q at *
  rw [Nat.mul_add,<- Nat.mul_assoc] at h
  generalize Q * b=z at *
  generalize Q * a=x at *
  omega
 qle:=by
  have : u / a < 4294967298:=by
   rw [Nat.div_lt_iff_lt_mul (by omega)]
   omega
  omega
theorem DvI.more (h : DvI u d a b q r) (ha : 0 < a) (hu : u < a * 4294967296 + b) (hd : d < 4294967296) (hc : 4294967296 <= q \/ 4294967296 * r + d < q * b) : (u * 4294967296 + d) / (a * 4294967296 + b) + 1 <= q:=by
 rcases hc with hc | hc
 ·have:=Dv.lt (d:=d) ha hu hd
  omega
 ·have h1:=Dv.mul (b:=b) h.sum
  have : (u * 4294967296 + d) / (a * 4294967296 + b) < q:=by
   rw [Nat.div_lt_iff_lt_mul (by omega)]
   generalize q * (a * 4294967296 + b)=z at *
   generalize q * b=x at *
   omega
  omega
theorem DvI.done (h : DvI u d a b q r) (ha : 0 < a) (hc : q * b <= 4294967296 * r + d) : q=(u * 4294967296 + d) / (a * 4294967296 + b):=by
 have h1:=Dv.mul (b:=b) h.sum
 have h2:=h.ge
 have : q <= (u * 4294967296 + d) / (a * 4294967296 + b):=by
  rw [Nat.le_div_iff_mul_le (by omega)]
  generalize q * (a * 4294967296 + b)=z at *
  generalize q * b=x at *
  omega
 omega
theorem DvI.next (h : DvI u d a b q r) (ha : 0 < a) (hu : u < a * 4294967296 + b) (hd : d < 4294967296) (hc : 4294967296 <= q \/ 4294967296 * r + d < q * b) :
  1 <= q /\ (q - 1) * a + (r + a)=u /\ (u * 4294967296 + d) / (a * 4294967296 + b) <= q - 1 /\ q - 1 <= 4294967296:=by
 have h1:=h.more ha hu hd hc
 have h2:=h.qle
 have h3:=h.sum
 generalize (u * 4294967296 + d) / (a * 4294967296 + b)=Q at *
 obtain ⟨q',rfl⟩ : ∃ q',q=q' + 1:=⟨q - 1,by omega⟩
 refine ⟨by omega,?_,by omega,by omega⟩
 rw [Nat.add_mul] at h3
 simp only [Nat.add_sub_cancel]
 omega
end
end Go.Gv

namespace Go.Gv
variable {C : CC} (hC : az prog C)
include hC
end Go.Gv

namespace Go.Gv
def Ro (n : Nat) : D:=.agg [.int .u64 ((n / 18446744073709551616 : Nat) : Int),.int .u64 ((n % 18446744073709551616 : Nat) : Int)]
def yI (x : Nat) : Nat -> Nat -> Nat
 | 0,r=>r
 | i + 1,r=>yI x i (if (r + 2 ^ i) * (r + 2 ^ i) <= x then r + 2 ^ i else r)
def Rk (x : Nat) : Nat:=yI x 63 0
variable {C : CC} (hC : az prog C)
include hC
end Go.Gv

namespace Go.Gv
open Go.Lib
end Go.Gv

namespace Go.Gv
open Go.Lib
def QT (p : Nat) (neg : Bool) : D:=.agg [.int .u64 ((p / 18446744073709551616 : Nat) : Int),.int .u64 ((p % 18446744073709551616 : Nat) : Int),.bool neg]
def wiD (p : Nat) : D:=.agg [.int .i64 ((p / 1152921504606846976 : Nat) : Int),.int .i64 ((p % 1152921504606846976 : Nat) : Int)]
variable {C : CC} (hC : az prog C)
include hC
end Go.Gv

namespace Go.Gv
open Go.Lib
variable {C : CC} (hC : az prog C)
include hC
end Go.Gv

namespace Go.Gv
variable {C : CC} (hC : az prog C)
include hC
end Go.Gv

namespace Go.Gv
def PI (x y : Int) : Int:=if x < y then -1 else if y < x then 1 else 0
variable {C : CC} (hC : az prog C)
include hC
end Go.Gv

namespace Go.Gv
def IY (m : Msh) (i : Nat) : Env:=[(1,.ptr (ci m)),(3,.mrf 10224),(10224,.mp 3 2 (iD m i) (jT m i)),(16,slx m.fn (m.f.map cE)),(17,.int .i64 m.f.length),(18,.int .i64 i)]
theorem nK (m : Msh) (i : Nat) : IY m i=[(1,.ptr (ci m)),(3,.mrf 10224),(10224,.mp 3 2 (iD m i) (jT m i)),(16,slx m.fn (m.f.map cE)),(17,.int .i64 m.f.length),(18,.int .i64 i)]:=_root_.id rfl
def IZ (m : Msh) (i k : Nat) : Env:=[(1,.ptr (ci m)),(3,.mrf 10224),(10224,.mp 3 2 (sdK (fce m i) k++iD m i) (List.replicate k (.int .i64 i)++jT m i)),(4,.int .i64 i),(5,.adr (.r 10080) 0 0),(10080,.blk 4 [cE (fce m i)]),(16,slx m.fn (m.f.map cE)),(17,.int .i64 m.f.length),(18,.int .i64 i),(23,.int .i64 k)]
theorem nL (m : Msh) (i k : Nat) : IZ m i k=[(1,.ptr (ci m)),(3,.mrf 10224),(10224,.mp 3 2 (sdK (fce m i) k++iD m i) (List.replicate k (.int .i64 i)++jT m i)),(4,.int .i64 i),(5,.adr (.r 10080) 0 0),(10080,.blk 4 [cE (fce m i)]),(16,slx m.fn (m.f.map cE)),(17,.int .i64 m.f.length),(18,.int .i64 i),(23,.int .i64 k)]:=_root_.id rfl
def I0 (m : Msh) (i : Nat) : Env:=[(3,.mrf 10224),(10224,.mp 3 2 (iD m m.f.length) (jT m m.f.length)),(7,.ref (.r 10112) 0 m.f.length),(10112,.blk 3 (nbR m i 0)),(38,slx m.fn (m.f.map cE)),(39,.int .i64 m.f.length),(40,.int .i64 i)]
theorem nM (m : Msh) (i : Nat) : I0 m i=[(3,.mrf 10224),(10224,.mp 3 2 (iD m m.f.length) (jT m m.f.length)),(7,.ref (.r 10112) 0 m.f.length),(10112,.blk 3 (nbR m i 0)),(38,slx m.fn (m.f.map cE)),(39,.int .i64 m.f.length),(40,.int .i64 i)]:=_root_.id rfl
def I7 (m : Msh) (i k : Nat) : Env:=[(3,.mrf 10224),(10224,.mp 3 2 (iD m m.f.length) (jT m m.f.length)),(7,.ref (.r 10112) 0 m.f.length),(10112,.blk 3 (nbR m i k)),(8,.int .i64 i),(9,.adr (.r 10144) 0 0),(10144,.blk 4 [cE (fce m i)]),(38,slx m.fn (m.f.map cE)),(39,.int .i64 m.f.length),(40,.int .i64 i),(45,.int .i64 k)]
theorem fo (m : Msh) (i k : Nat) : I7 m i k=[(3,.mrf 10224),(10224,.mp 3 2 (iD m m.f.length) (jT m m.f.length)),(7,.ref (.r 10112) 0 m.f.length),(10112,.blk 3 (nbR m i k)),(8,.int .i64 i),(9,.adr (.r 10144) 0 0),(10144,.blk 4 [cE (fce m i)]),(38,slx m.fn (m.f.map cE)),(39,.int .i64 m.f.length),(40,.int .i64 i),(45,.int .i64 k)]:=_root_.id rfl
variable {C : CC} (hC : az prog C)
include hC
set_option maxHeartbeats 2000000 in
theorem nN (m : Msh) (hv : au m=true) : C 261 [.agg (ci m)] (.sl (nbA m)) []:=by
 have hsz:=dx hv
 have hml : maxLen=9223372036854775807:=rfl
 refine bp hC (nf:=N261) rfl rfl ?_
 simp [N261,ai]
 refine aE Nat (fun i=>IY m i) (fun i=>i <= m.f.length) (fun i=>m.f.length - i) 0 (by simp) (by simp [nK,ai,iD,jT]) ?_
 rintro i hi
 simp [nK,ai]
 refine av (fun g1=>?_) (fun g1=>?_) <;> simp at g1 <;> simp [g1]
 ·have hw : IntKind.wrap .i64 ((i : Int) + 1)=((i + 1 : Nat) : Int):=am (by omega) (by omega)
  have cb:=fun j=>pq (jA hv g1) j
  have ks:=fun k h=>nG hC (fce m i) k h
  have nl:=oQ m i
  simp only [bv] at ks
  simp [bv]
  refine aE Nat (fun k=>IZ m i k) (fun k=>k <= 3) (fun k=>3 - k) 0 (by simp) (by simp [nL,ai,bv,sdK]) ?_
  rintro k hk
  simp [nL,ai,bv]
  refine av (fun g2=>?_) (fun g2=>?_) <;> simp at g2 <;> simp [g2]
  ·have hw2 : IntKind.wrap .i64 ((k : Int) + 1)=((k + 1 : Nat) : Int):=am (by omega) (by omega)
   have ck:=cb k
   have ck1:=cb (k + 1)
   refine ae (ks k (by omega)) (.inl rfl) ?_
   simp [hw2,jt]
   refine ⟨by omega,⟨⟨by omega,by omega⟩,by omega,by omega⟩,by omega,k + 1,by omega,by omega,?_⟩
   simp [nL,ai,bv,sdK,List.replicate_succ]
  ·have hk3 : k=3:=by omega
   subst hk3
   simp [hw]
   refine ⟨i + 1,by omega,by omega,?_⟩
   simp [nK,ai,iD,jT,List.replicate]
 ·have hi2 : i=m.f.length:=by omega
  subst hi2
  refine ⟨by omega,?_⟩
  refine aE Nat (fun i=>I0 m i) (fun i=>i <= m.f.length) (fun i=>m.f.length - i) 0 (by simp) (by simp [nM,ai,t7]) ?_
  clear hi g1
  rintro i hi
  simp [nM,ai]
  refine av (fun g1=>?_) (fun g1=>?_) <;> simp at g1 <;> simp [g1]
  ·have hw : IntKind.wrap .i64 ((i : Int) + 1)=((i + 1 : Nat) : Int):=am (by omega) (by omega)
   have cb:=fun j=>pq (jA hv g1) j
   have ks:=fun k h=>nG hC (fce m i) k h
   simp only [bv] at ks
   simp [bv]
   refine aE Nat (fun k=>I7 m i k) (fun k=>k <= 3) (fun k=>3 - k) 0 (by simp) (by simp [fo,ai,bv]) ?_
   rintro k hk
   simp [fo,ai,bv]
   refine av (fun g2=>?_) (fun g2=>?_) <;> simp at g2 <;> simp [g2]
   ·have hw2 : IntKind.wrap .i64 ((k : Int) + 1)=((k + 1 : Nat) : Int):=am (by omega) (by omega)
    have ck:=cb k
    have ck1:=cb (k + 1)
    have hg:=t8 m (crn (fce m i) (k + 1)) (crn (fce m i) k) m.f.length
    have hl : nbF m i k=match jc (fun j=>cc (fce m j) (crn (fce m i) (k + 1)) (crn (fce m i) k)) m.f.length with
     | some j=>(j : Int)
     | none=>-1:=qh hv _ _
    have hset:=wn m g1 (k:=k) (by omega)
    have hget:=wm m (i:=i) (k:=k) g1
    cases hl0 : jc (fun j=>cc (fce m j) (crn (fce m i) (k + 1)) (crn (fce m i) k)) m.f.length with
    | none =>
     rw [hl0] at hg hl
     simp at hg
     rcases (by omega : k=0 \/ k=1 \/ k=2) with rfl | rfl | rfl
     ·refine ae (ks 0 (by omega)) (.inl rfl) ?_
      simp at ck ck1 hset hget
      simp [hg]
      refine ⟨⟨⟨by omega,by omega⟩,by omega,by omega⟩,g1,?_⟩
      rw [hget]
      simp [hget]
      refine ⟨1,by omega,by omega,?_⟩
      rw [hl] at hset
      simp [fo,ai,bv,hset,dy,dJ,dK]
     ·refine ae (ks 1 (by omega)) (.inl rfl) ?_
      simp at ck ck1 hset hget
      simp [hg]
      refine ⟨⟨⟨by omega,by omega⟩,by omega,by omega⟩,g1,?_⟩
      rw [hget]
      simp [hget]
      refine ⟨2,by omega,by omega,?_⟩
      rw [hl] at hset
      simp [fo,ai,bv,hset,dy,dJ,dK]
     ·refine ae (ks 2 (by omega)) (.inl rfl) ?_
      simp at ck ck1 hset hget
      simp [hg]
      refine ⟨⟨⟨by omega,by omega⟩,by omega,by omega⟩,g1,?_⟩
      rw [hget]
      simp [hget]
      refine ⟨3,by omega,by omega,?_⟩
      rw [hl] at hset
      simp [fo,ai,bv,hset,dy,dJ,dK]
    | some j =>
     rw [hl0] at hg hl
     simp at hg
     rcases (by omega : k=0 \/ k=1 \/ k=2) with rfl | rfl | rfl
     ·refine ae (ks 0 (by omega)) (.inl rfl) ?_
      simp at ck ck1 hset hget
      simp [hg]
      refine ⟨⟨⟨by omega,by omega⟩,by omega,by omega⟩,g1,?_⟩
      rw [hget]
      simp [hget]
      refine ⟨1,by omega,by omega,?_⟩
      rw [hl] at hset
      simp [fo,ai,bv,hset,dy,dJ,dK]
     ·refine ae (ks 1 (by omega)) (.inl rfl) ?_
      simp at ck ck1 hset hget
      simp [hg]
      refine ⟨⟨⟨by omega,by omega⟩,by omega,by omega⟩,g1,?_⟩
      rw [hget]
      simp [hget]
      refine ⟨2,by omega,by omega,?_⟩
      rw [hl] at hset
      simp [fo,ai,bv,hset,dy,dJ,dK]
     ·refine ae (ks 2 (by omega)) (.inl rfl) ?_
      simp at ck ck1 hset hget
      simp [hg]
      refine ⟨⟨⟨by omega,by omega⟩,by omega,by omega⟩,g1,?_⟩
      rw [hget]
      simp [hget]
      refine ⟨3,by omega,by omega,?_⟩
      rw [hl] at hset
      simp [fo,ai,bv,hset,dy,dJ,dK]
   ·have hk3 : k=3:=by omega
    subst hk3
    simp [hw]
    refine ⟨i + 1,by omega,by omega,?_⟩
    simp [nM,ai,t6]
  ·have hi2 : i=m.f.length:=by omega
   subst hi2
   rw [wh]
end Go.Gv

namespace Go.Gv
theorem eM {s : Spt} (h : br s=true) : -16777216 <= s.x /\ s.x <= 16777216 /\ -16777216 <= s.y /\ s.y <= 16777216 /\ -4194304 <= s.z /\ s.z <= 4194304:=by
 simp only [br,Bool.and_eq_true,decide_eq_true_eq] at h
 omega
def spA (m : Msh) (i : Nat) : Spt:=spt m (fce m i).a.toNat
def spB (m : Msh) (i : Nat) : Spt:=spt m (fce m i).b.toNat
def spC (m : Msh) (i : Nat) : Spt:=spt m (fce m i).c.toNat
def cQ (m : Msh) (i : Nat) : Int:=(spA m i).z + (spB m i).z + (spC m i).z
def ol (m : Msh) (i : Nat) : Int:=(spA m i).x + (spB m i).x + (spC m i).x
def om (m : Msh) (i : Nat) : Int:=(spA m i).y + (spB m i).y + (spC m i).y
theorem Bh (m : Msh) (i : Nat) : spt m (fce m i).a.toNat=spA m i:=rfl
theorem Bi (m : Msh) (i : Nat) : spt m (fce m i).b.toNat=spB m i:=rfl
theorem Bj (m : Msh) (i : Nat) : spt m (fce m i).c.toNat=spC m i:=rfl
theorem yL {m : Msh} (hv : au m=true) {i : Nat} (hi : i < m.f.length) : br (spA m i)=true /\ br (spB m i)=true /\ br (spC m i)=true:=by
 obtain ⟨⟨_,h1⟩,⟨_,h2⟩,⟨_,h3⟩⟩:=nB (jA hv hi)
 exact ⟨n9 hv h1,n9 hv h2,n9 hv h3⟩
theorem la {m : Msh} (hv : au m=true) {i : Nat} (hi : i < m.f.length) : -12582912 <= cQ m i /\ cQ m i <= 12582912:=by
 obtain ⟨h1,h2,h3⟩:=yL hv hi
 have:=eM h1
 have:=eM h2
 have:=eM h3
 unfold cQ
 omega
def smR (m : Msh) (i : Nat) : List (List D):=(List.range i).map fun j=>[.int .i64 (cQ m j)]
def ctR (m : Msh) (i : Nat) : List (List D):=(List.range i).map fun j=>[.int .i64 (ol m j),.int .i64 (om m j)]
@[simp] theorem Pp (m : Msh) (i : Nat) : (smR m i).length=i:=by simp [smR]
@[simp] theorem Kz (m : Msh) (i : Nat) : (ctR m i).length=i:=by simp [ctR]
@[simp] theorem Kc (m : Msh) (i : Nat) : List.take i (smR m i)=smR m i:=List.take_of_length_le (by simp)
@[simp] theorem FN (m : Msh) (i : Nat) : List.take i (ctR m i)=ctR m i:=List.take_of_length_le (by simp)
theorem wJ (m : Msh) (i : Nat) : smR m i++[[.int .i64 (cQ m i)]]=smR m (i + 1):=by simp [smR,List.range_succ]
theorem vu (m : Msh) (i : Nat) : ctR m i++[[.int .i64 (ol m i),.int .i64 (om m i)]]=ctR m (i + 1):=by simp [ctR,List.range_succ]
@[simp] theorem Po (m : Msh) (i : Nat) (x : List D) : (∀ e,e ∈ smR m i \/ e=x -> ∀ c,c ∈ e -> ar c=true)=∀ c,c ∈ x -> ar c=true:=by
 apply propext
 constructor
 ·exact fun h=>h x (.inr rfl)
 ·rintro h e (he | rfl)
  ·obtain ⟨j,_,rfl⟩:=List.mem_map.1 he
   simp
  ·exact h
@[simp] theorem Ky (m : Msh) (i : Nat) (x : List D) : (∀ e,e ∈ ctR m i \/ e=x -> ∀ c,c ∈ e -> ar c=true)=∀ c,c ∈ x -> ar c=true:=by
 apply propext
 constructor
 ·exact fun h=>h x (.inr rfl)
 ·rintro h e (he | rfl)
  ·obtain ⟨j,_,rfl⟩:=List.mem_map.1 he
   simp
  ·exact h
def cN (sz : Nat) (es : List (List D)) : D:=match es with
 | []=>.nils
 | e::r=>.own sz (e::r)
@[simp] theorem FC (sz : Nat) (es : List (List D)) : aT (cN sz es)=slx true es:=by cases es <;> rfl
def grC (m : Msh) : List D:=[.sl (nbA m),slx true (smR m m.f.length),slx true (ctR m m.f.length)]
theorem tG (m : Msh) : grC m=[.sl (nbA m),slx true (smR m m.f.length),slx true (ctR m m.f.length)]:=_root_.id rfl
def mdE (m : Msh) (i : Nat) : Env:=[(1,.ptr (ci m)),(6,.adr (.r 10352) 0 0),(10352,.blk 3 [[.sl (nbA m),cN 1 (smR m i),cN 2 (ctR m i)]]),(24,slx m.fn (m.f.map cE)),(25,.int .i64 m.f.length),(26,.int .i64 i)]
theorem nC (m : Msh) (i : Nat) : mdE m i=[(1,.ptr (ci m)),(6,.adr (.r 10352) 0 0),(10352,.blk 3 [[.sl (nbA m),cN 1 (smR m i),cN 2 (ctR m i)]]),(24,slx m.fn (m.f.map cE)),(25,.int .i64 m.f.length),(26,.int .i64 i)]:=_root_.id rfl
theorem xx (m : Msh) (i : Nat) : cN 1 (smR m (i + 1))=.own 1 (smR m (i + 1)):=by
 have : (smR m (i + 1)).length=i + 1:=by simp
 cases h : smR m (i + 1) with
 | nil=>rw [h] at this;simp at this
 | cons e r=>rfl
theorem xw (m : Msh) (i : Nat) : cN 2 (ctR m (i + 1))=.own 2 (ctR m (i + 1)):=by
 have : (ctR m (i + 1)).length=i + 1:=by simp
 cases h : ctR m (i + 1) with
 | nil=>rw [h] at this;simp at this
 | cons e r=>rfl
variable {C : CC} (hC : az prog C)
include hC
theorem eE (dec : Nat -> List UInt8) (hI : ∀ n : Nat,n < 100 -> C 127 [.int .i64 n] (.str (dec n)) []) (m : Msh) (hz : cY m=true -> m.s.length <= 100 /\ m.f.length <= 100) :
  C 221 [.agg (ci m)] (if au m then .tup [.sl (nbA m),.int .i64 0] else .tup [.nils,.int .i64 1]) []:=by
 have k:=tT hC dec hI m hz
 refine bp hC (nf:=N221) rfl rfl ?_
 simp only [ai] at k
 simp [N221,ai]
 refine ae k (.inl rfl) ?_
 cases hv : au m
 ·simp
 ·have k2:=nN hC m hv
  simp only [ai] at k2
  simp
  refine ae k2 (.inr rfl) ?_
  simp
set_option maxRecDepth 8000 in
set_option maxHeartbeats 2000000 in
theorem An (dec : Nat -> List UInt8) (hI : ∀ n : Nat,n < 100 -> C 127 [.int .i64 n] (.str (dec n)) []) (m : Msh) (hz : cY m=true -> m.s.length <= 100 /\ m.f.length <= 100) :
  C 253 [.agg (ci m)] (if au m then .tup [.ptr (grC m),.int .i64 0] else .tup [.nilp,.int .i64 1]) []:=by
 have k:=eE hC dec hI m hz
 refine bp hC (nf:=N253) rfl rfl ?_
 simp only [ai] at k
 simp [N253,ai]
 refine ae k (.inr rfl) ?_
 cases hv : au m
 ·simp
 ·have hsz:=dx hv
  simp
  refine aE Nat (fun i=>mdE m i) (fun i=>i <= m.f.length) (fun i=>m.f.length - i) 0 (by simp) (by simp [nC,ai,smR,ctR,cN]) ?_
  rintro i hi
  simp [nC,ai]
  refine av (fun g1=>?_) (fun g1=>?_) <;> simp at g1 <;> simp [g1]
  ·have hw : IntKind.wrap .i64 ((i : Int) + 1)=((i + 1 : Nat) : Int):=am (by omega) (by omega)
   obtain ⟨⟨a1,a2⟩,⟨b1,b2⟩,⟨c1,c2⟩⟩:=nB (jA hv g1)
   obtain ⟨h1,h2,h3⟩:=yL hv g1
   have h1:=eM h1
   have h2:=eM h2
   have h3:=eM h3
   have wz1 : IntKind.wrap .i64 ((spA m i).z + (spB m i).z)=(spA m i).z + (spB m i).z:=am rfl (by omega)
   have wz2 : IntKind.wrap .i64 ((spA m i).z + (spB m i).z + (spC m i).z)=cQ m i:=am rfl (by unfold cQ;omega)
   have wx1 : IntKind.wrap .i64 ((spA m i).x + (spB m i).x)=(spA m i).x + (spB m i).x:=am rfl (by omega)
   have wx2 : IntKind.wrap .i64 ((spA m i).x + (spB m i).x + (spC m i).x)=ol m i:=am rfl (by unfold ol;omega)
   have wy1 : IntKind.wrap .i64 ((spA m i).y + (spB m i).y)=(spA m i).y + (spB m i).y:=am rfl (by omega)
   have wy2 : IntKind.wrap .i64 ((spA m i).y + (spB m i).y + (spC m i).y)=om m i:=am rfl (by unfold om;omega)
   simp [bv,a1,a2,b1,b2,c1,c2,k8,Bh,Bi,Bj]
   refine ⟨aV (by decide +kernel),?_⟩
   cases i with
   | zero =>
    simp [smR,ctR,cN]
    refine ⟨aV (by decide +kernel),aV (by decide +kernel),1,by omega,by omega,?_⟩
    simp [nC,ai,smR,ctR,cN,dy,wz1,wz2,wx1,wx2,wy1,wy2]
   | succ j =>
    simp [xx,xw]
    have e1:=wJ m (j + 1)
    have e2:=vu m (j + 1)
    refine ⟨by omega,aV (by decide +kernel),by omega,aV (by decide +kernel),j + 1 + 1,by omega,by omega,?_⟩
    simp [nC,ai,xx,xw,wz1,wz2,wx1,wx2,wy1,wy2,e1,e2]
    exact am rfl (by omega)
  ·have hi2 : i=m.f.length:=by omega
   subst hi2
   simp [tG]
end Go.Gv

namespace Go.Gv
theorem vU {α : Type} (p : α -> Bool) (xs : List α) : -1 <= gr p xs /\ gr p xs < xs.length:=by
 unfold gr
 split
 ·rename_i i h
  have:=(List.findIdx?_eq_some_iff_getElem.1 h).1
  omega
 ·omega
theorem dQ (m : Msh) (i k : Nat) : -1 <= nbF m i k /\ nbF m i k < m.f.length:=vU _ _
def bsd (m : Msh) (i : Nat) (o : Int) : Bool:=decide (o=nbF m i 0) || (decide (o=nbF m i 1) || decide (o=nbF m i 2))
def s7 (m : Msh) (i j : Nat) : Int:=cQ m i - cQ m j
def Jw (m : Msh) (i j : Nat) : Int:=s7 m i j * (if s7 m i j < -s7 m i j then -s7 m i j else s7 m i j)
def FO (m : Msh) (i j : Nat) : Int:=(ol m i - ol m j) * (ol m i - ol m j) + (om m i - om m j) * (om m i - om m j)
def FI (m : Msh) (i a b : Nat) : Int:=PI (Jw m i a * FO m i b) (Jw m i b * FO m i a)
def Q8 (m : Msh) (i : Nat) (best n : Int) : Int:=if n < 0 \/ cQ m i <= cQ m n.toNat then best else if best < 0 then n else if 0 < FI m i n.toNat best.toNat \/ (FI m i n.toNat best.toNat=0 /\ n < best) then n else best
def upF (m : Msh) (i : Nat) : Nat -> Int
 | 0=>-2
 | k + 1=>Q8 m i (upF m i k) (nbF m i k)
def r9 (m : Msh) (i : Nat) : Int:=if upF m i 3=-2 /\ bsd m i (-1)=true then -1 else upF m i 3
variable {C : CC} (hC : az prog C)
include hC
theorem vV {b : Bool} {xs : List Int} (o : Int) (hs : xs.length < 2 ^ 62) : C 262 [slx b (xs.map fun x=>[.int .i64 x]),.int .i64 o] (.int .i64 (gr (fun x=>decide (o=x)) xs)) []:=by
 refine bp hC (nf:=N262) rfl rfl ?_
 simp [N262]
 refine aE Nat (fun i=>[(0,slx b (xs.map fun x=>[.int .i64 x])),(1,.int .i64 o),(7,.int .i64 xs.length),(8,.int .i64 i)]) (fun i=>i <= xs.length /\ ∀ (j : Nat) (h : j < xs.length),j < i -> decide (o=xs[j])=false) (fun i=>xs.length - i) 0 (by simp) (by simp) ?_
 rintro i ⟨hi,hj⟩
 simp
 refine av (fun h=>?_) (fun h=>?_) <;> simp [h] <;> simp at h
 ·have hw : IntKind.wrap .i64 ((i : Int) + 1)=((i + 1 : Nat) : Int):=am (by omega) (by omega)
  simp [h,List.getElem_map]
  refine av (fun h1=>?_) (fun h1=>?_) <;> simp at h1 <;> simp [hw]
  ·rw [fO hj h (by simpa using h1)]
  ·refine ⟨i + 1,⟨by omega,fun j hl hjj=>?_⟩,by omega,by omega⟩
   rcases Nat.lt_succ_iff_lt_or_eq.1 hjj with h2 | rfl
   ·simpa using hj j hl h2
   ·exact h1
 ·rw [im (fun j hl=>hj j hl (by omega))]
theorem qA {b : Bool} {xs : List Int} (o : Int) (hs : xs.length < 2 ^ 62) : C 223 [slx b (xs.map fun x=>[.int .i64 x]),.int .i64 o] (.bool (xs.any fun x=>decide (o=x))) []:=by
 refine bp hC (nf:=N223) rfl rfl ?_
 simp [N223]
 refine ae (vV hC o hs) (.inl rfl) ?_
 simp [lF]
end Go.Gv

namespace Go.Gv
def inR (l : List Int) : List (List D):=l.map fun n=>[.int .i64 n]
theorem tM (l : List Int) : inR l=l.map fun n=>[.int .i64 n]:=rfl
@[simp] theorem vW (l : List Int) : (inR l).length=l.length:=by simp [inR]
@[simp] theorem lH (l : List Int) : List.take l.length (inR l)=inR l:=List.take_of_length_le (by simp)
@[simp] theorem Qf (l : List Int) : List.map (fun e=>List.map aT e) (inR l)=inR l:=by simp [inR]
@[simp] theorem Ln : inR []=[]:=rfl
def bq (m : Msh) : List Int:=(List.range m.f.length).map fun j=>cQ m j
def Rh (m : Msh) : List Int:=(List.range m.f.length).map fun j=>r9 m j
theorem Kb (m : Msh) : smR m m.f.length=inR (bq m):=by simp [smR,inR,bq]
def flT (m : Msh) (i : Nat) : List Int:=(List.range i).map fun j=>r9 m j
def flB (m : Msh) : Nat -> List (List D)
 | 0=>List.replicate m.f.length [.int .i64 0]
 | i + 1=>inR (flT m (i + 1))
def pth (m : Msh) : Nat -> Int -> List Int
 | 0,_=>[]
 | k + 1,f=>if f < 0 then [] else f::pth m k (r9 m f.toNat)
def rnk (m : Msh) (i : Nat) : Nat:=((List.range m.f.length).filter fun j=>decide (cQ m j < cQ m i)).length
def yH (m : Msh) (f : Int) : List Int:=pth m m.f.length f
def QG (m : Msh) (i : Nat) : List Int:=((List.range i).filter fun j=>decide (r9 m j=-2)).map fun (j : Nat)=>(j : Int)
def Ru (m : Msh) : List Int:=QG m m.f.length
variable {C : CC} (hC : az prog C)
include hC
theorem sO (dec : Nat -> List UInt8) (hI : ∀ n : Nat,n < 100 -> C 127 [.int .i64 n] (.str (dec n)) []) (m : Msh) (hz : cY m=true -> m.s.length <= 100 /\ m.f.length <= 100) :
  C 220 [.agg (ci m)] (if au m then .tup [slx true (inR (bq m)),.int .i64 0] else .tup [.nils,.int .i64 1]) []:=by
 have k:=An hC dec hI m hz
 refine bp hC (nf:=N220) rfl rfl ?_
 simp only [ai] at k
 simp [N220,ai]
 refine ae k (.inr rfl) ?_
 cases hv : au m
 ·simp
 ·simp [tG,Kb]
end Go.Gv

namespace Go.Gv
def nfR (fs : List Nat) : List (List D):=fs.map fun i : Nat=>[D.int .i64 (i : Int)]
@[simp] theorem OH (fs : List Nat) : (nfR fs).length=fs.length:=by simp [nfR]
theorem gg {fs : List Nat} {i : Nat} (h : i < fs.length) : (nfR fs)[i]? = some [.int .i64 (fs[i] : Int)]:=by simp [nfR,h]
theorem AU {fs : List Nat} {i : Nat} (h : i < (nfR fs).length) : (nfR fs)[i]=[.int .i64 (fs[i]'(by simpa using h) : Nat)]:=by simp [nfR]
@[simp] theorem Ja (fs : List Nat) (n : Nat) : List.take n (nfR fs)=nfR (fs.take n):=by simp [nfR]
theorem ip (fs : List Nat) (i x : Nat) : (nfR fs).set i [.int .i64 (x : Int)]=nfR (fs.set i x):=by simp [nfR,List.map_set]
theorem qH (fs : List Nat) (x : Nat) : nfR fs++[[.int .i64 (x : Int)]]=nfR (fs++[x]):=by simp [nfR]
theorem gU (fs : List Nat) : ∀ e ∈ nfR fs,∀ c ∈ e,aP c=true:=by simp [nfR]
theorem pX (fs : List Nat) : ∀ e ∈ nfR fs,∀ c ∈ e,ar c=true:=by simp [nfR]
def qB (fs : List Nat) (sp : List Int) : List (List D):=[[.own 1 (nfR fs),.slv 0 (inR sp)]]
def fAt (fs : List Nat) (i : Nat) : Nat:=fs.getD i 0
def swp (fs : List Nat) (i k : Nat) : List Nat:=(fs.set i (fAt fs k)).set k (fAt fs i)
@[simp] theorem Pq (fs : List Nat) (i k : Nat) : (swp fs i k).length=fs.length:=by simp [swp]
theorem cS {fs : List Nat} {i : Nat} (h : i < fs.length) : fAt fs i=fs[i]:=by simp [fAt,h]
theorem eS {fs : List Nat} {i : Nat} (h : i < fs.length) : fAt fs i ∈ fs:=by rw [cS h];exact List.getElem_mem _
theorem co {sp : List Int} {i : Nat} (h : i < sp.length) : (inR sp)[i]? = some [.int .i64 (sp.getD i 0)]:=by simp [inR,h]
section
variable {C : Nat -> List D -> D -> List D -> Prop} (hC : f5 prog C)
include hC
theorem uj (fs : List Nat) (sp : List Int) : C 317 [.blk 2 (qB fs sp),.adr (.r 10015) 0 0] (.int .i64 fs.length) [.blk 2 (qB fs sp),.nilp]:=by
 unfold qB
 refine fb hC (nf:=N317) rfl rfl ?_
 simp [N317]
theorem jn (fs : List Nat) (sp : List Int) (i k : Nat) (hi : i < fs.length) (hk : k < fs.length) : C 343 [.blk 2 (qB fs sp),.adr (.r 10015) 0 0,.int .i64 i,.int .i64 k] (.tup []) [.blk 2 (qB (swp fs i k) sp),.nilp]:=by
 rw [show swp fs i k=(fs.set i fs[k]).set k fs[i] by rw [<- cS hi,<- cS hk];rfl]
 unfold qB
 refine fb hC (nf:=N343) rfl rfl ?_
 simp [N343,aI (gg hi),aI (gg hk),hi,hk,AU,ip]
 exact aV (by decide +kernel)
theorem wu (fs : List Nat) (sp : List Int) (x : Nat) (h : fs.length < 2 ^ 40) : C 342 [.blk 2 (qB fs sp),.adr (.r 10015) 0 0,.ifi 2 x] (.tup []) [.blk 2 (qB (fs++[x]) sp),.nilp]:=by
 unfold qB
 refine fb hC (nf:=N342) rfl rfl ?_
 simp [N342]
 refine ⟨by omega,?_,aV (by decide +kernel),?_⟩
 ·rintro e (he | rfl) c hc
  ·exact pX _ _ he _ hc
  ·simp at hc;subst hc;rfl
 ·exact qH fs x
theorem A4 (fs : List Nat) (sp : List Int) (h : 0 < fs.length) (h2 : fs.length < 2 ^ 40) : C 341 [.blk 2 (qB fs sp),.adr (.r 10015) 0 0] (.ifi 2 (fAt fs (fs.length - 1) : Nat)) [.blk 2 (qB (fs.take (fs.length - 1)) sp),.nilp]:=by
 have e1 : IntKind.wrap .i64 ((fs.length : Int) - 1)=((fs.length - 1 : Nat) : Int):=am (by omega) (by omega)
 have hl : fs.length - 1 < fs.length:=by omega
 rw [cS hl]
 unfold qB
 refine fb hC (nf:=N341) rfl rfl ?_
 simp [N341,e1,aI (gg hl),hl]
 refine ⟨aV (by decide +kernel),?_⟩
 refine xi (b:=10015) (i:=0) (off:=0) (n:=fs.length - 1) rfl (by simp) rfl rfl rfl (by simp) ?_
 simp
 exact aV (by decide +kernel)
def ltF (sp : List Int) (a b : Nat) : Bool:=decide (sp.getD a 0 < sp.getD b 0) || (decide (sp.getD a 0=sp.getD b 0) && decide (a < b))
theorem jl (fs : List Nat) (sp : List Int) (i k : Nat) (hi : i < fs.length) (hk : k < fs.length) (hb : ∀ a ∈ fs,a < sp.length) : C 340 [.blk 2 (qB fs sp),.adr (.r 10015) 0 0,.int .i64 i,.int .i64 k] (.bool (ltF sp (fAt fs i) (fAt fs k))) [.blk 2 (qB fs sp),.nilp]:=by
 rw [cS hi,cS hk]
 unfold qB
 refine fb hC (nf:=N340) rfl rfl ?_
 have hi' : fs[i] < sp.length:=hb _ (List.getElem_mem _)
 have hk' : fs[k] < sp.length:=hb _ (List.getElem_mem _)
 simp [N340,aI (gg hi),aI (gg hk),hi,hk,aK (co hi'),aK (co hk')]
 refine ⟨aV (by decide +kernel),?_⟩
 refine av (fun g1=>?_) (fun g1=>?_) <;> simp at g1
 ·simp [g1,ltF]
  exact aV (by decide +kernel)
 ·simp [Int.not_lt.2 g1,aK (co hi'),aK (co hk')]
  refine av (fun g2=>?_) (fun g2=>?_) <;> simp at g2
  ·simp [g2,ltF]
   exact aV (by decide +kernel)
  ·simp [g2,ltF,Int.not_lt.2 g1]
   exact aV (by decide +kernel)
end
end Go.Gv

namespace Go.Gv
def upL (sp : List Int) (fs : List Nat) (j : Nat) : List Nat :=
 if j=0 then fs else if ltF sp (fAt fs j) (fAt fs ((j - 1) / 2)) then upL sp (swp fs ((j - 1) / 2) j) ((j - 1) / 2) else fs
 termination_by j
 decreasing_by omega
def dnJ (sp : List Int) (fs : List Nat) (j n : Nat) : Nat:=if j + 1 < n /\ ltF sp (fAt fs (j + 1)) (fAt fs j)=true then j + 1 else j
theorem lm {sp : List Int} {fs : List Nat} {j n : Nat} (h : j < n) : j <= dnJ sp fs j n /\ dnJ sp fs j n < n:=by
 unfold dnJ
 split <;> omega
def bz (sp : List Int) (fs : List Nat) (i n : Nat) : List Nat × Nat :=
 if h : n <= 2 * i + 1 then (fs,i) else if ltF sp (fAt fs (dnJ sp fs (2 * i + 1) n)) (fAt fs i) then bz sp (swp fs i (dnJ sp fs (2 * i + 1) n)) (dnJ sp fs (2 * i + 1) n) n else (fs,i)
 termination_by n - i
 decreasing_by
 have:=lm (sp:=sp) (fs:=fs) (j:=2 * i + 1) (n:=n) (by omega)
 omega
theorem qL {fs : List Nat} {i x a : Nat} (h : a ∈ fs.set i x) : a=x \/ a ∈ fs:=by
 rcases List.mem_or_eq_of_mem_set h with h | h
 ·exact .inr h
 ·exact .inl h
theorem jx {fs : List Nat} {i k a : Nat} (hi : i < fs.length) (hk : k < fs.length) (h : a ∈ swp fs i k) : a ∈ fs:=by
 rcases qL h with rfl | h
 ·exact eS hi
 ·rcases qL h with rfl | h
  ·exact eS hk
  ·exact h
section
variable {C : Nat -> List D -> D -> List D -> Prop} (hC : f5 prog C)
include hC
theorem GD (fs : List Nat) (sp : List Int) (j : Nat) (hj : j < fs.length) (hb : ∀ a ∈ fs,a < sp.length) (h2 : fs.length < 2 ^ 40) : C 334 [.blk 2 (qB fs sp),.ifa 20 (.r 10015) 0 0,.int .i64 j] (.tup []) [.blk 2 (qB (upL sp fs j) sp),.nilp]:=by
 refine fb hC (nf:=N334) rfl rfl ?_
 simp [N334]
 refine aE (List Nat × Nat) (fun s=>[(0,.ifa 20 (.r 10015) 0 0),(1,.int .i64 s.2),(10015,.blk 2 (qB s.1 sp))]) (fun s=>s.2 < s.1.length /\ s.1.length=fs.length /\ (∀ a ∈ s.1,a < sp.length) /\ upL sp s.1 s.2=upL sp fs j) (fun s=>s.2) (fs,j) ⟨hj,rfl,hb,rfl⟩ (by simp) ?_
 rintro ⟨l,i⟩ ⟨k1,k2,k3,k4⟩
 simp only at k1 k2 k3 k4
 obtain ⟨p,hp0⟩ : ∃ p,p=(i - 1) / 2:=⟨_,rfl⟩
 have e1 : IntKind.wrap .i64 ((IntKind.wrap .i64 ((i : Int) - 1)).tdiv 2)=(p : Int):=by
  rw [am (m:=(i : Int) - 1) rfl (by omega),hp0]
  by_cases h0 : i=0
  ·subst h0;decide
  ·rw [Int.tdiv_eq_ediv_of_nonneg (by omega)]
   exact am (by omega) (by omega)
 have hp : p < l.length:=by omega
 have hu : upL sp l i=if i=0 then l else if ltF sp (fAt l i) (fAt l p) then upL sp (swp l p i) p else l:=by
  conv=>lhs;unfold upL
  rw [hp0]
 simp [e1]
 refine av (fun g1=>?_) (fun g1=>?_) <;> simp at g1 <;> simp [g1]
 ·have h0 : i=0:=by omega
  subst h0
  rw [<- k4,hu]
  simp [qB]
 ·have hne : i ≠ 0:=by omega
  have hl:=jl hC l sp i p k1 hp k3
  rw [if_neg hne] at hu
  refine ⟨by simp [qB],?_⟩
  refine bJ hl (by simp [qB]) ?_
  simp [bN]
  refine av (fun g2=>?_) (fun g2=>?_) <;> simp at g2
  ·simp [g2]
   rw [<- k4,hu,g2]
   simp [qB]
  ·simp [g2]
   refine ⟨by simp [qB],?_⟩
   refine bJ (jn hC l sp p i hp k1) (by simp [qB]) ?_
   simp [bN]
   exact ⟨swp l p i,p,⟨by simp;exact hp,by simp [k2],fun a ha=>k3 a (jx hp k1 ha),by rw [<- k4,hu,g2];simp⟩,by omega,rfl,rfl⟩
theorem vP (fs : List Nat) (sp : List Int) (i0 n : Nat) (hn : n <= fs.length) (hi0 : i0 < fs.length) (hb : ∀ a ∈ fs,a < sp.length) (h2 : fs.length < 2 ^ 40) : C 335 [.blk 2 (qB fs sp),.ifa 20 (.r 10015) 0 0,.int .i64 i0,.int .i64 n] (.bool (decide (i0 < (bz sp fs i0 n).2))) [.blk 2 (qB (bz sp fs i0 n).1 sp),.nilp]:=by
 refine fb hC (nf:=N335) rfl rfl ?_
 simp [N335]
 refine aE (List Nat × Nat) (fun s=>[(0,.ifa 20 (.r 10015) 0 0),(1,.int .i64 i0),(2,.int .i64 n),(7,.int .i64 s.2),(10015,.blk 2 (qB s.1 sp))]) (fun s=>s.2 < s.1.length /\ s.1.length=fs.length /\ (∀ a ∈ s.1,a < sp.length) /\ bz sp s.1 s.2 n=bz sp fs i0 n) (fun s=>fs.length - s.2) (fs,i0) ⟨hi0,rfl,hb,rfl⟩ (by simp) ?_
 rintro ⟨l,i⟩ ⟨k1,k2,k3,k4⟩
 simp only at k1 k2 k3 k4
 have e1 : IntKind.wrap .i64 (IntKind.wrap .i64 (2 * (i : Int)) + 1)=((2 * i + 1 : Nat) : Int):=by
  rw [am (m:=2 * (i : Int)) rfl (by omega)]
  exact am (by omega) (by omega)
 have e2 : IntKind.wrap .i64 (((2 * i + 1 : Nat) : Int) + 1)=((2 * i + 1 + 1 : Nat) : Int):=am (by omega) (by omega)
 obtain ⟨j1,hj1⟩ : ∃ j1,j1=2 * i + 1:=⟨_,rfl⟩
 rw [<- hj1] at e1 e2
 obtain ⟨j2,hj2⟩ : ∃ j2,j2=j1 + 1:=⟨_,rfl⟩
 rw [<- hj2] at e2
 obtain ⟨jm,hjm⟩ : ∃ jm,jm=dnJ sp l j1 n:=⟨_,rfl⟩
 have hu : bz sp l i n=if n <= j1 then (l,i) else if ltF sp (fAt l jm) (fAt l i) then bz sp (swp l i jm) jm n else (l,i):=by
  conv=>lhs;unfold bz
  rw [<- hj1,<- hjm]
  rfl
 simp [e1]
 refine av (fun g1=>?_) (fun g1=>?_) <;> simp at g1
 ·simp [g1]
  rw [<- k4,hu,if_pos g1]
  simp [qB]
 ·rw [if_neg (by omega)] at hu
  have hj:=lm (sp:=sp) (fs:=l) (j:=j1) (n:=n) g1
  rw [<- hjm] at hj
  have hjl : jm < l.length:=by omega
  simp [Nat.not_le.2 g1,show ¬ ((j1 : Int) < 0) by omega,e2]
  have hm : jm=if j2 < n /\ ltF sp (fAt l j2) (fAt l j1)=true then j2 else j1:=by rw [hjm,hj2];rfl
  refine av (fun g2=>?_) (fun g2=>?_) <;> simp at g2
  ·simp [g2]
   refine ⟨by simp [qB],?_⟩
   refine bJ (jl hC l sp j2 j1 (by omega) (by omega) k3) (by simp [qB]) ?_
   simp [bN]
   refine av (fun g3=>?_) (fun g3=>?_)
   ·rw [if_pos ⟨g2,g3⟩] at hm
    simp [g3]
    subst hm
    refine ⟨by simp [qB],?_⟩
    refine bJ (jl hC l sp _ i hjl k1 k3) (by simp [qB]) ?_
    simp [bN]
    refine av (fun g4=>?_) (fun g4=>?_) <;> simp at g4
    ·simp [g4]
     rw [<- k4,hu,if_neg (by simp [g4])]
     simp [qB]
    ·simp [g4]
     refine ⟨by simp [qB],?_⟩
     refine bJ (jn hC l sp i _ k1 hjl) (by simp [qB]) ?_
     simp [bN]
     exact ⟨swp l i _,_,⟨by simp;exact hjl,by simp [k2],fun a ha=>k3 a (jx k1 hjl ha),by rw [<- k4,hu,if_pos g4]⟩,by omega,rfl,rfl⟩
   ·rw [if_neg (by simp [g3])] at hm
    simp [g3]
    subst hm
    refine ⟨by simp [qB],?_⟩
    refine bJ (jl hC l sp _ i hjl k1 k3) (by simp [qB]) ?_
    simp [bN]
    refine av (fun g4=>?_) (fun g4=>?_) <;> simp at g4
    ·simp [g4]
     rw [<- k4,hu,if_neg (by simp [g4])]
     simp [qB]
    ·simp [g4]
     refine ⟨by simp [qB],?_⟩
     refine bJ (jn hC l sp i _ k1 hjl) (by simp [qB]) ?_
     simp [bN]
     exact ⟨swp l i _,_,⟨by simp;exact hjl,by simp [k2],fun a ha=>k3 a (jx k1 hjl ha),by rw [<- k4,hu,if_pos g4]⟩,by omega,rfl,rfl⟩
  ·rw [if_neg (by omega)] at hm
   simp [Nat.not_lt.2 g2]
   subst hm
   refine ⟨by simp [qB],?_⟩
   refine bJ (jl hC l sp _ i hjl k1 k3) (by simp [qB]) ?_
   simp [bN]
   refine av (fun g4=>?_) (fun g4=>?_) <;> simp at g4
   ·simp [g4]
    rw [<- k4,hu,if_neg (by simp [g4])]
    simp [qB]
   ·simp [g4]
    refine ⟨by simp [qB],?_⟩
    refine bJ (jn hC l sp i _ k1 hjl) (by simp [qB]) ?_
    simp [bN]
    exact ⟨swp l i _,_,⟨by simp;exact hjl,by simp [k2],fun a ha=>k3 a (jx k1 hjl ha),by rw [<- k4,hu,if_pos g4]⟩,by omega,rfl,rfl⟩
theorem vQ (fs : List Nat) (sp : List Int) (x : Nat) (hx : x < sp.length) (hb : ∀ a ∈ fs,a < sp.length) (h2 : fs.length + 1 < 2 ^ 40) : C 316 [.blk 2 (qB fs sp),.ifa 20 (.r 10015) 0 0,.ifi 2 x] (.tup []) [.blk 2 (qB (upL sp (fs++[x]) fs.length) sp),.nilp]:=by
 have hb' : ∀ a ∈ fs++[x],a < sp.length:=by
  intro a ha
  rcases List.mem_append.1 ha with ha | ha
  ·exact hb a ha
  ·simp at ha;omega
 have e1 : IntKind.wrap .i64 (((fs.length + 1 : Nat) : Int) - 1)=(fs.length : Int):=am (by omega) (by omega)
 refine fb hC (nf:=N316) rfl rfl ?_
 simp [N316]
 refine ⟨by simp [qB],?_⟩
 refine bJ (wu hC fs sp x (by omega)) (by simp [qB]) ?_
 simp [bN]
 refine ⟨by simp [qB],?_⟩
 refine bJ (uj hC (fs++[x]) sp) (by simp [qB]) ?_
 have hup:=GD hC (fs++[x]) sp fs.length (by simp) hb' (by simp;omega)
 simp at e1
 simp [bN,e1]
 refine ⟨by simp [qB],?_⟩
 refine bJ hup (by simp [qB]) ?_
 simp [bN,qB]
omit hC in
theorem ro (sp : List Int) (fs : List Nat) (i n : Nat) : (bz sp fs i n).1.length=fs.length:=by
 induction fs,i using bz.induct sp n with
 | case1 fs i h=>unfold bz;simp [h]
 | case2 fs i h1 h2 ih=>unfold bz;simp only [dif_neg h1,if_pos h2];rw [ih];simp
 | case3 fs i h1 h2=>unfold bz;simp only [dif_neg h1,if_neg h2]
theorem zV (fs : List Nat) (sp : List Int) (h0 : 0 < fs.length) (hb : ∀ a ∈ fs,a < sp.length) (h2 : fs.length < 2 ^ 40) : C 318 [.blk 2 (qB fs sp),.ifa 20 (.r 10015) 0 0] (.ifi 2 (fAt (bz sp (swp fs 0 (fs.length - 1)) 0 (fs.length - 1)).1 (fs.length - 1) : Nat)) [.blk 2 (qB ((bz sp (swp fs 0 (fs.length - 1)) 0 (fs.length - 1)).1.take (fs.length - 1)) sp),.nilp]:=by
 obtain ⟨n,hn⟩ : ∃ n,n=fs.length - 1:=⟨_,rfl⟩
 have e1 : IntKind.wrap .i64 ((fs.length : Int) - 1)=(n : Int):=am (by omega) (by omega)
 rw [<- hn]
 have hsw:=jn hC fs sp 0 n h0 (by omega)
 have hdn:=vP hC (swp fs 0 n) sp 0 n (by simp;omega) (by simp;omega) (fun a ha=>hb a (jx h0 (by omega) ha)) (by simp;omega)
 have hl : (bz sp (swp fs 0 n) 0 n).1.length=fs.length:=by rw [ro];simp
 have hpo:=A4 hC (bz sp (swp fs 0 n) 0 n).1 sp (by omega) (by omega)
 rw [hl,<- hn] at hpo
 refine fb hC (nf:=N318) rfl rfl ?_
 simp [N318]
 refine ⟨by simp [qB],?_⟩
 refine bJ (uj hC fs sp) (by simp [qB]) ?_
 simp [bN,e1]
 refine ⟨by simp [qB],?_⟩
 refine bJ hsw (by simp [qB]) ?_
 simp [bN]
 refine ⟨by simp [qB],?_⟩
 refine bJ hdn (by simp [qB]) ?_
 simp [bN]
 refine ⟨by simp [qB],?_⟩
 refine bJ hpo (by simp [qB]) ?_
 simp [bN,qB]
end
end Go.Gv

namespace Go.Gv
theorem jd {sp : List Int} {a b : Nat} : ltF sp a b=true ↔ sp.getD a 0 < sp.getD b 0 \/ (sp.getD a 0=sp.getD b 0 /\ a < b):=by simp [ltF]
theorem ef {sp : List Int} {a b : Nat} : ltF sp a b=false ↔ sp.getD b 0 < sp.getD a 0 \/ (sp.getD a 0=sp.getD b 0 /\ b <= a):=by
 rw [<- Bool.not_eq_true,jd]
 omega
theorem j9 {fs : List Nat} {i k x : Nat} (hi : i < fs.length) (hk : k < fs.length) : fAt (swp fs i k) x=if x=k then fAt fs i else if x=i then fAt fs k else fAt fs x:=by
 unfold swp
 by_cases hx : x < fs.length
 ·rw [cS (by simpa using hx)]
  simp only [List.getElem_set]
  by_cases e1 : k=x
  ·subst e1;simp
  ·rw [if_neg e1,if_neg (Ne.symm e1)]
   by_cases e2 : i=x
   ·subst e2;simp
   ·rw [if_neg e2,if_neg (Ne.symm e2),cS hx]
 ·rw [if_neg (by omega),if_neg (by omega)]
  simp only [fAt,List.getD_eq_getElem?_getD]
  rw [List.getElem?_eq_none (by simp;omega),List.getElem?_eq_none (by omega)]
theorem iy {fs : List Nat} {i k : Nat} (hi : i < fs.length) (hk : k < fs.length) (a : Nat) : (swp fs i k).count a=fs.count a:=by
 have ha:=cS hi
 have hb:=cS hk
 unfold swp
 rw [List.count_set (by simpa using hk),List.count_set hi,ha,hb]
 have h1 : fs[i]=a -> 0 < fs.count a:=fun e=>List.count_pos_iff.2 (by rw [<- e];exact List.getElem_mem _)
 have h2 : fs[k]=a -> 0 < fs.count a:=fun e=>List.count_pos_iff.2 (by rw [<- e];exact List.getElem_mem _)
 simp only [List.getElem_set]
 by_cases e : i=k
 ·subst e
  simp
  by_cases e1 : fs[i]=a
  ·have:=h1 e1;simp [e1];omega
  ·simp [e1]
 ·rw [if_neg e]
  by_cases e1 : fs[i]=a <;> by_cases e2 : fs[k]=a
  ·have:=h1 e1;simp [e1,e2];omega
  ·have:=h1 e1;simp [e1,e2];omega
  ·have:=h2 e2;simp [e1,e2]
  ·simp [e1,e2]
def gO (sp : List Int) (fs : List Nat) (n : Nat) : Prop:=∀ i,0 < i -> i < n -> ltF sp (fAt fs i) (fAt fs ((i - 1) / 2))=false
theorem kd {sp : List Int} : ∀ (j : Nat) (fs : List Nat),j < fs.length -> ∀ a,(upL sp fs j).count a=fs.count a:=by
 intro j
 induction j using Nat.strongRecOn with
 | _ j ih =>
  intro fs hj a
  unfold upL
  split
  ·rfl
  ·split
   ·rw [ih _ (by omega) _ (by simp;omega)]
    exact iy (by omega) hj a
   ·rfl
theorem jy {sp : List Int} : ∀ (j : Nat) (fs : List Nat),(upL sp fs j).length=fs.length:=by
 intro j
 induction j using Nat.strongRecOn with
 | _ j ih =>
  intro fs
  unfold upL
  split
  ·rfl
  ·split
   ·rw [ih _ (by omega)];simp
   ·rfl
theorem uV {sp : List Int} : ∀ (j : Nat) (fs : List Nat),j < fs.length -> (∀ i,0 < i -> i < fs.length -> i ≠ j -> ltF sp (fAt fs i) (fAt fs ((i - 1) / 2))=false) -> (∀ i,0 < i -> i < fs.length -> (i - 1) / 2=j -> 0 < j -> ltF sp (fAt fs i) (fAt fs ((j - 1) / 2))=false) -> gO sp (upL sp fs j) fs.length:=by
 intro j
 induction j using Nat.strongRecOn with
 | _ j ih =>
  intro fs hj h1 h2
  unfold upL
  split
  ·rename_i h0
   intro i hi hin
   exact h1 i hi hin (by omega)
  ·rename_i h0
   split
   ·rename_i hl
    have hp : (j - 1) / 2 < fs.length:=by omega
    have hpj : (j - 1) / 2 < j:=by omega
    have at_:=fun x=>j9 (x:=x) hp hj
    have key:=ih ((j - 1) / 2) hpj (swp fs ((j - 1) / 2) j) (by simp;omega) (fun i hi hin hne=>?_) (fun i hi hin hpi h0p=>?_)
    ·simpa using key
    ·simp at hin
     rw [at_,at_]
     by_cases e1 : i=j
     ·subst e1
      rw [if_pos rfl,if_neg (by omega),if_pos rfl]
      rw [ef]
      rw [jd] at hl
      omega
     ·rw [if_neg e1,if_neg hne]
      by_cases e2 : (i - 1) / 2=j
      ·rw [if_pos e2]
       exact h2 i hi hin e2 (by omega)
      ·rw [if_neg e2]
       by_cases e3 : (i - 1) / 2=(j - 1) / 2
       ·rw [if_pos e3]
        have h4:=h1 i hi hin e1
        rw [e3] at h4
        rw [ef] at h4 ⊢
        rw [jd] at hl
        omega
       ·rw [if_neg e3]
        exact h1 i hi hin e1
    ·simp at hin
     rw [at_,at_]
     rw [if_neg (show ((j - 1) / 2 - 1) / 2 ≠ j by omega),if_neg (show ((j - 1) / 2 - 1) / 2 ≠ (j - 1) / 2 by omega)]
     have h5:=h1 ((j - 1) / 2) h0p hp (by omega)
     by_cases e1 : i=j
     ·rw [if_pos e1]
      exact h5
     ·rw [if_neg e1,if_neg (by omega)]
      have h4:=h1 i hi hin e1
      rw [hpi] at h4
      rw [ef] at h4 h5 ⊢
      omega
   ·rename_i hl
    intro i hi hin
    by_cases e : i=j
    ·subst e;simpa using hl
    ·exact h1 i hi hin e
theorem s9 {sp : List Int} {fs : List Nat} {j n x : Nat} (hx : (x - 1) / 2=(j - 1) / 2) (hj : j % 2=1) (h0 : 0 < x) (hn : x < n) : ltF sp (fAt fs x) (fAt fs (dnJ sp fs j n))=false:=by
 have hxj : x=j \/ x=j + 1:=by omega
 unfold dnJ
 split
 ·rename_i h
  rcases hxj with rfl | rfl
  ·have:=h.2
   rw [jd] at this
   rw [ef]
   omega
  ·rw [ef];omega
 ·rename_i h
  rcases hxj with rfl | rfl
  ·rw [ef];omega
  ·cases e : ltF sp (fAt fs (j + 1)) (fAt fs j)
   ·rfl
   ·exact absurd ⟨hn,e⟩ h
theorem kx {sp : List Int} {n : Nat} (fs : List Nat) (i : Nat) (hn : n <= fs.length) (a : Nat) : (bz sp fs i n).1.count a=fs.count a:=by
 induction fs,i using bz.induct sp n with
 | case1 fs i h=>unfold bz;simp [h]
 | case2 fs i h1 h2 ih =>
  have hb:=lm (sp:=sp) (fs:=fs) (j:=2 * i + 1) (n:=n) (by omega)
  unfold bz;simp only [dif_neg h1,if_pos h2]
  rw [ih (by simpa using hn)]
  exact iy (by omega) (by omega) a
 | case3 fs i h1 h2=>unfold bz;simp only [dif_neg h1,if_neg h2]
theorem lp {sp : List Int} {n : Nat} (fs : List Nat) (i : Nat) : (bz sp fs i n).1.length=fs.length:=by
 induction fs,i using bz.induct sp n with
 | case1 fs i h=>unfold bz;simp [h]
 | case2 fs i h1 h2 ih=>unfold bz;simp only [dif_neg h1,if_pos h2];rw [ih];simp
 | case3 fs i h1 h2=>unfold bz;simp only [dif_neg h1,if_neg h2]
theorem ta {sp : List Int} {n : Nat} (fs : List Nat) (i : Nat) (hn : n <= fs.length) {x : Nat} (hx : n <= x) : fAt (bz sp fs i n).1 x=fAt fs x:=by
 induction fs,i using bz.induct sp n with
 | case1 fs i h=>unfold bz;simp [h]
 | case2 fs i h1 h2 ih =>
  have hb:=lm (sp:=sp) (fs:=fs) (j:=2 * i + 1) (n:=n) (by omega)
  unfold bz;simp only [dif_neg h1,if_pos h2]
  rw [ih (by simpa using hn),j9 (by omega) (by omega),if_neg (by omega),if_neg (by omega)]
 | case3 fs i h1 h2=>unfold bz;simp only [dif_neg h1,if_neg h2]
theorem pt {sp : List Int} {n : Nat} (fs : List Nat) (i : Nat) (hn : n <= fs.length) (hin : i < fs.length) (h1 : ∀ x,0 < x -> x < n -> (x - 1) / 2 ≠ i -> ltF sp (fAt fs x) (fAt fs ((x - 1) / 2))=false) (h2 : ∀ x,0 < x -> x < n -> (x - 1) / 2=i -> 0 < i -> ltF sp (fAt fs x) (fAt fs ((i - 1) / 2))=false) : gO sp (bz sp fs i n).1 n:=by
 induction fs,i using bz.induct sp n with
 | case1 fs i h =>
  unfold bz;simp only [dif_pos h]
  intro x h0 hx
  exact h1 x h0 hx (by omega)
 | case2 fs i g1 g2 ih =>
  obtain ⟨j,hj⟩ : ∃ j,j=dnJ sp fs (2 * i + 1) n:=⟨_,rfl⟩
  have hb:=lm (sp:=sp) (fs:=fs) (j:=2 * i + 1) (n:=n) (by omega)
  have hpar : (j - 1) / 2=i:=by
   rw [hj];unfold dnJ;split <;> omega
  unfold bz;simp only [dif_neg g1,if_pos g2]
  rw [<- hj] at hb g2 ih ⊢
  have at_:=fun x=>j9 (fs:=fs) (i:=i) (k:=j) (x:=x) (by omega) (by omega)
  refine ih (by simpa using hn) (by simp;omega) (fun x h0 hx hne=>?_) (fun x h0 hx hp hj0=>?_)
  ·rw [at_,at_]
   by_cases e1 : x=j
   ·subst e1
    rw [if_pos rfl,if_neg (by omega),if_pos (by omega)]
    rw [jd] at g2
    rw [ef]
    omega
   ·rw [if_neg e1,if_neg hne]
    by_cases e2 : x=i
    ·subst e2
     rw [if_pos rfl]
     rw [if_neg (by omega)]
     exact h2 j (by omega) (by omega) hpar (by omega)
    ·rw [if_neg e2]
     by_cases e3 : (x - 1) / 2=i
     ·rw [if_pos e3,hj]
      exact s9 (by omega) (by omega) h0 hx
     ·rw [if_neg e3]
      exact h1 x h0 hx e3
  ·rw [at_,at_]
   rw [if_neg (show x ≠ j by omega),if_neg (show x ≠ i by omega),if_neg (show (j - 1) / 2 ≠ j by omega),if_pos hpar]
   have:=h1 x h0 hx (by omega)
   rw [hp] at this
   exact this
 | case3 fs i g1 g2 =>
  unfold bz;simp only [dif_neg g1,if_neg g2]
  intro x h0 hx
  by_cases e : (x - 1) / 2=i
  ·have h3:=s9 (sp:=sp) (fs:=fs) (j:=2 * i + 1) (n:=n) (x:=x) (by omega) (by omega) h0 hx
   have h4 : ltF sp (fAt fs (dnJ sp fs (2 * i + 1) n)) (fAt fs i)=false:=by simpa using g2
   rw [e]
   rw [ef] at h3 h4 ⊢
   omega
  ·exact h1 x h0 hx e
theorem rH {sp : List Int} {fs : List Nat} {n : Nat} (h : gO sp fs n) : ∀ x,x < n -> ltF sp (fAt fs x) (fAt fs 0)=false:=by
 intro x
 induction x using Nat.strongRecOn with
 | _ x ih =>
  intro hx
  by_cases h0 : x=0
  ·subst h0;rw [ef];omega
  ·have h1:=h x (by omega) hx
   have h2:=ih ((x - 1) / 2) (by omega) (by omega)
   rw [ef] at h1 h2 ⊢
   omega
theorem uh {sp : List Int} {fs : List Nat} (h : gO sp fs fs.length) (h0 : 0 < fs.length) :
  let r:=(bz sp (swp fs 0 (fs.length - 1)) 0 (fs.length - 1)).1
  fAt r (fs.length - 1)=fAt fs 0 /\ r.length=fs.length /\ gO sp (r.take (fs.length - 1)) (r.take (fs.length - 1)).length /\ (∀ a,fs.count a=(r.take (fs.length - 1)).count a + if a=fAt fs 0 then 1 else 0):=by
 intro r
 have hl : r.length=fs.length:=by show (bz _ _ _ _).1.length=_;rw [lp];simp
 have hlast : fAt r (fs.length - 1)=fAt fs 0:=by
  show fAt (bz _ _ _ _).1 _=_
  rw [ta _ _ (by simp) (Nat.le_refl _),j9 h0 (by omega),if_pos rfl]
 have htk : ∀ x,x < fs.length - 1 -> fAt (r.take (fs.length - 1)) x=fAt r x:=fun x hx=>by
  unfold fAt
  simp [List.getElem?_take,hx]
 have hlt : (r.take (fs.length - 1)).length=fs.length - 1:=by simp;omega
 refine ⟨hlast,hl,?_,fun a=>?_⟩
 ·rw [hlt]
  intro x hx hxn
  rw [htk x hxn,htk _ (by omega)]
  refine pt _ _ (by simp) (by simp;omega) (fun y hy hyn hp=>?_) (fun y _ _ _ h=>absurd h (by omega)) x hx hxn
  rw [j9 h0 (by omega),j9 h0 (by omega),if_neg (by omega),if_neg (by omega),if_neg (by omega),if_neg hp]
  exact h y hy (by omega)
 ·have h1 : r.count a=fs.count a:=by
   show (bz _ _ _ _).1.count a=_
   rw [kx _ _ (by simp),iy h0 (by omega)]
  rw [<- h1]
  have h2 : r=r.take (fs.length - 1)++[fAt fs 0]:=by
   have h3 : r.drop (fs.length - 1)=[fAt fs 0]:=by
    rw [<- hlast,cS (by omega)]
    rw [List.drop_eq_getElem_cons (by omega)]
    rw [List.drop_eq_nil_of_le (by omega)]
   rw [<- h3,List.take_append_drop]
  conv=>lhs;rw [h2]
  rw [List.count_append]
  congr 1
  simp [List.count_singleton]
  by_cases e : fAt fs 0=a
  ·simp [e]
  ·simp [e,Ne.symm e]
theorem jW {sp : List Int} {fs : List Nat} {x : Nat} (h : gO sp fs fs.length) :
  gO sp (upL sp (fs++[x]) fs.length) (upL sp (fs++[x]) fs.length).length /\ (∀ a,(upL sp (fs++[x]) fs.length).count a=fs.count a + if a=x then 1 else 0) /\ (upL sp (fs++[x]) fs.length).length=fs.length + 1:=by
 have hl : (upL sp (fs++[x]) fs.length).length=fs.length + 1:=by rw [jy];simp
 have at_ : ∀ i,i < fs.length -> fAt (fs++[x]) i=fAt fs i:=fun i hi=>by
  unfold fAt
  simp [List.getElem?_append,hi]
 refine ⟨?_,fun a=>?_,hl⟩
 ·rw [hl]
  have:=uV (sp:=sp) fs.length (fs++[x]) (by simp) (fun i hi hin hne=>?_) (fun i hi hin hp _=>by simp at hin;omega)
  ·simpa using this
  ·simp at hin
   rw [at_ i (by omega),at_ _ (by omega)]
   exact h i hi (by omega)
 ·rw [kd _ _ (by simp),List.count_append]
  congr 1
  simp [List.count_singleton]
  by_cases e : x=a
  ·simp [e]
  ·simp [e,Ne.symm e]
end Go.Gv

namespace Go.Gv
structure Fl where
 q : List Nat
 rc : List Bool
 sp : List Int
 ou : List Int
def fl0 (m : Msh) : Nat -> List Nat × List Bool
 | 0=>([],List.replicate m.f.length false)
 | i + 1=>if bsd m i (-1) then (upL (bq m) ((fl0 m i).1++[i]) (fl0 m i).1.length,(fl0 m i).2.set i true) else fl0 m i
def mxZ (a b : Int) : Int:=if a < b then b else a
def mo (m : Msh) (i : Nat) (s : Fl) (k : Int) : Fl :=
 if k=-1 \/ s.rc.getD k.toNat false=true then s else
  { q:=upL (s.sp.set k.toNat (mxZ (s.sp.getD i 0) ((bq m).getD k.toNat 0))) (s.q++[k.toNat]) s.q.length,rc:=s.rc.set k.toNat true,sp:=s.sp.set k.toNat (mxZ (s.sp.getD i 0) ((bq m).getD k.toNat 0)),ou:=s.ou.set k.toNat i }
def gx (sp : List Int) (q : List Nat) : List Nat:=(bz sp (swp q 0 (q.length - 1)) 0 (q.length - 1)).1
def flJ (m : Msh) (i : Nat) (s : Fl) : Nat -> Fl
 | 0=>s
 | j + 1=>mo m i (flJ m i s j) (nbF m i j)
def dO (m : Msh) (s : Fl) : Fl :=
 if s.q.length=0 then s else flJ m (fAt (gx s.sp s.q) (s.q.length - 1)) { s with q:=(gx s.sp s.q).take (s.q.length - 1) } 3
def flN (m : Msh) : Nat -> Fl -> Fl
 | 0,s=>s
 | k + 1,s=>flN m k (dO m s)
def dC (m : Msh) : Fl:={ q:=(fl0 m m.f.length).1,rc:=(fl0 m m.f.length).2,sp:=bq m,ou:=List.replicate m.f.length (-1) }
def aZ (m : Msh) : Fl:=flN m (3 * m.f.length) (dC m)
theorem jg {m : Msh} {i : Nat} (h : i < m.f.length) : (nbA m)[i]? = some [.int .i64 (nbF m i 0),.int .i64 (nbF m i 1),.int .i64 (nbF m i 2)]:=by simp [nbA,h]
@[simp] theorem OE (m : Msh) : (nbA m).length=m.f.length:=by simp [nbA]
theorem i9 (m : Msh) : ∀ i,(fl0 m i).2.length=m.f.length /\ (fl0 m i).1.length <= i /\ (∀ a ∈ (fl0 m i).1,a < i)
 | 0=>by simp [fl0]
 | i + 1=>by
  obtain ⟨h1,h2,h3⟩:=i9 m i
  unfold fl0
  split
  ·refine ⟨by simp [h1],by simp [jy];exact h2,fun a ha=>?_⟩
   have h4:=kd (sp:=bq m) (fl0 m i).1.length ((fl0 m i).1++[i]) (by simp) a
   have h5 : 0 < ((fl0 m i).1++[i]).count a:=by rw [<- h4];exact List.count_pos_iff.2 ha
   rcases List.mem_append.1 (List.count_pos_iff.1 h5) with h6 | h6
   ·have:=h3 a h6;omega
   ·simp at h6;omega
  ·exact ⟨h1,by omega,fun a ha=>by have:=h3 a ha;omega⟩
@[simp] theorem xj (m : Msh) : (bq m).length=m.f.length:=by simp [bq]
def ee (m : Msh) : D:=.ptr [.sl (nbA m),slx true (inR (bq m)),.sl (inR (aZ m).sp),.sl (inR (aZ m).ou)]
def rcR (l : List Bool) : List (List D):=l.map fun b=>[.bool b]
theorem wv (l : List Bool) : (rcR l).length=l.length:=by simp [rcR]
theorem gi {l : List Bool} {i : Nat} (h : i < l.length) : (rcR l)[i]? = some [.bool (l.getD i false)]:=by simp [rcR,h]
theorem nR (l : List Bool) (i : Nat) (b : Bool) : (rcR l).set i [.bool b]=rcR (l.set i b):=by simp [rcR,List.map_set]
theorem A5 {l : List Bool} {i : Nat} (h : i < (rcR l).length) : (rcR l)[i]=[.bool (l[i]'(by simpa [rcR] using h))]:=by simp [rcR]
theorem pN (l : List Int) (i : Nat) (x : Int) : (inR l).set i [.int .i64 x]=inR (l.set i x):=by simp [inR,List.map_set]
theorem pM (l : List Int) : ∀ e ∈ inR l,∀ c ∈ e,aP c=true:=by simp [inR]
structure FlW (m : Msh) (s : Fl) : Prop where
 rc : s.rc.length=m.f.length
 sp : s.sp.length=m.f.length
 ou : s.ou.length=m.f.length
 q : ∀ a ∈ s.q,a < m.f.length
 n : s.q.length + s.rc.count false <= m.f.length
def flM (s : Fl) : Nat:=s.q.length + 2 * s.rc.count false
theorem ma {l : List Bool} {i : Nat} (h : i < l.length) (hf : l.getD i false=false) : (l.set i true).count false + 1=l.count false:=by
 have h1 : l[i]=false:=by simpa [h] using hf
 rw [List.count_set h,h1]
 have : 0 < l.count false:=List.count_pos_iff.2 (by rw [<- h1];exact List.getElem_mem _)
 simp
 omega
theorem xo {sp : List Int} {fs : List Nat} {j a : Nat} (hj : j < fs.length) (h : a ∈ upL sp fs j) : a ∈ fs:=by
 have h4:=kd (sp:=sp) j fs hj a
 exact List.count_pos_iff.1 (by rw [<- h4];exact List.count_pos_iff.2 h)
theorem zU {m : Msh} {i : Nat} {s : Fl} {k : Int} (h : FlW m s) (hk : -1 <= k /\ k < m.f.length) : FlW m (mo m i s k) /\ flM (mo m i s k) <= flM s:=by
 unfold mo
 split
 ·exact ⟨h,Nat.le_refl _⟩
 ·rename_i hn
  have hkl : k.toNat < s.rc.length:=by rw [h.rc];omega
  have hf : s.rc.getD k.toNat false=false:=by
   cases e : s.rc.getD k.toNat false
   ·rfl
   ·exact absurd (.inr e) hn
  have hst:=ma hkl hf
  have hn1:=h.n
  refine ⟨⟨by simp [h.rc],by simp [h.sp],by simp [h.ou],fun a ha=>?_,?_⟩,?_⟩
  ·rcases List.mem_append.1 (xo (by simp) ha) with h1 | h1
   ·exact h.q a h1
   ·simp at h1;omega
  ·simp only [jy,List.length_append,List.length_singleton]
   omega
  ·simp only [flM,jy,List.length_append,List.length_singleton]
   omega
theorem qu {m : Msh} {i : Nat} {s : Fl} (h : FlW m s) : ∀ j,FlW m (flJ m i s j) /\ flM (flJ m i s j) <= flM s
 | 0=>⟨h,Nat.le_refl _⟩
 | j + 1=>by
  obtain ⟨h1,h2⟩:=qu h j
  obtain ⟨h3,h4⟩:=zU (i:=i) h1 (dQ m i j)
  exact ⟨h3,Nat.le_trans h4 h2⟩
theorem lR (sp : List Int) (q : List Nat) : (gx sp q).length=q.length:=by unfold gx;rw [lp];simp
theorem oT {sp : List Int} {q : List Nat} {a : Nat} (h0 : 0 < q.length) (h : a ∈ gx sp q) : a ∈ q:=by
 have h1:=kx (sp:=sp) (n:=q.length - 1) (swp q 0 (q.length - 1)) 0 (by simp) a
 rw [iy h0 (by omega)] at h1
 exact List.count_pos_iff.1 (by rw [<- h1];exact List.count_pos_iff.2 h)
theorem ug {m : Msh} {s : Fl} (h : FlW m s) (h0 : 0 < s.q.length) : FlW m { s with q:=(gx s.sp s.q).take (s.q.length - 1) } /\ flM { s with q:=(gx s.sp s.q).take (s.q.length - 1) } < flM s /\ fAt (gx s.sp s.q) (s.q.length - 1) < m.f.length:=by
 have hn:=h.n
 refine ⟨⟨h.rc,h.sp,h.ou,fun a ha=>h.q a (oT h0 (List.mem_of_mem_take ha)),?_⟩,?_,h.q _ (oT h0 (eS (by rw [lR];omega)))⟩
 ·simp [lR];omega
 ·simp [flM,lR];omega
theorem fJ {m : Msh} {s : Fl} (h : FlW m s) : FlW m (dO m s) /\ (0 < s.q.length -> flM (dO m s) < flM s):=by
 unfold dO
 split
 ·exact ⟨h,fun h0=>by omega⟩
 ·rename_i h0
  obtain ⟨h1,h2,_⟩:=ug h (by omega)
  obtain ⟨h3,h4⟩:=qu (i:=fAt (gx s.sp s.q) (s.q.length - 1)) h1 3
  exact ⟨h3,fun _=>by omega⟩
theorem nw (m : Msh) : ∀ (k j : Nat) (s : Fl),flN m (k + j) s=flN m j (flN m k s)
 | 0,j,s=>by simp [flN]
 | k + 1,j,s=>by rw [Nat.succ_add];simp only [flN];exact nw m k j _
theorem lr (m : Msh) {s : Fl} (h : s.q.length=0) : ∀ j,flN m j s=s
 | 0=>rfl
 | j + 1=>by simp only [flN,dO,if_pos h];exact lr m h j
theorem x9 {m : Msh} : ∀ (k : Nat) {s : Fl},FlW m s -> FlW m (flN m k s)
 | 0,s,h=>h
 | k + 1,s,h=>x9 k (fJ h).1
theorem mJ (m : Msh) : ∀ (i x : Nat),i <= x -> (fl0 m i).2.getD x false=false
 | 0,x,_=>by simp [fl0,List.getElem?_replicate];split <;> rfl
 | i + 1,x,h=>by
  unfold fl0
  split
  ·simp only [List.getD_eq_getElem?_getD,List.getElem?_set]
   rw [if_neg (by omega)]
   have:=mJ m i x (by omega)
   simpa using this
  ·exact mJ m i x (by omega)
theorem x8 (m : Msh) : ∀ i,i <= m.f.length -> (fl0 m i).1.length + (fl0 m i).2.count false=m.f.length
 | 0,_=>by simp [fl0]
 | i + 1,h=>by
  have h1:=x8 m i (by omega)
  unfold fl0
  split
  ·have:=ma (l:=(fl0 m i).2) (i:=i) (by rw [(i9 m i).1];omega) (mJ m i i (Nat.le_refl _))
   simp only [jy,List.length_append,List.length_singleton]
   omega
  ·exact h1
theorem ja (m : Msh) : FlW m (dC m) /\ flM (dC m) <= 2 * m.f.length:=by
 obtain ⟨h1,h2,h3⟩:=i9 m m.f.length
 have h4:=x8 m m.f.length (Nat.le_refl _)
 refine ⟨⟨h1,by simp [dC],by simp [dC],h3,by simp only [dC];omega⟩,?_⟩
 simp only [flM,dC]
 omega
end Go.Gv

namespace Go.Gv
structure Fo (n : Nat) (f : List Nat) : Prop where
 len : f.length=n
 le : ∀ i,i < n -> fAt f i <= i
def ftN (f : List Nat) : Nat -> Nat -> Nat
 | 0,i=>i
 | k + 1,i=>if fAt f i=i then i else ftN f k (fAt f i)
def ftF (f : List Nat) (i : Nat) : Nat:=ftN f i i
theorem tD {n : Nat} {f : List Nat} (h : Fo n f) : ∀ (k i : Nat),i < n -> i <= k -> ftN f k i=ftN f i i:=by
 intro k
 induction k using Nat.strongRecOn with
 | _ k ih =>
  intro i hi hk
  have hle:=h.le i hi
  cases i with
  | zero =>
   cases k with
   | zero=>rfl
   | succ k=>unfold ftN;rw [if_pos (by omega)]
  | succ i =>
   cases k with
   | zero=>omega
   | succ k =>
    simp only [ftN]
    split
    ·rfl
    ·rename_i hne
     by_cases hk2 : k=i
     ·rw [hk2]
     ·rw [ih k (by omega) (fAt f (i + 1)) (by omega) (by omega),ih i (by omega) (fAt f (i + 1)) (by omega) (by omega)]
theorem cR {f : List Nat} {i : Nat} (e : fAt f i=i) : ftF f i=i:=by
 unfold ftF
 cases i with
 | zero=>rfl
 | succ i=>simp only [ftN,e,if_true]
theorem dD {n : Nat} {f : List Nat} (h : Fo n f) {i : Nat} (hi : i < n) : ftF f i=ftF f (fAt f i):=by
 have hle:=h.le i hi
 by_cases e : fAt f i=i
 ·rw [e]
 ·unfold ftF
  cases i with
  | zero=>omega
  | succ i =>
   rw [ftN,if_neg e]
   exact tD h i _ (by omega) (by omega)
theorem eR {n : Nat} {f : List Nat} (h : Fo n f) : ∀ i,i < n -> ftF f i <= i /\ fAt f (ftF f i)=ftF f i:=by
 intro i
 induction i using Nat.strongRecOn with
 | _ i ih =>
  intro hi
  have hle:=h.le i hi
  by_cases e : fAt f i=i
  ·rw [cR e];exact ⟨Nat.le_refl _,e⟩
  ·rw [dD h hi]
   obtain ⟨h1,h2⟩:=ih (fAt f i) (by omega) (by omega)
   exact ⟨by omega,h2⟩
theorem tC {n : Nat} {f : List Nat} (h : Fo n f) {i : Nat} (hi : i < n) : ftF f (ftF f i)=ftF f i:=cR (eR h i hi).2
theorem dS {f : List Nat} {i j x : Nat} (h : i < f.length) : fAt (f.set i x) j=if j=i then x else fAt f j:=by
 unfold fAt
 simp only [List.getD_eq_getElem?_getD,List.getElem?_set]
 by_cases e : j=i
 ·subst e;simp [h]
 ·rw [if_neg (fun h=>e h.symm),if_neg e]
theorem GE {n : Nat} {f : List Nat} (h : Fo n f) {i : Nat} (hi : i < n) : Fo n (f.set i (fAt f (fAt f i))) /\ ∀ x,x < n -> ftF (f.set i (fAt f (fAt f i))) x=ftF f x:=by
 have hl : i < f.length:=by rw [h.len];exact hi
 have h1:=h.le i hi
 have h2:=h.le (fAt f i) (by omega)
 have hF : Fo n (f.set i (fAt f (fAt f i))):=by
  refine ⟨by simp [h.len],fun j hj=>?_⟩
  rw [dS hl]
  split
  ·omega
  ·exact h.le j hj
 refine ⟨hF,fun x=>?_⟩
 induction x using Nat.strongRecOn with
 | _ x ih =>
  intro hx
  have hst:=dD hF hx
  have hx1:=h.le x hx
  rw [dS hl] at hst
  by_cases e : x=i
  ·rw [if_pos e] at hst
   subst e
   by_cases e2 : fAt f (fAt f x)=x
   ·have e3 : fAt f x=x:=by omega
    rw [cR e3]
    exact cR (by rw [dS hl,if_pos rfl];exact e2)
   ·rw [hst,ih _ (by omega) (by omega),dD h hx,dD h (by omega : fAt f x < n)]
  ·rw [if_neg e] at hst
   by_cases e2 : fAt f x=x
   ·rw [cR e2]
    exact cR (by rw [dS hl,if_neg e];exact e2)
   ·rw [hst,ih _ (by omega) (by omega),<- dD h hx]
def hlv (f : List Nat) : Nat -> Nat -> List Nat
 | 0,_=>f
 | k + 1,i=>if fAt f i=i then f else hlv (f.set i (fAt f (fAt f i))) k (fAt f (fAt f i))
def hlL (f : List Nat) (i : Nat) : List Nat:=hlv f i i
theorem tI {f : List Nat} {k i : Nat} (e : fAt f i=i) : hlv f k i=f:=by
 cases k with
 | zero=>rfl
 | succ k=>simp only [hlv,e,if_true]
theorem oE {n : Nat} : ∀ (k : Nat) {f : List Nat} {i : Nat},Fo n f -> i < n -> Fo n (hlv f k i) /\ ∀ x,x < n -> ftF (hlv f k i) x=ftF f x
 | 0,f,i,h,_=>⟨h,fun _ _=>rfl⟩
 | k + 1,f,i,h,hi=>by
  unfold hlv
  split
  ·exact ⟨h,fun _ _=>rfl⟩
  ·obtain ⟨h1,h2⟩:=GE h hi
   have h3:=h.le i hi
   have h4:=h.le (fAt f i) (by omega)
   obtain ⟨h5,h6⟩:=oE k h1 (show fAt f (fAt f i) < n by omega)
   exact ⟨h5,fun x hx=>by rw [h6 x hx,h2 x hx]⟩
theorem eT {n : Nat} {f : List Nat} {i : Nat} (h : Fo n f) (hi : i < n) : Fo n (hlL f i) /\ ∀ x,x < n -> ftF (hlL f i) x=ftF f x:=oE i h hi
theorem rK {n : Nat} {f : List Nat} (h : Fo n f) {M m : Nat} (hM : M < n) (e1 : fAt f M=M) (e2 : fAt f m=m) (hm : m <= M) :
  Fo n (f.set M m) /\ ∀ x,x < n -> ftF (f.set M m) x=if ftF f x=M then m else ftF f x:=by
 have hl : M < f.length:=by rw [h.len];exact hM
 have hF : Fo n (f.set M m):=by
  refine ⟨by simp [h.len],fun j hj=>?_⟩
  rw [dS hl]
  split
  ·omega
  ·exact h.le j hj
 refine ⟨hF,fun x=>?_⟩
 induction x using Nat.strongRecOn with
 | _ x ih =>
  intro hx
  have hst:=dD hF hx
  have hx1:=h.le x hx
  rw [dS hl] at hst
  by_cases e : x=M
  ·rw [if_pos e] at hst
   subst e
   rw [cR e1,if_pos rfl,hst]
   by_cases e3 : m=x
   ·subst e3
    exact cR (by rw [dS hl,if_pos rfl])
   ·exact cR (by rw [dS hl,if_neg e3];exact e2)
  ·rw [if_neg e] at hst
   by_cases e3 : fAt f x=x
   ·rw [cR e3,if_neg e]
    exact cR (by rw [dS hl,if_neg e];exact e3)
   ·rw [hst,ih _ (by omega) (by omega),<- dD h hx]
def fQ (f : List Nat) (a b : Nat) : List Nat:=(hlL (hlL f a) b).set (max (ftF f a) (ftF f b)) (min (ftF f a) (ftF f b))
theorem dP {n : Nat} {f : List Nat} (h : Fo n f) {a b : Nat} (ha : a < n) (hb : b < n) :
  Fo n (fQ f a b) /\ ∀ x,x < n -> ftF (fQ f a b) x=if ftF f x=max (ftF f a) (ftF f b) then min (ftF f a) (ftF f b) else ftF f x:=by
 obtain ⟨h1,r1⟩:=eT h ha
 obtain ⟨h2,r2⟩:=eT h1 hb
 have hr : ∀ x,x < n -> ftF (hlL (hlL f a) b) x=ftF f x:=fun x hx=>by rw [r2 x hx,r1 x hx]
 have ga:=eR h a ha
 have gb:=eR h b hb
 have fx : ∀ x,x < n -> fAt (hlL (hlL f a) b) (ftF f x)=ftF f x:=fun x hx=>by
  have:=(eR h2 x hx).2
  rw [hr x hx] at this
  exact this
 have e1 : fAt (hlL (hlL f a) b) (max (ftF f a) (ftF f b))=max (ftF f a) (ftF f b):=by
  rcases Nat.le_total (ftF f a) (ftF f b) with g | g
  ·rw [Nat.max_eq_right g];exact fx b hb
  ·rw [Nat.max_eq_left g];exact fx a ha
 have e2 : fAt (hlL (hlL f a) b) (min (ftF f a) (ftF f b))=min (ftF f a) (ftF f b):=by
  rcases Nat.le_total (ftF f a) (ftF f b) with g | g
  ·rw [Nat.min_eq_left g];exact fx a ha
  ·rw [Nat.min_eq_right g];exact fx b hb
 obtain ⟨q1,q2⟩:=rK h2 (M:=max (ftF f a) (ftF f b)) (m:=min (ftF f a) (ftF f b)) (by omega) e1 e2 (by omega)
 refine ⟨q1,fun x hx=>?_⟩
 unfold fQ
 rw [q2 x hx,hr x hx]
inductive Cn (R : Nat -> Nat -> Prop) : Nat -> Nat -> Prop
 | refl (a : Nat) : Cn R a a
 | step {a b c : Nat} : Cn R a b -> R b c -> Cn R a c
theorem Cn.trans {R : Nat -> Nat -> Prop} {a b c : Nat} (h : Cn R a b) (g : Cn R b c) : Cn R a c:=by
 induction g with
 | refl=>exact h
 | step _ r ih=>exact .step ih r
theorem Cn.symm {R : Nat -> Nat -> Prop} (hs : ∀ a b,R a b -> R b a) {a b : Nat} (h : Cn R a b) : Cn R b a:=by
 induction h with
 | refl=>exact .refl _
 | step _ r ih=>exact (Cn.step (.refl _) (hs _ _ r)).trans ih
theorem Cn.mono {R S : Nat -> Nat -> Prop} (hs : ∀ a b,R a b -> S a b) {a b : Nat} (h : Cn R a b) : Cn S a b:=by
 induction h with
 | refl=>exact .refl _
 | step _ r ih=>exact .step ih (hs _ _ r)
def iJ (n : Nat) (R : Nat -> Nat -> Prop) (f : List Nat) : Prop:=∀ x,x < n -> Cn R x (ftF f x)
theorem iJ.init {n : Nat} (R : Nat -> Nat -> Prop) : Fo n (List.range n) /\ iJ n R (List.range n) /\ ∀ x,x < n -> ftF (List.range n) x=x:=by
 have hf : ∀ x,x < n -> fAt (List.range n) x=x:=fun x hx=>by simp [fAt,hx]
 have hr : ∀ x,x < n -> ftF (List.range n) x=x:=fun x hx=>cR (hf x hx)
 exact ⟨⟨by simp,fun i hi=>by rw [hf i hi];omega⟩,fun x hx=>by rw [hr x hx];exact .refl _,hr⟩
theorem iJ.join {n : Nat} {R : Nat -> Nat -> Prop} {f : List Nat} (hs : ∀ a b,R a b -> R b a) (h : Fo n f) (hi : iJ n R f) {a b : Nat} (ha : a < n) (hb : b < n) (hr : R a b) : iJ n R (fQ f a b):=by
 intro x hx
 obtain ⟨_,q⟩:=dP h ha hb
 rw [q x hx]
 have wab : Cn R (ftF f a) (ftF f b):=((hi a ha).symm hs).trans ((Cn.step (.refl _) hr).trans (hi b hb))
 split
 ·rename_i e
  have h1:=hi x hx
  rw [e] at h1
  refine h1.trans ?_
  rcases Nat.le_total (ftF f a) (ftF f b) with g | g
  ·rw [Nat.max_eq_right g,Nat.min_eq_left g];exact wab.symm hs
  ·rw [Nat.max_eq_left g,Nat.min_eq_right g];exact wab
 ·exact hi x hx
theorem mO {n : Nat} {f : List Nat} (h : Fo n f) {a b : Nat} (ha : a < n) (hb : b < n) : ftF (fQ f a b) a=ftF (fQ f a b) b:=by
 obtain ⟨_,q⟩:=dP h ha hb
 rw [q a ha,q b hb]
 split <;> split <;> omega
theorem io {n : Nat} {f : List Nat} (h : Fo n f) {a b x y : Nat} (ha : a < n) (hb : b < n) (hx : x < n) (hy : y < n) (e : ftF f x=ftF f y) : ftF (fQ f a b) x=ftF (fQ f a b) y:=by
 obtain ⟨_,q⟩:=dP h ha hb
 rw [q x hx,q y hy,e]
theorem Cn.root {R : Nat -> Nat -> Prop} {f : List Nat} (hR : ∀ a b,R a b -> ftF f a=ftF f b) {a b : Nat} (h : Cn R a b) : ftF f a=ftF f b:=by
 induction h with
 | refl=>rfl
 | step _ r ih=>rw [ih,hR _ _ r]
end Go.Gv

namespace Go.Gv
variable {C : CC} (hC : az prog C)
include hC
theorem vg (b : Bool) (xs : List Int) (h2 : xs.length < 2 ^ 40) : C 42 [slx b (xs.map fun n=>[.int .i64 n])] .any [.own 1 (xs.map fun n=>[.int .i64 n])]:=by
 cases xs with
 | nil =>
  cases b with
  | true =>
   show C 42 [.nils] .any [.own 1 []]
   refine me hC (nf:=N42) rfl rfl ?_
   simp [N42]
  | false =>
   show C 42 [.sl []] .any [.own 1 []]
   refine me hC (nf:=N42) rfl rfl ?_
   simp [N42]
 | cons x xs =>
  have e : slx b ((x::xs).map fun n=>[D.int .i64 n])=.sl ((x::xs).map fun n=>[D.int .i64 n]):=by cases b <;> rfl
  rw [e]
  obtain ⟨l,hl⟩ : ∃ l,l=x::xs:=⟨_,rfl⟩
  rw [<- hl] at h2 ⊢
  have h : 0 < l.length:=by rw [hl];simp
  refine me hC (nf:=N42) rfl rfl ?_
  simp [N42]
  refine ⟨fun _=>?_,fun h0=>?_⟩
  ·have : l.length < 1099511627776:=h2
   omega
  ·subst h0
   simp at h
end Go.Gv

set_option maxRecDepth 4000
namespace Go.Gv
def gj (n m : Nat) (v : Int) : List (List D):=List.replicate m [.int .i64 v]++List.replicate (n - m) [.int .i64 0]
theorem oY {n m : Nat} {v : Int} (h : m <= n) : (gj n m v).length=n:=by simp [gj];omega
theorem lV (n m : Nat) (v : Int) : ∀ e ∈ gj n m v,e.length=1 /\ ∀ c ∈ e,ar c=true:=by
 intro e he
 rcases List.mem_append.1 he with h | h <;> (rw [(List.mem_replicate.1 h).2];simp [ar])
theorem m7 (n m : Nat) (v : Int) : ∀ e ∈ gj n m v,∀ c ∈ e,ar c=true:=fun e he=>(lV n m v e he).2
theorem mZ (n : Nat) (v : Int) : gj n n v=List.replicate n [.int .i64 v]:=by simp [gj]
theorem m8 {n m : Nat} {v : Int} (h : m <= n) : gF (gj n m v) m (((gj n m v).take m).take (n - m))=gj n (min n (m + m)) v:=by
 have h1 : (gj n m v).take m=List.replicate m [.int .i64 v]:=by
  unfold gj
  rw [List.take_append_of_le_length (by simp)]
  simp
 rw [h1,List.take_replicate]
 unfold gF
 rw [h1,List.length_replicate]
 unfold gj
 rw [List.drop_append,List.drop_eq_nil_of_le (by simp),List.nil_append,List.length_replicate,List.drop_replicate]
 have e1 : min n (m + m)=m + min (n - m) m:=by omega
 rw [e1,<- List.replicate_append_replicate]
 congr 2
 omega
theorem p9 {n : Nat} {v : Int} (h : 0 < n) : gF (List.replicate n [D.int .i64 0]) 0 ([[D.int .i64 v]].take n)=gj n 1 v:=by
 have : [[D.int .i64 v]].take n=[[.int .i64 v]]:=by
  rw [List.take_of_length_le (by simp;omega)]
 rw [this]
 unfold gF gj
 simp
variable {C : CC} (hC : az prog C)
include hC
theorem uk (v : Int) (n : Nat) (hn : n < 2 ^ 40) : C 315 [.sl [[.int .i64 v]],.int .i64 n] .any [.own 1 (List.replicate n [.int .i64 v])]:=by
 have k0:=vh hC 1 n (by omega) (by omega)
 have k1 : C 333 [.int .u64 1,.int .u64 n] (.tup [.int .u64 0,.int .u64 n]) []:=by
  have e1 : 1 * n / 2 ^ 64=0:=by omega
  have e2 : 1 * n % 2 ^ 64=n:=by omega
  rw [e1,e2] at k0
  refine bp hC (nf:=N333) rfl rfl ?_
  simp [N333]
  simp at k0
  refine ae k0 (.inl rfl) ?_
  simp
 have w1 : IntKind.wrap .u64 (n : Int)=n:=by
  have e : (2 : Int) ^ IntKind.bits .u64=18446744073709551616:=by decide
  have e2 : IntKind.signed .u64=false:=rfl
  simp only [IntKind.wrap,e,e2,Bool.false_and,Bool.false_eq_true,if_false]
  omega
 have w2 : IntKind.wrap .i64 (n : Int)=n:=am (by omega) (by omega)
 refine me hC (nf:=N315) rfl rfl ?_
 have hn0 : ¬ (n : Int) < 0:=by omega
 have hn1 : ¬ (9223372036854775807 : Int) < n:=by omega
 have hn2 : (n : Int) * 8 <= 140737488355328:=by omega
 simp [N315,w1,hn0]
 refine ae k1 (.inl rfl) ?_
 simp [w2,hn1,hn2,ar]
 refine ⟨fun h0=>?_,fun h0=>?_⟩
 ·refine aE Nat (fun m=>[(7,.ref (.r 10112) 0 n),(8,.int .i64 m),(10112,.blk 1 (gj n m v))]) (fun m=>m <= n /\ (0 < n -> 0 < m)) (fun m=>n - m) 0 ⟨by omega,by omega⟩ (by subst h0;simp [gj]) ?_
  rintro m ⟨hm,hm0⟩
  simp
  refine av (fun h=>?_) (fun h=>?_) <;> simp at h
  ·have hm1 : 0 < m:=hm0 (by omega)
   have hl:=oY (v:=v) hm
   have hnx:=m8 (v:=v) hm
   have hc:=lV n m v
   have hc1:=m7 n m v
   have hnm : ¬ n - m=0:=by omega
   have hpos : 0 < n - m:=by omega
   have htk : ∀ e ∈ (gj n m v).take m,∀ c ∈ e,ar c=true:=fun e he=>hc1 e (List.mem_of_mem_take he)
   have hw : IntKind.wrap .i64 ((m : Int) + ((min m (n - m) : Nat) : Int))=((min n (m + m) : Nat) : Int):=am (by omega) (by omega)
   simp [h,hl,hm,ji]
   try refine ⟨htk,hm1,fun hz=>absurd hz hnm,fun _=>⟨hc1,htk,aV (by decide +kernel),min n (m + m),⟨by omega,fun _=>by omega⟩,by omega,hw,hnx⟩⟩
  ·have e : m=n:=by omega
   subst e
   simp [mZ]
 ·rw [p9 h0]
  have h01 : min 1 n=1:=by omega
  refine aE Nat (fun m=>[(7,.ref (.r 10112) 0 n),(8,.int .i64 m),(10112,.blk 1 (gj n m v))]) (fun m=>m <= n /\ (0 < n -> 0 < m)) (fun m=>n - m) 1 ⟨by omega,by omega⟩ (by simp [h01]) ?_
  rintro m ⟨hm,hm0⟩
  simp
  refine av (fun h=>?_) (fun h=>?_) <;> simp at h
  ·have hm1 : 0 < m:=hm0 (by omega)
   have hl:=oY (v:=v) hm
   have hnx:=m8 (v:=v) hm
   have hc:=lV n m v
   have hc1:=m7 n m v
   have hnm : ¬ n - m=0:=by omega
   have hpos : 0 < n - m:=by omega
   have htk : ∀ e ∈ (gj n m v).take m,∀ c ∈ e,ar c=true:=fun e he=>hc1 e (List.mem_of_mem_take he)
   have hw : IntKind.wrap .i64 ((m : Int) + ((min m (n - m) : Nat) : Int))=((min n (m + m) : Nat) : Int):=am (by omega) (by omega)
   simp [h,hl,hm,ji]
   try refine ⟨htk,hm1,fun hz=>absurd hz hnm,fun _=>⟨hc1,htk,aV (by decide +kernel),min n (m + m),⟨by omega,fun _=>by omega⟩,by omega,hw,hnx⟩⟩
  ·have e : m=n:=by omega
   subst e
   simp [mZ]
end Go.Gv

namespace Go.Gv
section
variable {C : Nat -> List D -> D -> List D -> Prop} (hC : az prog C)
include hC
theorem ui (fs : List (List D)) (d : D) : C 317 [.ptr [.sl fs,d]] (.int .i64 fs.length) []:=by
 refine bp hC (nf:=N317) rfl rfl ?_
 simp [N317]
theorem qy (fs : List Nat) (sp : List Int) (x : Nat) (hx : x < sp.length) (hb : ∀ a ∈ fs,a < sp.length) (h2 : fs.length + 1 < 2 ^ 40) : C 316 [.blk 2 [[.own 1 (nfR fs),.slv 0 (inR sp)]],.ifa 20 (.r 10015) 0 0,.ifi 2 x] (.tup []) [.blk 2 [[.own 1 (nfR (upL sp (fs++[x]) fs.length)),.slv 0 (inR sp)]],.nils]:=hC.2 316 2 (qB fs sp) [.ifa 20 (.r 10015) 0 0,.ifi 2 x] (.tup []) (qB (upL sp (fs++[x]) fs.length) sp) fun C' h'=>vQ h' fs sp x hx hb h2
theorem zW (fs : List Nat) (sp : List Int) (h0 : 0 < fs.length) (hb : ∀ a ∈ fs,a < sp.length) (h2 : fs.length < 2 ^ 40) : C 318 [.blk 2 [[.own 1 (nfR fs),.slv 0 (inR sp)]],.ifa 20 (.r 10015) 0 0] (.ifi 2 (fAt (gx sp fs) (fs.length - 1) : Nat)) [.blk 2 [[.own 1 (nfR ((gx sp fs).take (fs.length - 1))),.slv 0 (inR sp)]],.nils]:=hC.2 318 2 (qB fs sp) [.ifa 20 (.r 10015) 0 0] (.ifi 2 (fAt (gx sp fs) (fs.length - 1) : Nat)) (qB ((gx sp fs).take (fs.length - 1)) sp) fun C' h'=>zV h' fs sp h0 hb h2
set_option maxRecDepth 8000 in
set_option maxHeartbeats 2000000 in
theorem ij (dec : Nat -> List UInt8) (hI : ∀ n : Nat,n < 100 -> C 127 [.int .i64 n] (.str (dec n)) []) (m : Msh) (hz : cY m=true -> m.s.length <= 100 /\ m.f.length <= 100) :
  C 280 [.agg (ci m)] (if au m then .tup [ee m,.int .i64 0] else .tup [.nilp,.int .i64 1]) []:=by
 have k1:=eE hC dec hI m hz
 have k2:=sO hC dec hI m hz
 simp only [ai] at k1 k2
 refine bp hC (nf:=N280) rfl rfl ?_
 simp [N280,ai]
 refine ae k1 (.inr rfl) ?_
 cases hv : au m
 ·simp
 ·simp
  refine ae k2 (.inr rfl) ?_
  have hsz:=(dx hv).2
  have kc:=vg hC true (bq m) (by simp;omega)
  have kr:=uk hC (-1) m.f.length (by omega)
  rw [<- tM] at kc
  have er : List.replicate m.f.length [D.int .i64 (-1)]=inR (List.replicate m.f.length (-1)):=by simp [inR]
  rw [er] at kr
  simp [hv]
  refine ia kc ?_
  simp
  refine ia kr ?_
  simp
  have hc1 : ∀ e ∈ inR (bq m),∀ c ∈ e,ar c=true:=by simp [inR]
  refine ⟨by rcases eN true (inR (bq m)) with h | ⟨h,_⟩ <;> rw [h] <;> trivial,?_⟩
  refine sU (sz:=1) (by decide) (by decide) rfl (by decide) rfl (by decide) (by simp) hc1 rfl (by simp [bg,rt]) (fun h0=>?_) (fun hn=>?_)
  ·simp [h0,rt]
   have hsm : bq m=[]:=List.eq_nil_of_length_eq_zero (by simpa using h0)
   have hnb : nbA m=[]:=List.eq_nil_of_length_eq_zero (by simpa using h0)
   refine aE Unit (fun _=>[(4,.sl (nbA m)),(7,.ptx [.sl (nbA m),slx true (inR (bq m)),.ref (.r 10544) 0 0,.ref (.r 10608) 0 0]),(8,.adr (.r 10736) 0 0),(9,.ref (.r 10144) 0 0),(50,.sl (nbA m)),(51,.int .i64 0),
    (52,.int .i64 0),(10544,.blk 1 (inR (bq m))),(10608,.blk 1 []),(10736,.blk 2 [[.own 1 [],.any]]),(10144,.blk 1 [])]) (fun _=>True) (fun _=>0) () trivial (by simp) ?_
   rintro _ _
   simp
   refine aE Unit (fun _=>[(4,.sl (nbA m)),(7,.ptx [.sl (nbA m),slx true (inR (bq m)),.ref (.r 10544) 0 0,.ref (.r 10608) 0 0]),(8,.adr (.r 10736) 0 0),(9,.ref (.r 10144) 0 0),(10544,.blk 1 (inR (bq m))),(10608,.blk 1 []),(10736,.blk 2 [[.own 1 [],.any]]),(10144,.blk 1 [])]) (fun _=>True) (fun _=>0) () trivial (by simp) ?_
   rintro _ _
   have kl:=ui hC [] .any
   simp at kl
   simp
   refine ae kl (.inl rfl) ?_
   simp
   simp [ee,aZ,h0,flN,dC,hsm]
  ·simp [rt]
   refine ⟨by omega,?_⟩
   have hF:=fun e (he : e ∈ inR (bq m))=>hc1 e he
   have hr0 : List.replicate m.f.length [D.bool false]=rcR (fl0 m 0).2:=by simp [fl0,rcR]
   rw [hr0]
   refine aE Nat (fun i=>[(4,.sl (nbA m)),(7,.ptx [.sl (nbA m),slx true (inR (bq m)),.ref (.n 10736 0 1) 0 m.f.length,.ref (.r 10608) 0 m.f.length]),(8,.adr (.r 10736) 0 0),(9,.ref (.r 10144) 0 m.f.length),(50,.sl (nbA m)),(51,.int .i64 m.f.length),(52,.int .i64 i),
    (10736,.blk 2 [[.own 1 (nfR (fl0 m i).1),.own 1 (inR (bq m))]]),(10608,.blk 1 (inR (List.replicate m.f.length (-1)))),(10144,.blk 1 (rcR (fl0 m i).2))]) (fun i=>i <= m.f.length) (fun i=>m.f.length - i) 0 (by simp) (by simp [fl0,nfR]) ?_
   rintro i hi
   obtain ⟨l1,l2,l3⟩:=i9 m i
   have hw : IntKind.wrap .i64 ((i : Int) + 1)=((i + 1 : Nat) : Int):=am (by omega) (by omega)
   simp
   refine av (fun g1=>?_) (fun g1=>?_) <;> simp at g1 <;> simp [g1]
   ·have kh:=qA hC (b:=false) (xs:=[nbF m i 0,nbF m i 1,nbF m i 2]) (-1) (by simp)
    have kh2 : C 223 [.sl [[.int .i64 (nbF m i 0)],[.int .i64 (nbF m i 1)],[.int .i64 (nbF m i 2)]],.int .i64 (-1)] (.bool (bsd m i (-1))) []:=by simpa [bsd] using kh
    simp [aK (jg g1),bP]
    refine ae kh2 (.inl rfl) ?_
    simp
    have e0 : fl0 m (i + 1)=if bsd m i (-1) then (upL (bq m) ((fl0 m i).1++[i]) (fl0 m i).1.length,(fl0 m i).2.set i true) else fl0 m i:=rfl
    refine av (fun g2=>?_) (fun g2=>?_)
    ·rw [if_pos g2] at e0
     simp [g2,l1,g1,gi,wv,nR,A5]
     refine jH (b:=10736) (fs':=nfR (upL (bq m) ((fl0 m i).1++[i]) (fl0 m i).1.length)) (d:=.tup []) rfl (by decide) (by simp) (by simp) rfl rfl (by simp) (gU _) (pM _) (.inr rfl) (gU _) ?_ ?_
     ·exact qy hC (fl0 m i).1 (bq m) i (by simp;omega) (fun a ha=>by have:=l3 a ha;simp;omega) (by omega)
     ·simp [bN]
      exact ⟨i + 1,by omega,by omega,hw,by rw [e0],by rw [e0]⟩
    ·rw [if_neg (by simp [g2])] at e0
     simp [g2]
     exact ⟨i + 1,by omega,by omega,hw,by rw [e0],by rw [e0]⟩
   ·have hi2 : i=m.f.length:=by omega
    subst hi2
    obtain ⟨W0,M0⟩:=ja m
    refine aE (Fl × Nat) (fun s=>[(4,.sl (nbA m)),(7,.ptx [.sl (nbA m),slx true (inR (bq m)),.ref (.n 10736 0 1) 0 m.f.length,.ref (.r 10608) 0 m.f.length]),(8,.adr (.r 10736) 0 0),(9,.ref (.r 10144) 0 m.f.length),
     (10736,.blk 2 [[.own 1 (nfR s.1.q),.own 1 (inR s.1.sp)]]),(10608,.blk 1 (inR s.1.ou)),(10144,.blk 1 (rcR s.1.rc))]) (fun s=>FlW m s.1 /\ s.1=flN m s.2 (dC m) /\ s.2 + flM s.1 <= 2 * m.f.length) (fun s=>flM s.1) (dC m,0) ⟨W0,rfl,by simpa using M0⟩ (by simp [dC]) ?_
    rintro ⟨s,k⟩ ⟨W,hs,hk⟩
    simp only at W hs hk
    have hn:=W.n
    have kl:=ui hC (nfR s.q) (.sl (inR s.sp))
    simp at kl
    simp
    refine ae kl (.inl rfl) ?_
    simp
    refine av (fun g2=>?_) (fun g2=>?_) <;> simp at g2 <;> simp [g2]
    ·obtain ⟨Wp,Mp,hpi⟩:=ug W g2
     obtain ⟨x,hx⟩ : ∃ x,x=fAt (gx s.sp s.q) (s.q.length - 1):=⟨_,rfl⟩
     obtain ⟨s1,hs1⟩ : ∃ s1 : Fl,s1={ s with q:=(gx s.sp s.q).take (s.q.length - 1) }:=⟨_,rfl⟩
     have hst : dO m s=flJ m x s1 3:=by
      unfold dO
      rw [if_neg (by omega),<- hx,<- hs1]
     rw [<- hs1] at Wp Mp
     rw [<- hx] at hpi
     refine jH (b:=10736) (fs':=nfR s1.q) (d:=.ifi 2 (x : Int)) rfl (by decide) (by simp) (by simp) rfl rfl (by simp) (gU _) (pM _) (.inl rfl) (gU _) ?_ ?_
     ·have:=zW hC s.q s.sp g2 (fun a ha=>by rw [W.sp];exact W.q a ha) (by omega)
      rw [<- hx] at this
      rw [hs1]
      exact this
     ·have e1 : s1.sp=s.sp:=by rw [hs1]
      have e2 : s1.ou=s.ou:=by rw [hs1]
      have e3 : s1.rc=s.rc:=by rw [hs1]
      simp [bN,aK (jg hpi)]
      rw [<- e1,<- e2,<- e3]
      refine aE Nat (fun j=>[(4,.sl (nbA m)),(7,.ptx [.sl (nbA m),slx true (inR (bq m)),.ref (.n 10736 0 1) 0 m.f.length,.ref (.r 10608) 0 m.f.length]),(8,.adr (.r 10736) 0 0),(9,.ref (.r 10144) 0 m.f.length),(12,.int .i64 x),(78,.agg [.int .i64 (nbF m x 0),.int .i64 (nbF m x 1),.int .i64 (nbF m x 2)]),(79,.int .i64 j),
       (10736,.blk 2 [[.own 1 (nfR (flJ m x s1 j).q),.own 1 (inR (flJ m x s1 j).sp)]]),(10608,.blk 1 (inR (flJ m x s1 j).ou)),(10144,.blk 1 (rcR (flJ m x s1 j).rc))]) (fun j=>j <= 3) (fun j=>3 - j) 0 (by simp) (by simp [flJ]) ?_
      rintro j hj
      obtain ⟨Wj,Mj⟩:=qu (i:=x) Wp j
      obtain ⟨t,ht⟩ : ∃ t,t=flJ m x s1 j:=⟨_,rfl⟩
      have hnx : flJ m x s1 (j + 1)=mo m x t (nbF m x j):=by rw [ht];rfl
      rw [<- ht] at Wj Mj ⊢
      have htn:=Wj.n
      have hw : IntKind.wrap .i64 ((j : Int) + 1)=((j + 1 : Nat) : Int):=am (by omega) (by omega)
      simp
      refine av (fun g3=>?_) (fun g3=>?_) <;> simp at g3
      ·have hxj : ([.int .i64 (nbF m x 0),.int .i64 (nbF m x 1),.int .i64 (nbF m x 2)] : List D)[j]?.getD .any=.int .i64 (nbF m x j):=by
        rcases (by omega : j=0 \/ j=1 \/ j=2) with rfl | rfl | rfl <;> rfl
       have hbd:=dQ m x j
       obtain ⟨kk,hkk⟩ : ∃ kk,kk=nbF m x j:=⟨_,rfl⟩
       rw [<- hkk] at hxj hbd hnx
       simp [show (j : Int) < 3 by omega,hxj]
       refine ⟨by omega,?_⟩
       refine av (fun g4=>?_) (fun g4=>?_) <;> simp at g4 <;> simp [g4]
       ·have hst2 : flJ m x s1 (j + 1)=t:=by
         rw [hnx]
         unfold mo
         rw [if_pos (.inl g4)]
        exact ⟨j + 1,by omega,by omega,hw,by rw [hst2];exact ⟨rfl,rfl⟩,by rw [hst2],by rw [hst2]⟩
       ·obtain ⟨c,hc⟩ : ∃ c : Nat,kk=c:=⟨kk.toNat,by omega⟩
        subst hc
        have hcn : c < m.f.length:=by omega
        have hcr : c < t.rc.length:=by rw [Wj.rc];exact hcn
        refine ⟨by omega,by simpa using hcn,?_⟩
        simp [aI (gi hcr)]
        cases hrc : t.rc.getD c false
        ·simp at hrc
         have hxs : x < t.sp.length:=by rw [Wj.sp];exact hpi
         have hcs : c < t.sp.length:=by rw [Wj.sp];exact hcn
         have hco : c < t.ou.length:=by rw [Wj.ou];exact hcn
         have hcm : c < (bq m).length:=by simpa using hcn
         simp [hrc,gi hcr,hcn,hpi,nR,aI (co hxs),aK (co hcm),co hcs,co hco,pN]
         have hmx : (if t.sp[x]?.getD 0 < (bq m)[c] then (bq m)[c] else t.sp[x]?.getD 0)=mxZ (t.sp.getD x 0) ((bq m).getD c 0):=by
          simp [mxZ,hcn]
         rw [hmx]
         obtain ⟨sp',hsp'⟩ : ∃ sp',sp'=t.sp.set c (mxZ (t.sp.getD x 0) ((bq m).getD c 0)):=⟨_,rfl⟩
         rw [<- hsp']
         have hspl : sp'.length=m.f.length:=by rw [hsp'];simp [Wj.sp]
         have hst2 : flJ m x s1 (j + 1)={ q:=upL sp' (t.q++[c]) t.q.length,rc:=t.rc.set c true,sp:=sp',ou:=t.ou.set c x }:=by
          rw [hnx]
          unfold mo
          rw [if_neg (fun h=>by
           rcases h with h | h
           ·omega
           ·simp at h;rw [hrc] at h;cases h),hsp']
          rfl
         have hst3:=ma hcr (by simpa using hrc)
         refine ⟨aV (by decide +kernel),?_⟩
         refine jH (b:=10736) (fs':=nfR (upL sp' (t.q++[c]) t.q.length)) (d:=.tup []) rfl (by decide) (by simp) (by simp) rfl rfl (by simp) (gU _) (pM _) (.inr rfl) (gU _) ?_ ?_
         ·exact qy hC t.q sp' c (by rw [hspl];exact hcn) (fun a ha=>by rw [hspl];exact Wj.q a ha) (by omega)
         ·simp [bN]
          refine ⟨j + 1,by omega,by omega,hw,?_⟩
          rw [hst2]
          simp
        ·have hst2 : flJ m x s1 (j + 1)=t:=by
          rw [hnx]
          unfold mo
          rw [if_pos (.inr (by simpa using hrc))]
         simp at hrc
         simp [hrc]
         exact ⟨j + 1,by omega,by omega,hw,by rw [hst2];exact ⟨rfl,rfl⟩,by rw [hst2],by rw [hst2]⟩
      ·have hj3 : j=3:=by omega
       subst hj3
       rw [<- hst] at ht
       simp
       exact ⟨dO m s,⟨(fJ W).1,k + 1,by rw [nw,<- hs];rfl,by have:=(fJ W).2 g2;omega⟩,(fJ W).2 g2,by rw [ht];exact ⟨rfl,rfl⟩,by rw [ht],by rw [ht]⟩
    ·have h0 : s.q.length=0:=by simpa using g2
     have hfl : aZ m=s:=by
      unfold aZ
      rw [show 3 * m.f.length=k + (3 * m.f.length - k) by omega,nw,<- hs]
      exact lr m h0 _
     have hsp:=lH s.sp
     have hou:=lH s.ou
     rw [W.sp] at hsp
     rw [W.ou] at hou
     refine ⟨⟨by rw [W.sp];omega,by rw [W.ou];omega⟩,?_⟩
     rw [ee,hfl,hsp,hou]
end
end Go.Gv

namespace Go.Gv
theorem gV {fs : List Nat} {i : Nat} (h : i < fs.length) : (nfR fs)[i]? = some [.int .i64 (fAt fs i : Nat)]:=by rw [cS h];exact gg h
def frT (n i : Nat) : List Nat:=List.range i++List.replicate (n - i) 0
theorem qw {n i : Nat} (h : i <= n) : (frT n i).length=n:=by simp [frT];omega
theorem qx {n i : Nat} (h : i < n) : (frT n i).set i i=frT n (i + 1):=by
 unfold frT
 apply List.ext_getElem (by simp;omega)
 intro j h1 h2
 simp only [List.getElem_set,List.getElem_append,List.length_range,List.getElem_range,List.getElem_replicate]
 split <;> split <;> (try split) <;> first | rfl | omega
section
variable {C : Nat -> List D -> D -> List D -> Prop} (hC : f5 prog C)
include hC
theorem lX (n : Nat) (hn : n < 2 ^ 40) (f : List Nat) (h : Fo n f) (i : Nat) (hi : i < n) : C 332 [.blk 1 (nfR f),.ref (.r 10015) 0 n,.int .i64 i] (.int .i64 (ftF f i : Nat)) [.blk 1 (nfR (hlL f i)),.nilp]:=by
 refine fb hC (nf:=N332) rfl rfl ?_
 simp [N332]
 refine aE (List Nat × Nat × Nat) (fun s=>[(0,.ref (.r 10015) 0 n),(1,.int .i64 s.2.1),(10015,.blk 1 (nfR s.1))]) (fun s=>Fo n s.1 /\ s.2.1 < n /\ s.2.1 <= s.2.2 /\ hlv s.1 s.2.2 s.2.1=hlL f i /\ ftF s.1 s.2.1=ftF f i) (fun s=>s.2.1) (f,i,i) ⟨h,hi,Nat.le_refl _,rfl,rfl⟩ (by simp) ?_
 rintro ⟨g,a,k⟩ ⟨k1,k2,k3,k4,k5⟩
 simp only at k1 k2 k3 k4 k5
 have hl:=k1.len
 have hag : a < g.length:=by omega
 have h1:=k1.le a k2
 have hfl : fAt g a < g.length:=by omega
 have h2:=k1.le (fAt g a) (by omega)
 simp [aI (gV hag),k2]
 refine av (fun g1=>?_) (fun g1=>?_) <;> simp at g1 <;> simp [g1]
 ·have hne : fAt g a ≠ a:=fun e=>g1 (by rw [e])
  have hfx : (fAt g a : Int) < g.length:=by omega
  obtain ⟨q1,q2⟩:=GE k1 k2
  have hset : nfR (g.set a (fAt g (fAt g a)))=(nfR g).set a [.int .i64 (fAt g (fAt g a) : Nat)]:=(ip g a _).symm
  have hfn : fAt g a < n:=by omega
  simp [aI (gV hag),aI (gV hfl),k2,hfn,gV hag,ip]
  have hal : a < (g.set a (fAt g (fAt g a))).length:=by simpa using hag
  have hv : fAt (g.set a (fAt g (fAt g a))) a=fAt g (fAt g a):=by rw [dS hag,if_pos rfl]
  simp [aI (gV hal),hv]
  cases k with
  | zero=>omega
  | succ k =>
   refine ⟨g.set a (fAt g (fAt g a)),fAt g (fAt g a),⟨q1,by omega,k,by omega,?_,?_⟩,by omega,rfl,rfl⟩
   ·rw [<- k4,hlv,if_neg hne]
   ·rw [q2 _ (by omega),<- k5,dD k1 k2,dD k1 (by omega : fAt g a < n)]
 ·have e : fAt g a=a:=by omega
  rw [tI e] at k4
  rw [cR e] at k5
  rw [<- k4,<- k5]
  simp
  omega
theorem tO (n : Nat) (hn : n < 2 ^ 40) (f : List Nat) (h : Fo n f) (a b : Nat) (ha : a < n) (hb : b < n) : C 331 [.blk 1 (nfR f),.ref (.r 10015) 0 n,.int .i64 a,.int .i64 b] (.tup []) [.blk 1 (nfR (fQ f a b)),.nilp]:=by
 obtain ⟨h1,r1⟩:=eT h ha
 obtain ⟨h2,r2⟩:=eT h1 hb
 have k1:=lX hC n hn f h a ha
 have k2:=lX hC n hn (hlL f a) h1 b hb
 rw [r1 b hb] at k2
 have l0:=h.len
 have l1:=h1.len
 have l2:=h2.len
 have ga:=eR h a ha
 have gb:=eR h b hb
 obtain ⟨ra,hra⟩ : ∃ ra,ra=ftF f a:=⟨_,rfl⟩
 obtain ⟨rb,hrb⟩ : ∃ rb,rb=ftF f b:=⟨_,rfl⟩
 have hj : fQ f a b=(hlL (hlL f a) b).set (max ra rb) (min ra rb):=by rw [hra,hrb];rfl
 rw [hj]
 rw [<- hra] at ga k1
 rw [<- hrb] at gb k2
 refine fb hC (nf:=N331) rfl rfl ?_
 simp [N331,l0]
 refine ⟨by omega,?_⟩
 refine bJ k1 (by simp;omega) ?_
 simp [l1]
 refine ⟨by omega,?_⟩
 refine bJ k2 (by simp;omega) ?_
 obtain ⟨M,hMe⟩ : ∃ M,M=max ra rb:=⟨_,rfl⟩
 obtain ⟨N,hNe⟩ : ∃ N,N=min ra rb:=⟨_,rfl⟩
 rw [<- hMe,<- hNe]
 have hM : M < n:=by omega
 have e1 : (if ra < rb then (rb : Int) else ra)=(M : Int):=by split <;> omega
 have e2 : (if rb < ra then (rb : Int) else ra)=(N : Int):=by split <;> omega
 have hMl : M < (hlL (hlL f a) b).length:=by omega
 simp [e1,e2,hM,gV hMl,ip]
 omega
end
section
variable {C : Nat -> List D -> D -> List D -> Prop} (hC : az prog C)
include hC
theorem ly (n : Nat) (hn : n < 2 ^ 40) : C 329 [.int .i64 n] .any [.own 1 (nfR (List.range n))]:=by
 refine me hC (nf:=N329) rfl rfl ?_
 simp [N329]
 refine ⟨by omega,?_⟩
 refine aE Nat (fun i=>[(3,.ref (.r 10048) 0 n),(8,.int .i64 n),(9,.int .i64 i),(10048,.blk 1 (nfR (frT n i)))]) (fun i=>i <= n) (fun i=>n - i) 0 (by simp) (by simp [nfR,frT]) ?_
 rintro i hi
 have hw : IntKind.wrap .i64 ((i : Int) + 1)=((i + 1 : Nat) : Int):=am (by omega) (by omega)
 have hl:=qw hi
 simp
 refine av (fun g1=>?_) (fun g1=>?_) <;> simp at g1 <;> simp [g1]
 ·have hil : i < (frT n i).length:=by omega
  have hs:=qx g1
  simp [gV hil,ip,hs]
  exact ⟨i + 1,by omega,by omega,hw,rfl⟩
 ·have e : i=n:=by omega
  subst e
  have e2 : frT i i=List.range i:=by simp [frT]
  rw [e2]
  simp
  exact gU _
end
end Go.Gv

namespace Go.Gv
structure RF where
 rc : List Bool
 lf : List Bool
 lv : List Int
 ou : List Int
def act (r : RF) (i : Nat) : Bool:=r.rc.getD i false && !r.lf.getD i false
def rat (r : RF) : Nat -> Int
 | 0=>-1
 | i + 1=>if act r i=true /\ (rat r i < 0 \/ r.lv.getD i 0 < r.lv.getD (rat r i).toNat 0) then (i : Int) else rat r i
theorem jo (r : RF) : ∀ i,(rat r i=-1 /\ ∀ b,b < i -> act r b=false) \/ ∃ a : Nat,rat r i=a /\ a < i /\ act r a=true /\ ∀ b,b < i -> act r b=true -> r.lv.getD a 0 < r.lv.getD b 0 \/ (r.lv.getD a 0=r.lv.getD b 0 /\ a <= b)
 | 0=>.inl ⟨rfl,fun b hb=>by omega⟩
 | i + 1=>by
  rcases jo r i with ⟨h1,h2⟩ | ⟨a,h1,h2,h3,h4⟩
  ·by_cases ha : act r i=true
   ·right
    refine ⟨i,by simp [rat,ha,h1],by omega,ha,fun b hb hab=>?_⟩
    by_cases e : b=i
    ·subst e;exact .inr ⟨rfl,Nat.le_refl _⟩
    ·rw [h2 b (by omega)] at hab;cases hab
   ·left
    refine ⟨by simp [rat,ha,h1],fun b hb=>?_⟩
    by_cases e : b=i
    ·subst e;simpa using ha
    ·exact h2 b (by omega)
  ·right
   by_cases hc : act r i=true /\ r.lv.getD i 0 < r.lv.getD a 0
   ·refine ⟨i,?_,by omega,hc.1,fun b hb hab=>?_⟩
    ·unfold rat
     rw [if_pos ⟨hc.1,.inr (by rw [h1];exact hc.2)⟩]
    ·by_cases e : b=i
     ·subst e;exact .inr ⟨rfl,Nat.le_refl _⟩
     ·rcases h4 b (by omega) hab with h5 | h5
      ·exact .inl (by omega)
      ·exact .inl (by omega)
   ·refine ⟨a,?_,by omega,h3,fun b hb hab=>?_⟩
    ·unfold rat
     rw [if_neg,h1]
     rintro ⟨k1,k2⟩
     rcases k2 with k2 | k2
     ·rw [h1] at k2;omega
     ·rw [h1] at k2;exact hc ⟨k1,k2⟩
    ·by_cases e : b=i
     ·subst e
      have : ¬ r.lv.getD b 0 < r.lv.getD a 0:=fun h=>hc ⟨hab,h⟩
      rcases Int.lt_or_eq_of_le (Int.not_lt.1 this) with h5 | h5
      ·exact .inl h5
      ·exact .inr ⟨h5,by omega⟩
     ·exact h4 b (by omega) hab
def fS (m : Msh) (i : Nat) (r : RF) (k : Int) : RF :=
 if 0 <= k /\ r.rc.getD k.toNat false=false then { r with rc:=r.rc.set k.toNat true,lv:=r.lv.set k.toNat (if r.lv.getD i 0 < (bq m).getD k.toNat 0 then (bq m).getD k.toNat 0 else r.lv.getD i 0),ou:=r.ou.set k.toNat i } else r
def rfI (m : Msh) (i : Nat) (r : RF) : Nat -> RF
 | 0=>r
 | j + 1=>fS m i (rfI m i r j) (nbF m i j)
def fC (m : Msh) (r : RF) : RF :=
 if rat r m.f.length < 0 then r else rfI m (rat r m.f.length).toNat { r with lf:=r.lf.set (rat r m.f.length).toNat true } 3
def rf0 (m : Msh) : Nat -> List Bool × List Int
 | 0=>(List.replicate m.f.length false,List.replicate m.f.length 0)
 | i + 1=>if bsd m i (-1) then ((rf0 m i).1.set i true,(rf0 m i).2.set i ((bq m).getD i 0)) else rf0 m i
def eu (m : Msh) : RF:={ rc:=(rf0 m m.f.length).1,lf:=List.replicate m.f.length false,lv:=(rf0 m m.f.length).2,ou:=List.replicate m.f.length (-1) }
structure f8 (m : Msh) (s : Fl) (r : RF) : Prop where
 rc : s.rc=r.rc
 ou : s.ou=r.ou
 heap : gO s.sp s.q s.q.length
 cnt : ∀ a,s.q.count a=if act r a then 1 else 0
 lv : ∀ a,r.rc.getD a false=true -> s.sp.getD a 0=r.lv.getD a 0
 un : ∀ a,r.rc.getD a false=false -> s.sp.getD a 0=(bq m).getD a 0
 lf : ∀ a,r.lf.getD a false=true -> r.rc.getD a false=true
 len : r.lf.length=m.f.length /\ r.lv.length=m.f.length
theorem bS {α : Type} {l : List α} {i j : Nat} {x d : α} (h : i < l.length) : (l.set i x).getD j d=if j=i then x else l.getD j d:=by
 simp only [List.getD_eq_getElem?_getD,List.getElem?_set]
 by_cases e : i=j
 ·subst e;simp [h]
 ·rw [if_neg e,if_neg (Ne.symm e)]
theorem oD {sp sp' : List Int} {q : List Nat} (h : gO sp q q.length) (he : ∀ a ∈ q,sp'.getD a 0=sp.getD a 0) : gO sp' q q.length:=by
 intro i h0 hi
 have:=h i h0 hi
 rw [ef] at this ⊢
 rw [he _ (eS hi),he _ (eS (show (i - 1) / 2 < q.length by omega))]
 exact this
theorem f8.p1 {m : Msh} {s : Fl} {r : RF} {i : Nat} {k : Int} (h : f8 m s r) (W : FlW m s) (hi : r.rc.getD i false=true) (hk : -1 <= k /\ k < m.f.length) : f8 m (mo m i s k) (fS m i r k):=by
 unfold mo fS
 by_cases h1 : k=-1
 ·rw [if_pos (.inl h1),if_neg (by omega)]
  exact h
 ·cases h2 : r.rc.getD k.toNat false
  ·rw [if_neg (by rw [h.rc,h2];simp;exact h1),if_pos ⟨by omega,rfl⟩]
   have hkl : k.toNat < m.f.length:=by omega
   have hrl : r.rc.length=m.f.length:=by rw [<- h.rc];exact W.rc
   have hsp:=W.sp
   have hrcs:=fun j=>bS (l:=r.rc) (i:=k.toNat) (j:=j) (x:=true) (d:=false) (by omega)
   have hsps:=fun j x=>bS (l:=s.sp) (i:=k.toNat) (j:=j) (x:=x) (d:=(0 : Int)) (by omega)
   have hlvs:=fun j x=>bS (l:=r.lv) (i:=k.toNat) (j:=j) (x:=x) (d:=(0 : Int)) (by rw [h.len.2];omega)
   have hv : mxZ (s.sp.getD i 0) ((bq m).getD k.toNat 0)=(if r.lv.getD i 0 < (bq m).getD k.toNat 0 then (bq m).getD k.toNat 0 else r.lv.getD i 0):=by rw [h.lv i hi];rfl
   have hnq : k.toNat ∉ s.q:=by
    intro hm
    have h3:=h.cnt k.toNat
    have h4:=List.count_pos_iff.2 hm
    simp only [act,h2,Bool.false_and] at h3
    simp at h3
    omega
   obtain ⟨p1,p2,p3⟩:=jW (sp:=s.sp.set k.toNat (mxZ (s.sp.getD i 0) ((bq m).getD k.toNat 0))) (fs:=s.q) (x:=k.toNat) (oD h.heap (fun a ha=>by
    rw [hsps,if_neg]
    rintro rfl
    exact hnq ha))
   have hlfk : r.lf.getD k.toNat false=false:=by
    cases e : r.lf.getD k.toNat false
    ·rfl
    ·have:=h.lf _ e;rw [h2] at this;cases this
   refine ⟨by simp [h.rc],by simp [h.ou],p1,fun a=>?_,fun a ha=>?_,fun a ha=>?_,fun a ha=>?_,by simp [h.len]⟩
   ·simp only [p2,h.cnt a,act,hrcs]
    by_cases e : a=k.toNat
    ·subst e
     simp only [if_pos,h2,hlfk]
     simp
    ·simp only [if_neg e]
     simp
   ·simp only [hrcs] at ha
    simp only [hsps,hlvs]
    by_cases e : a=k.toNat
    ·rw [if_pos e,if_pos e];exact hv
    ·rw [if_neg e] at ha
     rw [if_neg e,if_neg e]
     exact h.lv a ha
   ·simp only [hrcs] at ha
    simp only [hsps]
    by_cases e : a=k.toNat
    ·rw [if_pos e] at ha;cases ha
    ·rw [if_neg e] at ha
     rw [if_neg e]
     exact h.un a ha
   ·simp only [hrcs]
    split
    ·rfl
    ·exact h.lf a ha
  ·rw [if_pos (.inr (by rw [h.rc];exact h2)),if_neg (by simp)]
   exact h
theorem nW {m : Msh} {i a : Nat} {r : RF} {k : Int} (h : r.rc.getD a false=true) : (fS m i r k).rc.getD a false=true:=by
 unfold fS
 split
 ·by_cases e : k.toNat < r.rc.length
  ·rw [bS e]
   split
   ·rfl
   ·exact h
  ·rw [List.set_eq_of_length_le (by omega)]
   exact h
 ·exact h
theorem f8.stepI {m : Msh} {s : Fl} {r : RF} {i : Nat} (h : f8 m s r) (W : FlW m s) (hi : r.rc.getD i false=true) : ∀ j,f8 m (flJ m i s j) (rfI m i r j) /\ (rfI m i r j).rc.getD i false=true
 | 0=>⟨h,hi⟩
 | j + 1=>by
  obtain ⟨h1,h2⟩:=f8.stepI h W hi j
  exact ⟨h1.p1 (qu W j).1 h2 (dQ m i j),nW h2⟩
theorem f8.step {m : Msh} {s : Fl} {r : RF} (h : f8 m s r) (W : FlW m s) : f8 m (dO m s) (fC m r) /\ (s.q.length=0 ↔ rat r m.f.length < 0):=by
 have hact : ∀ a,a ∈ s.q ↔ act r a=true:=fun a=>by
  rw [<- List.count_pos_iff,h.cnt]
  split <;> simp_all
 rcases jo r m.f.length with ⟨h1,h2⟩ | ⟨a,h1,h2,h3,h4⟩
 ·have h0 : s.q.length=0:=by
   rcases Nat.eq_zero_or_pos s.q.length with e | e
   ·exact e
   ·have h5:=eS (fs:=s.q) (i:=0) e
    have h6:=h2 _ (W.q _ h5)
    rw [(hact _).1 h5] at h6
    cases h6
  unfold dO fC
  rw [if_pos h0,if_pos (by omega)]
  exact ⟨h,by rw [h1];exact ⟨fun _=>by omega,fun _=>h0⟩⟩
 ·have hq : a ∈ s.q:=(hact a).2 h3
  have h0 : 0 < s.q.length:=List.length_pos_of_mem hq
  obtain ⟨p1,p2,p3,p4⟩:=uh h.heap h0
  have hfa : fAt s.q 0=a:=by
   have h5:=eS (fs:=s.q) (i:=0) h0
   have h6:=(hact _).1 h5
   have h7:=h4 _ (W.q _ h5) h6
   obtain ⟨x,hx,hxa⟩:=List.mem_iff_getElem.1 hq
   have h8:=rH h.heap x hx
   rw [cS hx,hxa,ef] at h8
   have hra : r.rc.getD a false=true:=by simp only [act,Bool.and_eq_true] at h3;exact h3.1
   have hr0 : r.rc.getD (fAt s.q 0) false=true:=by simp only [act,Bool.and_eq_true] at h6;exact h6.1
   rw [h.lv a hra,h.lv _ hr0] at h8
   omega
  have hral : r.rc.getD a false=true:=by simp only [act,Bool.and_eq_true] at h3;exact h3.1
  have hlfs:=fun j=>bS (l:=r.lf) (i:=a) (j:=j) (x:=true) (d:=false) (by rw [h.len.1];exact h2)
  have hmid : f8 m { s with q:=(gx s.sp s.q).take (s.q.length - 1) } { r with lf:=r.lf.set a true }:=by
   refine ⟨h.rc,h.ou,p3,fun b=>?_,h.lv,h.un,fun b hb=>?_,by simp [h.len]⟩
   ·have h5:=p4 b
    have h6:=h.cnt b
    have h7 : (gx s.sp s.q)=(bz s.sp (swp s.q 0 (s.q.length - 1)) 0 (s.q.length - 1)).1:=rfl
    rw [h7]
    rw [hfa] at h5
    simp only [act,hlfs]
    by_cases e : b=a
    ·subst e
     rw [if_pos rfl] at h5
     rw [if_pos h3] at h6
     simp
     omega
    ·rw [if_neg e] at h5
     rw [if_neg e]
     simp only [act] at h6
     refine Eq.trans ?_ h6
     omega
   ·simp only [hlfs] at hb
    split at hb
    ·rename_i e;rw [e];exact hral
    ·exact h.lf b hb
  obtain ⟨W1,_,_⟩:=ug W h0
  have hpa : fAt (gx s.sp s.q) (s.q.length - 1)=a:=p1.trans hfa
  refine ⟨?_,by omega⟩
  unfold dO fC
  rw [if_neg (by omega),if_neg (by omega),h1,hpa]
  exact (hmid.stepI W1 hral 3).1
end Go.Gv

namespace Go.Gv
theorem nT (m : Msh) : ∀ i,(rf0 m i).1=(fl0 m i).2
 | 0=>rfl
 | i + 1=>by
  unfold rf0 fl0
  split
  ·simp only [nT m i]
  ·exact nT m i
theorem ft (m : Msh) : ∀ i,(rf0 m i).1.length=m.f.length /\ (rf0 m i).2.length=m.f.length
 | 0=>by simp [rf0]
 | i + 1=>by
  obtain ⟨h1,h2⟩:=ft m i
  unfold rf0
  split
  ·simp [h1,h2]
  ·exact ⟨h1,h2⟩
theorem i8 (m : Msh) : ∀ i,gO (bq m) (fl0 m i).1 (fl0 m i).1.length
 | 0=>by intro i h0 hi;simp [fl0] at hi
 | i + 1=>by
  unfold fl0
  split
  ·exact (jW (i8 m i)).1
  ·exact i8 m i
theorem qt (m : Msh) : ∀ i,i <= m.f.length -> ∀ a,(fl0 m i).1.count a=if (fl0 m i).2.getD a false=true then 1 else 0
 | 0,_,a=>by
  rw [mJ m 0 a (by omega)]
  simp [fl0]
 | i + 1,h,a=>by
  have ih:=qt m i (by omega) a
  have hl:=(i9 m i).1
  unfold fl0
  split
  ·simp only [(jW (i8 m i)).2.1,ih]
   rw [bS (by omega)]
   by_cases e : a=i
   ·subst e
    rw [mJ m a a (Nat.le_refl _)]
    simp
   ·simp only [if_neg e]
    simp
  ·exact ih
theorem nS (m : Msh) : ∀ i,i <= m.f.length -> ∀ a,(rf0 m i).1.getD a false=true -> (rf0 m i).2.getD a 0=(bq m).getD a 0
 | 0,_,a,h=>by
  have:=mJ m 0 a (by omega)
  simp only [fl0] at this
  simp only [rf0] at h
  rw [this] at h;cases h
 | i + 1,hi,a,h=>by
  obtain ⟨h1,h2⟩:=ft m i
  unfold rf0 at h ⊢
  split at h
  ·rename_i hb
   simp only [hb,if_true] at h ⊢
   rw [bS (by omega)] at h ⊢
   by_cases e : a=i
   ·rw [if_pos e,e]
   ·rw [if_neg e] at h ⊢
    exact nS m i (by omega) a h
  ·rename_i hb
   simp only [hb] at h ⊢
   exact nS m i (by omega) a h
theorem f8.init (m : Msh) : f8 m (dC m) (eu m):=by
 have hf : ∀ a,(List.replicate m.f.length false).getD a false=false:=fun a=>by
  simp [List.getElem?_replicate]
  split <;> rfl
 refine ⟨(nT m _).symm,rfl,i8 m _,fun a=>?_,fun a ha=>?_,fun a _=>rfl,fun a ha=>?_,?_⟩
 ·have:=qt m m.f.length (Nat.le_refl _) a
  simp only [dC,act,eu,hf,nT]
  simpa using this
 ·exact (nS m _ (Nat.le_refl _) a ha).symm
 ·simp only [eu] at ha
  rw [hf] at ha;cases ha
 ·simp [eu,(ft m _).2]
def rfN (m : Msh) : Nat -> RF -> RF
 | 0,r=>r
 | k + 1,r=>rfN m k (fC m r)
def b5 (m : Msh) : RF:=rfN m (3 * m.f.length) (eu m)
theorem f8.run {m : Msh} : ∀ (k : Nat) {s : Fl} {r : RF},f8 m s r -> FlW m s -> f8 m (flN m k s) (rfN m k r)
 | 0,_,_,h,_=>h
 | k + 1,_,_,h,W=>f8.run k (h.step W).1 (fJ W).1
theorem oy {m : Msh} : ∀ (k : Nat) {s : Fl},FlW m s -> flM (flN m k s) + k <= flM s \/ (flN m k s).q.length=0
 | 0,s,_=>.inl (Nat.le_refl _)
 | k + 1,s,W=>by
  simp only [flN]
  by_cases h0 : s.q.length=0
  ·right
   have : dO m s=s:=by unfold dO;rw [if_pos h0]
   rw [this,lr m h0];exact h0
  ·obtain ⟨W1,h1⟩:=fJ W
   have h2:=h1 (by omega)
   rcases oy k W1 with h3 | h3
   ·left;omega
   ·exact .inr h3
theorem pA (m : Msh) : (aZ m).q.length=0:=by
 obtain ⟨W,h⟩:=ja m
 rcases oy (3 * m.f.length) W with h1 | h1
 ·have h2 : flM (aZ m) + 3 * m.f.length <= flM (dC m):=h1
  have h3 : (aZ m).q.length <= flM (aZ m):=by unfold flM;omega
  omega
 ·exact h1
theorem mK (m : Msh) : f8 m (aZ m) (b5 m):=(f8.init m).run _ (ja m).1
theorem ii (m : Msh) : FlW m (aZ m):=x9 _ (ja m).1
theorem kJ (m : Msh) (a : Nat) (h : (b5 m).rc.getD a false=true) : (b5 m).lf.getD a false=true:=by
 have h1:=(mK m).cnt a
 have h2 : (aZ m).q=[]:=List.eq_nil_of_length_eq_zero (pA m)
 rw [h2] at h1
 simp only [List.count_nil,act,h,Bool.true_and] at h1
 cases e : (b5 m).lf.getD a false
 ·rw [e] at h1;simp at h1
 ·rfl
theorem tB (m : Msh) (hall : ∀ a,a < m.f.length -> (b5 m).rc.getD a false=true) : (aZ m).sp=(b5 m).lv /\ (aZ m).ou=(b5 m).ou:=by
 have h:=mK m
 have W:=ii m
 refine ⟨List.ext_getElem (by rw [W.sp,h.len.2]) fun i h1 h2=>?_,h.ou⟩
 have:=h.lv i (hall i (by rw [<- W.sp];exact h1))
 simpa [h1,h2] using this
end Go.Gv

namespace Go.Gv
open Go.Lib
def wiS (v : Int) : D:=.agg [.int .i64 (v / 1152921504606846976),.int .i64 (v % 1152921504606846976)]
variable {C : CC} (hC : az prog C)
include hC
end Go.Gv

namespace Go.Gv
variable {C : CC} (hC : az prog C)
include hC
end Go.Gv

namespace Go.Gv
def slE (m : Msh) (a b : Int) : Int:=if au m=false then 1 else if fB m.f.length a=false \/ fB m.f.length b=false then 2 else if bsd m a.toNat b=false then 25 else 0
def stE (m : Msh) (i a b : Int) : Int:=if au m=false then 1 else if fB m.f.length i=false \/ fB m.f.length a=false \/ fB m.f.length b=false then 2 else if bsd m i.toNat a=false \/ bsd m i.toNat b=false then 25 else 0
variable {C : CC} (hC : az prog C)
include hC
end Go.Gv

namespace Go.Gv
theorem vT {α : Type} {p : α -> Bool} {xs : List α} {i : Nat} (h : gr p xs=(i : Int)) : ∃ h : i < xs.length,p xs[i]=true:=by
 unfold gr at h
 cases e : xs.findIdx? p with
 | none=>rw [e] at h;simp at h
 | some k =>
  rw [e] at h
  have h : k=i:=by have h : (k : Int)=(i : Int):=h;omega
  subst h
  rw [List.findIdx?_eq_some_iff_getElem] at e
  exact ⟨e.1,e.2.1⟩
theorem qG {m : Msh} {i k : Nat} (h : 0 <= nbF m i k) : ∃ c,c < 3 /\ crn (fce m (nbF m i k).toNat) c=crn (fce m i) (k + 1) /\ crn (fce m (nbF m i k).toNat) (c + 1)=crn (fce m i) k:=by
 have e : nbF m i k=((nbF m i k).toNat : Int):=by omega
 have h2 : gr (fun f=>cc f (crn (fce m i) (k + 1)) (crn (fce m i) k)) m.f=((nbF m i k).toNat : Int):=e
 obtain ⟨h3,h4⟩:=vT h2
 rw [mH] at h4
 simp only [cc,List.any_eq_true,List.mem_range,Bool.and_eq_true,decide_eq_true_eq] at h4
 exact h4
def cpt (m : Msh) (f : Fce) (k : Nat) : Pnt:=ptS (spt m (crn f k).toNat)
end Go.Gv

namespace Go.Gv
theorem gT {m : Msh} (hv : au m=true) {i k : Nat} (hi : i < m.f.length) (hk : k < 3) (h : 0 <= nbF m i k) : ∃ c,c < 3 /\ nbF m (nbF m i k).toNat c=i:=by
 obtain ⟨c,hc,c1,c2⟩:=qG h
 refine ⟨c,hc,?_⟩
 unfold nbF at c1 c2 ⊢
 rw [c1,c2]
 have hs : cc (fce m i) (crn (fce m i) k) (crn (fce m i) (k + 1))=true:=by
  simp only [cc,List.any_eq_true,List.mem_range,Bool.and_eq_true,decide_eq_true_eq]
  exact ⟨k,hk,rfl,rfl⟩
 refine fO (fun j hj hji=>?_) hi (by rw [mH];exact hs)
 rw [mH]
 cases e : cc (fce m j) (crn (fce m i) k) (crn (fce m i) (k + 1))
 ·rfl
 ·have:=jM hv hj hi e hs
  omega
def crs (a b : Pnt) : Int:=a.1 * b.2 - a.2 * b.1
theorem vt (a b : Pnt) : crs b a=-crs a b:=by
 unfold crs
 rw [Int.mul_comm b.1,Int.mul_comm b.2]
 omega
theorem uU (a b c : Pnt) : d6 a b c=crs a b + crs b c + crs c a:=by
 obtain ⟨a1,a2⟩:=a
 obtain ⟨b1,b2⟩:=b
 obtain ⟨c1,c2⟩:=c
 simp only [d6,crs,Int.sub_mul,Int.mul_sub]
 have e1:=Int.mul_comm a1 a2
 have e2:=Int.mul_comm b2 a1
 have e5:=Int.mul_comm a2 b1
 have e3:=Int.mul_comm c1 a2
 have e4:=Int.mul_comm c2 a1
 omega
def gE (m : Msh) (e : Int × Int) : Int:=crs (ptS (spt m e.1.toNat)) (ptS (spt m e.2.toNat))
theorem rW {l l' : List Int} (h : l.Perm l') : l.sum=l'.sum:=by
 induction h with
 | nil=>rfl
 | cons x _ ih=>simp [ih]
 | swap x y l=>simp;omega
 | trans _ _ ih1 ih2=>exact ih1.trans ih2
theorem sW (m : Msh) : ∀ (n : Nat) (E : List (Int × Int)),E.length <= n -> E.Nodup -> (∀ e ∈ E,e.1 ≠ e.2) -> (∀ e ∈ E,(e.2,e.1) ∈ E) -> (E.map (gE m)).sum=0
 | _,[],_,_,_,_=>rfl
 | 0,e::T,h,_,_,_=>by simp at h
 | n + 1,e::T,h,hn,hd,hs=>by
  have hne : (e.2,e.1) ≠ e:=fun he=>hd e (by simp) (by rw [<- he];simp at he ⊢;have:=congrArg Prod.fst he;have:=congrArg Prod.snd he;simp_all)
  have hmem : (e.2,e.1) ∈ T:=by
   rcases List.mem_cons.1 (hs e (by simp)) with h1 | h1
   ·exact absurd h1 hne
   ·exact h1
  rw [List.nodup_cons] at hn
  have hp:=List.perm_cons_erase hmem
  have h1:=rW (hp.map (gE m))
  have hel : (T.erase (e.2,e.1)).length + 1=T.length:=by
   have:=hp.length_eq
   simpa using this.symm
  have h2:=sW m n (T.erase (e.2,e.1)) (by simp at h;omega) (hn.2.erase _) (fun x hx=>hd x (List.mem_cons_of_mem _ (List.mem_of_mem_erase hx))) (fun x hx=>by
   rw [hn.2.mem_erase_iff] at hx ⊢
   have h3:=hs x (List.mem_cons_of_mem _ hx.2)
   refine ⟨fun h4=>?_,?_⟩
   ·have : x=e:=by
     have a1:=congrArg Prod.fst h4
     have a2:=congrArg Prod.snd h4
     simp at a1 a2
     exact Prod.ext a2 a1
    exact hn.1 (this ▸ hx.2)
   ·rcases List.mem_cons.1 h3 with h4 | h4
    ·exfalso
     refine hx.1 ?_
     rw [<- h4]
    ·exact h4)
  have h3 : gE m (e.2,e.1)=-gE m e:=vt _ _
  simp only [List.map_cons,List.sum_cons] at h1 ⊢
  omega
def sdE (m : Msh) (i : Nat) : List (Int × Int):=[(crn (fce m i) 0,crn (fce m i) 1),(crn (fce m i) 1,crn (fce m i) 2),(crn (fce m i) 2,crn (fce m i) 3)]
theorem kY {m : Msh} {i : Nat} {e : Int × Int} : e ∈ sdE m i ↔ cc (fce m i) e.1 e.2=true:=by
 simp only [sdE,List.mem_cons,List.not_mem_nil,or_false,cc,List.any_eq_true,List.mem_range,Bool.and_eq_true,decide_eq_true_eq]
 constructor
 ·rintro (rfl | rfl | rfl)
  ·exact ⟨0,by omega,rfl,rfl⟩
  ·exact ⟨1,by omega,rfl,rfl⟩
  ·exact ⟨2,by omega,rfl,rfl⟩
 ·rintro ⟨c,hc,c1,c2⟩
  rcases (by omega : c=0 \/ c=1 \/ c=2) with rfl | rfl | rfl
  ·exact .inl (Prod.ext c1.symm c2.symm)
  ·exact .inr (.inl (Prod.ext c1.symm c2.symm))
  ·exact .inr (.inr (Prod.ext c1.symm c2.symm))
theorem oA {α β : Type} (F : α -> List β) (g : β -> Int) : ∀ l : List α,((l.flatMap F).map g).sum=(l.map fun x=>((F x).map g).sum).sum
 | []=>rfl
 | x::l=>by simp [oA F g l]
theorem qQ {α : Type} (g : α -> Int) : ∀ l : List α,(∀ x ∈ l,0 < g x) -> l ≠ [] -> 0 < (l.map g).sum
 | [],_,h=>absurd rfl h
 | [x],h,_=>by have:=h x (by simp);simpa using this
 | x::y::l,h,_=>by
  have h1:=h x (by simp)
  have h2:=qQ g (y::l) (fun z hz=>h z (by simp [hz])) (by simp)
  simp only [List.map_cons,List.sum_cons] at h2 ⊢
  omega
theorem rQ {m : Msh} (hv : au m=true) (u : Nat -> Bool) (hcl : ∀ i k,i < m.f.length -> k < 3 -> u i=true -> 0 <= nbF m i k /\ u (nbF m i k).toNat=true) : ∀ i,i < m.f.length -> u i=false:=by
 intro i hi
 cases hu : u i
 ·rfl
 exfalso
 obtain ⟨U,hU⟩ : ∃ U,U=(List.range m.f.length).filter u:=⟨_,rfl⟩
 have hmU : ∀ x,x ∈ U ↔ x < m.f.length /\ u x=true:=fun x=>by rw [hU,List.mem_filter,List.mem_range]
 have hnU : U.Pairwise (· ≠ ·):=by rw [hU];exact List.Pairwise.filter _ List.nodup_range
 have hcor : ∀ x,x < m.f.length -> (fce m x).a ≠ (fce m x).b /\ (fce m x).b ≠ (fce m x).c /\ (fce m x).c ≠ (fce m x).a:=fun x hx=>by
  have:=(lb hv hx).1
  simp only [okF,okc,Bool.and_eq_true,decide_eq_true_eq] at this
  exact ⟨this.1.1.1.1.1.2,this.1.1.1.2.1.2,this.1.1.2.1.2⟩
 have hE:=sW m _ (U.flatMap (sdE m)) (Nat.le_refl _) (by
  rw [List.Nodup,List.pairwise_flatMap]
  refine ⟨fun x hx=>?_,hnU.imp_of_mem fun {x y} hx hy hxy e he e' he' h=>?_⟩
  ·obtain ⟨k1,k2,k3⟩:=hcor x ((hmU x).1 hx).1
   simp only [sdE,crn,List.pairwise_cons,List.mem_cons,List.not_mem_nil,or_false,forall_eq_or_imp,forall_eq,List.Pairwise.nil,and_true,ne_eq,Prod.mk.injEq,not_and,false_imp_iff,implies_true]
   exact ⟨⟨fun h=>absurd h k1,fun h=>absurd h.symm k3⟩,fun h=>absurd h k2⟩
  ·subst h
   exact hxy (jM hv ((hmU x).1 hx).1 ((hmU y).1 hy).1 (kY.1 he) (kY.1 he'))) (fun e he=>by
  obtain ⟨x,hx,hex⟩:=List.mem_flatMap.1 he
  obtain ⟨k1,k2,k3⟩:=hcor x ((hmU x).1 hx).1
  simp only [sdE,crn,List.mem_cons,List.not_mem_nil,or_false] at hex
  rcases hex with rfl | rfl | rfl
  ·exact k1
  ·exact k2
  ·exact k3) (fun e he=>by
  obtain ⟨x,hx,hex⟩:=List.mem_flatMap.1 he
  have hxl:=(hmU x).1 hx
  have hh:=kY.1 hex
  simp only [cc,List.any_eq_true,List.mem_range,Bool.and_eq_true,decide_eq_true_eq] at hh
  obtain ⟨k,hk,k1,k2⟩:=hh
  obtain ⟨h1,h2⟩:=hcl x k hxl.1 hk hxl.2
  obtain ⟨c,hc,c1,c2⟩:=qG h1
  have hb:=dQ m x k
  refine List.mem_flatMap.2 ⟨(nbF m x k).toNat,(hmU _).2 ⟨by omega,h2⟩,kY.2 ?_⟩
  simp only [cc,List.any_eq_true,List.mem_range,Bool.and_eq_true,decide_eq_true_eq]
  exact ⟨c,hc,by rw [c1,k2],by rw [c2,k1]⟩)
 rw [oA] at hE
 have hpos:=qQ (fun x=>((sdE m x).map (gE m)).sum) U (fun x hx=>by
  have:=(lb hv ((hmU x).1 hx).1).2
  have e : mg (aX m (fce m x))=((sdE m x).map (gE m)).sum:=by
   unfold mg
   rw [uU]
   simp only [sdE,List.map_cons,List.map_nil,List.sum_cons,List.sum_nil,gE,aX,crn]
   omega
  rw [<- e];exact this) (by
  intro h
  have:=(hmU i).2 ⟨hi,hu⟩
  rw [h] at this;cases this)
 omega
end Go.Gv

namespace Go.Gv
theorem um {m : Msh} {i : Nat} {r : RF} {k : Int} : (fS m i r k).rc.length=r.rc.length /\ (fS m i r k).lf=r.lf:=by
 unfold fS
 split
 ·simp
 ·exact ⟨rfl,rfl⟩
theorem nU {m : Msh} {i : Nat} {r : RF} : ∀ j,(rfI m i r j).rc.length=r.rc.length /\ (rfI m i r j).lf=r.lf
 | 0=>⟨rfl,rfl⟩
 | j + 1=>by
  obtain ⟨h1,h2⟩:=nU (m:=m) (i:=i) (r:=r) j
  obtain ⟨h3,h4⟩:=um (m:=m) (i:=i) (r:=rfI m i r j) (k:=nbF m i j)
  exact ⟨h3.trans h1,h4.trans h2⟩
theorem nV {m : Msh} {i a : Nat} {r : RF} (h : r.rc.getD a false=true) : ∀ j,(rfI m i r j).rc.getD a false=true
 | 0=>h
 | j + 1=>nW (nV h j)
theorem na {m : Msh} {i : Nat} {r : RF} (hl : r.rc.length=m.f.length) : ∀ j c,c < j -> 0 <= nbF m i c -> (rfI m i r j).rc.getD (nbF m i c).toNat false=true
 | 0,c,h,_=>by omega
 | j + 1,c,h,h0=>by
  by_cases e : c=j
  ·subst e
   show (fS m i (rfI m i r c) (nbF m i c)).rc.getD _ false=true
   have hb:=dQ m i c
   unfold fS
   cases e2 : (rfI m i r c).rc.getD (nbF m i c).toNat false
   ·rw [if_pos ⟨h0,rfl⟩]
    rw [bS (by rw [(nU c).1];omega),if_pos rfl]
   ·rw [if_neg (by simp)]
    exact e2
  ·exact nW (na hl j c (by omega) h0)
structure RCl (m : Msh) (r : RF) : Prop where
 len : r.rc.length=m.f.length
 cl : ∀ a,r.lf.getD a false=true -> ∀ c,c < 3 -> 0 <= nbF m a c -> r.rc.getD (nbF m a c).toNat false=true
 bd : ∀ a,a < m.f.length -> bsd m a (-1)=true -> r.rc.getD a false=true
theorem lA {l : List Bool} {i j : Nat} (h : (l.set i true).getD j false=true) : j=i \/ l.getD j false=true:=by
 by_cases e : i < l.length
 ·rw [bS e] at h
  split at h
  ·exact .inl (by assumption)
  ·exact .inr h
 ·rw [List.set_eq_of_length_le (by omega)] at h
  exact .inr h
theorem RCl.step {m : Msh} {r : RF} (h : RCl m r) : RCl m (fC m r):=by
 unfold fC
 split
 ·exact h
 ·obtain ⟨h1,h2⟩:=nU (m:=m) (i:=(rat r m.f.length).toNat) (r:={ r with lf:=r.lf.set (rat r m.f.length).toNat true }) 3
  refine ⟨h1.trans h.len,fun a ha c hc h0=>?_,fun a ha hb=>nV (r:={ r with lf:=r.lf.set (rat r m.f.length).toNat true }) (h.bd a ha hb) 3⟩
  rw [h2] at ha
  rcases lA ha with rfl | ha
  ·exact na (r:={ r with lf:=r.lf.set (rat r m.f.length).toNat true }) h.len 3 c hc h0
  ·exact nV (r:={ r with lf:=r.lf.set (rat r m.f.length).toNat true }) (h.cl a ha c hc h0) 3
theorem RCl.run {m : Msh} : ∀ (k : Nat) {r : RF},RCl m r -> RCl m (rfN m k r)
 | 0,_,h=>h
 | k + 1,_,h=>RCl.run k h.step
theorem qb (m : Msh) : ∀ i,i <= m.f.length -> ∀ a,a < i -> bsd m a (-1)=true -> (rf0 m i).1.getD a false=true
 | 0,_,a,h,_=>by omega
 | i + 1,hi,a,h,hb=>by
  have hl:=(ft m i).1
  unfold rf0
  by_cases e : a=i
  ·subst e
   rw [if_pos hb]
   simp only
   rw [bS (by omega),if_pos rfl]
  ·have ih:=qb m i (by omega) a (by omega) hb
   split
   ·simp only
    rw [bS (by omega),if_neg e]
    exact ih
   ·exact ih
theorem RCl.init (m : Msh) : RCl m (eu m):=by
 refine ⟨(ft m _).1,fun a ha=>?_,fun a ha hb=>qb m _ (Nat.le_refl _) a ha hb⟩
 have hf : (List.replicate m.f.length false).getD a false=false:=by
  simp [List.getElem?_replicate]
  split <;> rfl
 simp only [eu] at ha
 rw [hf] at ha;cases ha
theorem dU {m : Msh} (hv : au m=true) : ∀ a,a < m.f.length -> (b5 m).rc.getD a false=true:=by
 have hc : RCl m (b5 m):=(RCl.init m).run _
 intro a ha
 have:=rQ hv (fun i=>!(b5 m).rc.getD i false) (fun i k hi hk hu=>?_) a ha
 ·simpa using this
 ·simp only [Bool.not_eq_true'] at hu ⊢
  have hb:=dQ m i k
  have h0 : 0 <= nbF m i k:=by
   by_cases e : nbF m i k=-1
   ·exfalso
    have h1 : bsd m i (-1)=true:=by
     rcases (by omega : k=0 \/ k=1 \/ k=2) with rfl | rfl | rfl <;> simp [bsd,e]
    rw [hc.bd i hi h1] at hu;cases hu
   ·omega
  refine ⟨h0,?_⟩
  cases e : (b5 m).rc.getD (nbF m i k).toNat false
  ·rfl
  ·exfalso
   have h1:=kJ m _ e
   obtain ⟨c,hc1,hc2⟩:=gT hv hi hk h0
   have h2:=hc.cl _ h1 c hc1 (by omega)
   rw [hc2] at h2
   simp only [Int.toNat_natCast] at h2
   rw [h2] at hu;cases hu
theorem eK {m : Msh} (hv : au m=true) : (aZ m).sp=(b5 m).lv /\ (aZ m).ou=(b5 m).ou:=tB m (dU hv)
end Go.Gv

namespace Go.Gv
def iI (n : Nat) (ou : List Int) (rc : List Bool) : Nat -> Nat -> Prop
 | 0,a=>ou.getD a 0=-1
 | d + 1,a=>∃ b : Nat,b < n /\ ou.getD a 0=b /\ rc.getD b false=true /\ iI n ou rc d b
structure OuI (m : Msh) (r : RF) : Prop where
 rc : r.rc.length=m.f.length
 ou : r.ou.length=m.f.length
 e : ∀ a,a < m.f.length -> r.rc.getD a false=true -> ∃ d,d <= r.rc.count true /\ iI m.f.length r.ou r.rc d a
theorem iI.mono {n : Nat} {ou ou' : List Int} {rc rc' : List Bool} (h1 : ∀ a,rc.getD a false=true -> rc'.getD a false=true /\ ou'.getD a 0=ou.getD a 0) : ∀ {d a : Nat},rc.getD a false=true -> iI n ou rc d a -> iI n ou' rc' d a
 | 0,a,ha,h=>by
  show ou'.getD a 0=-1
  rw [(h1 a ha).2];exact h
 | d + 1,a,ha,⟨b,hb,e1,e2,e3⟩=>⟨b,hb,by rw [(h1 a ha).2];exact e1,(h1 b e2).1,iI.mono h1 e2 e3⟩
theorem ot {l : List Bool} {i : Nat} (h : i < l.length) (hf : l.getD i false=false) : (l.set i true).count true=l.count true + 1:=by
 have h1 : l[i]=false:=by simpa [h] using hf
 rw [List.count_set h,h1]
 simp
theorem OuI.p1 {m : Msh} {i : Nat} {r : RF} {k : Int} (h : OuI m r) (hi : i < m.f.length) (hr : r.rc.getD i false=true) (hk : k < m.f.length) : OuI m (fS m i r k):=by
 unfold fS
 split
 ·rename_i hc
  have hkl : k.toNat < m.f.length:=by omega
  have hrc:=fun j=>bS (l:=r.rc) (i:=k.toNat) (j:=j) (x:=true) (d:=false) (by rw [h.rc];omega)
  have hou:=fun j (x : Int)=>bS (l:=r.ou) (i:=k.toNat) (j:=j) (x:=x) (d:=(0 : Int)) (by rw [h.ou];omega)
  have hm : ∀ a,r.rc.getD a false=true -> (r.rc.set k.toNat true).getD a false=true /\ (r.ou.set k.toNat (i : Int)).getD a 0=r.ou.getD a 0:=fun a ha=>by
   have hne : a ≠ k.toNat:=fun e=>by rw [e,hc.2] at ha;cases ha
   rw [hrc,hou,if_neg hne,if_neg hne]
   exact ⟨ha,rfl⟩
  have hct:=ot (l:=r.rc) (i:=k.toNat) (by rw [h.rc];omega) hc.2
  refine ⟨by simp [h.rc],by simp [h.ou],fun a ha har=>?_⟩
  simp only at har ⊢
  rw [hct]
  by_cases e : a=k.toNat
  ·obtain ⟨d,hd,he⟩:=h.e i hi hr
   refine ⟨d + 1,by omega,i,hi,?_,(hm i hr).1,iI.mono hm hr he⟩
   rw [hou,if_pos e]
  ·rw [hrc,if_neg e] at har
   obtain ⟨d,hd,he⟩:=h.e a ha har
   exact ⟨d,by omega,iI.mono hm har he⟩
 ·exact h
theorem OuI.i {m : Msh} {i : Nat} {r : RF} (h : OuI m r) (hi : i < m.f.length) (hr : r.rc.getD i false=true) : ∀ j,OuI m (rfI m i r j)
 | 0=>h
 | j + 1=>(OuI.i h hi hr j).p1 hi (nV hr j) (dQ m i j).2
theorem OuI.step {m : Msh} {r : RF} (h : OuI m r) : OuI m (fC m r):=by
 unfold fC
 split
 ·exact h
 ·rename_i h0
  rcases jo r m.f.length with ⟨h1,_⟩ | ⟨a,h1,h2,h3,_⟩
  ·omega
  ·rw [h1]
   simp only [act,Bool.and_eq_true] at h3
   exact OuI.i (r:={ r with lf:=r.lf.set a true }) ⟨h.rc,h.ou,h.e⟩ h2 h3.1 3
theorem OuI.run {m : Msh} : ∀ (k : Nat) {r : RF},OuI m r -> OuI m (rfN m k r)
 | 0,_,h=>h
 | k + 1,_,h=>OuI.run k h.step
theorem OuI.init (m : Msh) : OuI m (eu m):=by
 refine ⟨(ft m _).1,by simp [eu],fun a ha _=>⟨0,by omega,?_⟩⟩
 show (List.replicate m.f.length (-1 : Int)).getD a 0=-1
 simp [List.getElem?_replicate,ha]
def mth (ou : List Int) : Nat -> Nat -> Nat
 | 0,a=>a
 | k + 1,a=>if ou.getD a 0=-1 then a else mth ou k (ou.getD a 0).toNat
theorem nH {n : Nat} {ou : List Int} {rc : List Bool} : ∀ {d a : Nat},iI n ou rc d a -> ∀ k,d <= k -> mth ou k a=mth ou d a
 | 0,a,h,k,_=>by
  cases k with
  | zero=>rfl
  | succ k =>
   have h : ou.getD a 0=-1:=h
   simp only [mth,h,if_true]
 | d + 1,a,⟨b,_,e1,_,e3⟩,k,hk=>by
  cases k with
  | zero=>omega
  | succ k =>
   simp only [mth,e1]
   rw [if_neg (by omega),if_neg (by omega)]
   exact nH e3 k (by omega)
theorem iN {m : Msh} (hv : au m=true) {a : Nat} (ha : a < m.f.length) : ∃ d,d <= m.f.length /\ iI m.f.length (aZ m).ou (b5 m).rc d a:=by
 have h : OuI m (b5 m):=(OuI.init m).run _
 obtain ⟨d,hd,he⟩:=h.e a ha (dU hv a ha)
 refine ⟨d,?_,by rw [(eK hv).2];exact he⟩
 have:=List.count_le_length (a:=true) (l:=(b5 m).rc)
 have:=h.rc
 omega
end Go.Gv

namespace Go.Gv
def hJ (m : Msh) (i : Nat) : Bool:=decide ((bq m).getD i 0 < (aZ m).sp.getD i 0)
def jE (m : Msh) (i : Nat) (k : Int) : Bool:=decide (k ≠ -1) && (hJ m i && (hJ m k.toNat && decide ((aZ m).sp.getD i 0=(aZ m).sp.getD k.toNat 0)))
def kO (m : Msh) (i k : Nat) : Prop:=i < m.f.length /\ k < m.f.length /\ hJ m i=true /\ hJ m k=true /\ (aZ m).sp.getD i 0=(aZ m).sp.getD k 0 /\ ∃ j,j < 3 /\ nbF m i j=k
theorem qY {m : Msh} (hv : au m=true) : ∀ a b,kO m a b -> kO m b a:=by
 rintro a b ⟨h1,h2,h3,h4,h5,j,hj,e⟩
 obtain ⟨c,hc,e2⟩:=gT hv h1 hj (by omega)
 rw [e] at e2
 exact ⟨h2,h1,h4,h3,h5.symm,c,hc,by simpa using e2⟩
theorem sQ {m : Msh} {i j : Nat} (hi : i < m.f.length) (hj : j < 3) (h : jE m i (nbF m i j)=true) : ∃ k : Nat,nbF m i j=k /\ k < m.f.length /\ kO m i k:=by
 simp only [jE,Bool.and_eq_true,decide_eq_true_eq] at h
 obtain ⟨h1,h2,h3,h4⟩:=h
 have hb:=dQ m i j
 refine ⟨(nbF m i j).toNat,by omega,by omega,hi,by omega,h2,h3,h4,j,hj,by omega⟩
theorem sR {m : Msh} {i k : Nat} (h : kO m i k) : jE m i k=true:=by
 obtain ⟨h1,h2,h3,h4,h5,_⟩:=h
 simp only [jE,Bool.and_eq_true,decide_eq_true_eq,Int.toNat_natCast]
 exact ⟨by omega,h3,h4,h5⟩
def foJ (m : Msh) (i : Nat) (f : List Nat) : Nat -> List Nat
 | 0=>f
 | j + 1=>if jE m i (nbF m i j) then fQ (foJ m i f j) i (nbF m i j).toNat else foJ m i f j
def foI (m : Msh) : Nat -> List Nat
 | 0=>List.range m.f.length
 | i + 1=>foJ m i (foI m i) 3
theorem lw {m : Msh} (hv : au m=true) {i : Nat} (hi : i < m.f.length) {f : List Nat} (h : Fo m.f.length f) (hf : iJ m.f.length (kO m) f) : ∀ j,j <= 3 ->
  Fo m.f.length (foJ m i f j) /\ iJ m.f.length (kO m) (foJ m i f j) /\ (∀ x y,x < m.f.length -> y < m.f.length -> ftF f x=ftF f y -> ftF (foJ m i f j) x=ftF (foJ m i f j) y) /\
  (∀ c k : Nat,c < j -> nbF m i c=k -> kO m i k -> ftF (foJ m i f j) i=ftF (foJ m i f j) k)
 | 0,_=>⟨h,hf,fun _ _ _ _ e=>e,fun c k hc=>by omega⟩
 | j + 1,hj=>by
  obtain ⟨h1,h2,h3,h4⟩:=lw hv hi h hf j (by omega)
  unfold foJ
  split
  ·rename_i hb
   obtain ⟨k,e,hk,ha⟩:=sQ hi (by omega) hb
   have e2 : (nbF m i j).toNat=k:=by omega
   rw [e2]
   refine ⟨(dP h1 hi hk).1,iJ.join (qY hv) h1 h2 hi hk ha,fun x y hx hy ex=>io h1 hi hk hx hy (h3 x y hx hy ex),fun c k' hc ec hak=>?_⟩
   by_cases hcj : c=j
   ·subst hcj
    have : k'=k:=by omega
    subst this
    exact mO h1 hi hk
   ·exact io h1 hi hk hi hak.2.1 (h4 c k' (by omega) ec hak)
  ·rename_i hb
   refine ⟨h1,h2,h3,fun c k' hc ec hak=>?_⟩
   by_cases hcj : c=j
   ·subst hcj
    have:=sR hak
    rw [<- ec] at this
    exact absurd this hb
   ·exact h4 c k' (by omega) ec hak
theorem gM {m : Msh} (hv : au m=true) : ∀ i,i <= m.f.length -> Fo m.f.length (foI m i) /\ iJ m.f.length (kO m) (foI m i) /\ (∀ a k : Nat,a < i -> kO m a k -> ftF (foI m i) a=ftF (foI m i) k)
 | 0,_=>⟨(iJ.init (kO m)).1,(iJ.init (kO m)).2.1,fun a k h=>by omega⟩
 | i + 1,hi=>by
  obtain ⟨h1,h2,h3⟩:=gM hv i (by omega)
  obtain ⟨q1,q2,q3,q4⟩:=lw hv (show i < m.f.length by omega) h1 h2 3 (by omega)
  refine ⟨q1,q2,fun a k ha hak=>?_⟩
  by_cases e : a=i
  ·subst e
   obtain ⟨_,_,_,_,_,j,hj,ej⟩:=id hak
   exact q4 j k hj ej hak
  ·exact q3 a k hak.1 hak.2.1 (h3 a k (by omega) hak)
def rtP (m : Msh) (x : Nat) : Nat:=ftF (foI m m.f.length) x
theorem uv {m : Msh} (hv : au m=true) {a : Nat} (ha : a < m.f.length) : rtP m a <= a /\ rtP m (rtP m a)=rtP m a:=by
 obtain ⟨h1,_,_⟩:=gM hv m.f.length (Nat.le_refl _)
 exact ⟨(eR h1 a ha).1,tC h1 ha⟩
theorem Cn.wet {m : Msh} {a b : Nat} (h : Cn (kO m) a b) : hJ m a=hJ m b /\ (aZ m).sp.getD a 0=(aZ m).sp.getD b 0:=by
 induction h with
 | refl=>exact ⟨rfl,rfl⟩
 | step _ r ih =>
  obtain ⟨_,_,h3,h4,h5,_⟩:=r
  exact ⟨ih.1.trans (h3.trans h4.symm),ih.2.trans h5⟩
theorem wA {m : Msh} (hv : au m=true) {a : Nat} (ha : a < m.f.length) : hJ m (rtP m a)=hJ m a /\ (aZ m).sp.getD (rtP m a) 0=(aZ m).sp.getD a 0:=by
 have h:=(gM hv m.f.length (Nat.le_refl _)).2.1 a ha
 exact ⟨h.wet.1.symm,h.wet.2.symm⟩
def stB (m : Msh) (s : Nat) : Bool:=hJ m s && decide (rtP m s=s)
def stT (m : Msh) (i : Nat) : List Nat:=(List.range i).filter (stB m)
def inP (m : Msh) (s k : Nat) : Bool:=hJ m k && decide (rtP m k=s)
def cU (m : Msh) (i : Nat) : List (List Nat):=(stT m i).map fun s=>(List.range i).filter (inP m s)
def mY (m : Msh) : List (List Nat):=cU m m.f.length
def fP (m : Msh) (i : Nat) : List Int:=(List.range m.f.length).map fun s=>if s < i /\ stB m s=true then ((stT m s).length : Int) else 0
theorem fY (m : Msh) (i : Nat) : stT m (i + 1)=if stB m i then stT m i++[i] else stT m i:=by
 unfold stT
 rw [List.range_succ,List.filter_append]
 split <;> simp_all
theorem md (m : Msh) {r : Nat} (hr : stB m r=true) : ∀ i,r < i -> ∃ h : (stT m r).length < (stT m i).length,(stT m i)[(stT m r).length]=r
 | 0,h=>by omega
 | i + 1,h=>by
  have e:=fY m i
  by_cases hi : r=i
  ·subst hi
   rw [if_pos hr] at e
   refine ⟨by rw [e];simp,?_⟩
   simp [e]
  ·obtain ⟨h1,h2⟩:=md m hr i (by omega)
   split at e
   ·refine ⟨by rw [e];simp;omega,?_⟩
    simp only [e]
    rw [List.getElem_append_left h1]
    exact h2
   ·refine ⟨by rw [e];exact h1,?_⟩
    simp only [e]
    exact h2
theorem Bp (m : Msh) {r i j : Nat} (hr : stB m r=true) (hj : j < (stT m i).length) (hne : j ≠ (stT m r).length) : (stT m i)[j] ≠ r:=by
 intro e
 have hm : r ∈ stT m i:=by rw [<- e];exact List.getElem_mem _
 have hri : r < i:=by
  have:=(List.mem_filter.1 hm).1
  simpa using this
 obtain ⟨h1,h2⟩:=md m hr i hri
 have hnd : (stT m i).Nodup:=List.Pairwise.filter _ List.nodup_range
 exact hne ((List.getElem_inj hnd).1 (e.trans h2.symm))
theorem fR (m : Msh) (i : Nat) : (cU m i).length=(stT m i).length:=by simp [cU]
theorem Bo (m : Msh) (i : Nat) : (stT m i).length <= i:=by
 have:=List.length_filter_le (stB m) (List.range i)
 simpa [stT] using this
theorem lG (m : Msh) (i : Nat) : (fP m i).length=m.f.length:=by simp [fP]
theorem oF {m : Msh} {i r : Nat} (hr : r < i) (hi : i <= m.f.length) (hs : stB m r=true) : (fP m i).getD r 0=((stT m r).length : Int):=by
 simp [fP,show r < m.f.length by omega,hr,hs]
theorem tK {m : Msh} {i : Nat} (hi : i < m.f.length) (hs : stB m i=true) : (fP m i).set i ((stT m i).length : Int)=fP m (i + 1):=by
 unfold fP
 apply List.ext_getElem (by simp)
 intro j h1 h2
 simp only [List.getElem_set,List.getElem_map,List.getElem_range]
 by_cases e : i=j
 ·subst e
  rw [if_pos rfl,if_pos ⟨by omega,hs⟩]
 ·rw [if_neg e]
  by_cases h : j < i /\ stB m j=true
  ·rw [if_pos h,if_pos ⟨by omega,h.2⟩]
  ·rw [if_neg h,if_neg fun h3=>h ⟨by omega,h3.2⟩]
theorem mN {m : Msh} {i : Nat} (hs : stB m i=false) : fP m i=fP m (i + 1):=by
 unfold fP
 apply List.map_congr_left
 intro j _
 by_cases h : j < i /\ stB m j=true
 ·rw [if_pos h,if_pos ⟨by omega,h.2⟩]
 ·rw [if_neg h,if_neg fun h3=>h ⟨by
   have : j ≠ i:=fun e=>by rw [e,hs] at h3;exact absurd h3.2 (by decide)
   omega,h3.2⟩]
theorem rJ (m : Msh) : fP m 0=List.replicate m.f.length 0:=by
 unfold fP
 apply List.ext_getElem (by simp)
 intro j h1 h2
 simp
theorem lP {m : Msh} {i : Nat} (h : hJ m i=false) : cU m (i + 1)=cU m i:=by
 unfold cU
 rw [fY,if_neg (by simp [stB,h])]
 apply List.map_congr_left
 intro s _
 rw [List.range_succ,List.filter_append]
 simp [inP,h]
theorem ud {m : Msh} (hv : au m=true) {i : Nat} (hi : i < m.f.length) (h : stB m i=true) : cU m (i + 1)=(cU m i++[[]]).set (stT m i).length [i]:=by
 have hw : hJ m i=true /\ rtP m i=i:=by simpa [stB] using h
 unfold cU
 rw [fY,if_pos h,List.map_append,<- List.length_map (f:=fun s=>(List.range i).filter (inP m s)),List.set_append_right _ _ (Nat.le_refl _)]
 simp only [Nat.sub_self,List.map_cons,List.map_nil,List.set_cons_zero]
 congr 1
 ·apply List.map_congr_left
  intro s hs
  rw [List.range_succ,List.filter_append]
  have : s < i:=by simpa using (List.mem_filter.1 hs).1
  have hne : ¬ i=s:=by omega
  simp [inP,hw.1,hw.2,hne]
 ·rw [List.range_succ,List.filter_append]
  have h0 : (List.range i).filter (inP m i)=[]:=by
   rw [List.filter_eq_nil_iff]
   intro k hk
   have hk : k < i:=by simpa using hk
   have:=(uv hv (a:=k) (by omega)).1
   simp only [inP,Bool.and_eq_true,decide_eq_true_eq]
   omega
  simp [h0,inP,hw.1,hw.2]
theorem ue {m : Msh} {i r : Nat} (hw : hJ m i=true) (hr : rtP m i=r) (hri : r < i) (hs : stB m r=true) : ∃ l,l.length <= i /\ (cU m i)[(stT m r).length]? = some l /\ cU m (i + 1)=(cU m i).set (stT m r).length (l++[i]):=by
 obtain ⟨h1,h2⟩:=md m hs i hri
 have hn : stB m i=false:=by
  have : ¬ r=i:=by omega
  simp [stB,hr,this]
 refine ⟨(List.range i).filter (inP m r),by have:=List.length_filter_le (inP m r) (List.range i);simpa using this,?_,?_⟩
 ·unfold cU
  rw [List.getElem?_map,List.getElem?_eq_getElem h1,h2]
  rfl
 ·unfold cU
  rw [fY,if_neg (by simp [hn])]
  apply List.ext_getElem (by simp)
  intro j g1 g2
  simp only [List.getElem_map,List.getElem_set]
  have g3 : j < (stT m i).length:=by simpa using g1
  have e3 : ∀ s,(List.range (i + 1)).filter (inP m s)=(List.range i).filter (inP m s)++(if inP m s i=true then [i] else []):=fun s=>by
   rw [List.range_succ,List.filter_append]
   congr 1
   rw [List.filter_cons,List.filter_nil]
  simp only [e3]
  by_cases e : (stT m r).length=j
  ·subst e
   rw [if_pos rfl,h2,if_pos (by simp [inP,hw,hr])]
  ·rw [if_neg e]
   have:=Bp m hs g3 (fun h=>e h.symm)
   have h5 : ¬ r=(stT m i)[j]:=fun h=>this h.symm
   rw [if_neg (by simp [inP,hw,hr,h5]),List.append_nil]
end Go.Gv

namespace Go.Gv
def rX (l : List (List Nat)) : List (List D):=l.map fun p=>[.sl (nfR p)]
def eZ (l : List (List Nat)) : List (List D):=l.map fun p=>[.own 1 (nfR p)]
theorem wr (l : List (List Nat)) : (eZ l).map (fun e=>e.map aT)=rX l:=by simp [eZ,rX,aT]
section
variable {C : Nat -> List D -> D -> List D -> Prop} (hC : az prog C)
include hC
theorem Kk (m : Msh) (i : Nat) (hi : i < m.f.length) : C 330 [.int .i64 i,.ptr [ee m]] (.bool (hJ m i)) []:=by
 have W:=ii m
 have h1 : i < (aZ m).sp.length:=by rw [W.sp];exact hi
 have h2 : i < (bq m).length:=by simpa using hi
 refine bp hC (nf:=N330) rfl rfl ?_
 simp [N330,ee,aK (co h1),aK (co h2)]
 exact ⟨aV (by decide +kernel),rfl⟩
set_option maxRecDepth 8000 in
set_option maxHeartbeats 2000000 in
theorem A3 (m : Msh) (hv : au m=true) : C 314 [ee m] (.sl (rX (mY m))) []:=by
 have W:=ii m
 have hsz:=(dx hv).2
 have kf:=ly hC m.f.length (by omega)
 have e0 : ee m=.ptr [.sl (nbA m),slx true (inR (bq m)),.sl (inR (aZ m).sp),.sl (inR (aZ m).ou)]:=rfl
 have kw:=fun i hi=>Kk hC m i hi
 refine bp hC (nf:=N314) rfl rfl ?_
 simp [N314,e0]
 refine ia kf ?_
 simp
 have hfl : ∀ i,i <= m.f.length -> (foI m i).length=m.f.length:=fun i hi=>(gM hv i hi).1.len
 obtain ⟨fD,hfD⟩ : ∃ fD,fD=ee m:=⟨_,rfl⟩
 rw [<- e0,<- hfD]
 rw [<- hfD] at kw
 refine aE Nat (fun i=>[(1,.ptr [fD]),(3,.ref (.r 10048) 0 m.f.length),(4,.fn 330 [.ptr [fD]]),(23,.sl (nbA m)),(24,.int .i64 m.f.length),(25,.int .i64 i),(10048,.blk 1 (nfR (foI m i)))]) (fun i=>i <= m.f.length) (fun i=>m.f.length - i) 0 (by simp) (by simp [foI]) ?_
 rintro i hi
 have hw : IntKind.wrap .i64 ((i : Int) + 1)=((i + 1 : Nat) : Int):=am (by omega) (by omega)
 obtain ⟨F1,F2,F3⟩:=gM hv i hi
 simp
 refine av (fun g1=>?_) (fun g1=>?_) <;> simp at g1 <;> simp [g1]
 ·simp [aK (jg g1)]
  obtain ⟨f0,hf0⟩ : ∃ f0,f0=foI m i:=⟨_,rfl⟩
  have hsp:=fun j hj=>lw hv g1 F1 F2 j hj
  rw [<- hf0] at F1 F2 F3 hsp ⊢
  refine aE Nat (fun j=>[(1,.ptr [fD]),(3,.ref (.r 10048) 0 m.f.length),(4,.fn 330 [.ptr [fD]]),(5,.int .i64 i),(23,.sl (nbA m)),(24,.int .i64 m.f.length),(25,.int .i64 i),(30,.agg [.int .i64 (nbF m i 0),.int .i64 (nbF m i 1),.int .i64 (nbF m i 2)]),(31,.int .i64 j),(10048,.blk 1 (nfR (foJ m i f0 j)))]) (fun j=>j <= 3) (fun j=>3 - j) 0 (by simp) (by simp [foJ]) ?_
  rintro j hj
  have hw2 : IntKind.wrap .i64 ((j : Int) + 1)=((j + 1 : Nat) : Int):=am (by omega) (by omega)
  obtain ⟨J1,J2,J3,J4⟩:=hsp j hj
  obtain ⟨fj,hfj⟩ : ∃ fj,fj=foJ m i f0 j:=⟨_,rfl⟩
  have hnx : foJ m i f0 (j + 1)=if jE m i (nbF m i j) then fQ fj i (nbF m i j).toNat else fj:=by rw [hfj];rfl
  rw [<- hfj] at J1 J2 J3 J4 ⊢
  have hjl:=J1.len
  simp
  refine av (fun g3=>?_) (fun g3=>?_) <;> simp at g3
  ·have hxj : ([.int .i64 (nbF m i 0),.int .i64 (nbF m i 1),.int .i64 (nbF m i 2)] : List D)[j]?.getD .any=.int .i64 (nbF m i j):=by
    rcases (by omega : j=0 \/ j=1 \/ j=2) with rfl | rfl | rfl <;> rfl
   have hbd:=dQ m i j
   obtain ⟨kk,hkk⟩ : ∃ kk,kk=nbF m i j:=⟨_,rfl⟩
   rw [<- hkk] at hxj hbd hnx
   simp [show (j : Int) < 3 by omega,hxj]
   refine ⟨by omega,?_⟩
   have fin : jE m i kk=false -> ∃ x,x <= 3 /\ 3 - x < 3 - j /\ IntKind.wrap .i64 ((j : Int) + 1)=(x : Int) /\ nfR fj=nfR (foJ m i f0 x):=fun hb=>⟨j + 1,by omega,by omega,hw2,by rw [hnx,hb];rfl⟩
   by_cases c1 : kk=-1
   ·simp [c1]
    exact ⟨aV (by decide +kernel),fin (by simp [jE,c1])⟩
   ·obtain ⟨c,hc⟩ : ∃ c : Nat,kk=c:=⟨kk.toNat,by omega⟩
    subst hc
    have hcn : c < m.f.length:=by omega
    simp [c1]
    refine ae (kw i g1) (.inl rfl) ?_
    cases w1 : hJ m i
    ·simp
     exact ⟨aV (by decide +kernel),fin (by simp [jE,w1])⟩
    ·simp
     refine ae (kw c hcn) (.inl rfl) ?_
     cases w2 : hJ m c
     ·simp
      exact ⟨aV (by decide +kernel),fin (by simp [jE,w1,w2])⟩
     ·have h1 : i < (aZ m).sp.length:=by rw [W.sp];exact g1
      have h2 : c < (aZ m).sp.length:=by rw [W.sp];exact hcn
      have hj2:=(dP J1 g1 hcn).1
      rw [hfD,e0]
      simp [aK (co h1),aK (co h2)]
      refine ⟨aV (by decide +kernel),?_⟩
      refine av (fun g5=>?_) (fun g5=>?_)
      ·have hb : jE m i (c : Int)=true:=by
        simp only [jE,Bool.and_eq_true,decide_eq_true_eq,Int.toNat_natCast]
        exact ⟨c1,w1,w2,by simpa using g5⟩
       rw [hb] at hnx
       simp only [if_true,Int.toNat_natCast] at hnx
       simp [g5]
       refine ⟨by omega,hjl,bJ (tO hC.1 m.f.length (by omega) fj J1 i c g1 hcn) (by have:=hj2.len;simp;omega) ?_⟩
       simp
       exact ⟨j + 1,by omega,by omega,hw2,by rw [hnx]⟩
      ·simp [g5]
       exact fin (by simpa [jE,w1,w2] using g5)
  ·have e3 : j=3:=by omega
   subst e3
   simp
   exact ⟨i + 1,by omega,by omega,hw,by rw [hfj,hf0];rfl⟩
 ·have e : i=m.f.length:=by omega
  subst e
  rw [hfD,e0]
  simp
  refine ⟨by omega,?_⟩
  rw [<- e0,<- hfD]
  have hz : List.replicate m.f.length [D.int .i64 0]=inR (fP m 0):=by rw [rJ];simp [inR]
  rw [hz]
  refine aE (Nat × List Nat) (fun s=>[(3,.ref (.r 10048) 0 m.f.length),(4,.fn 330 [.ptr [fD]]),(9,.ref (.r 10144) 0 (cU m s.1).length),(10,.ref (.r 10160) 0 m.f.length),(79,.int .i64 m.f.length),(80,.int .i64 s.1),(10048,.blk 1 (nfR s.2)),(10144,.blk 1 (eZ (cU m s.1))),(10160,.blk 1 (inR (fP m s.1)))])
   (fun s=>s.1 <= m.f.length /\ Fo m.f.length s.2 /\ ∀ x,x < m.f.length -> ftF s.2 x=rtP m x) (fun s=>m.f.length - s.1) (0,foI m m.f.length) ⟨by simp,F1,fun _ _=>rfl⟩ (by simp [cU,stT,eZ]) ?_
  rintro ⟨i,f⟩ ⟨hi,K1,K2⟩
  simp only at hi K1 K2
  have hw : IntKind.wrap .i64 ((i : Int) + 1)=((i + 1 : Nat) : Int):=am (by omega) (by omega)
  have kl:=K1.len
  simp
  refine av (fun g1=>?_) (fun g1=>?_) <;> simp at g1 <;> simp [g1]
  ·refine ae (kw i g1) (.inl rfl) ?_
   simp
   refine av (fun g2=>?_) (fun g2=>?_)
   ·simp at g2
    simp [g2]
    exact ⟨i + 1,f,⟨by omega,K1,K2⟩,by omega,by rw [lP g2],hw,rfl,by rw [lP g2],by rw [mN (by simp [stB,g2])]⟩
   ·simp at g2
    obtain ⟨r,hr⟩ : ∃ r,r=rtP m i:=⟨_,rfl⟩
    obtain ⟨r1,r2⟩:=uv hv g1
    obtain ⟨r3,r4⟩:=wA hv g1
    have kr:=lX hC.1 m.f.length (by omega) f K1 i g1
    rw [K2 i g1,<- hr] at kr
    obtain ⟨L1,L2⟩:=eT K1 g1
    rw [<- hr] at r1 r2 r3 r4
    have hrs : stB m r=true:=by simp [stB,r3,g2,r2]
    simp [g2,kl]
    refine ⟨by omega,bJ kr (by have:=L1.len;simp;omega) ?_⟩
    simp
    refine av (fun g3=>?_) (fun g3=>?_) <;> simp at g3
    ·have g3' : r=i:=by omega
     subst g3'
     clear g3
     have hii : r < (inR (fP m r)).length:=by simp [lG];exact g1
     have hid : r < (fP m r).length:=by simpa using hii
     have hst:=tK g1 hrs
     have hon:=ud hv g1 hrs
     have hol:=fR m r
     have hle:=Bo m r
     have hid2 : r < (fP m (r + 1)).length:=by rw [lG];exact g1
     have hig:=oF (m:=m) (i:=r + 1) (r:=r) (by omega) (by omega) hrs
     have hmt:=md m hrs (r + 1) (by omega)
     have hw2 : (stT m r).length < (cU m (r + 1)).length:=by rw [fR];exact hmt.1
     have hpl : (eZ (cU m r)).length=(stT m r).length:=by simp [eZ,hol]
     have htk : List.take (stT m r).length (eZ (cU m r))=eZ (cU m r):=List.take_of_length_le (by omega)
     have hig2 : (inR (fP m (r + 1)))[r]? = some [.int .i64 ((stT m r).length : Nat)]:=by rw [co hid2,hig]
     have hrow : (eZ (cU m r)++[[D.nils]])[(stT m r).length]? = some [.nils]:=by rw [List.getElem?_append_right (by omega),hpl];simp
     have hset : (eZ (cU m r)++[[D.nils]]).set (stT m r).length [.own 1 [[.int .i64 (r : Int)]]]=eZ (cU m (r + 1)):=by
      rw [hon]
      unfold eZ
      rw [List.map_set,List.map_append,List.set_append_right _ _ (by simp [hol]),List.set_append_right _ _ (by simp [hol])]
      simp [nfR,hol]
     simp [g1,co hid,pN,hol,hst,htk,hpl,aI hig2]
     refine ⟨by omega,?_⟩
     simp [aI hrow,hrow]
     exact ⟨aV (by decide +kernel),r + 1,hlL f r,⟨by omega,L1,fun x hx=>by rw [L2 x hx,K2 x hx]⟩,by omega,by rw [fR];have:=fY m r;rw [if_pos hrs] at this;rw [this];simp,hw,rfl,hset,rfl⟩
    ·have hri : r < i:=by omega
     obtain ⟨l,hll,ho1,ho2⟩:=ue g2 hr.symm hri hrs
     have hol:=fR m i
     have hmt:=md m hrs i hri
     have hid : r < (fP m i).length:=by rw [lG];omega
     have hig:=oF (m:=m) (i:=i) (r:=r) hri (by omega) hrs
     have hig2 : (inR (fP m i))[r]? = some [.int .i64 ((stT m r).length : Nat)]:=by rw [co hid,hig]
     have hrow : (eZ (cU m i))[(stT m r).length]? = some [.own 1 (nfR l)]:=by unfold eZ;rw [List.getElem?_map,ho1];rfl
     have hset : (eZ (cU m i)).set (stT m r).length [.own 1 (nfR (l++[i]))]=eZ (cU m (i + 1)):=by
      rw [ho2]
      unfold eZ
      rw [List.map_set]
     have hrn : r < m.f.length:=by omega
     simp [g3,hrn,aI hig2]
     have hrl : (stT m r).length < (eZ (cU m i)).length:=by simp [eZ,hol];exact hmt.1
     have hrl2 : (stT m r).length < (cU m i).length:=by rw [hol];exact hmt.1
     have hgs : ∀ x,((eZ (cU m i)).set (stT m r).length x)[(stT m r).length]? = some x:=fun x=>List.getElem?_set_self hrl
     simp [aI hrow,hrow,hrl2]
     refine ⟨by omega,?_⟩
     simp [hgs]
     have hns : stB m i=false:=by simp [stB,<- hr];exact fun _ h=>g3 (by rw [h])
     have hso : (cU m i).length=(cU m (i + 1)).length:=by rw [fR,fR,fY,if_neg (by simp [hns])]
     refine ⟨?_,aV (by decide +kernel),i + 1,hlL f i,⟨by omega,L1,fun x hx=>by rw [L2 x hx,K2 x hx]⟩,by omega,hso,hw,rfl,by rw [qH];exact hset,by rw [mN hns]⟩
     rintro e (he | rfl) c hc
     ·exact pX _ _ he _ hc
     ·simp at hc;subst hc;rfl
  ·have e : i=m.f.length:=by omega
   subst e
   have hpl : (eZ (mY m)).length=(mY m).length:=by simp [eZ]
   exact ⟨by simp [eZ],by rw [show cU m m.f.length=mY m from rfl,wr];exact List.take_of_length_le (by simp [rX])⟩
end
end Go.Gv

namespace Go.Gv
def Q5 (m : Msh) (a b : Int) : Int:=if o8 m a b < 0 then 0 else gr (fun j=>decide (crn (fce m (o8 m a b).toNat) j=a) && decide (crn (fce m (o8 m a b).toNat) (j + 1)=b)) (List.range 3)
def acK (m : Msh) (i k : Nat) : Int:=Q5 m (crn (fce m i) (k + 1)) (crn (fce m i) k)
def nbT (m : Msh) (i : Nat) : List (List D):=(List.range i).map fun j=>[.int .i64 (nbF m j 0),.int .i64 (nbF m j 1),.int .i64 (nbF m j 2)]
@[simp] theorem OG (m : Msh) (i : Nat) : (nbT m i).length=i:=by simp [nbT]
@[simp] theorem I9 (m : Msh) (i : Nat) : List.take i (nbT m i)=nbT m i:=List.take_of_length_le (by simp)
@[simp] theorem QS (m : Msh) (i : Nat) : List.map (fun e=>List.map aT e) (nbT m i)=nbT m i:=by simp [nbT]
variable {C : CC} (hC : az prog C)
include hC
end Go.Gv

namespace Go.Gv
open Go.Lib
variable {C : CC} (hC : az prog C)
include hC
def nmD (x : Nat) : D:=.agg [.int .u64 ((x / 18446744073709551616 : Nat) : Int),.int .u64 ((x % 18446744073709551616 : Nat) : Int),.bool false]
end Go.Gv

namespace Go.Gv
variable {C : CC} (hC : az prog C)
include hC
end Go.Gv

namespace Go.Gv
def bdB (m : Msh) (i k : Nat) : Bool:=(List.range k).any fun c=>decide (nbF m i c < 0)
def ini (m : Msh) (i k : Nat) : Int:=if bdB m i k then -1 else -2
def qup (m : Msh) (i k : Nat) : Int:=if upF m i k < 0 then ini m i 3 else upF m i k
variable {C : CC} (hC : az prog C)
include hC
end Go.Gv

namespace Go.Gv
def exM (z : Int) : Msh:=⟨false,[⟨0,0,0⟩,⟨30,0,z⟩,⟨30,30,9⟩,⟨0,30,0⟩],false,[⟨0,1,2,0⟩,⟨0,2,3,0⟩]⟩
variable {C : CC} (hC : az prog C)
include hC
theorem tm (b b' : Bool) (xs ys : List Int) (hx : xs.length < 2 ^ 62) (hy : ys.length < 2 ^ 62) : C 19 [slx b (xs.map fun n=>[.int .i64 n]),slx b' (ys.map fun n=>[.int .i64 n])] (.bool (decide (xs=ys))) []:=by
 refine bp hC (nf:=N19) rfl rfl ?_
 simp [N19]
 refine av (fun h=>?_) (fun h=>?_) <;> simp at h <;> simp [h]
 ·rintro rfl;exact h rfl
 have h' : xs.length=ys.length:=by omega
 refine aE Nat (fun i=>[(0,slx b (xs.map fun n=>[.int .i64 n])),(1,slx b' (ys.map fun n=>[.int .i64 n])),(12,.int .i64 ys.length),(13,.int .i64 i)])
  (fun i=>i <= ys.length /\ ∀ k,k < i -> xs[k]? = ys[k]?) (fun i=>ys.length - i) 0 (by simp) (by simp) ?_
 rintro i ⟨hi,hok⟩
 simp
 refine av (fun h1=>?_) (fun h1=>?_) <;> simp at h1 <;> simp [h1]
 ·have hw : IntKind.wrap .i64 ((i : Int) + 1)=((i + 1 : Nat) : Int):=am (by omega) (by omega)
  have hx1 : i < xs.length:=by omega
  simp [h1,hx1]
  refine ⟨aV (by decide +kernel),?_⟩
  refine av (fun h2=>?_) (fun h2=>?_) <;> simp [h1,hx1] at h2 <;> simp [h1,hx1,h2,hw]
  ·rintro rfl
   exact h2 rfl
  ·refine ⟨i + 1,⟨by omega,fun k hk=>?_⟩,by omega,rfl⟩
   rcases Nat.lt_succ_iff_lt_or_eq.1 hk with h5 | rfl
   ·exact hok k h5
   ·rw [List.getElem?_eq_getElem h1,List.getElem?_eq_getElem hx1,h2]
 ·refine List.ext_getElem? fun k=>?_
  rcases Nat.lt_or_ge k i with h2 | h2
  ·exact hok k h2
  ·rw [List.getElem?_eq_none (by omega),List.getElem?_eq_none (by omega)]
end Go.Gv

namespace Go.Gv
variable {C : CC} (hC : az prog C)
include hC
end Go.Gv

namespace Go.Gv
variable {C : CC} (hC : az prog C)
include hC
end Go.Gv
