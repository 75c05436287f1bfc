/-
  Texts of the proof: H5, H6, H10, K4, K5, K6, K7, K8, M0, W1, W2, W3, H8, H7, H9, H11, H12, SK1, SK2, PH1, SK3p, S0, S3, SK3, PF1, PF2, V1, V2, V3, V4, PF3, PF4, I3, I1, I2, I4, H13, H14, H15, I5, I6, L10, L11, J29, L12, L15, L16, L19, RF1, SF1, PF5, SF2, RF2, PT1, PT2.
-/
import Derived.Test.YtelkdhkalifeiaaDoorX7
import Derived.Lib.Mul64
import Derived.Laws.Bits64b
import Derived.Laws.MathBits
set_option linter.all false
namespace Go.Gv
def nmR (l : List Nat) : List (List D):=l.map fun (k : Nat)=>[D.int .i64 k]
theorem d4 (l : List Nat) : nmR l=l.map fun (k : Nat)=>[D.int .i64 k]:=_root_.id rfl
theorem gS {p : Nat -> Bool} {n : Nat} (h : p n=true) : nmR (fil p n)++[[D.int .i64 n]]=nmR (fil p (n + 1)):=by
 rw [cy h];simp [nmR]
theorem d5 {p : Nat -> Bool} {n : Nat} (h : p n=false) : nmR (fil p n)=nmR (fil p (n + 1)):=by rw [oT h]
@[simp] theorem Nz (l : List Nat) : (nmR l).length=l.length:=by simp [nmR]
@[simp] theorem zM (l : List Nat) : (∀ e ∈ nmR l,∀ c ∈ e,au c=true)=True:=by simp [nmR]
@[simp] theorem Ig (l : List Nat) : List.take l.length (nmR l)=nmR l:=List.take_of_length_le (by simp)
@[simp] theorem Ny (l : List Nat) (x : List D) : (∀ e,e ∈ nmR l \/ e=x -> ∀ c,c ∈ e -> au c=true)=∀ c,c ∈ x -> au c=true:=by
 apply propext
 constructor
 ·exact fun h=>h x (.inr rfl)
 ·rintro h e (he | rfl)
  ·exact (zM l).mpr trivial e he
  ·exact h
@[simp] theorem NA : nmR []=[]:=rfl
def boR (l : List Bool) : List (List D):=l.map fun b=>[D.bool b]
theorem mK (l : List Bool) : boR l=l.map fun b=>[D.bool b]:=_root_.id rfl
@[simp] theorem Jg (l : List Bool) : (boR l).length=l.length:=by simp [boR]
@[simp] theorem Jf (l : List Bool) (i : Nat) (h : i < (boR l).length) : (boR l)[i]=[D.bool (l[i]'(by simpa using h))]:=by simp [boR]
@[simp] theorem Jh (l : List Bool) (i : Nat) (b : Bool) : (boR l).set i [D.bool b]=boR (l.set i b):=by simp [boR,List.map_set]
theorem qy (m : Msh) {i : Nat} (h : i < m.s.length) : (dV m i).set i (!bm (spt m i))=dV m (i + 1):=sK m h
theorem uR (m : Msh) {i : Nat} (h : i < m.s.length) (h' : i < (dV m (i + 1)).length) : (dV m (i + 1))[i]=!bm (spt m i):=by simp [dV,dO]
theorem sJ (m : Msh) : List.replicate m.s.length [D.bool false]=boR (dV m 0):=by rw [qz];simp [boR]
def wL (m : Msh) (i : Nat) : Env:=[(1,.ptr (cj m)),(4,.adr (.r 10064) 0 0),(10064,.blk 7 [[.own 1 [],.own 1 (nmR (fil (dO m) i)),.own 1 (nmR (fil (cR m) i)),.own 1 [],.own 1 [],.own 1 [],.own 1 []]]),(5,.adr (.r 10080) 0 0),(10080,.blk 1 [[.own 1 (boR (dV m i))]]),(6,.mrf 10464),(10464,.mp 4 1 (ia m i) (jz m i)),(31,slx m.sn (m.s.map kj)),(32,.int .i64 m.s.length),(33,.int .i64 i)]
theorem gc (m : Msh) (i : Nat) : wL m i=[(1,.ptr (cj m)),(4,.adr (.r 10064) 0 0),(10064,.blk 7 [[.own 1 [],.own 1 (nmR (fil (dO m) i)),.own 1 (nmR (fil (cR m) i)),.own 1 [],.own 1 [],.own 1 [],.own 1 []]]),(5,.adr (.r 10080) 0 0),(10080,.blk 1 [[.own 1 (boR (dV m i))]]),(6,.mrf 10464),(10464,.mp 4 1 (ia m i) (jz m i)),(31,slx m.sn (m.s.map kj)),(32,.int .i64 m.s.length),(33,.int .i64 i)]:=_root_.id rfl
def trR (m : Msh) (l : List Nat) : List (List D):=l.map fun k=>bY (aY m (fce m k))
theorem d9 (m : Msh) (l : List Nat) : trR m l=(l.map fun k=>aY m (fce m k)).map bY:=by simp [trR]
@[simp] theorem Od (m : Msh) (l : List Nat) : (trR m l).length=l.length:=by simp [trR]
@[simp] theorem IY (m : Msh) (l : List Nat) : List.take l.length (trR m l)=trR m l:=List.take_of_length_le (by simp)
@[simp] theorem PX (m : Msh) (l : List Nat) : List.map (fun e=>List.map aU e) (trR m l)=trR m l:=by simp [trR,bY]
@[simp] theorem Oe (m : Msh) : trR m []=[]:=rfl
theorem cV {m : Msh} {i : Nat} (h : aB m i=true) : trR m (fil (aB m) i)++[bY (aY m (fce m i))]=trR m (fil (aB m) (i + 1)):=by rw [cy h];simp [trR]
def sdK (f : Fce) : Nat -> List D
 | 0=>[]
 | j + 1=>.agg [.int .i64 (crn f j),.int .i64 (crn f (j + 1))]::sdK f j
theorem i5 (f : Fce) : ∀ j,(sdK f j).length=j
 | 0=>rfl
 | j + 1=>by simp [sdK,i5 f j]
def bP (m : Msh) : Nat -> List D
 | 0=>[]
 | i + 1=>if aB m i then sdK (fce m i) 3++bP m i else bP m i
def bS (m : Msh) : Nat -> List D
 | 0=>[]
 | i + 1=>if aB m i then List.replicate 3 (.bool true)++bS m i else bS m i
theorem cm (m : Msh) : ∀ i,(bP m i).length <= 3 * i
 | 0=>by simp [bP]
 | i + 1=>by
  have:=cm m i
  rw [bP]
  split <;> simp [i5] <;> omega
def gn (m : Msh) (i j : Nat) : Bool:=(List.range i).any fun k=>aB m k && (List.range 3).any fun j'=>mtc (fce m i) (fce m k) j j'
theorem wR (a b c d : Int) : eqD (.agg [.int .i64 a,.int .i64 b]) (.agg [.int .i64 c,.int .i64 d])=(decide (a=c) && decide (b=d)):=by
 simp [eqD,mM,mL]
theorem pG (m : Msh) (a b : Int) : ∀ i,(cJ (bP m i) (bS m i) (.agg [.int .i64 a,.int .i64 b])).getD (.bool false)=.bool ((List.range i).any fun k=>aB m k && (List.range 3).any fun j=>decide (a=crn (fce m k) j) && decide (b=crn (fce m k) (j + 1)))
 | 0=>rfl
 | i + 1=>by
  rw [bP,bS,List.range_succ,List.any_append]
  have h3 : List.range 3=[0,1,2]:=rfl
  by_cases h : aB m i=true
  ·rw [if_pos h,if_pos h]
   simp only [sdK,List.replicate,List.cons_append,List.nil_append,cJ,wR]
   have ih:=pG m a b i
   by_cases c0 : (decide (a=crn (fce m i) 2) && decide (b=crn (fce m i) (2 + 1)))=true
   ·rw [if_pos c0]
    simp only [List.any_cons,List.any_nil,h,h3,c0]
    simp
   ·rw [if_neg c0]
    by_cases c1 : (decide (a=crn (fce m i) 1) && decide (b=crn (fce m i) (1 + 1)))=true
    ·rw [if_pos c1]
     simp only [List.any_cons,List.any_nil,h,h3,c1]
     simp
    ·rw [if_neg c1]
     by_cases c2 : (decide (a=crn (fce m i) 0) && decide (b=crn (fce m i) (0 + 1)))=true
     ·rw [if_pos c2]
      simp only [List.any_cons,List.any_nil,h,h3,c2]
      simp
     ·rw [if_neg c2,ih]
      rw [Bool.not_eq_true] at c0 c1 c2
      simp only [List.any_cons,List.any_nil,h,h3,c0,c1,c2]
      simp
  ·rw [if_neg h,if_neg h,pG m a b i]
   simp [h]
theorem um {α : Type} (A p q r : α -> Bool) (l : List α) : (l.any fun k=>A k && (p k || (q k || r k)))=((l.any fun k=>A k && p k) || ((l.any fun k=>A k && q k) || (l.any fun k=>A k && r k))):=by
 induction l with
 | nil=>rfl
 | cons x l ih =>
  simp only [List.any_cons,ih]
  cases A x <;> cases p x <;> cases q x <;> cases r x <;> simp
theorem tJ {m : Msh} {i : Nat} (h : aB m i=true) : cr m i=(gn m i 0 || (gn m i 1 || gn m i 2)):=by
 unfold cr jF gn
 rw [h,Bool.true_and,<- um]
 have h3 : List.range 3=[0,1,2]:=rfl
 simp only [h3,List.any_cons,List.any_nil,Bool.or_false]
theorem oP {m : Msh} {f : Fce} (h : inS m f=true) (j : Nat) : 0 <= crn f j /\ crn f j < m.s.length:=by
 have:=mU h
 unfold crn
 split <;> omega
def nM (m : Msh) (i k : Nat) : Env:=[(1,.ptr (cj m)),(4,.adr (.r 10064) 0 0),(10064,.blk 7 [[.own 1 [],.own 1 (nmR (fil (dO m) m.s.length)),.own 1 (nmR (fil (cR m) m.s.length)),.own 1 (nmR (fil (eB m) i)),.own 1 (nmR (fil (dc m) i)),.own 1 (nmR (fil (cr m) (i + 1))),.own 1 (nmR (fil (a6 m) i))]]),(5,.adr (.r 10080) 0 0),(10080,.blk 1 [[.own 1 (boR (dV m m.s.length))]]),(10,.mrf 11104),(11104,.mp 3 1 (sdK (fce m i) k++bP m i) (List.replicate k (.bool true)++bS m i)),(11,.ref (.r 10176) 0 (fil (aB m) i).length),(10176,.blk 6 (trR m (fil (aB m) i))),(12,.int .i64 i),(13,.adr (.r 10208) 0 0),(10208,.blk 4 [cL (fce m i)]),(15,.adr (.r 10240) 0 0),(10240,.blk 6 [bY (aY m (fce m i))]),(71,slx m.fn (m.f.map cL)),(72,.int .i64 m.f.length),(73,.int .i64 i),(159,.int .i64 k)]
theorem fk (m : Msh) (i k : Nat) : nM m i k=[(1,.ptr (cj m)),(4,.adr (.r 10064) 0 0),(10064,.blk 7 [[.own 1 [],.own 1 (nmR (fil (dO m) m.s.length)),.own 1 (nmR (fil (cR m) m.s.length)),.own 1 (nmR (fil (eB m) i)),.own 1 (nmR (fil (dc m) i)),.own 1 (nmR (fil (cr m) (i + 1))),.own 1 (nmR (fil (a6 m) i))]]),(5,.adr (.r 10080) 0 0),(10080,.blk 1 [[.own 1 (boR (dV m m.s.length))]]),(10,.mrf 11104),(11104,.mp 3 1 (sdK (fce m i) k++bP m i) (List.replicate k (.bool true)++bS m i)),(11,.ref (.r 10176) 0 (fil (aB m) i).length),(10176,.blk 6 (trR m (fil (aB m) i))),(12,.int .i64 i),(13,.adr (.r 10208) 0 0),(10208,.blk 4 [cL (fce m i)]),(15,.adr (.r 10240) 0 0),(10240,.blk 6 [bY (aY m (fce m i))]),(71,slx m.fn (m.f.map cL)),(72,.int .i64 m.f.length),(73,.int .i64 i),(159,.int .i64 k)]:=_root_.id rfl
def fnR (l : List (Int × List UInt8)) : List (List D):=l.map fnD
@[simp] theorem JX (l : List (Int × List UInt8)) : (fnR l).length=l.length:=by simp [fnR]
@[simp] theorem fp (l : List (Int × List UInt8)) : List.take l.length (fnR l)=fnR l:=List.take_of_length_le (by simp)
@[simp] theorem O4 (l : List (Int × List UInt8)) : List.map (fun e=>List.map aU e) (fnR l)=fnR l:=by simp [fnR,fnD]
theorem gN (l : List (Int × List UInt8)) (k : Int) (s : List UInt8) : fnR l++[[.int .i64 k,.str s]]=fnR (l++[(k,s)]):=by simp [fnR,fnD]
@[simp] theorem JY : fnR []=[]:=rfl
def D5 (L1 L2 L3 L4 L5 L6 : List Nat) : D:=.agx [.ref (.n 10064 0 0) 0 0,.ref (.n 10064 0 1) 0 L1.length,.ref (.n 10064 0 2) 0 L2.length,.ref (.n 10064 0 3) 0 L3.length,.ref (.n 10064 0 4) 0 L4.length,.ref (.n 10064 0 5) 0 L5.length,.ref (.n 10064 0 6) 0 L6.length]
theorem aG (L1 L2 L3 L4 L5 L6 : List Nat) : D5 L1 L2 L3 L4 L5 L6=.agx [.ref (.n 10064 0 0) 0 0,.ref (.n 10064 0 1) 0 L1.length,.ref (.n 10064 0 2) 0 L2.length,.ref (.n 10064 0 3) 0 L3.length,.ref (.n 10064 0 4) 0 L4.length,.ref (.n 10064 0 5) 0 L5.length,.ref (.n 10064 0 6) 0 L6.length]:=_root_.id rfl
def Ef (L1 L2 L3 L4 L5 L6 : List Nat) : D:=.blk 7 [[.own 1 [],.own 1 (nmR L1),.own 1 (nmR L2),.own 1 (nmR L3),.own 1 (nmR L4),.own 1 (nmR L5),.own 1 (nmR L6)]]
theorem aS (L1 L2 L3 L4 L5 L6 : List Nat) : Ef L1 L2 L3 L4 L5 L6=.blk 7 [[.own 1 [],.own 1 (nmR L1),.own 1 (nmR L2),.own 1 (nmR L3),.own 1 (nmR L4),.own 1 (nmR L5),.own 1 (nmR L6)]]:=_root_.id rfl
theorem dQ (dec : Nat -> List UInt8) : ∀ (a b : List (List Nat)) (k : Nat),dC dec k (a++b)=dC dec k a++dC dec (k + a.length) b
 | [],b,k=>by simp [dC]
 | x::a,b,k=>by
  have:=dQ dec a b (k + 1)
  simp only [List.cons_append,dC,this,List.append_assoc,List.length_cons]
  rw [show k + 1 + a.length=k + (a.length + 1) by omega]
def tkD (dec : Nat -> List UInt8) (k : Int) (L : List Nat) (j : Nat) : List (Int × List UInt8):=(L.take j).map fun i=>(k,dec i)
theorem eN (dec : Nat -> List UInt8) (k : Int) (L : List Nat) : tkD dec k L 0=[]:=by simp [tkD]
theorem fH (dec : Nat -> List UInt8) (k : Int) (L : List Nat) {j : Nat} (h : j < L.length) : tkD dec k L (j + 1)=tkD dec k L j++[(k,dec L[j])]:=by
 unfold tkD
 rw [List.take_add_one,List.getElem?_eq_getElem h,List.map_append]
 rfl
theorem hD (dec : Nat -> List UInt8) (k : Int) (L : List Nat) {j : Nat} (h : j <= L.length) : (tkD dec k L j).length=j:=by simp [tkD];omega
theorem gZ (dec : Nat -> List UInt8) (k : Int) (L : List Nat) : tkD dec k L L.length=L.map fun i=>(k,dec i):=by simp [tkD]
def wM (m : Msh) (i : Nat) : Env:=[(1,.ptr (cj m)),(4,.adr (.r 10064) 0 0),(10064,.blk 7 [[.own 1 [],.own 1 (nmR (fil (dO m) m.s.length)),.own 1 (nmR (fil (cR m) m.s.length)),.own 1 (nmR (fil (eB m) i)),.own 1 (nmR (fil (dc m) i)),.own 1 (nmR (fil (cr m) i)),.own 1 (nmR (fil (a6 m) i))]]),(5,.adr (.r 10080) 0 0),(10080,.blk 1 [[.own 1 (boR (dV m m.s.length))]]),(10,.mrf 11104),(11104,.mp 3 1 (bP m i) (bS m i)),(11,.ref (.r 10176) 0 (fil (aB m) i).length),(10176,.blk 6 (trR m (fil (aB m) i))),(71,slx m.fn (m.f.map cL)),(72,.int .i64 m.f.length),(73,.int .i64 i)]
theorem cD (m : Msh) (i : Nat) : wM m i=[(1,.ptr (cj m)),(4,.adr (.r 10064) 0 0),(10064,.blk 7 [[.own 1 [],.own 1 (nmR (fil (dO m) m.s.length)),.own 1 (nmR (fil (cR m) m.s.length)),.own 1 (nmR (fil (eB m) i)),.own 1 (nmR (fil (dc m) i)),.own 1 (nmR (fil (cr m) i)),.own 1 (nmR (fil (a6 m) i))]]),(5,.adr (.r 10080) 0 0),(10080,.blk 1 [[.own 1 (boR (dV m m.s.length))]]),(10,.mrf 11104),(11104,.mp 3 1 (bP m i) (bS m i)),(11,.ref (.r 10176) 0 (fil (aB m) i).length),(10176,.blk 6 (trR m (fil (aB m) i))),(71,slx m.fn (m.f.map cL)),(72,.int .i64 m.f.length),(73,.int .i64 i)]:=_root_.id rfl
variable {C : CC} (hC : aE prog C)
include hC
set_option maxHeartbeats 4000000 in
theorem uj (dec : Nat -> List UInt8) (hI : ∀ n : Nat,n < 100 -> C 127 [.int .i64 n] (.str (dec n)) []) (m : Msh) (hs : m.s.length <= 100) (hf : m.f.length <= 100) : C 273 [.agg (cj m)] (.tup [.sl ((dC dec 0 (LL m)).map fnD),.int .i64 0]) []:=by
 have ksm:=od hC m
 rw [decide_eq_true (show m.s.length <= 2000 by omega),decide_eq_true (show m.f.length <= 4000 by omega)] at ksm
 have kr:=fun s=>s9 hC s
 have kp:=fun i h=>iP hC m i h
 refine bD hC (nf:=N273) rfl rfl ?_
 simp only [ai] at ksm
 simp [N273,ai]
 refine af ksm (.inl rfl) ?_
 simp
 refine ⟨by omega,?_⟩
 refine aF Nat (fun i=>wL m i) (fun i=>i <= m.s.length) (fun i=>m.s.length - i) 0 (by simp) (by simp [gc,ai,nQ,ia,jz,sJ]) ?_
 rintro i hi
 simp [gc,ai]
 refine av (fun g1=>?_) (fun g1=>?_) <;> simp at g1 <;> simp [g1]
 ·have hw : IntKind.wrap .i64 ((i : Int) + 1)=((i + 1 : Nat) : Int):=ao (by omega) (by omega)
  have kri:=kr (spt m i)
  simp only [ky] at kri
  simp [ky]
  refine af kri (.inl rfl) ?_
  simp [iI,g1]
  refine ⟨aT (by decide +kernel),?_⟩
  rw [qy m g1]
  rw [mK]
  simp [iI,g1,uR]
  have kpi:=kp i g1
  simp only [ai] at kpi
  have hr:=ng (s:=spt m i)
  cases hr1 : bm (spt m i)
  ·have e1:=gS (p:=dO m) (n:=i) (by simp [dO,hr1])
   have e2:=d5 (p:=cR m) (n:=i) (by simp [cR,hr1])
   have e3 : ia m (i + 1)=ia m i:=by simp [ia,hr1]
   have e4 : jz m (i + 1)=jz m i:=by simp [jz,hr1]
   simp [hw]
   refine ⟨by have:=aM (dO m) i;omega,i + 1,by omega,by omega,?_⟩
   simp [gc,ai,e1,<- e2,e3,e4,<- mK]
  ·have hp:=iv (hr hr1)
   have e2:=d5 (p:=dO m) (n:=i) (by simp [dO,hr1])
   have e3 : ia m (i + 1)=.agg (ptD (lG m i))::ia m i:=by simp [ia,hr1]
   have e4 : jz m (i + 1)=.bool true::jz m i:=by simp [jz,hr1]
   have kg:=pt m (lG m i) i
   have kl:=oo m i
   have hml : maxLen=9223372036854775807:=rfl
   simp [ai]
   refine af kpi (.inl rfl) ?_
   simp [ptD,ptS,lG] at kg hp
   simp [ptD,ptS,kg]
   refine ⟨⟨by omega,by omega⟩,?_⟩
   have hsame : ((List.range i).any fun k=>bm (spt m k) && (decide ((spt m k).x=(spt m i).x) && decide ((spt m k).y=(spt m i).y)))=cR m i:=by
    simp [cR,hr1,lG,ptS]
   rw [hsame]
   cases hs1 : cR m i
   ·have e1:=d5 (p:=cR m) (n:=i) hs1
    simp [hw]
    refine ⟨by omega,⟨by omega,by omega⟩,i + 1,by omega,by omega,?_⟩
    simp [gc,ai,<- e1,<- e2,e3,e4,<- mK,ptD,lG,ptS]
   ·have e1:=gS (p:=cR m) (n:=i) hs1
    simp [hw]
    refine ⟨by have:=aM (cR m) i;omega,by omega,⟨by omega,by omega⟩,i + 1,by omega,by omega,?_⟩
    simp [gc,ai,e1,<- e2,e3,e4,<- mK,ptD,lG,ptS]
 ·have hi2 : i=m.s.length:=by omega
  subst hi2
  refine aF Nat (fun i=>wM m i) (fun i=>i <= m.f.length) (fun i=>m.f.length - i) 0 (by simp) (by simp [cD,ai,nQ,bP,bS]) ?_
  clear hi g1 kr kp ksm
  rintro i hi
  simp [cD,ai]
  refine av (fun g1=>?_) (fun g1=>?_) <;> simp at g1 <;> simp [g1]
  ·have hw : IntKind.wrap .i64 ((i : Int) + 1)=((i + 1 : Nat) : Int):=ao (by omega) (by omega)
   have kc:=k9 hC (fce m i)
   have k1:=sV hC (b:=false) (xs:=[(fce m i).a,(fce m i).b,(fce m i).c]) (g:=306) (cs:=[.ptr (cj m),.ptr [.sl (boR (dV m m.s.length))]]) (fun k=>!(fy m.s.length k && bm (spt m k.toNat))) (by simp) (fun x _=>yb hC m x (by omega))
   simp only [ai,bq] at kc k1
   simp at k1
   simp [bq]
   refine af kc (.inl rfl) ?_
   simp [bK]
   obtain ⟨v,hv⟩ : ∃ v,v=(!fy m.s.length (fce m i).a || !bm (spt m (fce m i).a.toNat) || (!fy m.s.length (fce m i).b || !bm (spt m (fce m i).b.toNat) || (!fy m.s.length (fce m i).c || !bm (spt m (fce m i).c.toNat)))):=⟨_,rfl⟩
   rw [<- hv] at k1
   refine af k1 (.inl rfl) ?_
   have E : eB m i=!(okF m (fce m i)):=rfl
   have E2 : okF m (fce m i)=(okc m (fce m i).a (fce m i).b && okc m (fce m i).b (fce m i).c && okc m (fce m i).c (fce m i).a && decide (0 <= (fce m i).k) && decide ((fce m i).k < 16)):=rfl
   have E3 : ∀ a b : Int,okc m a b=(fy m.s.length a && decide (a ≠ b) && bm (spt m a.toNat)):=fun a b=>rfl
   have bad : eB m i=true -> nmR (fil (eB m) i)++[[D.int .i64 i]]=nmR (fil (eB m) (i + 1)) /\ nmR (fil (dc m) i)=nmR (fil (dc m) (i + 1)) /\ nmR (fil (cr m) i)=nmR (fil (cr m) (i + 1)) /\ nmR (fil (a6 m) i)=nmR (fil (a6 m) (i + 1)) /\ fil (aB m) (i + 1)=fil (aB m) i /\ bP m (i + 1)=bP m i /\ bS m (i + 1)=bS m i:=fun h=>by
    have h0 : okF m (fce m i)=false:=by rw [E] at h;simpa using h
    have h1 : aB m i=false:=by simp [aB,h0]
    exact ⟨gS h,d5 (by simp [dc,h0]),d5 (by simp [cr,h1]),d5 (by simp [a6,h1]),oT h1,by simp [bP,h1],by simp [bS,h1]⟩
   cases v
   rotate_left
   ·obtain ⟨e1,e2,e3,e4,e5,e6,e7⟩:=bad (by
     rw [E,E2,E3,E3,E3]
     revert hv
     cases fy m.s.length (fce m i).a <;> cases bm (spt m (fce m i).a.toNat) <;> cases fy m.s.length (fce m i).b <;> cases bm (spt m (fce m i).b.toNat) <;> cases fy m.s.length (fce m i).c <;> cases bm (spt m (fce m i).c.toNat) <;> simp)
    simp [hw]
    refine ⟨by have:=aM (eB m) i;omega,i + 1,by omega,by omega,?_⟩
    simp [cD,ai,e1,<- e2,<- e3,<- e4,e5,e6,e7]
   by_cases c1 : (fce m i).a=(fce m i).b
   ·obtain ⟨e1,e2,e3,e4,e5,e6,e7⟩:=bad (by
     rw [E,E2,E3,E3,E3]
     rw [decide_eq_false (show ¬ (fce m i).a ≠ (fce m i).b by omega)];simp)
    simp [c1,hw]
    refine ⟨by have:=aM (eB m) i;omega,i + 1,by omega,by omega,?_⟩
    simp [cD,ai,e1,<- e2,<- e3,<- e4,e5,e6,e7]
   by_cases c2 : (fce m i).b=(fce m i).c
   ·obtain ⟨e1,e2,e3,e4,e5,e6,e7⟩:=bad (by
     rw [E,E2,E3,E3,E3]
     rw [decide_eq_false (show ¬ (fce m i).b ≠ (fce m i).c by omega)];simp)
    simp [(show ¬ (fce m i).a=(fce m i).c by rw [<- c2];exact c1),c2,hw]
    refine ⟨by have:=aM (eB m) i;omega,i + 1,by omega,by omega,?_⟩
    simp [cD,ai,e1,<- e2,<- e3,<- e4,e5,e6,e7]
   by_cases c3 : (fce m i).c=(fce m i).a
   ·obtain ⟨e1,e2,e3,e4,e5,e6,e7⟩:=bad (by
     rw [E,E2,E3,E3,E3]
     rw [decide_eq_false (show ¬ (fce m i).c ≠ (fce m i).a by omega)];simp)
    simp [c1,c2,hw]
    refine av (fun _=>?_) (fun h=>by simp [c3] at h)
    simp [hw]
    refine ⟨by have:=aM (eB m) i;omega,i + 1,by omega,by omega,?_⟩
    simp [cD,ai,e1,<- e2,<- e3,<- e4,e5,e6,e7]
   have c3' : ¬ (fce m i).a=(fce m i).c:=fun h=>c3 h.symm
   by_cases c4 : (fce m i).k < 0
   ·obtain ⟨e1,e2,e3,e4,e5,e6,e7⟩:=bad (by
     rw [E,E2,E3,E3,E3]
     rw [decide_eq_false (show ¬ 0 <= (fce m i).k by omega)];simp)
    simp [c1,c2,c3,c3',c4,hw]
    refine ⟨by have:=aM (eB m) i;omega,i + 1,by omega,by omega,?_⟩
    simp [cD,ai,e1,<- e2,<- e3,<- e4,e5,e6,e7]
   by_cases c5 : 16 <= (fce m i).k
   ·obtain ⟨e1,e2,e3,e4,e5,e6,e7⟩:=bad (by
     rw [E,E2,E3,E3,E3]
     rw [decide_eq_false (show ¬ (fce m i).k < 16 by omega)];simp)
    simp [c1,c2,c3,c3',c4,c5,hw]
    refine ⟨by have:=aM (eB m) i;omega,i + 1,by omega,by omega,?_⟩
    simp [cD,ai,e1,<- e2,<- e3,<- e4,e5,e6,e7]
   have ok : okF m (fce m i)=true:=by
    rw [E2,E3,E3,E3]
    simp only [Bool.and_eq_true,decide_eq_true_eq]
    have h:=hv.symm
    simp only [Bool.or_eq_false_iff,Bool.not_eq_false'] at h
    exact ⟨⟨⟨⟨⟨⟨h.1.1,c1⟩,h.1.2⟩,⟨h.2.1.1,c2⟩,h.2.1.2⟩,⟨h.2.2.1,c3⟩,h.2.2.2⟩,by omega⟩,by omega⟩
   have nbad : eB m i=false:=by rw [E,ok];rfl
   have b1:=d5 nbad
   have hT:=cP ok
   have kt:=zJ hC m (fce m i) (ne ok)
   have kn : C 308 [.agg (ptD (aY m (fce m i)).1),.agg (ptD (aY m (fce m i)).2.1),.agg (ptD (aY m (fce m i)).2.2)] (.int .i64 (lK (aY m (fce m i)))) []:=by
    have h:=hT
    simp only [okT,Bool.and_eq_true] at h
    exact pW hC h.1.1 h.1.2 h.2
   have ks:=fun k h=>mX hC (fce m i) k h
   have ks0:=ks 0 (by omega)
   have ks1:=ks 1 (by omega)
   have ks2:=ks 2 (by omega)
   have kg:=fun j=>pG m (crn (fce m i) j) (crn (fce m i) (j + 1)) i
   have kg : ∀ j,(cJ (bP m i) (bS m i) (.agg [.int .i64 (crn (fce m i) j),.int .i64 (crn (fce m i) (j + 1))])).getD (.bool false)=.bool (gn m i j):=kg
   have kg0:=kg 0
   have kg1:=kg 1
   have kg2:=kg 2
   simp [c1,c2,c3,c3',c4,c5]
   simp only [ai,bq] at kt
   refine af kt (.inl rfl) ?_
   simp [bY]
   simp only [ptD] at kn
   refine af kn (.inl rfl) ?_
   simp
   refine av (fun d1=>?_) (fun d1=>?_) <;> simp at d1
   ·have hfl : dc m i=true:=by simp [dc,ok,d1]
    have hsn : aB m i=false:=by simp [aB,ok];omega
    have e1:=gS hfl
    have e2:=d5 (p:=cr m) (n:=i) (by simp [cr,hsn])
    have e3:=d5 (p:=a6 m) (n:=i) (by simp [a6,hsn])
    have e5:=oT hsn
    have e6 : bP m (i + 1)=bP m i:=by simp [bP,hsn]
    have e7 : bS m (i + 1)=bS m i:=by simp [bS,hsn]
    simp [d1,hw]
    refine ⟨by have:=aM (dc m) i;omega,i + 1,by omega,by omega,?_⟩
    simp [cD,ai,e1,<- e2,<- e3,<- b1,e5,e6,e7]
   ·have hfl : dc m i=false:=by simp [dc,ok];omega
    have hsn : aB m i=true:=by simp [aB,ok,d1]
    have b2:=d5 hfl
    have hsd:=tJ hsn
    simp only [bq] at ks ks0 ks1 ks2
    simp at ks0 ks1 ks2 kg0 kg1 kg2
    simp [Int.not_le.2 d1]
    refine af ks0 (.inl rfl) ?_
    simp [kg0]
    have cb:=fun j=>oP (ne ok) j
    have cb0:=cb 0
    have cb1:=cb 1
    have cb2:=cb 2
    have cb3:=cb 3
    refine ⟨⟨by omega,by omega⟩,?_⟩
    have yes : cr m i=true -> nmR (fil (cr m) i)++[[D.int .i64 i]]=nmR (fil (cr m) (i + 1)):=gS
    have nos : cr m i=false -> nmR (fil (cr m) i)=nmR (fil (cr m) (i + 1)):=d5
    have lsd:=aM (cr m) i
    have kT:=cw hC (b:=false) (xs:=(fil (aB m) i).map fun k=>aY m (fce m k)) (g:=310) (cs:=[.ptr (bY (aY m (fce m i)))]) (fun o=>ovT (aY m (fce m i)) o) (by have:=aM (aB m) i;simp;omega) (fun x hx=>by
     obtain ⟨k,hk,rfl⟩:=List.mem_map.1 hx
     have hk:=(dH hk).2
     simp only [aB,Bool.and_eq_true] at hk
     exact dU hC hT (cP hk.1))
    rw [<- d9,List.any_map] at kT
    have hov : (fil (aB m) i).any ((fun o=>ovT (aY m (fce m i)) o) ∘ fun k=>aY m (fce m k))=a6 m i:=by
     rw [fil,List.any_filter,a6,hsn]
     rfl
    rw [hov] at kT
    rw [ca] at kT
    have tl:=cm m i
    have hml : maxLen=9223372036854775807:=rfl
    have e5:=cV hsn
    have e6 : bP m (i + 1)=sdK (fce m i) 3++bP m i:=by simp [bP,hsn]
    have e7 : bS m (i + 1)=.bool true::.bool true::.bool true::bS m i:=by
     rw [bS,if_pos hsn];rfl
    have e8 : (fil (aB m) (i + 1)).length=(fil (aB m) i).length + 1:=by rw [cy hsn];simp
    have l8:=aM (aB m) i
    have lov:=aM (a6 m) i
    have kT:=cw hC (b:=false) (xs:=(fil (aB m) i).map fun k=>aY m (fce m k)) (g:=310) (cs:=[.ptr (bY (aY m (fce m i)))]) (fun o=>ovT (aY m (fce m i)) o) (by have:=aM (aB m) i;simp;omega) (fun x hx=>by
     obtain ⟨k,hk,rfl⟩:=List.mem_map.1 hx
     have hk:=(dH hk).2
     simp only [aB,Bool.and_eq_true] at hk
     exact dU hC hT (cP hk.1))
    rw [<- d9,List.any_map] at kT
    have hov : (fil (aB m) i).any ((fun o=>ovT (aY m (fce m i)) o) ∘ fun k=>aY m (fce m k))=a6 m i:=by
     rw [fil,List.any_filter,a6,hsn]
     rfl
    rw [hov] at kT
    rw [ca] at kT
    have tl:=cm m i
    have hml : maxLen=9223372036854775807:=rfl
    have e5:=cV hsn
    have e6 : bP m (i + 1)=sdK (fce m i) 3++bP m i:=by simp [bP,hsn]
    have e7 : bS m (i + 1)=.bool true::.bool true::.bool true::bS m i:=by
     rw [bS,if_pos hsn];rfl
    have e8 : (fil (aB m) (i + 1)).length=(fil (aB m) i).length + 1:=by rw [cy hsn];simp
    have l8:=aM (aB m) i
    have lov:=aM (a6 m) i
    have kT:=cw hC (b:=false) (xs:=(fil (aB m) i).map fun k=>aY m (fce m k)) (g:=310) (cs:=[.ptr (bY (aY m (fce m i)))]) (fun o=>ovT (aY m (fce m i)) o) (by have:=aM (aB m) i;simp;omega) (fun x hx=>by
     obtain ⟨k,hk,rfl⟩:=List.mem_map.1 hx
     have hk:=(dH hk).2
     simp only [aB,Bool.and_eq_true] at hk
     exact dU hC hT (cP hk.1))
    rw [<- d9,List.any_map] at kT
    have hov : (fil (aB m) i).any ((fun o=>ovT (aY m (fce m i)) o) ∘ fun k=>aY m (fce m k))=a6 m i:=by
     rw [fil,List.any_filter,a6,hsn]
     rfl
    rw [hov] at kT
    rw [ca] at kT
    have tl:=cm m i
    have hml : maxLen=9223372036854775807:=rfl
    have e5:=cV hsn
    have e6 : bP m (i + 1)=sdK (fce m i) 3++bP m i:=by simp [bP,hsn]
    have e7 : bS m (i + 1)=.bool true::.bool true::.bool true::bS m i:=by
     rw [bS,if_pos hsn];rfl
    have e8 : (fil (aB m) (i + 1)).length=(fil (aB m) i).length + 1:=by rw [cy hsn];simp
    have l8:=aM (aB m) i
    have lov:=aM (a6 m) i
    have kT:=cw hC (b:=false) (xs:=(fil (aB m) i).map fun k=>aY m (fce m k)) (g:=310) (cs:=[.ptr (bY (aY m (fce m i)))]) (fun o=>ovT (aY m (fce m i)) o) (by have:=aM (aB m) i;simp;omega) (fun x hx=>by
     obtain ⟨k,hk,rfl⟩:=List.mem_map.1 hx
     have hk:=(dH hk).2
     simp only [aB,Bool.and_eq_true] at hk
     exact dU hC hT (cP hk.1))
    rw [<- d9,List.any_map] at kT
    have hov : (fil (aB m) i).any ((fun o=>ovT (aY m (fce m i)) o) ∘ fun k=>aY m (fce m k))=a6 m i:=by
     rw [fil,List.any_filter,a6,hsn]
     rfl
    rw [hov] at kT
    rw [ca] at kT
    have tl:=cm m i
    have hml : maxLen=9223372036854775807:=rfl
    have e5:=cV hsn
    have e6 : bP m (i + 1)=sdK (fce m i) 3++bP m i:=by simp [bP,hsn]
    have e7 : bS m (i + 1)=.bool true::.bool true::.bool true::bS m i:=by
     rw [bS,if_pos hsn];rfl
    have e8 : (fil (aB m) (i + 1)).length=(fil (aB m) i).length + 1:=by rw [cy hsn];simp
    have l8:=aM (aB m) i
    have lov:=aM (a6 m) i
    have kT:=cw hC (b:=false) (xs:=(fil (aB m) i).map fun k=>aY m (fce m k)) (g:=310) (cs:=[.ptr (bY (aY m (fce m i)))]) (fun o=>ovT (aY m (fce m i)) o) (by have:=aM (aB m) i;simp;omega) (fun x hx=>by
     obtain ⟨k,hk,rfl⟩:=List.mem_map.1 hx
     have hk:=(dH hk).2
     simp only [aB,Bool.and_eq_true] at hk
     exact dU hC hT (cP hk.1))
    rw [<- d9,List.any_map] at kT
    have hov : (fil (aB m) i).any ((fun o=>ovT (aY m (fce m i)) o) ∘ fun k=>aY m (fce m k))=a6 m i:=by
     rw [fil,List.any_filter,a6,hsn]
     rfl
    rw [hov] at kT
    rw [ca] at kT
    have tl:=cm m i
    have hml : maxLen=9223372036854775807:=rfl
    have e5:=cV hsn
    have e6 : bP m (i + 1)=sdK (fce m i) 3++bP m i:=by simp [bP,hsn]
    have e7 : bS m (i + 1)=.bool true::.bool true::.bool true::bS m i:=by
     rw [bS,if_pos hsn];rfl
    have e8 : (fil (aB m) (i + 1)).length=(fil (aB m) i).length + 1:=by rw [cy hsn];simp
    have l8:=aM (aB m) i
    have lov:=aM (a6 m) i
    have kT:=cw hC (b:=false) (xs:=(fil (aB m) i).map fun k=>aY m (fce m k)) (g:=310) (cs:=[.ptr (bY (aY m (fce m i)))]) (fun o=>ovT (aY m (fce m i)) o) (by have:=aM (aB m) i;simp;omega) (fun x hx=>by
     obtain ⟨k,hk,rfl⟩:=List.mem_map.1 hx
     have hk:=(dH hk).2
     simp only [aB,Bool.and_eq_true] at hk
     exact dU hC hT (cP hk.1))
    rw [<- d9,List.any_map] at kT
    have hov : (fil (aB m) i).any ((fun o=>ovT (aY m (fce m i)) o) ∘ fun k=>aY m (fce m k))=a6 m i:=by
     rw [fil,List.any_filter,a6,hsn]
     rfl
    rw [hov] at kT
    rw [ca] at kT
    have tl:=cm m i
    have hml : maxLen=9223372036854775807:=rfl
    have e5:=cV hsn
    have e6 : bP m (i + 1)=sdK (fce m i) 3++bP m i:=by simp [bP,hsn]
    have e7 : bS m (i + 1)=.bool true::.bool true::.bool true::bS m i:=by
     rw [bS,if_pos hsn];rfl
    have e8 : (fil (aB m) (i + 1)).length=(fil (aB m) i).length + 1:=by rw [cy hsn];simp
    have l8:=aM (aB m) i
    have lov:=aM (a6 m) i
    have kT:=cw hC (b:=false) (xs:=(fil (aB m) i).map fun k=>aY m (fce m k)) (g:=310) (cs:=[.ptr (bY (aY m (fce m i)))]) (fun o=>ovT (aY m (fce m i)) o) (by have:=aM (aB m) i;simp;omega) (fun x hx=>by
     obtain ⟨k,hk,rfl⟩:=List.mem_map.1 hx
     have hk:=(dH hk).2
     simp only [aB,Bool.and_eq_true] at hk
     exact dU hC hT (cP hk.1))
    rw [<- d9,List.any_map] at kT
    have hov : (fil (aB m) i).any ((fun o=>ovT (aY m (fce m i)) o) ∘ fun k=>aY m (fce m k))=a6 m i:=by
     rw [fil,List.any_filter,a6,hsn]
     rfl
    rw [hov] at kT
    rw [ca] at kT
    have tl:=cm m i
    have hml : maxLen=9223372036854775807:=rfl
    have e5:=cV hsn
    have e6 : bP m (i + 1)=sdK (fce m i) 3++bP m i:=by simp [bP,hsn]
    have e7 : bS m (i + 1)=.bool true::.bool true::.bool true::bS m i:=by
     rw [bS,if_pos hsn];rfl
    have e8 : (fil (aB m) (i + 1)).length=(fil (aB m) i).length + 1:=by rw [cy hsn];simp
    have l8:=aM (aB m) i
    have lov:=aM (a6 m) i
    have kT:=cw hC (b:=false) (xs:=(fil (aB m) i).map fun k=>aY m (fce m k)) (g:=310) (cs:=[.ptr (bY (aY m (fce m i)))]) (fun o=>ovT (aY m (fce m i)) o) (by have:=aM (aB m) i;simp;omega) (fun x hx=>by
     obtain ⟨k,hk,rfl⟩:=List.mem_map.1 hx
     have hk:=(dH hk).2
     simp only [aB,Bool.and_eq_true] at hk
     exact dU hC hT (cP hk.1))
    rw [<- d9,List.any_map] at kT
    have hov : (fil (aB m) i).any ((fun o=>ovT (aY m (fce m i)) o) ∘ fun k=>aY m (fce m k))=a6 m i:=by
     rw [fil,List.any_filter,a6,hsn]
     rfl
    rw [hov] at kT
    rw [ca] at kT
    have tl:=cm m i
    have hml : maxLen=9223372036854775807:=rfl
    have e5:=cV hsn
    have e6 : bP m (i + 1)=sdK (fce m i) 3++bP m i:=by simp [bP,hsn]
    have e7 : bS m (i + 1)=.bool true::.bool true::.bool true::bS m i:=by
     rw [bS,if_pos hsn];rfl
    have e8 : (fil (aB m) (i + 1)).length=(fil (aB m) i).length + 1:=by rw [cy hsn];simp
    have l8:=aM (aB m) i
    have lov:=aM (a6 m) i
    have kT:=cw hC (b:=false) (xs:=(fil (aB m) i).map fun k=>aY m (fce m k)) (g:=310) (cs:=[.ptr (bY (aY m (fce m i)))]) (fun o=>ovT (aY m (fce m i)) o) (by have:=aM (aB m) i;simp;omega) (fun x hx=>by
     obtain ⟨k,hk,rfl⟩:=List.mem_map.1 hx
     have hk:=(dH hk).2
     simp only [aB,Bool.and_eq_true] at hk
     exact dU hC hT (cP hk.1))
    rw [<- d9,List.any_map] at kT
    have hov : (fil (aB m) i).any ((fun o=>ovT (aY m (fce m i)) o) ∘ fun k=>aY m (fce m k))=a6 m i:=by
     rw [fil,List.any_filter,a6,hsn]
     rfl
    rw [hov] at kT
    rw [ca] at kT
    have tl:=cm m i
    have hml : maxLen=9223372036854775807:=rfl
    have e5:=cV hsn
    have e6 : bP m (i + 1)=sdK (fce m i) 3++bP m i:=by simp [bP,hsn]
    have e7 : bS m (i + 1)=.bool true::.bool true::.bool true::bS m i:=by
     rw [bS,if_pos hsn];rfl
    have e8 : (fil (aB m) (i + 1)).length=(fil (aB m) i).length + 1:=by rw [cy hsn];simp
    have l8:=aM (aB m) i
    have lov:=aM (a6 m) i
    have kT:=cw hC (b:=false) (xs:=(fil (aB m) i).map fun k=>aY m (fce m k)) (g:=310) (cs:=[.ptr (bY (aY m (fce m i)))]) (fun o=>ovT (aY m (fce m i)) o) (by have:=aM (aB m) i;simp;omega) (fun x hx=>by
     obtain ⟨k,hk,rfl⟩:=List.mem_map.1 hx
     have hk:=(dH hk).2
     simp only [aB,Bool.and_eq_true] at hk
     exact dU hC hT (cP hk.1))
    rw [<- d9,List.any_map] at kT
    have hov : (fil (aB m) i).any ((fun o=>ovT (aY m (fce m i)) o) ∘ fun k=>aY m (fce m k))=a6 m i:=by
     rw [fil,List.any_filter,a6,hsn]
     rfl
    rw [hov] at kT
    rw [ca] at kT
    have tl:=cm m i
    have hml : maxLen=9223372036854775807:=rfl
    have e5:=cV hsn
    have e6 : bP m (i + 1)=sdK (fce m i) 3++bP m i:=by simp [bP,hsn]
    have e7 : bS m (i + 1)=.bool true::.bool true::.bool true::bS m i:=by
     rw [bS,if_pos hsn];rfl
    have e8 : (fil (aB m) (i + 1)).length=(fil (aB m) i).length + 1:=by rw [cy hsn];simp
    have l8:=aM (aB m) i
    have lov:=aM (a6 m) i
    have kT:=cw hC (b:=false) (xs:=(fil (aB m) i).map fun k=>aY m (fce m k)) (g:=310) (cs:=[.ptr (bY (aY m (fce m i)))]) (fun o=>ovT (aY m (fce m i)) o) (by have:=aM (aB m) i;simp;omega) (fun x hx=>by
     obtain ⟨k,hk,rfl⟩:=List.mem_map.1 hx
     have hk:=(dH hk).2
     simp only [aB,Bool.and_eq_true] at hk
     exact dU hC hT (cP hk.1))
    rw [<- d9,List.any_map] at kT
    have hov : (fil (aB m) i).any ((fun o=>ovT (aY m (fce m i)) o) ∘ fun k=>aY m (fce m k))=a6 m i:=by
     rw [fil,List.any_filter,a6,hsn]
     rfl
    rw [hov] at kT
    rw [ca] at kT
    have tl:=cm m i
    have hml : maxLen=9223372036854775807:=rfl
    have e5:=cV hsn
    have e6 : bP m (i + 1)=sdK (fce m i) 3++bP m i:=by simp [bP,hsn]
    have e7 : bS m (i + 1)=.bool true::.bool true::.bool true::bS m i:=by
     rw [bS,if_pos hsn];rfl
    have e8 : (fil (aB m) (i + 1)).length=(fil (aB m) i).length + 1:=by rw [cy hsn];simp
    have l8:=aM (aB m) i
    have lov:=aM (a6 m) i
    have kT:=cw hC (b:=false) (xs:=(fil (aB m) i).map fun k=>aY m (fce m k)) (g:=310) (cs:=[.ptr (bY (aY m (fce m i)))]) (fun o=>ovT (aY m (fce m i)) o) (by have:=aM (aB m) i;simp;omega) (fun x hx=>by
     obtain ⟨k,hk,rfl⟩:=List.mem_map.1 hx
     have hk:=(dH hk).2
     simp only [aB,Bool.and_eq_true] at hk
     exact dU hC hT (cP hk.1))
    rw [<- d9,List.any_map] at kT
    have hov : (fil (aB m) i).any ((fun o=>ovT (aY m (fce m i)) o) ∘ fun k=>aY m (fce m k))=a6 m i:=by
     rw [fil,List.any_filter,a6,hsn]
     rfl
    rw [hov] at kT
    rw [ca] at kT
    have tl:=cm m i
    have hml : maxLen=9223372036854775807:=rfl
    have e5:=cV hsn
    have e6 : bP m (i + 1)=sdK (fce m i) 3++bP m i:=by simp [bP,hsn]
    have e7 : bS m (i + 1)=.bool true::.bool true::.bool true::bS m i:=by
     rw [bS,if_pos hsn];rfl
    have e8 : (fil (aB m) (i + 1)).length=(fil (aB m) i).length + 1:=by rw [cy hsn];simp
    have l8:=aM (aB m) i
    have lov:=aM (a6 m) i
    rcases (by cases gn m i 0 <;> cases gn m i 1 <;> cases gn m i 2 <;> simp : gn m i 0=true \/ (gn m i 0=false /\ gn m i 1=true) \/ (gn m i 0=false /\ gn m i 1=false /\ gn m i 2=true) \/ (gn m i 0=false /\ gn m i 1=false /\ gn m i 2=false)) with h0 | ⟨h0,h1⟩ | ⟨h0,h1,h2⟩ | ⟨h0,h1,h2⟩
    have y:=yes (by rw [hsd,h0];rfl)
    simp [h0]
    refine ⟨by omega,?_⟩
    rw [y]
    refine aF Nat (fun k=>nM m i k) (fun k=>k <= 3) (fun k=>3 - k) 0 (by simp) (by simp [fk,ai,bq,bY,sdK]) ?_
    rotate_left
    have y:=yes (by rw [hsd,h0,h1];rfl)
    simp [h0]
    refine af ks1 (.inl rfl) ?_
    simp [kg1,h1]
    refine ⟨⟨by omega,by omega⟩,by omega,?_⟩
    rw [y]
    refine aF Nat (fun k=>nM m i k) (fun k=>k <= 3) (fun k=>3 - k) 0 (by simp) (by simp [fk,ai,bq,bY,sdK]) ?_
    rotate_left
    have y:=yes (by rw [hsd,h0,h1,h2];rfl)
    simp [h0]
    refine af ks1 (.inl rfl) ?_
    simp [kg1,h1]
    refine ⟨⟨by omega,by omega⟩,?_⟩
    refine af ks2 (.inl rfl) ?_
    simp [kg2,h2]
    refine ⟨⟨by omega,by omega⟩,by omega,?_⟩
    rw [y]
    refine aF Nat (fun k=>nM m i k) (fun k=>k <= 3) (fun k=>3 - k) 0 (by simp) (by simp [fk,ai,bq,bY,sdK]) ?_
    rotate_left
    have y:=nos (by rw [hsd,h0,h1,h2];rfl)
    simp [h0]
    refine af ks1 (.inl rfl) ?_
    simp [kg1,h1]
    refine ⟨⟨by omega,by omega⟩,?_⟩
    refine af ks2 (.inl rfl) ?_
    simp [kg2,h2]
    refine ⟨⟨by omega,by omega⟩,?_⟩
    rw [y]
    refine aF Nat (fun k=>nM m i k) (fun k=>k <= 3) (fun k=>3 - k) 0 (by simp) (by simp [fk,ai,bq,bY,sdK]) ?_
    rotate_left
    all_goals
     clear y
     rintro k hk
     simp [fk,ai,bq,bY]
     refine av (fun g2=>?_) (fun g2=>?_) <;> simp at g2 <;> simp [g2]
     ·have hw2 : IntKind.wrap .i64 ((k : Int) + 1)=((k + 1 : Nat) : Int):=ao (by omega) (by omega)
      have ck:=cb k
      have ck1:=cb (k + 1)
      refine af (ks k (by omega)) (.inl rfl) ?_
      simp [hw2,i5]
      refine ⟨by omega,⟨⟨by omega,by omega⟩,by omega,by omega⟩,k + 1,by omega,by omega,?_⟩
      simp [fk,ai,bq,bY,sdK,List.replicate_succ]
     ·have hk3 : k=3:=by omega
      subst hk3
      simp only [bY] at kT
      simp
      refine af kT (.inl rfl) ?_
      simp
      simp only [bY] at e5
      cases hov2 : a6 m i
      ·have e9:=d5 hov2
       simp [hw]
       refine ⟨by omega,i + 1,by omega,by omega,?_⟩
       simp [cD,ai,<- b1,<- b2,<- e9,e5,e6,e7,e8]
      ·have e9:=gS hov2
       simp [hw]
       refine ⟨by omega,by omega,i + 1,by omega,by omega,?_⟩
       simp [cD,ai,<- b1,<- b2,e9,e5,e6,e7,e8]
  ·have hi2 : i=m.f.length:=by omega
   subst hi2
   have bd : ∀ (p : Nat -> Bool) (n : Nat),n <= 100 -> (fil p n).length <= 100 /\ ∀ x ∈ fil p n,x < 100:=fun p n hn=>⟨by have:=aM p n;omega,fun x hx=>by have:=(dH hx).1;omega⟩
   have q1:=bd (dO m) _ hs
   have q2:=bd (cR m) _ hs
   have q3:=bd (eB m) _ hf
   have q4:=bd (dc m) _ hf
   have q5:=bd (cr m) _ hf
   have q6:=bd (a6 m) _ hf
   have hLL : LL m=[[],fil (dO m) m.s.length,fil (cR m) m.s.length,fil (eB m) m.f.length,fil (dc m) m.f.length,fil (cr m) m.f.length,fil (a6 m) m.f.length]:=rfl
   rw [hLL]
   clear hLL bd
   generalize fil (dO m) m.s.length=L1 at *
   generalize fil (cR m) m.s.length=L2 at *
   generalize fil (eB m) m.f.length=L3 at *
   generalize fil (dc m) m.f.length=L4 at *
   generalize fil (cr m) m.f.length=L5 at *
   generalize fil (a6 m) m.f.length=L6 at *
   obtain ⟨AG,hAG⟩ : ∃ x,x=D5 L1 L2 L3 L4 L5 L6:=⟨_,rfl⟩
   obtain ⟨BK,hBK⟩ : ∃ x,x=Ef L1 L2 L3 L4 L5 L6:=⟨_,rfl⟩
   obtain ⟨U,hU⟩ : ∃ U : Nat -> List (Int × List UInt8),U=fun k=>dC dec 0 (([([] : List Nat),L1,L2,L3,L4,L5,L6]).take k):=⟨_,rfl⟩
   have hU7 : U 7=dC dec 0 [[],L1,L2,L3,L4,L5,L6]:=by rw [hU];rfl
   have hU0 : U 0=[]:=by rw [hU];rfl
   have bdU : ∀ k (L : List Nat),L.length <= 100 -> (U k).length <= 100 * k -> (U k++L.map fun i=>((k : Int),dec i)).length <= 100 * (k + 1):=fun k L h1 h2=>by simp;omega
   have hU0s : U 1=U 0++(([] : List Nat)).map fun i=>((0 : Int),dec i):=by
    rw [hU];show dC dec 0 (([([] : List Nat),L1,L2,L3,L4,L5,L6]).take 0++[([] : List Nat)])=_
    rw [dQ];simp [dC]
   have hU1s : U 2=U 1++(L1).map fun i=>((1 : Int),dec i):=by
    rw [hU];show dC dec 0 (([([] : List Nat),L1,L2,L3,L4,L5,L6]).take 1++[L1])=_
    rw [dQ];simp [dC]
   have hU2s : U 3=U 2++(L2).map fun i=>((2 : Int),dec i):=by
    rw [hU];show dC dec 0 (([([] : List Nat),L1,L2,L3,L4,L5,L6]).take 2++[L2])=_
    rw [dQ];simp [dC]
   have hU3s : U 4=U 3++(L3).map fun i=>((3 : Int),dec i):=by
    rw [hU];show dC dec 0 (([([] : List Nat),L1,L2,L3,L4,L5,L6]).take 3++[L3])=_
    rw [dQ];simp [dC]
   have hU4s : U 5=U 4++(L4).map fun i=>((4 : Int),dec i):=by
    rw [hU];show dC dec 0 (([([] : List Nat),L1,L2,L3,L4,L5,L6]).take 4++[L4])=_
    rw [dQ];simp [dC]
   have hU5s : U 6=U 5++(L5).map fun i=>((5 : Int),dec i):=by
    rw [hU];show dC dec 0 (([([] : List Nat),L1,L2,L3,L4,L5,L6]).take 5++[L5])=_
    rw [dQ];simp [dC]
   have hU6s : U 7=U 6++(L6).map fun i=>((6 : Int),dec i):=by
    rw [hU];show dC dec 0 (([([] : List Nat),L1,L2,L3,L4,L5,L6]).take 6++[L6])=_
    rw [dQ];simp [dC]
   have lU0 : (U 0).length <= 0:=by rw [hU0];simp
   have lU1 : (U 1).length <= 100:=by rw [hU0s];simp;omega
   have lU2 : (U 2).length <= 200:=by rw [hU1s];simp;omega
   have lU3 : (U 3).length <= 300:=by rw [hU2s];simp;omega
   have lU4 : (U 4).length <= 400:=by rw [hU3s];simp;omega
   have lU5 : (U 5).length <= 500:=by rw [hU4s];simp;omega
   have lU6 : (U 6).length <= 600:=by rw [hU5s];simp;omega
   rw [<- hU7]
   refine aF Nat (fun k=>[(17,.ref (.r 10272) 0 (U k).length),(10272,.blk 2 (fnR (U k))),(181,AG),(182,.int .i64 k),(10064,BK)]) (fun k=>k <= 7) (fun k=>7 - k) 0 (by simp) (by simp [hU0,hAG,hBK,aG,aS]) ?_
   rintro k hk
   rcases (by omega : k=0 \/ k=1 \/ k=2 \/ k=3 \/ k=4 \/ k=5 \/ k=6 \/ k=7) with rfl | rfl | rfl | rfl | rfl | rfl | rfl | rfl
   ·simp [hAG,aG]
    refine aF Nat (fun j=>[(17,.ref (.r 10272) 0 ((U 0).length + j)),(10272,.blk 2 (fnR (U 0++tkD dec 0 ([] : List Nat) j))),(18,.int .i64 0),(181,AG),(182,.int .i64 0),(186,.ref (.n 10064 0 0) 0 (([] : List Nat)).length),(187,.int .i64 (([] : List Nat)).length),(188,.int .i64 j),(10064,BK)]) (fun j=>j <= (([] : List Nat)).length) (fun j=>(([] : List Nat)).length - j) 0 (by simp) (by simp [hAG,hBK,aG,aS,eN]) ?_
    rintro j hj
    simp [hAG,hBK,aG,aS]
    have hj0 : j=0:=by simpa using hj
    subst hj0
    simp [dj,hAG,hBK,aG,aS]
    refine ⟨1,by omega,by omega,?_⟩
    rw [hU0s]
    simp [tkD]
   ·simp [hAG,aG]
    refine aF Nat (fun j=>[(17,.ref (.r 10272) 0 ((U 1).length + j)),(10272,.blk 2 (fnR (U 1++tkD dec 1 L1 j))),(18,.int .i64 1),(181,AG),(182,.int .i64 1),(186,.ref (.n 10064 0 1) 0 (L1).length),(187,.int .i64 (L1).length),(188,.int .i64 j),(10064,BK)]) (fun j=>j <= (L1).length) (fun j=>(L1).length - j) 0 (by simp) (by simp [hAG,hBK,aG,aS,eN]) ?_
    rintro j hj
    simp [hAG,hBK,aG,aS]
    refine av (fun g3=>?_) (fun g3=>?_) <;> simp at g3 <;> simp [g3,hAG,hBK,aG,aS]
    ·have hj2 : j < L1.length:=by omega
     have hw3 : IntKind.wrap .i64 ((j : Int) + 1)=((j + 1 : Nat) : Int):=ao (by omega) (by omega)
     have hi:=hI (L1[j]) (q1.2 _ (List.getElem_mem hj2))
     have ht:=fH dec 1 L1 hj2
     have hl:=hD dec 1 L1 (Nat.le_of_lt hj2)
     rw [d4 L1]
     try simp [hj2]
     refine af hi (.inl rfl) ?_
     simp
     refine ⟨by omega,by omega,j + 1,by omega,by omega,by omega,?_,?_,hw3,?_⟩
     ·have e : (U 1).length + j=(U 1++tkD dec 1 L1 j).length:=by simp [hl]
      rw [e,fp,gN,ht,List.append_assoc]
     ·rw [hAG,aG]
     ·rw [hBK,aS];simp only [d4]
    ·have hj2 : j=L1.length:=by omega
     subst hj2
     refine ⟨2,by omega,by omega,?_⟩
     rw [hU1s,gZ]
     simp [hAG,hBK,aG,aS]
     decide
   ·simp [hAG,aG]
    refine aF Nat (fun j=>[(17,.ref (.r 10272) 0 ((U 2).length + j)),(10272,.blk 2 (fnR (U 2++tkD dec 2 L2 j))),(18,.int .i64 2),(181,AG),(182,.int .i64 2),(186,.ref (.n 10064 0 2) 0 (L2).length),(187,.int .i64 (L2).length),(188,.int .i64 j),(10064,BK)]) (fun j=>j <= (L2).length) (fun j=>(L2).length - j) 0 (by simp) (by simp [hAG,hBK,aG,aS,eN]) ?_
    rintro j hj
    simp [hAG,hBK,aG,aS]
    refine av (fun g3=>?_) (fun g3=>?_) <;> simp at g3 <;> simp [g3,hAG,hBK,aG,aS]
    ·have hj2 : j < L2.length:=by omega
     have hw3 : IntKind.wrap .i64 ((j : Int) + 1)=((j + 1 : Nat) : Int):=ao (by omega) (by omega)
     have hi:=hI (L2[j]) (q2.2 _ (List.getElem_mem hj2))
     have ht:=fH dec 2 L2 hj2
     have hl:=hD dec 2 L2 (Nat.le_of_lt hj2)
     rw [d4 L2]
     try simp [hj2]
     refine af hi (.inl rfl) ?_
     simp
     refine ⟨by omega,by omega,j + 1,by omega,by omega,by omega,?_,?_,hw3,?_⟩
     ·have e : (U 2).length + j=(U 2++tkD dec 2 L2 j).length:=by simp [hl]
      rw [e,fp,gN,ht,List.append_assoc]
     ·rw [hAG,aG]
     ·rw [hBK,aS];simp only [d4]
    ·have hj2 : j=L2.length:=by omega
     subst hj2
     refine ⟨3,by omega,by omega,?_⟩
     rw [hU2s,gZ]
     simp [hAG,hBK,aG,aS]
     decide
   ·simp [hAG,aG]
    refine aF Nat (fun j=>[(17,.ref (.r 10272) 0 ((U 3).length + j)),(10272,.blk 2 (fnR (U 3++tkD dec 3 L3 j))),(18,.int .i64 3),(181,AG),(182,.int .i64 3),(186,.ref (.n 10064 0 3) 0 (L3).length),(187,.int .i64 (L3).length),(188,.int .i64 j),(10064,BK)]) (fun j=>j <= (L3).length) (fun j=>(L3).length - j) 0 (by simp) (by simp [hAG,hBK,aG,aS,eN]) ?_
    rintro j hj
    simp [hAG,hBK,aG,aS]
    refine av (fun g3=>?_) (fun g3=>?_) <;> simp at g3 <;> simp [g3,hAG,hBK,aG,aS]
    ·have hj2 : j < L3.length:=by omega
     have hw3 : IntKind.wrap .i64 ((j : Int) + 1)=((j + 1 : Nat) : Int):=ao (by omega) (by omega)
     have hi:=hI (L3[j]) (q3.2 _ (List.getElem_mem hj2))
     have ht:=fH dec 3 L3 hj2
     have hl:=hD dec 3 L3 (Nat.le_of_lt hj2)
     rw [d4 L3]
     try simp [hj2]
     refine af hi (.inl rfl) ?_
     simp
     refine ⟨by omega,by omega,j + 1,by omega,by omega,by omega,?_,?_,hw3,?_⟩
     ·have e : (U 3).length + j=(U 3++tkD dec 3 L3 j).length:=by simp [hl]
      rw [e,fp,gN,ht,List.append_assoc]
     ·rw [hAG,aG]
     ·rw [hBK,aS];simp only [d4]
    ·have hj2 : j=L3.length:=by omega
     subst hj2
     refine ⟨4,by omega,by omega,?_⟩
     rw [hU3s,gZ]
     simp [hAG,hBK,aG,aS]
     decide
   ·simp [hAG,aG]
    refine aF Nat (fun j=>[(17,.ref (.r 10272) 0 ((U 4).length + j)),(10272,.blk 2 (fnR (U 4++tkD dec 4 L4 j))),(18,.int .i64 4),(181,AG),(182,.int .i64 4),(186,.ref (.n 10064 0 4) 0 (L4).length),(187,.int .i64 (L4).length),(188,.int .i64 j),(10064,BK)]) (fun j=>j <= (L4).length) (fun j=>(L4).length - j) 0 (by simp) (by simp [hAG,hBK,aG,aS,eN]) ?_
    rintro j hj
    simp [hAG,hBK,aG,aS]
    refine av (fun g3=>?_) (fun g3=>?_) <;> simp at g3 <;> simp [g3,hAG,hBK,aG,aS]
    ·have hj2 : j < L4.length:=by omega
     have hw3 : IntKind.wrap .i64 ((j : Int) + 1)=((j + 1 : Nat) : Int):=ao (by omega) (by omega)
     have hi:=hI (L4[j]) (q4.2 _ (List.getElem_mem hj2))
     have ht:=fH dec 4 L4 hj2
     have hl:=hD dec 4 L4 (Nat.le_of_lt hj2)
     rw [d4 L4]
     try simp [hj2]
     refine af hi (.inl rfl) ?_
     simp
     refine ⟨by omega,by omega,j + 1,by omega,by omega,by omega,?_,?_,hw3,?_⟩
     ·have e : (U 4).length + j=(U 4++tkD dec 4 L4 j).length:=by simp [hl]
      rw [e,fp,gN,ht,List.append_assoc]
     ·rw [hAG,aG]
     ·rw [hBK,aS];simp only [d4]
    ·have hj2 : j=L4.length:=by omega
     subst hj2
     refine ⟨5,by omega,by omega,?_⟩
     rw [hU4s,gZ]
     simp [hAG,hBK,aG,aS]
     decide
   ·simp [hAG,aG]
    refine aF Nat (fun j=>[(17,.ref (.r 10272) 0 ((U 5).length + j)),(10272,.blk 2 (fnR (U 5++tkD dec 5 L5 j))),(18,.int .i64 5),(181,AG),(182,.int .i64 5),(186,.ref (.n 10064 0 5) 0 (L5).length),(187,.int .i64 (L5).length),(188,.int .i64 j),(10064,BK)]) (fun j=>j <= (L5).length) (fun j=>(L5).length - j) 0 (by simp) (by simp [hAG,hBK,aG,aS,eN]) ?_
    rintro j hj
    simp [hAG,hBK,aG,aS]
    refine av (fun g3=>?_) (fun g3=>?_) <;> simp at g3 <;> simp [g3,hAG,hBK,aG,aS]
    ·have hj2 : j < L5.length:=by omega
     have hw3 : IntKind.wrap .i64 ((j : Int) + 1)=((j + 1 : Nat) : Int):=ao (by omega) (by omega)
     have hi:=hI (L5[j]) (q5.2 _ (List.getElem_mem hj2))
     have ht:=fH dec 5 L5 hj2
     have hl:=hD dec 5 L5 (Nat.le_of_lt hj2)
     rw [d4 L5]
     try simp [hj2]
     refine af hi (.inl rfl) ?_
     simp
     refine ⟨by omega,by omega,j + 1,by omega,by omega,by omega,?_,?_,hw3,?_⟩
     ·have e : (U 5).length + j=(U 5++tkD dec 5 L5 j).length:=by simp [hl]
      rw [e,fp,gN,ht,List.append_assoc]
     ·rw [hAG,aG]
     ·rw [hBK,aS];simp only [d4]
    ·have hj2 : j=L5.length:=by omega
     subst hj2
     refine ⟨6,by omega,by omega,?_⟩
     rw [hU5s,gZ]
     simp [hAG,hBK,aG,aS]
     decide
   ·simp [hAG,aG]
    refine aF Nat (fun j=>[(17,.ref (.r 10272) 0 ((U 6).length + j)),(10272,.blk 2 (fnR (U 6++tkD dec 6 L6 j))),(18,.int .i64 6),(181,AG),(182,.int .i64 6),(186,.ref (.n 10064 0 6) 0 (L6).length),(187,.int .i64 (L6).length),(188,.int .i64 j),(10064,BK)]) (fun j=>j <= (L6).length) (fun j=>(L6).length - j) 0 (by simp) (by simp [hAG,hBK,aG,aS,eN]) ?_
    rintro j hj
    simp [hAG,hBK,aG,aS]
    refine av (fun g3=>?_) (fun g3=>?_) <;> simp at g3 <;> simp [g3,hAG,hBK,aG,aS]
    ·have hj2 : j < L6.length:=by omega
     have hw3 : IntKind.wrap .i64 ((j : Int) + 1)=((j + 1 : Nat) : Int):=ao (by omega) (by omega)
     have hi:=hI (L6[j]) (q6.2 _ (List.getElem_mem hj2))
     have ht:=fH dec 6 L6 hj2
     have hl:=hD dec 6 L6 (Nat.le_of_lt hj2)
     rw [d4 L6]
     try simp [hj2]
     refine af hi (.inl rfl) ?_
     simp
     refine ⟨by omega,by omega,j + 1,by omega,by omega,by omega,?_,?_,hw3,?_⟩
     ·have e : (U 6).length + j=(U 6++tkD dec 6 L6 j).length:=by simp [hl]
      rw [e,fp,gN,ht,List.append_assoc]
     ·rw [hAG,aG]
     ·rw [hBK,aS];simp only [d4]
    ·have hj2 : j=L6.length:=by omega
     subst hj2
     refine ⟨7,by omega,by omega,?_⟩
     rw [hU6s,gZ]
     simp [hAG,hBK,aG,aS]
     decide
   ·simp [hAG,aG]
    rfl
end Go.Gv

namespace Go.Gv
theorem dS {m : Msh} (h : aC m=true) : m.s.length <= 2000 /\ m.f.length <= 4000:=by
 simp only [aC,cY,Bool.and_eq_true,decide_eq_true_eq] at h
 exact h.1
theorem ja {m : Msh} (h : aC m=true) : ∀ l ∈ LL m,l=[]:=by
 simp only [aC,Bool.and_eq_true,List.all_eq_true,decide_eq_true_eq] at h
 exact h.2
theorem nA {m : Msh} (h : aC m=true) {i : Nat} (hi : i < m.s.length) : bm (spt m i)=true:=by
 have:=km.1 (ja h (fil (dO m) m.s.length) (by simp [LL])) i hi
 simpa [dO] using this
theorem kA {m : Msh} (h : aC m=true) {i : Nat} (hi : i < m.f.length) : okF m (fce m i)=true /\ 0 < lK (aY m (fce m i)):=by
 have h1:=km.1 (ja h (fil (eB m) m.f.length) (by simp [LL])) i hi
 have h2:=km.1 (ja h (fil (dc m) m.f.length) (by simp [LL])) i hi
 have h3 : okF m (fce m i)=true:=by simpa [eB] using h1
 refine ⟨h3,?_⟩
 simp [dc,h3] at h2
 omega
theorem mE {m : Msh} (h : aC m=true) {i : Nat} (hi : i < m.f.length) : aB m i=true:=by
 have:=kA h hi
 simp [aB,this]
theorem lL {m : Msh} (h : aC m=true) {i k : Nat} (hi : i < m.f.length) (hk : k < i) : jF (fce m i) (fce m k)=false:=by
 have h1:=km.1 (ja h (fil (cr m) m.f.length) (by simp [LL])) i hi
 rw [cr,mE h hi,Bool.true_and,List.any_eq_false] at h1
 have:=h1 k (List.mem_range.2 hk)
 rw [mE h (by omega),Bool.true_and] at this
 simpa using this
theorem jb {m : Msh} (h : aC m=true) {i : Nat} (hi : i < m.f.length) : inS m (fce m i)=true:=ne (kA h hi).1
def cd (f : Fce) (a b : Int) : Bool:=(List.range 3).any fun j=>decide (crn f j=a) && decide (crn f (j + 1)=b)
def oC (m : Msh) (a b : Int) : Int:=gw (fun f=>cd f a b) m.f
def nbF (m : Msh) (i k : Nat) : Int:=oC m (crn (fce m i) (k + 1)) (crn (fce m i) k)
def iN (p : Nat -> Bool) : Nat -> Option Nat
 | 0=>none
 | i + 1=>if p i then some i else iN p i
theorem k8 (p : Nat -> Bool) : ∀ n,(iN p n=none /\ ∀ i,i < n -> p i=false) \/ ∃ i,iN p n=some i /\ i < n /\ p i=true
 | 0=>.inl ⟨rfl,fun i h=>by omega⟩
 | n + 1=>by
  rw [iN]
  by_cases h : p n=true
  ·rw [if_pos h];exact .inr ⟨n,rfl,by omega,h⟩
  ·rw [if_neg h]
   rcases k8 p n with ⟨h1,h2⟩ | ⟨i,h1,h2,h3⟩
   ·refine .inl ⟨h1,fun i hi=>?_⟩
    rcases Nat.lt_succ_iff_lt_or_eq.1 hi with h3 | rfl
    ·exact h2 i h3
    ·simpa using h
   ·exact .inr ⟨i,h1,by omega,h3⟩
theorem ta {f g : Fce} {a b : Int} (h1 : cd f a b=true) (h2 : cd g a b=true) : jF f g=true:=by
 simp only [cd,List.any_eq_true,List.mem_range,Bool.and_eq_true,decide_eq_true_eq] at h1 h2
 obtain ⟨i,hi,rfl,rfl⟩:=h1
 obtain ⟨j,hj,e1,e2⟩:=h2
 simp only [jF,List.any_eq_true,List.mem_range]
 exact ⟨i,hi,j,hj,by simp [mtc,e1,e2]⟩
theorem jp {m : Msh} (h : aC m=true) {i k : Nat} (hi : i < m.f.length) (hk : k < m.f.length) {a b : Int} (h1 : cd (fce m i) a b=true) (h2 : cd (fce m k) a b=true) : i=k:=by
 rcases Nat.lt_trichotomy i k with h3 | h3 | h3
 ·have:=lL h hk h3
  rw [ta h2 h1] at this;cases this
 ·exact h3
 ·have:=lL h hi h3
  rw [ta h1 h2] at this;cases this
theorem pF {m : Msh} (h : aC m=true) (a b : Int) : oC m a b=match iN (fun i=>cd (fce m i) a b) m.f.length with
  | some i=>(i : Int)
  | none=>-1:=by
 rcases k8 (fun i=>cd (fce m i) a b) m.f.length with ⟨h1,h2⟩ | ⟨i,h1,h2,h3⟩
 ·rw [h1]
  exact gP fun j hj=>by rw [l9];exact h2 j hj
 ·rw [h1]
  refine fv (fun j hj hji=>?_) h2 (by rw [l9];exact h3)
  rw [l9]
  cases hh : cd (fce m j) a b
  ·rfl
  ·have:=jp h hj h2 hh h3
   omega
def hJ (m : Msh) : Nat -> List D
 | 0=>[]
 | i + 1=>sdK (fce m i) 3++hJ m i
def jx (m : Msh) : Nat -> List D
 | 0=>[]
 | i + 1=>List.replicate 3 (.int .i64 i)++jx m i
theorem oi (m : Msh) : ∀ i,(hJ m i).length=3 * i
 | 0=>by simp [hJ]
 | i + 1=>by
  have:=oi m i
  simp [hJ,i5];omega
theorem te (m : Msh) (a b : Int) : ∀ i,cJ (hJ m i) (jx m i) (.agg [.int .i64 a,.int .i64 b])=(iN (fun i=>cd (fce m i) a b) i).map fun i=>.int .i64 i
 | 0=>rfl
 | i + 1=>by
  have h3 : List.range 3=[0,1,2]:=rfl
  simp only [hJ,jx,iN,sdK,List.replicate,List.cons_append,List.nil_append,cJ,wR]
  have ih:=te m a b i
  by_cases c0 : (decide (a=crn (fce m i) 2) && decide (b=crn (fce m i) (2 + 1)))=true
  ·have : cd (fce m i) a b=true:=by
    simp only [Bool.and_eq_true,decide_eq_true_eq] at c0
    simp [cd,h3,<- c0.1,<- c0.2]
   rw [if_pos c0,if_pos this];rfl
  ·rw [if_neg c0]
   by_cases c1 : (decide (a=crn (fce m i) 1) && decide (b=crn (fce m i) (1 + 1)))=true
   ·have : cd (fce m i) a b=true:=by
     simp only [Bool.and_eq_true,decide_eq_true_eq] at c1
     simp [cd,h3,<- c1.1,<- c1.2]
    rw [if_pos c1,if_pos this];rfl
   ·rw [if_neg c1]
    by_cases c2 : (decide (a=crn (fce m i) 0) && decide (b=crn (fce m i) (0 + 1)))=true
    ·have : cd (fce m i) a b=true:=by
      simp only [Bool.and_eq_true,decide_eq_true_eq] at c2
      simp [cd,h3,<- c2.1,<- c2.2]
     rw [if_pos c2,if_pos this];rfl
    ·have : cd (fce m i) a b=false:=by
      simp only [Bool.and_eq_true,decide_eq_true_eq,not_and] at c0 c1 c2
      simp only [cd,h3,List.any_cons,List.any_nil,Bool.or_false,Bool.or_eq_false_iff,Bool.and_eq_false_iff,decide_eq_false_iff_not]
      omega
     rw [if_neg c2,if_neg (by rw [this];decide),ih]
def nbC (m : Msh) (i k j c : Nat) : Int:=if j < i \/ (j=i /\ c < k) then nbF m j c else 0
def nbR (m : Msh) (i k : Nat) : List (List D):=(List.range m.f.length).map fun j=>[.int .i64 (nbC m i k j 0),.int .i64 (nbC m i k j 1),.int .i64 (nbC m i k j 2)]
def nbA (m : Msh) : List (List D):=(List.range m.f.length).map fun j=>[.int .i64 (nbF m j 0),.int .i64 (nbF m j 1),.int .i64 (nbF m j 2)]
@[simp] theorem Ns (m : Msh) (i k : Nat) : (nbR m i k).length=m.f.length:=by simp [nbR]
@[simp] theorem HK (m : Msh) (i k : Nat) : List.take m.f.length (nbR m i k)=nbR m i k:=List.take_of_length_le (by simp)
@[simp] theorem PG (m : Msh) (i k : Nat) : List.map (fun e=>List.map aU e) (nbR m i k)=nbR m i k:=by simp [nbR]
theorem td (m : Msh) : List.replicate m.f.length [D.int .i64 0,D.int .i64 0,D.int .i64 0]=nbR m 0 0:=by
 refine List.ext_getElem (by simp) fun j h1 h2=>?_
 simp [nbR,nbC]
theorem tc (m : Msh) (i : Nat) : nbR m i 3=nbR m (i + 1) 0:=by
 unfold nbR
 refine List.map_congr_left fun j _=>?_
 have e : ∀ c,c < 3 -> nbC m i 3 j c=nbC m (i + 1) 0 j c:=fun c hc=>by
  unfold nbC
  by_cases h : j < i + 1
  ·rw [if_pos (by omega),if_pos (by omega)]
  ·rw [if_neg (by omega),if_neg (by omega)]
 rw [e 0 (by omega),e 1 (by omega),e 2 (by omega)]
theorem ve (m : Msh) : nbR m m.f.length 0=nbA m:=by
 unfold nbR nbA
 refine List.map_congr_left fun j hj=>?_
 have hj:=List.mem_range.1 hj
 simp [nbC,hj]
theorem vf (m : Msh) {i k j : Nat} (h : j < m.f.length) : (nbR m i k)[j]? = some [.int .i64 (nbC m i k j 0),.int .i64 (nbC m i k j 1),.int .i64 (nbC m i k j 2)]:=by
 simp [nbR,h]
theorem vg (m : Msh) {i k : Nat} (h : i < m.f.length) (hk : k < 3) : (nbR m i k).set i (([.int .i64 (nbC m i k i 0),.int .i64 (nbC m i k i 1),.int .i64 (nbC m i k i 2)] : List D).set k (.int .i64 (nbF m i k)))=nbR m i (k + 1):=by
 refine List.ext_getElem (by simp) fun j h1 h2=>?_
 rw [List.getElem_set]
 by_cases e : i=j
 ·subst e
  rw [if_pos rfl]
  rcases (by omega : k=0 \/ k=1 \/ k=2) with rfl | rfl | rfl <;> simp [nbR,nbC]
 ·rw [if_neg e]
  simp only [nbR,List.getElem_map,List.getElem_range]
  have e2 : ∀ c,nbC m i k j c=nbC m i (k + 1) j c:=fun c=>by
   unfold nbC
   by_cases h : j < i
   ·rw [if_pos (by omega),if_pos (by omega)]
   ·rw [if_neg (by omega),if_neg (by omega)]
  rw [e2,e2,e2]
variable {C : CC} (hC : aE prog C)
include hC
theorem rH (m : Msh) (h : cY m=false) : C 273 [.agg (cj m)] (.tup [.nils,.int .i64 4]) []:=by
 have ksm:=od hC m
 rw [show (decide (m.s.length <= 2000) && decide (m.f.length <= 4000))=false from h] at ksm
 refine bD hC (nf:=N273) rfl rfl ?_
 simp only [ai] at ksm
 simp [N273,ai]
 refine af ksm (.inl rfl) ?_
 simp
theorem oc (dec : Nat -> List UInt8) (hI : ∀ n : Nat,n < 100 -> C 127 [.int .i64 n] (.str (dec n)) []) (m : Msh) (hz : cY m=true -> m.s.length <= 100 /\ m.f.length <= 100) : C 234 [.agg (cj m)] (.bool (aC m)) []:=by
 cases hs : cY m
 ·have k:=rH hC m hs
  refine bD hC (nf:=N234) rfl rfl ?_
  simp only [ai] at k
  simp [N234,ai]
  refine af k (.inr rfl) ?_
  simp [aC,hs]
 ·obtain ⟨h1,h2⟩:=hz hs
  have k:=uj hC dec hI m h1 h2
  have e : aC m=decide ((dC dec 0 (LL m)).length=0):=by
   rw [aC,hs,Bool.true_and,Bool.eq_iff_iff,decide_eq_true_eq,List.length_eq_zero_iff,ol]
  obtain ⟨X,hX⟩ : ∃ X,X=dC dec 0 (LL m):=⟨_,rfl⟩
  rw [e]
  rw [<- hX] at k ⊢
  refine bD hC (nf:=N234) rfl rfl ?_
  simp only [ai] at k
  simp [N234,ai]
  refine af k (.inr rfl) ?_
  simp
end Go.Gv

namespace Go.Gv
def OA (n : Nat) : List UInt8:=yg n []
def fdL (k : Int) (l : List Nat) : List (Int × List UInt8):=l.map fun i=>(k,OA i)
@[simp] theorem JT (k : Int) (l : List Nat) : (fdL k l).length=l.length:=by simp [fdL]
def fdR (k : Int) (l : List Nat) : List (List D):=fnR (fdL k l)
@[simp] theorem JV (k : Int) (l : List Nat) : (fdR k l).length=l.length:=by simp [fdR]
@[simp] theorem Fe (k : Int) (l : List Nat) : List.take l.length (fdR k l)=fdR k l:=List.take_of_length_le (by simp)
@[simp] theorem yp (k : Int) (l : List Nat) : (∀ e ∈ fdR k l,∀ c ∈ e,au c=true)=True:=by simp [fdR,fnR,fnD,fdL]
@[simp] theorem JU (k : Int) (l : List Nat) (x : List D) : (∀ e,e ∈ fdR k l \/ e=x -> ∀ c,c ∈ e -> au c=true)=∀ c,c ∈ x -> au c=true:=by
 apply propext
 constructor
 ·exact fun h=>h x (.inr rfl)
 ·rintro h e (he | rfl)
  ·exact (yp k l).mpr trivial e he
  ·exact h
@[simp] theorem JW (k : Int) : fdR k []=[]:=rfl
def fcR (m : Msh) (l : List Nat) : List (List D):=l.map fun k=>cL (fce m k)
@[simp] theorem JR (m : Msh) (l : List Nat) : (fcR m l).length=l.length:=by simp [fcR]
@[simp] theorem Fd (m : Msh) (l : List Nat) : List.take l.length (fcR m l)=fcR m l:=List.take_of_length_le (by simp)
@[simp] theorem JS (m : Msh) : fcR m []=[]:=rfl
def D6 (p : Nat -> Bool) (l : List Nat) (k : Nat) : Bool:=(l.take k).any p
def shP (m : Msh) (i k : Nat) : Bool:=jF (fce m i) (fce m k)
def ovP (m : Msh) (i k : Nat) : Bool:=ovT (aY m (fce m i)) (aY m (fce m k))
def Qi (m : Msh) (i k : Nat) : Env:=[(1,.ptr (cj m)),(3,.ref (.r 10048) 0 7),(10048,.blk 1 [[.own 2 []],[.own 2 (fdR 1 (fil (dO m) m.s.length))],[.own 2 (fdR 2 (fil (cR m) m.s.length))],[.own 2 (fdR 3 (fil (eB m) i))],[.own 2 (fdR 4 (fil (dc m) i))],[.own 2 (fdR 5 (fil (cr m) i))],[.own 2 (fdR 6 (fil (a6 m) i))]]),(7,.ref (.r 10112) 0 (fil (aB m) i).length),(10112,.blk 4 (fcR m (fil (aB m) i))),(8,.int .i64 i),(9,.adr (.r 10144) 0 0),(10144,.blk 4 [cL (fce m i)]),(10,.bool (D6 (shP m i) (fil (aB m) i) k)),(11,.bool (D6 (ovP m i) (fil (aB m) i) k)),(12,.int .i64 k)]
def Qf (m : Msh) (i : Nat) : Env:=[(1,.ptr (cj m)),(3,.ref (.r 10048) 0 7),(10048,.blk 1 [[.own 2 []],[.own 2 (fdR 1 (fil (dO m) i))],[.own 2 (fdR 2 (fil (cR m) i))],[.own 2 []],[.own 2 []],[.own 2 []],[.own 2 []]]),(4,.int .i64 i)]
def Qg (m : Msh) (i k : Nat) : Env:=[(1,.ptr (cj m)),(3,.ref (.r 10048) 0 7),(10048,.blk 1 [[.own 2 []],[.own 2 (fdR 1 (fil (dO m) i))],[.own 2 (fdR 2 (fil (cR m) i))],[.own 2 []],[.own 2 []],[.own 2 []],[.own 2 []]]),(4,.int .i64 i),(5,.adr (.r 10080) 0 0),(10080,.blk 3 [kj (spt m i)]),(6,.int .i64 k)]
def Qh (m : Msh) (i : Nat) : Env:=[(1,.ptr (cj m)),(3,.ref (.r 10048) 0 7),(10048,.blk 1 [[.own 2 []],[.own 2 (fdR 1 (fil (dO m) m.s.length))],[.own 2 (fdR 2 (fil (cR m) m.s.length))],[.own 2 (fdR 3 (fil (eB m) i))],[.own 2 (fdR 4 (fil (dc m) i))],[.own 2 (fdR 5 (fil (cr m) i))],[.own 2 (fdR 6 (fil (a6 m) i))]]),(7,.ref (.r 10112) 0 (fil (aB m) i).length),(10112,.blk 4 (fcR m (fil (aB m) i))),(8,.int .i64 i)]
variable {C : CC} (hC : aE prog C)
include hC
end Go.Gv

namespace Go.Gv
open Go.Lib
theorem s8 (a : Nat) (ha : a < 18446744073709551616) : bits .and .u64 (a : Int) 4294967295=((a % 4294967296 : Nat) : Int):=by
 have h:=bits_and_u64_nat a 4294967295 ha (by omega)
 have e : a &&& 4294967295=a % 4294967296:=Nat.and_two_pow_sub_one_eq_mod a 32
 rw [e] at h
 exact h
theorem PS (a k : Nat) : Int.fdiv (a : Int) (2 ^ k)=((a / 2 ^ k : Nat) : Int):=by
 rw [Int.fdiv_eq_ediv_of_nonneg _ (by exact Int.pow_nonneg (by omega))]
 norm_cast
theorem IL (a : Nat) : Int.fdiv (a : Int) (2 ^ min 32 IntKind.u64.bits)=((a / 4294967296 : Nat) : Int):=PS a 32
theorem PE (a b : Nat) : (a : Int) * (b : Int)=((a * b : Nat) : Int):=(Int.natCast_mul a b).symm
theorem On (a b : Nat) : (a : Int) + (b : Int)=((a + b : Nat) : Int):=(Int.natCast_add a b).symm
theorem j6 (a : Nat) (ha : a < 18446744073709551616) : IntKind.u64.wrap (a : Int)=(a : Int):=by
 have e1 : IntKind.u64.signed=false:=rfl
 have e3 : (2 ^ IntKind.u64.bits : Int)=18446744073709551616:=rfl
 unfold IntKind.wrap
 simp only [e1,e3,Bool.false_and]
 simp
 omega
theorem I9 (a : Nat) : IntKind.u64.wrap (a : Int)=((a % 18446744073709551616 : Nat) : Int):=by
 have e1 : IntKind.u64.signed=false:=rfl
 have e3 : (2 ^ IntKind.u64.bits : Int)=18446744073709551616:=rfl
 unfold IntKind.wrap
 simp only [e1,e3,Bool.false_and]
 simp
variable {C : CC} (hC : aE prog C)
include hC
theorem ul (x y : Nat) (hx : x < 18446744073709551616) (hy : y < 18446744073709551616) : C 91 [.int .u64 x,.int .u64 y] (.tup [.int .u64 ((x * y / 18446744073709551616 : Nat) : Int),.int .u64 ((x * y % 18446744073709551616 : Nat) : Int)]) []:=by
 refine bD hC (nf:=N91) rfl rfl ?_
 obtain ⟨bd,bt,bw,hhi⟩:=Lib.mul64_hi x y hx hy
 have ba:=Lib.half_mul_le (a:=x / 4294967296) (b:=y / 4294967296) (by omega) (by omega)
 have bb:=Lib.half_mul_le (a:=x / 4294967296) (b:=y % 4294967296) (by omega) (by omega)
 have bc:=Lib.half_mul_le (a:=x % 4294967296) (b:=y / 4294967296) (by omega) (by omega)
 have ba' : x / 4294967296 * (y / 4294967296) < 18446744073709551616:=by omega
 have bb' : x / 4294967296 * (y % 4294967296) < 18446744073709551616:=by omega
 have bc' : x % 4294967296 * (y / 4294967296) < 18446744073709551616:=by omega
 have bh1 : x / 4294967296 * (y / 4294967296) + (x / 4294967296 * (y % 4294967296) + x % 4294967296 * (y % 4294967296) / 4294967296) / 4294967296 < 18446744073709551616:=by omega
 have bh : x / 4294967296 * (y / 4294967296) + (x / 4294967296 * (y % 4294967296) + x % 4294967296 * (y % 4294967296) / 4294967296) / 4294967296 + ((x / 4294967296 * (y % 4294967296) + x % 4294967296 * (y % 4294967296) / 4294967296) % 4294967296 + x % 4294967296 * (y / 4294967296)) / 4294967296 < 18446744073709551616:=by omega
 simp [N91]
 simp only [s8 x hx,s8 y hy,IL,PE,On,j6 _ bd,j6 _ bb',j6 _ bt,s8 _ bt,j6 _ bc',j6 _ bw,j6 _ ba',j6 _ bh1,j6 _ bh,I9 (x * y)]
 rw [hhi]
 exact ⟨by omega,by omega⟩
end Go.Gv

namespace Go.Gv
variable {C : CC} (hC : aE prog C)
include hC
end Go.Gv

namespace Go.Gv
structure DvI (u d a b q r : Nat) : Prop where
 sum : q * a + r=u
 ge : (u * 4294967296 + d) / (a * 4294967296 + b) <= q
 rlt : r < 4294967296
 qle : q <= 4294967297
section
variable {u d a b q r : Nat}
theorem Dv.mul (h : q * a + r=u) : q * (a * 4294967296 + b) + r * 4294967296=u * 4294967296 + q * b:=by
 subst h
 rw [Nat.mul_add,<- Nat.mul_assoc,Nat.add_mul]
 omega
theorem Dv.lt (_ : 0 < a) (hu : u < a * 4294967296 + b) (hd : d < 4294967296) : (u * 4294967296 + d) / (a * 4294967296 + b) < 4294967296:=by
 rw [Nat.div_lt_iff_lt_mul (by omega)]
 have : (u + 1) * 4294967296 <= (a * 4294967296 + b) * 4294967296:=Nat.mul_le_mul_right _ hu
 omega
theorem DvI.first (ha : 2147483648 <= a) (ha2 : a < 4294967296) (hb : b < 4294967296) (hu : u < a * 4294967296 + b) (hd : d < 4294967296) : DvI u d a b (u / a) (u % a) where
 sum:=by rw [Nat.mul_comm];exact Nat.div_add_mod u a
 rlt:=by have:=Nat.mod_lt u (show 0 < a by omega);omega
 ge:=by
  rw [Nat.le_div_iff_mul_le (by omega)]
  have h:=Nat.div_mul_le_self (u * 4294967296 + d) (a * 4294967296 + b)
  generalize (u * 4294967296 + d) / (a * 4294967296 + b)=Q at *
  rw [Nat.mul_add,<- Nat.mul_assoc] at h
  generalize Q * b=z at *
  generalize Q * a=x at *
  omega
 qle:=by
  have : u / a < 4294967298:=by
   rw [Nat.div_lt_iff_lt_mul (by omega)]
   omega
  omega
theorem DvI.more (h : DvI u d a b q r) (ha : 0 < a) (hu : u < a * 4294967296 + b) (hd : d < 4294967296) (hc : 4294967296 <= q \/ 4294967296 * r + d < q * b) : (u * 4294967296 + d) / (a * 4294967296 + b) + 1 <= q:=by
 rcases hc with hc | hc
 ·have:=Dv.lt (d:=d) ha hu hd
  omega
 ·have h1:=Dv.mul (b:=b) h.sum
  have : (u * 4294967296 + d) / (a * 4294967296 + b) < q:=by
   rw [Nat.div_lt_iff_lt_mul (by omega)]
   generalize q * (a * 4294967296 + b)=z at *
   generalize q * b=x at *
   omega
  omega
theorem DvI.done (h : DvI u d a b q r) (ha : 0 < a) (hc : q * b <= 4294967296 * r + d) : q=(u * 4294967296 + d) / (a * 4294967296 + b):=by
 have h1:=Dv.mul (b:=b) h.sum
 have h2:=h.ge
 have : q <= (u * 4294967296 + d) / (a * 4294967296 + b):=by
  rw [Nat.le_div_iff_mul_le (by omega)]
  generalize q * (a * 4294967296 + b)=z at *
  generalize q * b=x at *
  omega
 omega
theorem DvI.next (h : DvI u d a b q r) (ha : 0 < a) (hu : u < a * 4294967296 + b) (hd : d < 4294967296) (hc : 4294967296 <= q \/ 4294967296 * r + d < q * b) :
  1 <= q /\ (q - 1) * a + (r + a)=u /\ (u * 4294967296 + d) / (a * 4294967296 + b) <= q - 1 /\ q - 1 <= 4294967296:=by
 have h1:=h.more ha hu hd hc
 have h2:=h.qle
 have h3:=h.sum
 generalize (u * 4294967296 + d) / (a * 4294967296 + b)=Q at *
 obtain ⟨q',rfl⟩ : ∃ q',q=q' + 1:=⟨q - 1,by omega⟩
 refine ⟨by omega,?_,by omega,by omega⟩
 rw [Nat.add_mul] at h3
 simp only [Nat.add_sub_cancel]
 omega
end
end Go.Gv

namespace Go.Gv
variable {C : CC} (hC : aE prog C)
include hC
end Go.Gv

namespace Go.Gv
def P9 (n : Nat) : D:=.agg [.int .u64 ((n / 18446744073709551616 : Nat) : Int),.int .u64 ((n % 18446744073709551616 : Nat) : Int)]
def xD (x : Nat) : Nat -> Nat -> Nat
 | 0,r=>r
 | i + 1,r=>xD x i (if (r + 2 ^ i) * (r + 2 ^ i) <= x then r + 2 ^ i else r)
def P5 (x : Nat) : Nat:=xD x 63 0
variable {C : CC} (hC : aE prog C)
include hC
end Go.Gv

namespace Go.Gv
open Go.Lib
end Go.Gv

namespace Go.Gv
open Go.Lib
def Qe (p : Nat) (neg : Bool) : D:=.agg [.int .u64 ((p / 18446744073709551616 : Nat) : Int),.int .u64 ((p % 18446744073709551616 : Nat) : Int),.bool neg]
def wiD (p : Nat) : D:=.agg [.int .i64 ((p / 1152921504606846976 : Nat) : Int),.int .i64 ((p % 1152921504606846976 : Nat) : Int)]
variable {C : CC} (hC : aE prog C)
include hC
end Go.Gv

namespace Go.Gv
open Go.Lib
variable {C : CC} (hC : aE prog C)
include hC
end Go.Gv

namespace Go.Gv
variable {C : CC} (hC : aE prog C)
include hC
end Go.Gv

namespace Go.Gv
def Oz (x y : Int) : Int:=if x < y then -1 else if y < x then 1 else 0
variable {C : CC} (hC : aE prog C)
include hC
end Go.Gv

namespace Go.Gv
def HG (m : Msh) (i : Nat) : Env:=[(1,.ptr (cj m)),(3,.mrf 10224),(10224,.mp 3 2 (hJ m i) (jx m i)),(16,slx m.fn (m.f.map cL)),(17,.int .i64 m.f.length),(18,.int .i64 i)]
theorem m7 (m : Msh) (i : Nat) : HG m i=[(1,.ptr (cj m)),(3,.mrf 10224),(10224,.mp 3 2 (hJ m i) (jx m i)),(16,slx m.fn (m.f.map cL)),(17,.int .i64 m.f.length),(18,.int .i64 i)]:=_root_.id rfl
def HH (m : Msh) (i k : Nat) : Env:=[(1,.ptr (cj m)),(3,.mrf 10224),(10224,.mp 3 2 (sdK (fce m i) k++hJ m i) (List.replicate k (.int .i64 i)++jx m i)),(4,.int .i64 i),(5,.adr (.r 10080) 0 0),(10080,.blk 4 [cL (fce m i)]),(16,slx m.fn (m.f.map cL)),(17,.int .i64 m.f.length),(18,.int .i64 i),(23,.int .i64 k)]
theorem m8 (m : Msh) (i k : Nat) : HH m i k=[(1,.ptr (cj m)),(3,.mrf 10224),(10224,.mp 3 2 (sdK (fce m i) k++hJ m i) (List.replicate k (.int .i64 i)++jx m i)),(4,.int .i64 i),(5,.adr (.r 10080) 0 0),(10080,.blk 4 [cL (fce m i)]),(16,slx m.fn (m.f.map cL)),(17,.int .i64 m.f.length),(18,.int .i64 i),(23,.int .i64 k)]:=_root_.id rfl
def HI (m : Msh) (i : Nat) : Env:=[(3,.mrf 10224),(10224,.mp 3 2 (hJ m m.f.length) (jx m m.f.length)),(7,.ref (.r 10112) 0 m.f.length),(10112,.blk 3 (nbR m i 0)),(38,slx m.fn (m.f.map cL)),(39,.int .i64 m.f.length),(40,.int .i64 i)]
theorem m9 (m : Msh) (i : Nat) : HI m i=[(3,.mrf 10224),(10224,.mp 3 2 (hJ m m.f.length) (jx m m.f.length)),(7,.ref (.r 10112) 0 m.f.length),(10112,.blk 3 (nbR m i 0)),(38,slx m.fn (m.f.map cL)),(39,.int .i64 m.f.length),(40,.int .i64 i)]:=_root_.id rfl
def HJ (m : Msh) (i k : Nat) : Env:=[(3,.mrf 10224),(10224,.mp 3 2 (hJ m m.f.length) (jx m m.f.length)),(7,.ref (.r 10112) 0 m.f.length),(10112,.blk 3 (nbR m i k)),(8,.int .i64 i),(9,.adr (.r 10144) 0 0),(10144,.blk 4 [cL (fce m i)]),(38,slx m.fn (m.f.map cL)),(39,.int .i64 m.f.length),(40,.int .i64 i),(45,.int .i64 k)]
theorem eU (m : Msh) (i k : Nat) : HJ m i k=[(3,.mrf 10224),(10224,.mp 3 2 (hJ m m.f.length) (jx m m.f.length)),(7,.ref (.r 10112) 0 m.f.length),(10112,.blk 3 (nbR m i k)),(8,.int .i64 i),(9,.adr (.r 10144) 0 0),(10144,.blk 4 [cL (fce m i)]),(38,slx m.fn (m.f.map cL)),(39,.int .i64 m.f.length),(40,.int .i64 i),(45,.int .i64 k)]:=_root_.id rfl
variable {C : CC} (hC : aE prog C)
include hC
set_option maxHeartbeats 2000000 in
theorem nd (m : Msh) (hv : aC m=true) : C 261 [.agg (cj m)] (.sl (nbA m)) []:=by
 have hsz:=dS hv
 have hml : maxLen=9223372036854775807:=rfl
 refine bD hC (nf:=N261) rfl rfl ?_
 simp [N261,ai]
 refine aF Nat (fun i=>HG m i) (fun i=>i <= m.f.length) (fun i=>m.f.length - i) 0 (by simp) (by simp [m7,ai,hJ,jx]) ?_
 rintro i hi
 simp [m7,ai]
 refine av (fun g1=>?_) (fun g1=>?_) <;> simp at g1 <;> simp [g1]
 ·have hw : IntKind.wrap .i64 ((i : Int) + 1)=((i + 1 : Nat) : Int):=ao (by omega) (by omega)
  have cb:=fun j=>oP (jb hv g1) j
  have ks:=fun k h=>mX hC (fce m i) k h
  have nl:=oi m i
  simp only [bq] at ks
  simp [bq]
  refine aF Nat (fun k=>HH m i k) (fun k=>k <= 3) (fun k=>3 - k) 0 (by simp) (by simp [m8,ai,bq,sdK]) ?_
  rintro k hk
  simp [m8,ai,bq]
  refine av (fun g2=>?_) (fun g2=>?_) <;> simp at g2 <;> simp [g2]
  ·have hw2 : IntKind.wrap .i64 ((k : Int) + 1)=((k + 1 : Nat) : Int):=ao (by omega) (by omega)
   have ck:=cb k
   have ck1:=cb (k + 1)
   refine af (ks k (by omega)) (.inl rfl) ?_
   simp [hw2,i5]
   refine ⟨by omega,⟨⟨by omega,by omega⟩,by omega,by omega⟩,by omega,k + 1,by omega,by omega,?_⟩
   simp [m8,ai,bq,sdK,List.replicate_succ]
  ·have hk3 : k=3:=by omega
   subst hk3
   simp [hw]
   refine ⟨i + 1,by omega,by omega,?_⟩
   simp [m7,ai,hJ,jx,List.replicate]
 ·have hi2 : i=m.f.length:=by omega
  subst hi2
  refine ⟨by omega,?_⟩
  refine aF Nat (fun i=>HI m i) (fun i=>i <= m.f.length) (fun i=>m.f.length - i) 0 (by simp) (by simp [m9,ai,td]) ?_
  clear hi g1
  rintro i hi
  simp [m9,ai]
  refine av (fun g1=>?_) (fun g1=>?_) <;> simp at g1 <;> simp [g1]
  ·have hw : IntKind.wrap .i64 ((i : Int) + 1)=((i + 1 : Nat) : Int):=ao (by omega) (by omega)
   have cb:=fun j=>oP (jb hv g1) j
   have ks:=fun k h=>mX hC (fce m i) k h
   simp only [bq] at ks
   simp [bq]
   refine aF Nat (fun k=>HJ m i k) (fun k=>k <= 3) (fun k=>3 - k) 0 (by simp) (by simp [eU,ai,bq]) ?_
   rintro k hk
   simp [eU,ai,bq]
   refine av (fun g2=>?_) (fun g2=>?_) <;> simp at g2 <;> simp [g2]
   ·have hw2 : IntKind.wrap .i64 ((k : Int) + 1)=((k + 1 : Nat) : Int):=ao (by omega) (by omega)
    have ck:=cb k
    have ck1:=cb (k + 1)
    have hg:=te m (crn (fce m i) (k + 1)) (crn (fce m i) k) m.f.length
    have hl : nbF m i k=match iN (fun j=>cd (fce m j) (crn (fce m i) (k + 1)) (crn (fce m i) k)) m.f.length with
     | some j=>(j : Int)
     | none=>-1:=pF hv _ _
    have hset:=vg m g1 (k:=k) (by omega)
    have hget:=vf m (i:=i) (k:=k) g1
    cases hl0 : iN (fun j=>cd (fce m j) (crn (fce m i) (k + 1)) (crn (fce m i) k)) m.f.length with
    | none =>
     rw [hl0] at hg hl
     simp at hg
     rcases (by omega : k=0 \/ k=1 \/ k=2) with rfl | rfl | rfl
     ·refine af (ks 0 (by omega)) (.inl rfl) ?_
      simp at ck ck1 hset hget
      simp [hg]
      refine ⟨⟨⟨by omega,by omega⟩,by omega,by omega⟩,g1,?_⟩
      rw [hget]
      simp [hget]
      refine ⟨1,by omega,by omega,?_⟩
      rw [hl] at hset
      simp [eU,ai,bq,hset,dj,dD,dE]
     ·refine af (ks 1 (by omega)) (.inl rfl) ?_
      simp at ck ck1 hset hget
      simp [hg]
      refine ⟨⟨⟨by omega,by omega⟩,by omega,by omega⟩,g1,?_⟩
      rw [hget]
      simp [hget]
      refine ⟨2,by omega,by omega,?_⟩
      rw [hl] at hset
      simp [eU,ai,bq,hset,dj,dD,dE]
     ·refine af (ks 2 (by omega)) (.inl rfl) ?_
      simp at ck ck1 hset hget
      simp [hg]
      refine ⟨⟨⟨by omega,by omega⟩,by omega,by omega⟩,g1,?_⟩
      rw [hget]
      simp [hget]
      refine ⟨3,by omega,by omega,?_⟩
      rw [hl] at hset
      simp [eU,ai,bq,hset,dj,dD,dE]
    | some j =>
     rw [hl0] at hg hl
     simp at hg
     rcases (by omega : k=0 \/ k=1 \/ k=2) with rfl | rfl | rfl
     ·refine af (ks 0 (by omega)) (.inl rfl) ?_
      simp at ck ck1 hset hget
      simp [hg]
      refine ⟨⟨⟨by omega,by omega⟩,by omega,by omega⟩,g1,?_⟩
      rw [hget]
      simp [hget]
      refine ⟨1,by omega,by omega,?_⟩
      rw [hl] at hset
      simp [eU,ai,bq,hset,dj,dD,dE]
     ·refine af (ks 1 (by omega)) (.inl rfl) ?_
      simp at ck ck1 hset hget
      simp [hg]
      refine ⟨⟨⟨by omega,by omega⟩,by omega,by omega⟩,g1,?_⟩
      rw [hget]
      simp [hget]
      refine ⟨2,by omega,by omega,?_⟩
      rw [hl] at hset
      simp [eU,ai,bq,hset,dj,dD,dE]
     ·refine af (ks 2 (by omega)) (.inl rfl) ?_
      simp at ck ck1 hset hget
      simp [hg]
      refine ⟨⟨⟨by omega,by omega⟩,by omega,by omega⟩,g1,?_⟩
      rw [hget]
      simp [hget]
      refine ⟨3,by omega,by omega,?_⟩
      rw [hl] at hset
      simp [eU,ai,bq,hset,dj,dD,dE]
   ·have hk3 : k=3:=by omega
    subst hk3
    simp [hw]
    refine ⟨i + 1,by omega,by omega,?_⟩
    simp [m9,ai,tc]
  ·have hi2 : i=m.f.length:=by omega
   subst hi2
   rw [ve]
end Go.Gv

namespace Go.Gv
theorem jC {s : Spt} (h : bm s=true) : -16777216 <= s.x /\ s.x <= 16777216 /\ -16777216 <= s.y /\ s.y <= 16777216 /\ -4194304 <= s.z /\ s.z <= 4194304:=by
 simp only [bm,Bool.and_eq_true,decide_eq_true_eq] at h
 omega
def spA (m : Msh) (i : Nat) : Spt:=spt m (fce m i).a.toNat
def spB (m : Msh) (i : Nat) : Spt:=spt m (fce m i).b.toNat
def spC (m : Msh) (i : Nat) : Spt:=spt m (fce m i).c.toNat
def iB (m : Msh) (i : Nat) : Int:=(spA m i).z + (spB m i).z + (spC m i).z
def nK (m : Msh) (i : Nat) : Int:=(spA m i).x + (spB m i).x + (spC m i).x
def nL (m : Msh) (i : Nat) : Int:=(spA m i).y + (spB m i).y + (spC m i).y
theorem Ad (m : Msh) (i : Nat) : spt m (fce m i).a.toNat=spA m i:=rfl
theorem Ae (m : Msh) (i : Nat) : spt m (fce m i).b.toNat=spB m i:=rfl
theorem Af (m : Msh) (i : Nat) : spt m (fce m i).c.toNat=spC m i:=rfl
theorem IU {m : Msh} (hv : aC m=true) {i : Nat} (hi : i < m.f.length) : bm (spA m i)=true /\ bm (spB m i)=true /\ bm (spC m i)=true:=by
 obtain ⟨⟨_,h1⟩,⟨_,h2⟩,⟨_,h3⟩⟩:=mU (jb hv hi)
 exact ⟨nA hv h1,nA hv h2,nA hv h3⟩
def smR (m : Msh) (i : Nat) : List (List D):=(List.range i).map fun j=>[.int .i64 (iB m j)]
def ctR (m : Msh) (i : Nat) : List (List D):=(List.range i).map fun j=>[.int .i64 (nK m j),.int .i64 (nL m j)]
@[simp] theorem Oa (m : Msh) (i : Nat) : (smR m i).length=i:=by simp [smR]
@[simp] theorem Jn (m : Msh) (i : Nat) : (ctR m i).length=i:=by simp [ctR]
@[simp] theorem IT (m : Msh) (i : Nat) : List.take i (smR m i)=smR m i:=List.take_of_length_le (by simp)
@[simp] theorem ED (m : Msh) (i : Nat) : List.take i (ctR m i)=ctR m i:=List.take_of_length_le (by simp)
theorem vC (m : Msh) (i : Nat) : smR m i++[[.int .i64 (iB m i)]]=smR m (i + 1):=by simp [smR,List.range_succ]
theorem uy (m : Msh) (i : Nat) : ctR m i++[[.int .i64 (nK m i),.int .i64 (nL m i)]]=ctR m (i + 1):=by simp [ctR,List.range_succ]
@[simp] theorem N9 (m : Msh) (i : Nat) (x : List D) : (∀ e,e ∈ smR m i \/ e=x -> ∀ c,c ∈ e -> au c=true)=∀ c,c ∈ x -> au c=true:=by
 apply propext
 constructor
 ·exact fun h=>h x (.inr rfl)
 ·rintro h e (he | rfl)
  ·obtain ⟨j,_,rfl⟩:=List.mem_map.1 he
   simp
  ·exact h
@[simp] theorem Jm (m : Msh) (i : Nat) (x : List D) : (∀ e,e ∈ ctR m i \/ e=x -> ∀ c,c ∈ e -> au c=true)=∀ c,c ∈ x -> au c=true:=by
 apply propext
 constructor
 ·exact fun h=>h x (.inr rfl)
 ·rintro h e (he | rfl)
  ·obtain ⟨j,_,rfl⟩:=List.mem_map.1 he
   simp
  ·exact h
def cN (sz : Nat) (es : List (List D)) : D:=match es with
 | []=>.nils
 | e::r=>.own sz (e::r)
@[simp] theorem Es (sz : Nat) (es : List (List D)) : aU (cN sz es)=slx true es:=by cases es <;> rfl
def grC (m : Msh) : List D:=[.sl (nbA m),slx true (smR m m.f.length),slx true (ctR m m.f.length)]
theorem sU (m : Msh) : grC m=[.sl (nbA m),slx true (smR m m.f.length),slx true (ctR m m.f.length)]:=_root_.id rfl
def mdE (m : Msh) (i : Nat) : Env:=[(1,.ptr (cj m)),(6,.adr (.r 10352) 0 0),(10352,.blk 3 [[.sl (nbA m),cN 1 (smR m i),cN 2 (ctR m i)]]),(24,slx m.fn (m.f.map cL)),(25,.int .i64 m.f.length),(26,.int .i64 i)]
theorem mV (m : Msh) (i : Nat) : mdE m i=[(1,.ptr (cj m)),(6,.adr (.r 10352) 0 0),(10352,.blk 3 [[.sl (nbA m),cN 1 (smR m i),cN 2 (ctR m i)]]),(24,slx m.fn (m.f.map cL)),(25,.int .i64 m.f.length),(26,.int .i64 i)]:=_root_.id rfl
theorem wl (m : Msh) (i : Nat) : cN 1 (smR m (i + 1))=.own 1 (smR m (i + 1)):=by
 have : (smR m (i + 1)).length=i + 1:=by simp
 cases h : smR m (i + 1) with
 | nil=>rw [h] at this;simp at this
 | cons e r=>rfl
theorem wk (m : Msh) (i : Nat) : cN 2 (ctR m (i + 1))=.own 2 (ctR m (i + 1)):=by
 have : (ctR m (i + 1)).length=i + 1:=by simp
 cases h : ctR m (i + 1) with
 | nil=>rw [h] at this;simp at this
 | cons e r=>rfl
variable {C : CC} (hC : aE prog C)
include hC
theorem fK (dec : Nat -> List UInt8) (hI : ∀ n : Nat,n < 100 -> C 127 [.int .i64 n] (.str (dec n)) []) (m : Msh) (hz : cY m=true -> m.s.length <= 100 /\ m.f.length <= 100) :
  C 221 [.agg (cj m)] (if aC m then .tup [.sl (nbA m),.int .i64 0] else .tup [.nils,.int .i64 1]) []:=by
 have k:=oc hC dec hI m hz
 refine bD hC (nf:=N221) rfl rfl ?_
 simp only [ai] at k
 simp [N221,ai]
 refine af k (.inl rfl) ?_
 cases hv : aC m
 ·simp
 ·have k2:=nd hC m hv
  simp only [ai] at k2
  simp
  refine af k2 (.inr rfl) ?_
  simp
set_option maxRecDepth 8000 in
set_option maxHeartbeats 2000000 in
theorem yQ (dec : Nat -> List UInt8) (hI : ∀ n : Nat,n < 100 -> C 127 [.int .i64 n] (.str (dec n)) []) (m : Msh) (hz : cY m=true -> m.s.length <= 100 /\ m.f.length <= 100) :
  C 253 [.agg (cj m)] (if aC m then .tup [.ptr (grC m),.int .i64 0] else .tup [.nilp,.int .i64 1]) []:=by
 have k:=fK hC dec hI m hz
 refine bD hC (nf:=N253) rfl rfl ?_
 simp only [ai] at k
 simp [N253,ai]
 refine af k (.inr rfl) ?_
 cases hv : aC m
 ·simp
 ·have hsz:=dS hv
  simp
  refine aF Nat (fun i=>mdE m i) (fun i=>i <= m.f.length) (fun i=>m.f.length - i) 0 (by simp) (by simp [mV,ai,smR,ctR,cN]) ?_
  rintro i hi
  simp [mV,ai]
  refine av (fun g1=>?_) (fun g1=>?_) <;> simp at g1 <;> simp [g1]
  ·have hw : IntKind.wrap .i64 ((i : Int) + 1)=((i + 1 : Nat) : Int):=ao (by omega) (by omega)
   obtain ⟨⟨a1,a2⟩,⟨b1,b2⟩,⟨c1,c2⟩⟩:=mU (jb hv g1)
   obtain ⟨h1,h2,h3⟩:=IU hv g1
   have h1:=jC h1
   have h2:=jC h2
   have h3:=jC h3
   have wz1 : IntKind.wrap .i64 ((spA m i).z + (spB m i).z)=(spA m i).z + (spB m i).z:=ao rfl (by omega)
   have wz2 : IntKind.wrap .i64 ((spA m i).z + (spB m i).z + (spC m i).z)=iB m i:=ao rfl (by unfold iB;omega)
   have wx1 : IntKind.wrap .i64 ((spA m i).x + (spB m i).x)=(spA m i).x + (spB m i).x:=ao rfl (by omega)
   have wx2 : IntKind.wrap .i64 ((spA m i).x + (spB m i).x + (spC m i).x)=nK m i:=ao rfl (by unfold nK;omega)
   have wy1 : IntKind.wrap .i64 ((spA m i).y + (spB m i).y)=(spA m i).y + (spB m i).y:=ao rfl (by omega)
   have wy2 : IntKind.wrap .i64 ((spA m i).y + (spB m i).y + (spC m i).y)=nL m i:=ao rfl (by unfold nL;omega)
   simp [bq,a1,a2,b1,b2,c1,c2,ky,Ad,Ae,Af]
   refine ⟨aT (by decide +kernel),?_⟩
   cases i with
   | zero =>
    simp [smR,ctR,cN]
    refine ⟨aT (by decide +kernel),aT (by decide +kernel),1,by omega,by omega,?_⟩
    simp [mV,ai,smR,ctR,cN,dj,wz1,wz2,wx1,wx2,wy1,wy2]
   | succ j =>
    simp [wl,wk]
    have e1:=vC m (j + 1)
    have e2:=uy m (j + 1)
    refine ⟨by omega,aT (by decide +kernel),by omega,aT (by decide +kernel),j + 1 + 1,by omega,by omega,?_⟩
    simp [mV,ai,wl,wk,wz1,wz2,wx1,wx2,wy1,wy2,e1,e2]
    exact ao rfl (by omega)
  ·have hi2 : i=m.f.length:=by omega
   subst hi2
   simp [sU]
end Go.Gv

namespace Go.Gv
theorem uX {α : Type} (p : α -> Bool) (xs : List α) : -1 <= gw p xs /\ gw p xs < xs.length:=by
 unfold gw
 split
 ·rename_i i h
  have:=(List.findIdx?_eq_some_iff_getElem.1 h).1
  omega
 ·omega
theorem dZ (m : Msh) (i k : Nat) : -1 <= nbF m i k /\ nbF m i k < m.f.length:=uX _ _
def bsd (m : Msh) (i : Nat) (o : Int) : Bool:=decide (o=nbF m i 0) || (decide (o=nbF m i 1) || decide (o=nbF m i 2))
def sk (m : Msh) (i j : Nat) : Int:=iB m i - iB m j
def Ih (m : Msh) (i j : Nat) : Int:=sk m i j * (if sk m i j < -sk m i j then -sk m i j else sk m i j)
def EE (m : Msh) (i j : Nat) : Int:=(nK m i - nK m j) * (nK m i - nK m j) + (nL m i - nL m j) * (nL m i - nL m j)
def Ey (m : Msh) (i a b : Nat) : Int:=Oz (Ih m i a * EE m i b) (Ih m i b * EE m i a)
def PW (m : Msh) (i : Nat) (best n : Int) : Int:=if n < 0 \/ iB m i <= iB m n.toNat then best else if best < 0 then n else if 0 < Ey m i n.toNat best.toNat \/ (Ey m i n.toNat best.toNat=0 /\ n < best) then n else best
def upF (m : Msh) (i : Nat) : Nat -> Int
 | 0=>-2
 | k + 1=>PW m i (upF m i k) (nbF m i k)
def qY (m : Msh) (i : Nat) : Int:=if upF m i 3=-2 /\ bsd m i (-1)=true then -1 else upF m i 3
variable {C : CC} (hC : aE prog C)
include hC
theorem uY {b : Bool} {xs : List Int} (o : Int) (hs : xs.length < 2 ^ 62) : C 262 [slx b (xs.map fun x=>[.int .i64 x]),.int .i64 o] (.int .i64 (gw (fun x=>decide (o=x)) xs)) []:=by
 refine bD hC (nf:=N262) rfl rfl ?_
 simp [N262]
 refine aF Nat (fun i=>[(0,slx b (xs.map fun x=>[.int .i64 x])),(1,.int .i64 o),(7,.int .i64 xs.length),(8,.int .i64 i)]) (fun i=>i <= xs.length /\ ∀ (j : Nat) (h : j < xs.length),j < i -> decide (o=xs[j])=false) (fun i=>xs.length - i) 0 (by simp) (by simp) ?_
 rintro i ⟨hi,hj⟩
 simp
 refine av (fun h=>?_) (fun h=>?_) <;> simp [h] <;> simp at h
 ·have hw : IntKind.wrap .i64 ((i : Int) + 1)=((i + 1 : Nat) : Int):=ao (by omega) (by omega)
  simp [h,List.getElem_map]
  refine av (fun h1=>?_) (fun h1=>?_) <;> simp at h1 <;> simp [hw]
  ·rw [fv hj h (by simpa using h1)]
  ·refine ⟨i + 1,⟨by omega,fun j hl hjj=>?_⟩,by omega,by omega⟩
   rcases Nat.lt_succ_iff_lt_or_eq.1 hjj with h2 | rfl
   ·simpa using hj j hl h2
   ·exact h1
 ·rw [gP (fun j hl=>hj j hl (by omega))]
theorem mS {b : Bool} {xs : List Int} (o : Int) (hs : xs.length < 2 ^ 62) : C 223 [slx b (xs.map fun x=>[.int .i64 x]),.int .i64 o] (.bool (xs.any fun x=>decide (o=x))) []:=by
 refine bD hC (nf:=N223) rfl rfl ?_
 simp [N223]
 refine af (uY hC o hs) (.inl rfl) ?_
 simp [kV]
end Go.Gv

namespace Go.Gv
def inR (l : List Int) : List (List D):=l.map fun n=>[.int .i64 n]
theorem s4 (l : List Int) : inR l=l.map fun n=>[.int .i64 n]:=rfl
@[simp] theorem J5 (l : List Int) : (inR l).length=l.length:=by simp [inR]
@[simp] theorem kZ (l : List Int) : List.take l.length (inR l)=inR l:=List.take_of_length_le (by simp)
@[simp] theorem O5 (l : List Int) : List.map (fun e=>List.map aU e) (inR l)=inR l:=by simp [inR]
@[simp] theorem J6 : inR []=[]:=rfl
def bE (m : Msh) : List Int:=(List.range m.f.length).map fun j=>iB m j
def P4 (m : Msh) : List Int:=(List.range m.f.length).map fun j=>qY m j
theorem IS (m : Msh) : smR m m.f.length=inR (bE m):=by simp [smR,inR,bE]
def flT (m : Msh) (i : Nat) : List Int:=(List.range i).map fun j=>qY m j
def flB (m : Msh) : Nat -> List (List D)
 | 0=>List.replicate m.f.length [.int .i64 0]
 | i + 1=>inR (flT m (i + 1))
def pth (m : Msh) : Nat -> Int -> List Int
 | 0,_=>[]
 | k + 1,f=>if f < 0 then [] else f::pth m k (qY m f.toNat)
def rnk (m : Msh) (i : Nat) : Nat:=((List.range m.f.length).filter fun j=>decide (iB m j < iB m i)).length
def xC (m : Msh) (f : Int) : List Int:=pth m m.f.length f
def Px (m : Msh) (i : Nat) : List Int:=((List.range i).filter fun j=>decide (qY m j=-2)).map fun (j : Nat)=>(j : Int)
def Qd (m : Msh) : List Int:=Px m m.f.length
variable {C : CC} (hC : aE prog C)
include hC
theorem rU (dec : Nat -> List UInt8) (hI : ∀ n : Nat,n < 100 -> C 127 [.int .i64 n] (.str (dec n)) []) (m : Msh) (hz : cY m=true -> m.s.length <= 100 /\ m.f.length <= 100) :
  C 220 [.agg (cj m)] (if aC m then .tup [slx true (inR (bE m)),.int .i64 0] else .tup [.nils,.int .i64 1]) []:=by
 have k:=yQ hC dec hI m hz
 refine bD hC (nf:=N220) rfl rfl ?_
 simp only [ai] at k
 simp [N220,ai]
 refine af k (.inr rfl) ?_
 cases hv : aC m
 ·simp
 ·simp [sU,IS]
end Go.Gv

namespace Go.Gv
def nfR (fs : List Nat) : List (List D):=fs.map fun i : Nat=>[D.int .i64 (i : Int)]
@[simp] theorem Nu (fs : List Nat) : (nfR fs).length=fs.length:=by simp [nfR]
theorem gR {fs : List Nat} {i : Nat} (h : i < fs.length) : (nfR fs)[i]? = some [.int .i64 (fs[i] : Int)]:=by simp [nfR,h]
theorem zK {fs : List Nat} {i : Nat} (h : i < (nfR fs).length) : (nfR fs)[i]=[.int .i64 (fs[i]'(by simpa using h) : Nat)]:=by simp [nfR]
@[simp] theorem HM (fs : List Nat) (n : Nat) : List.take n (nfR fs)=nfR (fs.take n):=by simp [nfR]
theorem iQ (fs : List Nat) (i x : Nat) : (nfR fs).set i [.int .i64 (x : Int)]=nfR (fs.set i x):=by simp [nfR,List.map_set]
theorem pY (fs : List Nat) (x : Nat) : nfR fs++[[.int .i64 (x : Int)]]=nfR (fs++[x]):=by simp [nfR]
theorem ir (fs : List Nat) : ∀ e ∈ nfR fs,∀ c ∈ e,aP c=true:=by simp [nfR]
theorem tf (fs : List Nat) : ∀ e ∈ nfR fs,∀ c ∈ e,au c=true:=by simp [nfR]
def qB (fs : List Nat) (sp : List Int) : List (List D):=[[.own 1 (nfR fs),.slv 0 (inR sp)]]
def fAt (fs : List Nat) (i : Nat) : Nat:=fs.getD i 0
def swp (fs : List Nat) (i k : Nat) : List Nat:=(fs.set i (fAt fs k)).set k (fAt fs i)
@[simp] theorem Oc (fs : List Nat) (i k : Nat) : (swp fs i k).length=fs.length:=by simp [swp]
theorem cO {fs : List Nat} {i : Nat} (h : i < fs.length) : fAt fs i=fs[i]:=by simp [fAt,h]
theorem eD {fs : List Nat} {i : Nat} (h : i < fs.length) : fAt fs i ∈ fs:=by rw [cO h];exact List.getElem_mem _
theorem b8 {sp : List Int} {i : Nat} (h : i < sp.length) : (inR sp)[i]? = some [.int .i64 (sp.getD i 0)]:=by simp [inR,h]
section
variable {C : Nat -> List D -> D -> List D -> Prop} (hC : fI prog C)
include hC
theorem tr (fs : List Nat) (sp : List Int) : C 317 [.blk 2 (qB fs sp),.adr (.r 10015) 0 0] (.int .i64 fs.length) [.blk 2 (qB fs sp),.nilp]:=by
 unfold qB
 refine eM hC (nf:=N317) rfl rfl ?_
 simp [N317]
theorem iW (fs : List Nat) (sp : List Int) (i k : Nat) (hi : i < fs.length) (hk : k < fs.length) : C 343 [.blk 2 (qB fs sp),.adr (.r 10015) 0 0,.int .i64 i,.int .i64 k] (.tup []) [.blk 2 (qB (swp fs i k) sp),.nilp]:=by
 rw [show swp fs i k=(fs.set i fs[k]).set k fs[i] by rw [<- cO hi,<- cO hk];rfl]
 unfold qB
 refine eM hC (nf:=N343) rfl rfl ?_
 simp [N343,aX (gR hi),aX (gR hk),hi,hk,zK,iQ]
 exact aT (by decide +kernel)
theorem vm (fs : List Nat) (sp : List Int) (x : Nat) (h : fs.length < 2 ^ 40) : C 342 [.blk 2 (qB fs sp),.adr (.r 10015) 0 0,.ifi 2 x] (.tup []) [.blk 2 (qB (fs++[x]) sp),.nilp]:=by
 unfold qB
 refine eM hC (nf:=N342) rfl rfl ?_
 simp [N342]
 refine ⟨by omega,?_,aT (by decide +kernel),?_⟩
 ·rintro e (he | rfl) c hc
  ·exact tf _ _ he _ hc
  ·simp at hc;subst hc;rfl
 ·exact pY fs x
theorem zT (fs : List Nat) (sp : List Int) (h : 0 < fs.length) (h2 : fs.length < 2 ^ 40) : C 341 [.blk 2 (qB fs sp),.adr (.r 10015) 0 0] (.ifi 2 (fAt fs (fs.length - 1) : Nat)) [.blk 2 (qB (fs.take (fs.length - 1)) sp),.nilp]:=by
 have e1 : IntKind.wrap .i64 ((fs.length : Int) - 1)=((fs.length - 1 : Nat) : Int):=ao (by omega) (by omega)
 have hl : fs.length - 1 < fs.length:=by omega
 rw [cO hl]
 unfold qB
 refine eM hC (nf:=N341) rfl rfl ?_
 simp [N341,e1,aX (gR hl),hl]
 refine ⟨aT (by decide +kernel),?_⟩
 refine v8 (b:=10015) (i:=0) (off:=0) (n:=fs.length - 1) rfl (by simp) rfl rfl rfl (by simp) ?_
 simp
 exact aT (by decide +kernel)
def ltF (sp : List Int) (a b : Nat) : Bool:=decide (sp.getD a 0 < sp.getD b 0) || (decide (sp.getD a 0=sp.getD b 0) && decide (a < b))
theorem iV (fs : List Nat) (sp : List Int) (i k : Nat) (hi : i < fs.length) (hk : k < fs.length) (hb : ∀ a ∈ fs,a < sp.length) : C 340 [.blk 2 (qB fs sp),.adr (.r 10015) 0 0,.int .i64 i,.int .i64 k] (.bool (ltF sp (fAt fs i) (fAt fs k))) [.blk 2 (qB fs sp),.nilp]:=by
 rw [cO hi,cO hk]
 unfold qB
 refine eM hC (nf:=N340) rfl rfl ?_
 have hi' : fs[i] < sp.length:=hb _ (List.getElem_mem _)
 have hk' : fs[k] < sp.length:=hb _ (List.getElem_mem _)
 simp [N340,aX (gR hi),aX (gR hk),hi,hk,ar (b8 hi'),ar (b8 hk')]
 refine ⟨aT (by decide +kernel),?_⟩
 refine av (fun g1=>?_) (fun g1=>?_) <;> simp at g1
 ·simp [g1,ltF]
  exact aT (by decide +kernel)
 ·simp [Int.not_lt.2 g1,ar (b8 hi'),ar (b8 hk')]
  refine av (fun g2=>?_) (fun g2=>?_) <;> simp at g2
  ·simp [g2,ltF]
   exact aT (by decide +kernel)
  ·simp [g2,ltF,Int.not_lt.2 g1]
   exact aT (by decide +kernel)
end
end Go.Gv

namespace Go.Gv
def upL (sp : List Int) (fs : List Nat) (j : Nat) : List Nat :=
 if j=0 then fs else if ltF sp (fAt fs j) (fAt fs ((j - 1) / 2)) then upL sp (swp fs ((j - 1) / 2) j) ((j - 1) / 2) else fs
 termination_by j
 decreasing_by omega
def dnJ (sp : List Int) (fs : List Nat) (j n : Nat) : Nat:=if j + 1 < n /\ ltF sp (fAt fs (j + 1)) (fAt fs j)=true then j + 1 else j
theorem kH {sp : List Int} {fs : List Nat} {j n : Nat} (h : j < n) : j <= dnJ sp fs j n /\ dnJ sp fs j n < n:=by
 unfold dnJ
 split <;> omega
def bv (sp : List Int) (fs : List Nat) (i n : Nat) : List Nat × Nat :=
 if h : n <= 2 * i + 1 then (fs,i) else if ltF sp (fAt fs (dnJ sp fs (2 * i + 1) n)) (fAt fs i) then bv sp (swp fs i (dnJ sp fs (2 * i + 1) n)) (dnJ sp fs (2 * i + 1) n) n else (fs,i)
 termination_by n - i
 decreasing_by
 have:=kH (sp:=sp) (fs:=fs) (j:=2 * i + 1) (n:=n) (by omega)
 omega
theorem qa {fs : List Nat} {i x a : Nat} (h : a ∈ fs.set i x) : a=x \/ a ∈ fs:=by
 rcases List.mem_or_eq_of_mem_set h with h | h
 ·exact .inr h
 ·exact .inl h
theorem i8 {fs : List Nat} {i k a : Nat} (hi : i < fs.length) (hk : k < fs.length) (h : a ∈ swp fs i k) : a ∈ fs:=by
 rcases qa h with rfl | h
 ·exact eD hi
 ·rcases qa h with rfl | h
  ·exact eD hk
  ·exact h
section
variable {C : Nat -> List D -> D -> List D -> Prop} (hC : fI prog C)
include hC
theorem Fq (fs : List Nat) (sp : List Int) (j : Nat) (hj : j < fs.length) (hb : ∀ a ∈ fs,a < sp.length) (h2 : fs.length < 2 ^ 40) : C 334 [.blk 2 (qB fs sp),.ifa 20 (.r 10015) 0 0,.int .i64 j] (.tup []) [.blk 2 (qB (upL sp fs j) sp),.nilp]:=by
 refine eM hC (nf:=N334) rfl rfl ?_
 simp [N334]
 refine aF (List Nat × Nat) (fun s=>[(0,.ifa 20 (.r 10015) 0 0),(1,.int .i64 s.2),(10015,.blk 2 (qB s.1 sp))]) (fun s=>s.2 < s.1.length /\ s.1.length=fs.length /\ (∀ a ∈ s.1,a < sp.length) /\ upL sp s.1 s.2=upL sp fs j) (fun s=>s.2) (fs,j) ⟨hj,rfl,hb,rfl⟩ (by simp) ?_
 rintro ⟨l,i⟩ ⟨k1,k2,k3,k4⟩
 simp only at k1 k2 k3 k4
 obtain ⟨p,hp0⟩ : ∃ p,p=(i - 1) / 2:=⟨_,rfl⟩
 have e1 : IntKind.wrap .i64 ((IntKind.wrap .i64 ((i : Int) - 1)).tdiv 2)=(p : Int):=by
  rw [ao (m:=(i : Int) - 1) rfl (by omega),hp0]
  by_cases h0 : i=0
  ·subst h0;decide
  ·rw [Int.tdiv_eq_ediv_of_nonneg (by omega)]
   exact ao (by omega) (by omega)
 have hp : p < l.length:=by omega
 have hu : upL sp l i=if i=0 then l else if ltF sp (fAt l i) (fAt l p) then upL sp (swp l p i) p else l:=by
  conv=>lhs;unfold upL
  rw [hp0]
 simp [e1]
 refine av (fun g1=>?_) (fun g1=>?_) <;> simp at g1 <;> simp [g1]
 ·have h0 : i=0:=by omega
  subst h0
  rw [<- k4,hu]
  simp [qB]
 ·have hne : i ≠ 0:=by omega
  have hl:=iV hC l sp i p k1 hp k3
  rw [if_neg hne] at hu
  refine ⟨by simp [qB],?_⟩
  refine bU hl (by simp [qB]) ?_
  simp [bN]
  refine av (fun g2=>?_) (fun g2=>?_) <;> simp at g2
  ·simp [g2]
   rw [<- k4,hu,g2]
   simp [qB]
  ·simp [g2]
   refine ⟨by simp [qB],?_⟩
   refine bU (iW hC l sp p i hp k1) (by simp [qB]) ?_
   simp [bN]
   exact ⟨swp l p i,p,⟨by simp;exact hp,by simp [k2],fun a ha=>k3 a (i8 hp k1 ha),by rw [<- k4,hu,g2];simp⟩,by omega,rfl,rfl⟩
theorem uU (fs : List Nat) (sp : List Int) (i0 n : Nat) (hn : n <= fs.length) (hi0 : i0 < fs.length) (hb : ∀ a ∈ fs,a < sp.length) (h2 : fs.length < 2 ^ 40) : C 335 [.blk 2 (qB fs sp),.ifa 20 (.r 10015) 0 0,.int .i64 i0,.int .i64 n] (.bool (decide (i0 < (bv sp fs i0 n).2))) [.blk 2 (qB (bv sp fs i0 n).1 sp),.nilp]:=by
 refine eM hC (nf:=N335) rfl rfl ?_
 simp [N335]
 refine aF (List Nat × Nat) (fun s=>[(0,.ifa 20 (.r 10015) 0 0),(1,.int .i64 i0),(2,.int .i64 n),(7,.int .i64 s.2),(10015,.blk 2 (qB s.1 sp))]) (fun s=>s.2 < s.1.length /\ s.1.length=fs.length /\ (∀ a ∈ s.1,a < sp.length) /\ bv sp s.1 s.2 n=bv sp fs i0 n) (fun s=>fs.length - s.2) (fs,i0) ⟨hi0,rfl,hb,rfl⟩ (by simp) ?_
 rintro ⟨l,i⟩ ⟨k1,k2,k3,k4⟩
 simp only at k1 k2 k3 k4
 have e1 : IntKind.wrap .i64 (IntKind.wrap .i64 (2 * (i : Int)) + 1)=((2 * i + 1 : Nat) : Int):=by
  rw [ao (m:=2 * (i : Int)) rfl (by omega)]
  exact ao (by omega) (by omega)
 have e2 : IntKind.wrap .i64 (((2 * i + 1 : Nat) : Int) + 1)=((2 * i + 1 + 1 : Nat) : Int):=ao (by omega) (by omega)
 obtain ⟨j1,hj1⟩ : ∃ j1,j1=2 * i + 1:=⟨_,rfl⟩
 rw [<- hj1] at e1 e2
 obtain ⟨j2,hj2⟩ : ∃ j2,j2=j1 + 1:=⟨_,rfl⟩
 rw [<- hj2] at e2
 obtain ⟨jm,hjm⟩ : ∃ jm,jm=dnJ sp l j1 n:=⟨_,rfl⟩
 have hu : bv sp l i n=if n <= j1 then (l,i) else if ltF sp (fAt l jm) (fAt l i) then bv sp (swp l i jm) jm n else (l,i):=by
  conv=>lhs;unfold bv
  rw [<- hj1,<- hjm]
  rfl
 simp [e1]
 refine av (fun g1=>?_) (fun g1=>?_) <;> simp at g1
 ·simp [g1]
  rw [<- k4,hu,if_pos g1]
  simp [qB]
 ·rw [if_neg (by omega)] at hu
  have hj:=kH (sp:=sp) (fs:=l) (j:=j1) (n:=n) g1
  rw [<- hjm] at hj
  have hjl : jm < l.length:=by omega
  simp [Nat.not_le.2 g1,show ¬ ((j1 : Int) < 0) by omega,e2]
  have hm : jm=if j2 < n /\ ltF sp (fAt l j2) (fAt l j1)=true then j2 else j1:=by rw [hjm,hj2];rfl
  refine av (fun g2=>?_) (fun g2=>?_) <;> simp at g2
  ·simp [g2]
   refine ⟨by simp [qB],?_⟩
   refine bU (iV hC l sp j2 j1 (by omega) (by omega) k3) (by simp [qB]) ?_
   simp [bN]
   refine av (fun g3=>?_) (fun g3=>?_)
   ·rw [if_pos ⟨g2,g3⟩] at hm
    simp [g3]
    subst hm
    refine ⟨by simp [qB],?_⟩
    refine bU (iV hC l sp _ i hjl k1 k3) (by simp [qB]) ?_
    simp [bN]
    refine av (fun g4=>?_) (fun g4=>?_) <;> simp at g4
    ·simp [g4]
     rw [<- k4,hu,if_neg (by simp [g4])]
     simp [qB]
    ·simp [g4]
     refine ⟨by simp [qB],?_⟩
     refine bU (iW hC l sp i _ k1 hjl) (by simp [qB]) ?_
     simp [bN]
     exact ⟨swp l i _,_,⟨by simp;exact hjl,by simp [k2],fun a ha=>k3 a (i8 k1 hjl ha),by rw [<- k4,hu,if_pos g4]⟩,by omega,rfl,rfl⟩
   ·rw [if_neg (by simp [g3])] at hm
    simp [g3]
    subst hm
    refine ⟨by simp [qB],?_⟩
    refine bU (iV hC l sp _ i hjl k1 k3) (by simp [qB]) ?_
    simp [bN]
    refine av (fun g4=>?_) (fun g4=>?_) <;> simp at g4
    ·simp [g4]
     rw [<- k4,hu,if_neg (by simp [g4])]
     simp [qB]
    ·simp [g4]
     refine ⟨by simp [qB],?_⟩
     refine bU (iW hC l sp i _ k1 hjl) (by simp [qB]) ?_
     simp [bN]
     exact ⟨swp l i _,_,⟨by simp;exact hjl,by simp [k2],fun a ha=>k3 a (i8 k1 hjl ha),by rw [<- k4,hu,if_pos g4]⟩,by omega,rfl,rfl⟩
  ·rw [if_neg (by omega)] at hm
   simp [Nat.not_lt.2 g2]
   subst hm
   refine ⟨by simp [qB],?_⟩
   refine bU (iV hC l sp _ i hjl k1 k3) (by simp [qB]) ?_
   simp [bN]
   refine av (fun g4=>?_) (fun g4=>?_) <;> simp at g4
   ·simp [g4]
    rw [<- k4,hu,if_neg (by simp [g4])]
    simp [qB]
   ·simp [g4]
    refine ⟨by simp [qB],?_⟩
    refine bU (iW hC l sp i _ k1 hjl) (by simp [qB]) ?_
    simp [bN]
    exact ⟨swp l i _,_,⟨by simp;exact hjl,by simp [k2],fun a ha=>k3 a (i8 k1 hjl ha),by rw [<- k4,hu,if_pos g4]⟩,by omega,rfl,rfl⟩
theorem uV (fs : List Nat) (sp : List Int) (x : Nat) (hx : x < sp.length) (hb : ∀ a ∈ fs,a < sp.length) (h2 : fs.length + 1 < 2 ^ 40) : C 316 [.blk 2 (qB fs sp),.ifa 20 (.r 10015) 0 0,.ifi 2 x] (.tup []) [.blk 2 (qB (upL sp (fs++[x]) fs.length) sp),.nilp]:=by
 have hb' : ∀ a ∈ fs++[x],a < sp.length:=by
  intro a ha
  rcases List.mem_append.1 ha with ha | ha
  ·exact hb a ha
  ·simp at ha;omega
 have e1 : IntKind.wrap .i64 (((fs.length + 1 : Nat) : Int) - 1)=(fs.length : Int):=ao (by omega) (by omega)
 refine eM hC (nf:=N316) rfl rfl ?_
 simp [N316]
 refine ⟨by simp [qB],?_⟩
 refine bU (vm hC fs sp x (by omega)) (by simp [qB]) ?_
 simp [bN]
 refine ⟨by simp [qB],?_⟩
 refine bU (tr hC (fs++[x]) sp) (by simp [qB]) ?_
 have hup:=Fq hC (fs++[x]) sp fs.length (by simp) hb' (by simp;omega)
 simp at e1
 simp [bN,e1]
 refine ⟨by simp [qB],?_⟩
 refine bU hup (by simp [qB]) ?_
 simp [bN,qB]
omit hC in
theorem qv (sp : List Int) (fs : List Nat) (i n : Nat) : (bv sp fs i n).1.length=fs.length:=by
 induction fs,i using bv.induct sp n with
 | case1 fs i h=>unfold bv;simp [h]
 | case2 fs i h1 h2 ih=>unfold bv;simp only [dif_neg h1,if_pos h2];rw [ih];simp
 | case3 fs i h1 h2=>unfold bv;simp only [dif_neg h1,if_neg h2]
theorem yv (fs : List Nat) (sp : List Int) (h0 : 0 < fs.length) (hb : ∀ a ∈ fs,a < sp.length) (h2 : fs.length < 2 ^ 40) : C 318 [.blk 2 (qB fs sp),.ifa 20 (.r 10015) 0 0] (.ifi 2 (fAt (bv sp (swp fs 0 (fs.length - 1)) 0 (fs.length - 1)).1 (fs.length - 1) : Nat)) [.blk 2 (qB ((bv sp (swp fs 0 (fs.length - 1)) 0 (fs.length - 1)).1.take (fs.length - 1)) sp),.nilp]:=by
 obtain ⟨n,hn⟩ : ∃ n,n=fs.length - 1:=⟨_,rfl⟩
 have e1 : IntKind.wrap .i64 ((fs.length : Int) - 1)=(n : Int):=ao (by omega) (by omega)
 rw [<- hn]
 have hsw:=iW hC fs sp 0 n h0 (by omega)
 have hdn:=uU hC (swp fs 0 n) sp 0 n (by simp;omega) (by simp;omega) (fun a ha=>hb a (i8 h0 (by omega) ha)) (by simp;omega)
 have hl : (bv sp (swp fs 0 n) 0 n).1.length=fs.length:=by rw [qv];simp
 have hpo:=zT hC (bv sp (swp fs 0 n) 0 n).1 sp (by omega) (by omega)
 rw [hl,<- hn] at hpo
 refine eM hC (nf:=N318) rfl rfl ?_
 simp [N318]
 refine ⟨by simp [qB],?_⟩
 refine bU (tr hC fs sp) (by simp [qB]) ?_
 simp [bN,e1]
 refine ⟨by simp [qB],?_⟩
 refine bU hsw (by simp [qB]) ?_
 simp [bN]
 refine ⟨by simp [qB],?_⟩
 refine bU hdn (by simp [qB]) ?_
 simp [bN]
 refine ⟨by simp [qB],?_⟩
 refine bU hpo (by simp [qB]) ?_
 simp [bN,qB]
end
end Go.Gv

namespace Go.Gv
theorem iO {sp : List Int} {a b : Nat} : ltF sp a b=true ↔ sp.getD a 0 < sp.getD b 0 \/ (sp.getD a 0=sp.getD b 0 /\ a < b):=by simp [ltF]
theorem dY {sp : List Int} {a b : Nat} : ltF sp a b=false ↔ sp.getD b 0 < sp.getD a 0 \/ (sp.getD a 0=sp.getD b 0 /\ b <= a):=by
 rw [<- Bool.not_eq_true,iO]
 omega
theorem jH {fs : List Nat} {i k x : Nat} (hi : i < fs.length) (hk : k < fs.length) : fAt (swp fs i k) x=if x=k then fAt fs i else if x=i then fAt fs k else fAt fs x:=by
 unfold swp
 by_cases hx : x < fs.length
 ·rw [cO (by simpa using hx)]
  simp only [List.getElem_set]
  by_cases e1 : k=x
  ·subst e1;simp
  ·rw [if_neg e1,if_neg (Ne.symm e1)]
   by_cases e2 : i=x
   ·subst e2;simp
   ·rw [if_neg e2,if_neg (Ne.symm e2),cO hx]
 ·rw [if_neg (by omega),if_neg (by omega)]
  simp only [fAt,List.getD_eq_getElem?_getD]
  rw [List.getElem?_eq_none (by simp;omega),List.getElem?_eq_none (by omega)]
theorem gY {fs : List Nat} {i k : Nat} (hi : i < fs.length) (hk : k < fs.length) (a : Nat) : (swp fs i k).count a=fs.count a:=by
 have ha:=cO hi
 have hb:=cO hk
 unfold swp
 rw [List.count_set (by simpa using hk),List.count_set hi,ha,hb]
 have h1 : fs[i]=a -> 0 < fs.count a:=fun e=>List.count_pos_iff.2 (by rw [<- e];exact List.getElem_mem _)
 have h2 : fs[k]=a -> 0 < fs.count a:=fun e=>List.count_pos_iff.2 (by rw [<- e];exact List.getElem_mem _)
 simp only [List.getElem_set]
 by_cases e : i=k
 ·subst e
  simp
  by_cases e1 : fs[i]=a
  ·have:=h1 e1;simp [e1];omega
  ·simp [e1]
 ·rw [if_neg e]
  by_cases e1 : fs[i]=a <;> by_cases e2 : fs[k]=a
  ·have:=h1 e1;simp [e1,e2];omega
  ·have:=h1 e1;simp [e1,e2];omega
  ·have:=h2 e2;simp [e1,e2]
  ·simp [e1,e2]
def gq (sp : List Int) (fs : List Nat) (n : Nat) : Prop:=∀ i,0 < i -> i < n -> ltF sp (fAt fs i) (fAt fs ((i - 1) / 2))=false
theorem jI {sp : List Int} : ∀ (j : Nat) (fs : List Nat),j < fs.length -> ∀ a,(upL sp fs j).count a=fs.count a:=by
 intro j
 induction j using Nat.strongRecOn with
 | _ j ih =>
  intro fs hj a
  unfold upL
  split
  ·rfl
  ·split
   ·rw [ih _ (by omega) _ (by simp;omega)]
    exact gY (by omega) hj a
   ·rfl
theorem i9 {sp : List Int} : ∀ (j : Nat) (fs : List Nat),(upL sp fs j).length=fs.length:=by
 intro j
 induction j using Nat.strongRecOn with
 | _ j ih =>
  intro fs
  unfold upL
  split
  ·rfl
  ·split
   ·rw [ih _ (by omega)];simp
   ·rfl
theorem tY {sp : List Int} : ∀ (j : Nat) (fs : List Nat),j < fs.length -> (∀ i,0 < i -> i < fs.length -> i ≠ j -> ltF sp (fAt fs i) (fAt fs ((i - 1) / 2))=false) -> (∀ i,0 < i -> i < fs.length -> (i - 1) / 2=j -> 0 < j -> ltF sp (fAt fs i) (fAt fs ((j - 1) / 2))=false) -> gq sp (upL sp fs j) fs.length:=by
 intro j
 induction j using Nat.strongRecOn with
 | _ j ih =>
  intro fs hj h1 h2
  unfold upL
  split
  ·rename_i h0
   intro i hi hin
   exact h1 i hi hin (by omega)
  ·rename_i h0
   split
   ·rename_i hl
    have hp : (j - 1) / 2 < fs.length:=by omega
    have hpj : (j - 1) / 2 < j:=by omega
    have at_:=fun x=>jH (x:=x) hp hj
    have key:=ih ((j - 1) / 2) hpj (swp fs ((j - 1) / 2) j) (by simp;omega) (fun i hi hin hne=>?_) (fun i hi hin hpi h0p=>?_)
    ·simpa using key
    ·simp at hin
     rw [at_,at_]
     by_cases e1 : i=j
     ·subst e1
      rw [if_pos rfl,if_neg (by omega),if_pos rfl]
      rw [dY]
      rw [iO] at hl
      omega
     ·rw [if_neg e1,if_neg hne]
      by_cases e2 : (i - 1) / 2=j
      ·rw [if_pos e2]
       exact h2 i hi hin e2 (by omega)
      ·rw [if_neg e2]
       by_cases e3 : (i - 1) / 2=(j - 1) / 2
       ·rw [if_pos e3]
        have h4:=h1 i hi hin e1
        rw [e3] at h4
        rw [dY] at h4 ⊢
        rw [iO] at hl
        omega
       ·rw [if_neg e3]
        exact h1 i hi hin e1
    ·simp at hin
     rw [at_,at_]
     rw [if_neg (show ((j - 1) / 2 - 1) / 2 ≠ j by omega),if_neg (show ((j - 1) / 2 - 1) / 2 ≠ (j - 1) / 2 by omega)]
     have h5:=h1 ((j - 1) / 2) h0p hp (by omega)
     by_cases e1 : i=j
     ·rw [if_pos e1]
      exact h5
     ·rw [if_neg e1,if_neg (by omega)]
      have h4:=h1 i hi hin e1
      rw [hpi] at h4
      rw [dY] at h4 h5 ⊢
      omega
   ·rename_i hl
    intro i hi hin
    by_cases e : i=j
    ·subst e;simpa using hl
    ·exact h1 i hi hin e
theorem sm {sp : List Int} {fs : List Nat} {j n x : Nat} (hx : (x - 1) / 2=(j - 1) / 2) (hj : j % 2=1) (h0 : 0 < x) (hn : x < n) : ltF sp (fAt fs x) (fAt fs (dnJ sp fs j n))=false:=by
 have hxj : x=j \/ x=j + 1:=by omega
 unfold dnJ
 split
 ·rename_i h
  rcases hxj with rfl | rfl
  ·have:=h.2
   rw [iO] at this
   rw [dY]
   omega
  ·rw [dY];omega
 ·rename_i h
  rcases hxj with rfl | rfl
  ·rw [dY];omega
  ·cases e : ltF sp (fAt fs (j + 1)) (fAt fs j)
   ·rfl
   ·exact absurd ⟨hn,e⟩ h
theorem jQ {sp : List Int} {n : Nat} (fs : List Nat) (i : Nat) (hn : n <= fs.length) (a : Nat) : (bv sp fs i n).1.count a=fs.count a:=by
 induction fs,i using bv.induct sp n with
 | case1 fs i h=>unfold bv;simp [h]
 | case2 fs i h1 h2 ih =>
  have hb:=kH (sp:=sp) (fs:=fs) (j:=2 * i + 1) (n:=n) (by omega)
  unfold bv;simp only [dif_neg h1,if_pos h2]
  rw [ih (by simpa using hn)]
  exact gY (by omega) (by omega) a
 | case3 fs i h1 h2=>unfold bv;simp only [dif_neg h1,if_neg h2]
theorem kI {sp : List Int} {n : Nat} (fs : List Nat) (i : Nat) : (bv sp fs i n).1.length=fs.length:=by
 induction fs,i using bv.induct sp n with
 | case1 fs i h=>unfold bv;simp [h]
 | case2 fs i h1 h2 ih=>unfold bv;simp only [dif_neg h1,if_pos h2];rw [ih];simp
 | case3 fs i h1 h2=>unfold bv;simp only [dif_neg h1,if_neg h2]
theorem so {sp : List Int} {n : Nat} (fs : List Nat) (i : Nat) (hn : n <= fs.length) {x : Nat} (hx : n <= x) : fAt (bv sp fs i n).1 x=fAt fs x:=by
 induction fs,i using bv.induct sp n with
 | case1 fs i h=>unfold bv;simp [h]
 | case2 fs i h1 h2 ih =>
  have hb:=kH (sp:=sp) (fs:=fs) (j:=2 * i + 1) (n:=n) (by omega)
  unfold bv;simp only [dif_neg h1,if_pos h2]
  rw [ih (by simpa using hn),jH (by omega) (by omega),if_neg (by omega),if_neg (by omega)]
 | case3 fs i h1 h2=>unfold bv;simp only [dif_neg h1,if_neg h2]
theorem oQ {sp : List Int} {n : Nat} (fs : List Nat) (i : Nat) (hn : n <= fs.length) (hin : i < fs.length) (h1 : ∀ x,0 < x -> x < n -> (x - 1) / 2 ≠ i -> ltF sp (fAt fs x) (fAt fs ((x - 1) / 2))=false) (h2 : ∀ x,0 < x -> x < n -> (x - 1) / 2=i -> 0 < i -> ltF sp (fAt fs x) (fAt fs ((i - 1) / 2))=false) : gq sp (bv sp fs i n).1 n:=by
 induction fs,i using bv.induct sp n with
 | case1 fs i h =>
  unfold bv;simp only [dif_pos h]
  intro x h0 hx
  exact h1 x h0 hx (by omega)
 | case2 fs i g1 g2 ih =>
  obtain ⟨j,hj⟩ : ∃ j,j=dnJ sp fs (2 * i + 1) n:=⟨_,rfl⟩
  have hb:=kH (sp:=sp) (fs:=fs) (j:=2 * i + 1) (n:=n) (by omega)
  have hpar : (j - 1) / 2=i:=by
   rw [hj];unfold dnJ;split <;> omega
  unfold bv;simp only [dif_neg g1,if_pos g2]
  rw [<- hj] at hb g2 ih ⊢
  have at_:=fun x=>jH (fs:=fs) (i:=i) (k:=j) (x:=x) (by omega) (by omega)
  refine ih (by simpa using hn) (by simp;omega) (fun x h0 hx hne=>?_) (fun x h0 hx hp hj0=>?_)
  ·rw [at_,at_]
   by_cases e1 : x=j
   ·subst e1
    rw [if_pos rfl,if_neg (by omega),if_pos (by omega)]
    rw [iO] at g2
    rw [dY]
    omega
   ·rw [if_neg e1,if_neg hne]
    by_cases e2 : x=i
    ·subst e2
     rw [if_pos rfl]
     rw [if_neg (by omega)]
     exact h2 j (by omega) (by omega) hpar (by omega)
    ·rw [if_neg e2]
     by_cases e3 : (x - 1) / 2=i
     ·rw [if_pos e3,hj]
      exact sm (by omega) (by omega) h0 hx
     ·rw [if_neg e3]
      exact h1 x h0 hx e3
  ·rw [at_,at_]
   rw [if_neg (show x ≠ j by omega),if_neg (show x ≠ i by omega),if_neg (show (j - 1) / 2 ≠ j by omega),if_pos hpar]
   have:=h1 x h0 hx (by omega)
   rw [hp] at this
   exact this
 | case3 fs i g1 g2 =>
  unfold bv;simp only [dif_neg g1,if_neg g2]
  intro x h0 hx
  by_cases e : (x - 1) / 2=i
  ·have h3:=sm (sp:=sp) (fs:=fs) (j:=2 * i + 1) (n:=n) (x:=x) (by omega) (by omega) h0 hx
   have h4 : ltF sp (fAt fs (dnJ sp fs (2 * i + 1) n)) (fAt fs i)=false:=by simpa using g2
   rw [e]
   rw [dY] at h3 h4 ⊢
   omega
  ·exact h1 x h0 hx e
theorem qH {sp : List Int} {fs : List Nat} {n : Nat} (h : gq sp fs n) : ∀ x,x < n -> ltF sp (fAt fs x) (fAt fs 0)=false:=by
 intro x
 induction x using Nat.strongRecOn with
 | _ x ih =>
  intro hx
  by_cases h0 : x=0
  ·subst h0;rw [dY];omega
  ·have h1:=h x (by omega) hx
   have h2:=ih ((x - 1) / 2) (by omega) (by omega)
   rw [dY] at h1 h2 ⊢
   omega
theorem tp {sp : List Int} {fs : List Nat} (h : gq sp fs fs.length) (h0 : 0 < fs.length) :
  let r:=(bv sp (swp fs 0 (fs.length - 1)) 0 (fs.length - 1)).1
  fAt r (fs.length - 1)=fAt fs 0 /\ r.length=fs.length /\ gq sp (r.take (fs.length - 1)) (r.take (fs.length - 1)).length /\ (∀ a,fs.count a=(r.take (fs.length - 1)).count a + if a=fAt fs 0 then 1 else 0):=by
 intro r
 have hl : r.length=fs.length:=by show (bv _ _ _ _).1.length=_;rw [kI];simp
 have hlast : fAt r (fs.length - 1)=fAt fs 0:=by
  show fAt (bv _ _ _ _).1 _=_
  rw [so _ _ (by simp) (Nat.le_refl _),jH h0 (by omega),if_pos rfl]
 have htk : ∀ x,x < fs.length - 1 -> fAt (r.take (fs.length - 1)) x=fAt r x:=fun x hx=>by
  unfold fAt
  simp [List.getElem?_take,hx]
 have hlt : (r.take (fs.length - 1)).length=fs.length - 1:=by simp;omega
 refine ⟨hlast,hl,?_,fun a=>?_⟩
 ·rw [hlt]
  intro x hx hxn
  rw [htk x hxn,htk _ (by omega)]
  refine oQ _ _ (by simp) (by simp;omega) (fun y hy hyn hp=>?_) (fun y _ _ _ h=>absurd h (by omega)) x hx hxn
  rw [jH h0 (by omega),jH h0 (by omega),if_neg (by omega),if_neg (by omega),if_neg (by omega),if_neg hp]
  exact h y hy (by omega)
 ·have h1 : r.count a=fs.count a:=by
   show (bv _ _ _ _).1.count a=_
   rw [jQ _ _ (by simp),gY h0 (by omega)]
  rw [<- h1]
  have h2 : r=r.take (fs.length - 1)++[fAt fs 0]:=by
   have h3 : r.drop (fs.length - 1)=[fAt fs 0]:=by
    rw [<- hlast,cO (by omega)]
    rw [List.drop_eq_getElem_cons (by omega)]
    rw [List.drop_eq_nil_of_le (by omega)]
   rw [<- h3,List.take_append_drop]
  conv=>lhs;rw [h2]
  rw [List.count_append]
  congr 1
  simp [List.count_singleton]
  by_cases e : fAt fs 0=a
  ·simp [e]
  ·simp [e,Ne.symm e]
theorem jA {sp : List Int} {fs : List Nat} {x : Nat} (h : gq sp fs fs.length) :
  gq sp (upL sp (fs++[x]) fs.length) (upL sp (fs++[x]) fs.length).length /\ (∀ a,(upL sp (fs++[x]) fs.length).count a=fs.count a + if a=x then 1 else 0) /\ (upL sp (fs++[x]) fs.length).length=fs.length + 1:=by
 have hl : (upL sp (fs++[x]) fs.length).length=fs.length + 1:=by rw [i9];simp
 have at_ : ∀ i,i < fs.length -> fAt (fs++[x]) i=fAt fs i:=fun i hi=>by
  unfold fAt
  simp [List.getElem?_append,hi]
 refine ⟨?_,fun a=>?_,hl⟩
 ·rw [hl]
  have:=tY (sp:=sp) fs.length (fs++[x]) (by simp) (fun i hi hin hne=>?_) (fun i hi hin hp _=>by simp at hin;omega)
  ·simpa using this
  ·simp at hin
   rw [at_ i (by omega),at_ _ (by omega)]
   exact h i hi (by omega)
 ·rw [jI _ _ (by simp),List.count_append]
  congr 1
  simp [List.count_singleton]
  by_cases e : x=a
  ·simp [e]
  ·simp [e,Ne.symm e]
end Go.Gv

namespace Go.Gv
structure Fl where
 q : List Nat
 rc : List Bool
 sp : List Int
 ou : List Int
def fl0 (m : Msh) : Nat -> List Nat × List Bool
 | 0=>([],List.replicate m.f.length false)
 | i + 1=>if bsd m i (-1) then (upL (bE m) ((fl0 m i).1++[i]) (fl0 m i).1.length,(fl0 m i).2.set i true) else fl0 m i
def mxZ (a b : Int) : Int:=if a < b then b else a
def lP (m : Msh) (i : Nat) (s : Fl) (k : Int) : Fl :=
 if k=-1 \/ s.rc.getD k.toNat false=true then s else
  { q:=upL (s.sp.set k.toNat (mxZ (s.sp.getD i 0) ((bE m).getD k.toNat 0))) (s.q++[k.toNat]) s.q.length,rc:=s.rc.set k.toNat true,sp:=s.sp.set k.toNat (mxZ (s.sp.getD i 0) ((bE m).getD k.toNat 0)),ou:=s.ou.set k.toNat i }
def f5 (sp : List Int) (q : List Nat) : List Nat:=(bv sp (swp q 0 (q.length - 1)) 0 (q.length - 1)).1
def flJ (m : Msh) (i : Nat) (s : Fl) : Nat -> Fl
 | 0=>s
 | j + 1=>lP m i (flJ m i s j) (nbF m i j)
def dI (m : Msh) (s : Fl) : Fl :=
 if s.q.length=0 then s else flJ m (fAt (f5 s.sp s.q) (s.q.length - 1)) { s with q:=(f5 s.sp s.q).take (s.q.length - 1) } 3
def flN (m : Msh) : Nat -> Fl -> Fl
 | 0,s=>s
 | k + 1,s=>flN m k (dI m s)
def dx (m : Msh) : Fl:={ q:=(fl0 m m.f.length).1,rc:=(fl0 m m.f.length).2,sp:=bE m,ou:=List.replicate m.f.length (-1) }
def aN (m : Msh) : Fl:=flN m (3 * m.f.length) (dx m)
theorem gQ {m : Msh} {i : Nat} (h : i < m.f.length) : (nbA m)[i]? = some [.int .i64 (nbF m i 0),.int .i64 (nbF m i 1),.int .i64 (nbF m i 2)]:=by simp [nbA,h]
@[simp] theorem Nr (m : Msh) : (nbA m).length=m.f.length:=by simp [nbA]
theorem iK (m : Msh) : ∀ i,(fl0 m i).2.length=m.f.length /\ (fl0 m i).1.length <= i /\ (∀ a ∈ (fl0 m i).1,a < i)
 | 0=>by simp [fl0]
 | i + 1=>by
  obtain ⟨h1,h2,h3⟩:=iK m i
  unfold fl0
  split
  ·refine ⟨by simp [h1],by simp [i9];exact h2,fun a ha=>?_⟩
   have h4:=jI (sp:=bE m) (fl0 m i).1.length ((fl0 m i).1++[i]) (by simp) a
   have h5 : 0 < ((fl0 m i).1++[i]).count a:=by rw [<- h4];exact List.count_pos_iff.2 ha
   rcases List.mem_append.1 (List.count_pos_iff.1 h5) with h6 | h6
   ·have:=h3 a h6;omega
   ·simp at h6;omega
  ·exact ⟨h1,by omega,fun a ha=>by have:=h3 a ha;omega⟩
@[simp] theorem Ob (m : Msh) : (bE m).length=m.f.length:=by simp [bE]
def dX (m : Msh) : D:=.ptr [.sl (nbA m),slx true (inR (bE m)),.sl (inR (aN m).sp),.sl (inR (aN m).ou)]
def rcR (l : List Bool) : List (List D):=l.map fun b=>[.bool b]
theorem vn (l : List Bool) : (rcR l).length=l.length:=by simp [rcR]
theorem ni {l : List Bool} {i : Nat} (h : i < l.length) : (rcR l)[i]? = some [.bool (l.getD i false)]:=by simp [rcR,h]
theorem pZ (l : List Bool) (i : Nat) (b : Bool) : (rcR l).set i [.bool b]=rcR (l.set i b):=by simp [rcR,List.map_set]
theorem zU {l : List Bool} {i : Nat} (h : i < (rcR l).length) : (rcR l)[i]=[.bool (l[i]'(by simpa [rcR] using h))]:=by simp [rcR]
theorem pf (l : List Int) (i : Nat) (x : Int) : (inR l).set i [.int .i64 x]=inR (l.set i x):=by simp [inR,List.map_set]
theorem pe (l : List Int) : ∀ e ∈ inR l,∀ c ∈ e,aP c=true:=by simp [inR]
structure FlW (m : Msh) (s : Fl) : Prop where
 rc : s.rc.length=m.f.length
 sp : s.sp.length=m.f.length
 ou : s.ou.length=m.f.length
 q : ∀ a ∈ s.q,a < m.f.length
 n : s.q.length + s.rc.count false <= m.f.length
def flM (s : Fl) : Nat:=s.q.length + 2 * s.rc.count false
theorem lE {l : List Bool} {i : Nat} (h : i < l.length) (hf : l.getD i false=false) : (l.set i true).count false + 1=l.count false:=by
 have h1 : l[i]=false:=by simpa [h] using hf
 rw [List.count_set h,h1]
 have : 0 < l.count false:=List.count_pos_iff.2 (by rw [<- h1];exact List.getElem_mem _)
 simp
 omega
theorem wd {sp : List Int} {fs : List Nat} {j a : Nat} (hj : j < fs.length) (h : a ∈ upL sp fs j) : a ∈ fs:=by
 have h4:=jI (sp:=sp) j fs hj a
 exact List.count_pos_iff.1 (by rw [<- h4];exact List.count_pos_iff.2 h)
theorem yu {m : Msh} {i : Nat} {s : Fl} {k : Int} (h : FlW m s) (hk : -1 <= k /\ k < m.f.length) : FlW m (lP m i s k) /\ flM (lP m i s k) <= flM s:=by
 unfold lP
 split
 ·exact ⟨h,Nat.le_refl _⟩
 ·rename_i hn
  have hkl : k.toNat < s.rc.length:=by rw [h.rc];omega
  have hf : s.rc.getD k.toNat false=false:=by
   cases e : s.rc.getD k.toNat false
   ·rfl
   ·exact absurd (.inr e) hn
  have hst:=lE hkl hf
  have hn1:=h.n
  refine ⟨⟨by simp [h.rc],by simp [h.sp],by simp [h.ou],fun a ha=>?_,?_⟩,?_⟩
  ·rcases List.mem_append.1 (wd (by simp) ha) with h1 | h1
   ·exact h.q a h1
   ·simp at h1;omega
  ·simp only [i9,List.length_append,List.length_singleton]
   omega
  ·simp only [flM,i9,List.length_append,List.length_singleton]
   omega
theorem pQ {m : Msh} {i : Nat} {s : Fl} (h : FlW m s) : ∀ j,FlW m (flJ m i s j) /\ flM (flJ m i s j) <= flM s
 | 0=>⟨h,Nat.le_refl _⟩
 | j + 1=>by
  obtain ⟨h1,h2⟩:=pQ h j
  obtain ⟨h3,h4⟩:=yu (i:=i) h1 (dZ m i j)
  exact ⟨h3,Nat.le_trans h4 h2⟩
theorem lq (sp : List Int) (q : List Nat) : (f5 sp q).length=q.length:=by unfold f5;rw [kI];simp
theorem om {sp : List Int} {q : List Nat} {a : Nat} (h0 : 0 < q.length) (h : a ∈ f5 sp q) : a ∈ q:=by
 have h1:=jQ (sp:=sp) (n:=q.length - 1) (swp q 0 (q.length - 1)) 0 (by simp) a
 rw [gY h0 (by omega)] at h1
 exact List.count_pos_iff.1 (by rw [<- h1];exact List.count_pos_iff.2 h)
theorem tn {m : Msh} {s : Fl} (h : FlW m s) (h0 : 0 < s.q.length) : FlW m { s with q:=(f5 s.sp s.q).take (s.q.length - 1) } /\ flM { s with q:=(f5 s.sp s.q).take (s.q.length - 1) } < flM s /\ fAt (f5 s.sp s.q) (s.q.length - 1) < m.f.length:=by
 have hn:=h.n
 refine ⟨⟨h.rc,h.sp,h.ou,fun a ha=>h.q a (om h0 (List.mem_of_mem_take ha)),?_⟩,?_,h.q _ (om h0 (eD (by rw [lq];omega)))⟩
 ·simp [lq];omega
 ·simp [flM,lq];omega
theorem fo {m : Msh} {s : Fl} (h : FlW m s) : FlW m (dI m s) /\ (0 < s.q.length -> flM (dI m s) < flM s):=by
 unfold dI
 split
 ·exact ⟨h,fun h0=>by omega⟩
 ·rename_i h0
  obtain ⟨h1,h2,_⟩:=tn h (by omega)
  obtain ⟨h3,h4⟩:=pQ (i:=fAt (f5 s.sp s.q) (s.q.length - 1)) h1 3
  exact ⟨h3,fun _=>by omega⟩
theorem mO (m : Msh) : ∀ (k j : Nat) (s : Fl),flN m (k + j) s=flN m j (flN m k s)
 | 0,j,s=>by simp [flN]
 | k + 1,j,s=>by rw [Nat.succ_add];simp only [flN];exact mO m k j _
theorem kK (m : Msh) {s : Fl} (h : s.q.length=0) : ∀ j,flN m j s=s
 | 0=>rfl
 | j + 1=>by simp only [flN,dI,if_pos h];exact kK m h j
theorem wU {m : Msh} : ∀ (k : Nat) {s : Fl},FlW m s -> FlW m (flN m k s)
 | 0,s,h=>h
 | k + 1,s,h=>wU k (fo h).1
theorem mb (m : Msh) : ∀ (i x : Nat),i <= x -> (fl0 m i).2.getD x false=false
 | 0,x,_=>by simp [fl0,List.getElem?_replicate];split <;> rfl
 | i + 1,x,h=>by
  unfold fl0
  split
  ·simp only [List.getD_eq_getElem?_getD,List.getElem?_set]
   rw [if_neg (by omega)]
   have:=mb m i x (by omega)
   simpa using this
  ·exact mb m i x (by omega)
theorem wT (m : Msh) : ∀ i,i <= m.f.length -> (fl0 m i).1.length + (fl0 m i).2.count false=m.f.length
 | 0,_=>by simp [fl0]
 | i + 1,h=>by
  have h1:=wT m i (by omega)
  unfold fl0
  split
  ·have:=lE (l:=(fl0 m i).2) (i:=i) (by rw [(iK m i).1];omega) (mb m i i (Nat.le_refl _))
   simp only [i9,List.length_append,List.length_singleton]
   omega
  ·exact h1
theorem iL (m : Msh) : FlW m (dx m) /\ flM (dx m) <= 2 * m.f.length:=by
 obtain ⟨h1,h2,h3⟩:=iK m m.f.length
 have h4:=wT m m.f.length (Nat.le_refl _)
 refine ⟨⟨h1,by simp [dx],by simp [dx],h3,by simp only [dx];omega⟩,?_⟩
 simp only [flM,dx]
 omega
end Go.Gv

namespace Go.Gv
variable {C : CC} (hC : aE prog C)
include hC
theorem uk (b : Bool) (xs : List Int) (h2 : xs.length < 2 ^ 40) : C 42 [slx b (xs.map fun n=>[.int .i64 n])] .any [.own 1 (xs.map fun n=>[.int .i64 n])]:=by
 cases xs with
 | nil =>
  cases b with
  | true =>
   show C 42 [.nils] .any [.own 1 []]
   refine lI hC (nf:=N42) rfl rfl ?_
   simp [N42]
  | false =>
   show C 42 [.sl []] .any [.own 1 []]
   refine lI hC (nf:=N42) rfl rfl ?_
   simp [N42]
 | cons x xs =>
  have e : slx b ((x::xs).map fun n=>[D.int .i64 n])=.sl ((x::xs).map fun n=>[D.int .i64 n]):=by cases b <;> rfl
  rw [e]
  obtain ⟨l,hl⟩ : ∃ l,l=x::xs:=⟨_,rfl⟩
  rw [<- hl] at h2 ⊢
  have h : 0 < l.length:=by rw [hl];simp
  refine lI hC (nf:=N42) rfl rfl ?_
  simp [N42]
  refine ⟨fun _=>?_,fun h0=>?_⟩
  ·have : l.length < 1099511627776:=h2
   omega
  ·subst h0
   simp at h
end Go.Gv

set_option maxRecDepth 4000
namespace Go.Gv
def fR (n m : Nat) (v : Int) : List (List D):=List.replicate m [.int .i64 v]++List.replicate (n - m) [.int .i64 0]
theorem ow {n m : Nat} {v : Int} (h : m <= n) : (fR n m v).length=n:=by simp [fR];omega
theorem lx (n m : Nat) (v : Int) : ∀ e ∈ fR n m v,e.length=1 /\ ∀ c ∈ e,au c=true:=by
 intro e he
 rcases List.mem_append.1 he with h | h <;> (rw [(List.mem_replicate.1 h).2];simp [au])
theorem mz (n m : Nat) (v : Int) : ∀ e ∈ fR n m v,∀ c ∈ e,au c=true:=fun e he=>(lx n m v e he).2
theorem my (n : Nat) (v : Int) : fR n n v=List.replicate n [.int .i64 v]:=by simp [fR]
theorem mA {n m : Nat} {v : Int} (h : m <= n) : gf (fR n m v) m (((fR n m v).take m).take (n - m))=fR n (min n (m + m)) v:=by
 have h1 : (fR n m v).take m=List.replicate m [.int .i64 v]:=by
  unfold fR
  rw [List.take_append_of_le_length (by simp)]
  simp
 rw [h1,List.take_replicate]
 unfold gf
 rw [h1,List.length_replicate]
 unfold fR
 rw [List.drop_append,List.drop_eq_nil_of_le (by simp),List.nil_append,List.length_replicate,List.drop_replicate]
 have e1 : min n (m + m)=m + min (n - m) m:=by omega
 rw [e1,<- List.replicate_append_replicate]
 congr 2
 omega
theorem pv {n : Nat} {v : Int} (h : 0 < n) : gf (List.replicate n [D.int .i64 0]) 0 ([[D.int .i64 v]].take n)=fR n 1 v:=by
 have : [[D.int .i64 v]].take n=[[.int .i64 v]]:=by
  rw [List.take_of_length_le (by simp;omega)]
 rw [this]
 unfold gf fR
 simp
variable {C : CC} (hC : aE prog C)
include hC
theorem tt (v : Int) (n : Nat) (hn : n < 2 ^ 40) : C 315 [.sl [[.int .i64 v]],.int .i64 n] .any [.own 1 (List.replicate n [.int .i64 v])]:=by
 have k0:=ul hC 1 n (by omega) (by omega)
 have k1 : C 333 [.int .u64 1,.int .u64 n] (.tup [.int .u64 0,.int .u64 n]) []:=by
  have e1 : 1 * n / 2 ^ 64=0:=by omega
  have e2 : 1 * n % 2 ^ 64=n:=by omega
  rw [e1,e2] at k0
  refine bD hC (nf:=N333) rfl rfl ?_
  simp [N333]
  simp at k0
  refine af k0 (.inl rfl) ?_
  simp
 have w1 : IntKind.wrap .u64 (n : Int)=n:=by
  have e : (2 : Int) ^ IntKind.bits .u64=18446744073709551616:=by decide
  have e2 : IntKind.signed .u64=false:=rfl
  simp only [IntKind.wrap,e,e2,Bool.false_and,Bool.false_eq_true,if_false]
  omega
 have w2 : IntKind.wrap .i64 (n : Int)=n:=ao (by omega) (by omega)
 refine lI hC (nf:=N315) rfl rfl ?_
 have hn0 : ¬ (n : Int) < 0:=by omega
 have hn1 : ¬ (9223372036854775807 : Int) < n:=by omega
 have hn2 : (n : Int) * 8 <= 140737488355328:=by omega
 simp [N315,w1,hn0]
 refine af k1 (.inl rfl) ?_
 simp [w2,hn1,hn2,au]
 refine ⟨fun h0=>?_,fun h0=>?_⟩
 ·refine aF Nat (fun m=>[(7,.ref (.r 10112) 0 n),(8,.int .i64 m),(10112,.blk 1 (fR n m v))]) (fun m=>m <= n /\ (0 < n -> 0 < m)) (fun m=>n - m) 0 ⟨by omega,by omega⟩ (by subst h0;simp [fR]) ?_
  rintro m ⟨hm,hm0⟩
  simp
  refine av (fun h=>?_) (fun h=>?_) <;> simp at h
  ·have hm1 : 0 < m:=hm0 (by omega)
   have hl:=ow (v:=v) hm
   have hnx:=mA (v:=v) hm
   have hc:=lx n m v
   have hc1:=mz n m v
   have hnm : ¬ n - m=0:=by omega
   have hpos : 0 < n - m:=by omega
   have htk : ∀ e ∈ (fR n m v).take m,∀ c ∈ e,au c=true:=fun e he=>hc1 e (List.mem_of_mem_take he)
   have hw : IntKind.wrap .i64 ((m : Int) + ((min m (n - m) : Nat) : Int))=((min n (m + m) : Nat) : Int):=ao (by omega) (by omega)
   simp [h,hl,hm,iS]
   try refine ⟨htk,hm1,fun hz=>absurd hz hnm,fun _=>⟨hc1,htk,aT (by decide +kernel),min n (m + m),⟨by omega,fun _=>by omega⟩,by omega,hw,hnx⟩⟩
  ·have e : m=n:=by omega
   subst e
   simp [my]
 ·rw [pv h0]
  have h01 : min 1 n=1:=by omega
  refine aF Nat (fun m=>[(7,.ref (.r 10112) 0 n),(8,.int .i64 m),(10112,.blk 1 (fR n m v))]) (fun m=>m <= n /\ (0 < n -> 0 < m)) (fun m=>n - m) 1 ⟨by omega,by omega⟩ (by simp [h01]) ?_
  rintro m ⟨hm,hm0⟩
  simp
  refine av (fun h=>?_) (fun h=>?_) <;> simp at h
  ·have hm1 : 0 < m:=hm0 (by omega)
   have hl:=ow (v:=v) hm
   have hnx:=mA (v:=v) hm
   have hc:=lx n m v
   have hc1:=mz n m v
   have hnm : ¬ n - m=0:=by omega
   have hpos : 0 < n - m:=by omega
   have htk : ∀ e ∈ (fR n m v).take m,∀ c ∈ e,au c=true:=fun e he=>hc1 e (List.mem_of_mem_take he)
   have hw : IntKind.wrap .i64 ((m : Int) + ((min m (n - m) : Nat) : Int))=((min n (m + m) : Nat) : Int):=ao (by omega) (by omega)
   simp [h,hl,hm,iS]
   try refine ⟨htk,hm1,fun hz=>absurd hz hnm,fun _=>⟨hc1,htk,aT (by decide +kernel),min n (m + m),⟨by omega,fun _=>by omega⟩,by omega,hw,hnx⟩⟩
  ·have e : m=n:=by omega
   subst e
   simp [my]
end Go.Gv

namespace Go.Gv
section
variable {C : Nat -> List D -> D -> List D -> Prop} (hC : aE prog C)
include hC
theorem tq (fs : List (List D)) (d : D) : C 317 [.ptr [.sl fs,d]] (.int .i64 fs.length) []:=by
 refine bD hC (nf:=N317) rfl rfl ?_
 simp [N317]
theorem pT (fs : List Nat) (sp : List Int) (x : Nat) (hx : x < sp.length) (hb : ∀ a ∈ fs,a < sp.length) (h2 : fs.length + 1 < 2 ^ 40) : C 316 [.blk 2 [[.own 1 (nfR fs),.slv 0 (inR sp)]],.ifa 20 (.r 10015) 0 0,.ifi 2 x] (.tup []) [.blk 2 [[.own 1 (nfR (upL sp (fs++[x]) fs.length)),.slv 0 (inR sp)]],.nils]:=hC.2 316 2 (qB fs sp) [.ifa 20 (.r 10015) 0 0,.ifi 2 x] (.tup []) (qB (upL sp (fs++[x]) fs.length) sp) fun C' h'=>uV h' fs sp x hx hb h2
theorem yw (fs : List Nat) (sp : List Int) (h0 : 0 < fs.length) (hb : ∀ a ∈ fs,a < sp.length) (h2 : fs.length < 2 ^ 40) : C 318 [.blk 2 [[.own 1 (nfR fs),.slv 0 (inR sp)]],.ifa 20 (.r 10015) 0 0] (.ifi 2 (fAt (f5 sp fs) (fs.length - 1) : Nat)) [.blk 2 [[.own 1 (nfR ((f5 sp fs).take (fs.length - 1))),.slv 0 (inR sp)]],.nils]:=hC.2 318 2 (qB fs sp) [.ifa 20 (.r 10015) 0 0] (.ifi 2 (fAt (f5 sp fs) (fs.length - 1) : Nat)) (qB ((f5 sp fs).take (fs.length - 1)) sp) fun C' h'=>yv h' fs sp h0 hb h2
set_option maxRecDepth 8000 in
set_option maxHeartbeats 2000000 in
theorem gM (dec : Nat -> List UInt8) (hI : ∀ n : Nat,n < 100 -> C 127 [.int .i64 n] (.str (dec n)) []) (m : Msh) (hz : cY m=true -> m.s.length <= 100 /\ m.f.length <= 100) :
  C 280 [.agg (cj m)] (if aC m then .tup [dX m,.int .i64 0] else .tup [.nilp,.int .i64 1]) []:=by
 have k1:=fK hC dec hI m hz
 have k2:=rU hC dec hI m hz
 simp only [ai] at k1 k2
 refine bD hC (nf:=N280) rfl rfl ?_
 simp [N280,ai]
 refine af k1 (.inr rfl) ?_
 cases hv : aC m
 ·simp
 ·simp
  refine af k2 (.inr rfl) ?_
  have hsz:=(dS hv).2
  have kc:=uk hC true (bE m) (by simp;omega)
  have kr:=tt hC (-1) m.f.length (by omega)
  rw [<- s4] at kc
  have er : List.replicate m.f.length [D.int .i64 (-1)]=inR (List.replicate m.f.length (-1)):=by simp [inR]
  rw [er] at kr
  simp [hv]
  refine ji kc ?_
  simp
  refine ji kr ?_
  simp
  have hc1 : ∀ e ∈ inR (bE m),∀ c ∈ e,au c=true:=by simp [inR]
  refine ⟨by rcases ew true (inR (bE m)) with h | ⟨h,_⟩ <;> rw [h] <;> trivial,?_⟩
  refine r9 (sz:=1) (by decide) (by decide) rfl (by decide) rfl (by decide) (by simp) hc1 rfl (by simp [bg,rt]) (fun h0=>?_) (fun hn=>?_)
  ·simp [h0,rt]
   have hsm : bE m=[]:=List.eq_nil_of_length_eq_zero (by simpa using h0)
   have hnb : nbA m=[]:=List.eq_nil_of_length_eq_zero (by simpa using h0)
   refine aF Unit (fun _=>[(4,.sl (nbA m)),(7,.ptx [.sl (nbA m),slx true (inR (bE m)),.ref (.r 10544) 0 0,.ref (.r 10608) 0 0]),(8,.adr (.r 10736) 0 0),(9,.ref (.r 10144) 0 0),(50,.sl (nbA m)),(51,.int .i64 0),
    (52,.int .i64 0),(10544,.blk 1 (inR (bE m))),(10608,.blk 1 []),(10736,.blk 2 [[.own 1 [],.any]]),(10144,.blk 1 [])]) (fun _=>True) (fun _=>0) () trivial (by simp) ?_
   rintro _ _
   simp
   refine aF Unit (fun _=>[(4,.sl (nbA m)),(7,.ptx [.sl (nbA m),slx true (inR (bE m)),.ref (.r 10544) 0 0,.ref (.r 10608) 0 0]),(8,.adr (.r 10736) 0 0),(9,.ref (.r 10144) 0 0),(10544,.blk 1 (inR (bE m))),(10608,.blk 1 []),(10736,.blk 2 [[.own 1 [],.any]]),(10144,.blk 1 [])]) (fun _=>True) (fun _=>0) () trivial (by simp) ?_
   rintro _ _
   have kl:=tq hC [] .any
   simp at kl
   simp
   refine af kl (.inl rfl) ?_
   simp
   simp [dX,aN,h0,flN,dx,hsm]
  ·simp [rt]
   refine ⟨by omega,?_⟩
   have hF:=fun e (he : e ∈ inR (bE m))=>hc1 e he
   have hr0 : List.replicate m.f.length [D.bool false]=rcR (fl0 m 0).2:=by simp [fl0,rcR]
   rw [hr0]
   refine aF Nat (fun i=>[(4,.sl (nbA m)),(7,.ptx [.sl (nbA m),slx true (inR (bE m)),.ref (.n 10736 0 1) 0 m.f.length,.ref (.r 10608) 0 m.f.length]),(8,.adr (.r 10736) 0 0),(9,.ref (.r 10144) 0 m.f.length),(50,.sl (nbA m)),(51,.int .i64 m.f.length),(52,.int .i64 i),
    (10736,.blk 2 [[.own 1 (nfR (fl0 m i).1),.own 1 (inR (bE m))]]),(10608,.blk 1 (inR (List.replicate m.f.length (-1)))),(10144,.blk 1 (rcR (fl0 m i).2))]) (fun i=>i <= m.f.length) (fun i=>m.f.length - i) 0 (by simp) (by simp [fl0,nfR]) ?_
   rintro i hi
   obtain ⟨l1,l2,l3⟩:=iK m i
   have hw : IntKind.wrap .i64 ((i : Int) + 1)=((i + 1 : Nat) : Int):=ao (by omega) (by omega)
   simp
   refine av (fun g1=>?_) (fun g1=>?_) <;> simp at g1 <;> simp [g1]
   ·have kh:=mS hC (b:=false) (xs:=[nbF m i 0,nbF m i 1,nbF m i 2]) (-1) (by simp)
    have kh2 : C 223 [.sl [[.int .i64 (nbF m i 0)],[.int .i64 (nbF m i 1)],[.int .i64 (nbF m i 2)]],.int .i64 (-1)] (.bool (bsd m i (-1))) []:=by simpa [bsd] using kh
    simp [ar (gQ g1),bK]
    refine af kh2 (.inl rfl) ?_
    simp
    have e0 : fl0 m (i + 1)=if bsd m i (-1) then (upL (bE m) ((fl0 m i).1++[i]) (fl0 m i).1.length,(fl0 m i).2.set i true) else fl0 m i:=rfl
    refine av (fun g2=>?_) (fun g2=>?_)
    ·rw [if_pos g2] at e0
     simp [g2,l1,g1,ni,vn,pZ,zU]
     refine jj (b:=10736) (fs':=nfR (upL (bE m) ((fl0 m i).1++[i]) (fl0 m i).1.length)) (d:=.tup []) rfl (by decide) (by simp) (by simp) rfl rfl (by simp) (ir _) (pe _) (.inr rfl) (ir _) ?_ ?_
     ·exact pT hC (fl0 m i).1 (bE m) i (by simp;omega) (fun a ha=>by have:=l3 a ha;simp;omega) (by omega)
     ·simp [bN]
      exact ⟨i + 1,by omega,by omega,hw,by rw [e0],by rw [e0]⟩
    ·rw [if_neg (by simp [g2])] at e0
     simp [g2]
     exact ⟨i + 1,by omega,by omega,hw,by rw [e0],by rw [e0]⟩
   ·have hi2 : i=m.f.length:=by omega
    subst hi2
    obtain ⟨W0,M0⟩:=iL m
    refine aF (Fl × Nat) (fun s=>[(4,.sl (nbA m)),(7,.ptx [.sl (nbA m),slx true (inR (bE m)),.ref (.n 10736 0 1) 0 m.f.length,.ref (.r 10608) 0 m.f.length]),(8,.adr (.r 10736) 0 0),(9,.ref (.r 10144) 0 m.f.length),
     (10736,.blk 2 [[.own 1 (nfR s.1.q),.own 1 (inR s.1.sp)]]),(10608,.blk 1 (inR s.1.ou)),(10144,.blk 1 (rcR s.1.rc))]) (fun s=>FlW m s.1 /\ s.1=flN m s.2 (dx m) /\ s.2 + flM s.1 <= 2 * m.f.length) (fun s=>flM s.1) (dx m,0) ⟨W0,rfl,by simpa using M0⟩ (by simp [dx]) ?_
    rintro ⟨s,k⟩ ⟨W,hs,hk⟩
    simp only at W hs hk
    have hn:=W.n
    have kl:=tq hC (nfR s.q) (.sl (inR s.sp))
    simp at kl
    simp
    refine af kl (.inl rfl) ?_
    simp
    refine av (fun g2=>?_) (fun g2=>?_) <;> simp at g2 <;> simp [g2]
    ·obtain ⟨Wp,Mp,hpi⟩:=tn W g2
     obtain ⟨x,hx⟩ : ∃ x,x=fAt (f5 s.sp s.q) (s.q.length - 1):=⟨_,rfl⟩
     obtain ⟨s1,hs1⟩ : ∃ s1 : Fl,s1={ s with q:=(f5 s.sp s.q).take (s.q.length - 1) }:=⟨_,rfl⟩
     have hst : dI m s=flJ m x s1 3:=by
      unfold dI
      rw [if_neg (by omega),<- hx,<- hs1]
     rw [<- hs1] at Wp Mp
     rw [<- hx] at hpi
     refine jj (b:=10736) (fs':=nfR s1.q) (d:=.ifi 2 (x : Int)) rfl (by decide) (by simp) (by simp) rfl rfl (by simp) (ir _) (pe _) (.inl rfl) (ir _) ?_ ?_
     ·have:=yw hC s.q s.sp g2 (fun a ha=>by rw [W.sp];exact W.q a ha) (by omega)
      rw [<- hx] at this
      rw [hs1]
      exact this
     ·have e1 : s1.sp=s.sp:=by rw [hs1]
      have e2 : s1.ou=s.ou:=by rw [hs1]
      have e3 : s1.rc=s.rc:=by rw [hs1]
      simp [bN,ar (gQ hpi)]
      rw [<- e1,<- e2,<- e3]
      refine aF Nat (fun j=>[(4,.sl (nbA m)),(7,.ptx [.sl (nbA m),slx true (inR (bE m)),.ref (.n 10736 0 1) 0 m.f.length,.ref (.r 10608) 0 m.f.length]),(8,.adr (.r 10736) 0 0),(9,.ref (.r 10144) 0 m.f.length),(12,.int .i64 x),(78,.agg [.int .i64 (nbF m x 0),.int .i64 (nbF m x 1),.int .i64 (nbF m x 2)]),(79,.int .i64 j),
       (10736,.blk 2 [[.own 1 (nfR (flJ m x s1 j).q),.own 1 (inR (flJ m x s1 j).sp)]]),(10608,.blk 1 (inR (flJ m x s1 j).ou)),(10144,.blk 1 (rcR (flJ m x s1 j).rc))]) (fun j=>j <= 3) (fun j=>3 - j) 0 (by simp) (by simp [flJ]) ?_
      rintro j hj
      obtain ⟨Wj,Mj⟩:=pQ (i:=x) Wp j
      obtain ⟨t,ht⟩ : ∃ t,t=flJ m x s1 j:=⟨_,rfl⟩
      have hnx : flJ m x s1 (j + 1)=lP m x t (nbF m x j):=by rw [ht];rfl
      rw [<- ht] at Wj Mj ⊢
      have htn:=Wj.n
      have hw : IntKind.wrap .i64 ((j : Int) + 1)=((j + 1 : Nat) : Int):=ao (by omega) (by omega)
      simp
      refine av (fun g3=>?_) (fun g3=>?_) <;> simp at g3
      ·have hxj : ([.int .i64 (nbF m x 0),.int .i64 (nbF m x 1),.int .i64 (nbF m x 2)] : List D)[j]?.getD .any=.int .i64 (nbF m x j):=by
        rcases (by omega : j=0 \/ j=1 \/ j=2) with rfl | rfl | rfl <;> rfl
       have hbd:=dZ m x j
       obtain ⟨kk,hkk⟩ : ∃ kk,kk=nbF m x j:=⟨_,rfl⟩
       rw [<- hkk] at hxj hbd hnx
       simp [show (j : Int) < 3 by omega,hxj]
       refine ⟨by omega,?_⟩
       refine av (fun g4=>?_) (fun g4=>?_) <;> simp at g4 <;> simp [g4]
       ·have hst2 : flJ m x s1 (j + 1)=t:=by
         rw [hnx]
         unfold lP
         rw [if_pos (.inl g4)]
        exact ⟨j + 1,by omega,by omega,hw,by rw [hst2];exact ⟨rfl,rfl⟩,by rw [hst2],by rw [hst2]⟩
       ·obtain ⟨c,hc⟩ : ∃ c : Nat,kk=c:=⟨kk.toNat,by omega⟩
        subst hc
        have hcn : c < m.f.length:=by omega
        have hcr : c < t.rc.length:=by rw [Wj.rc];exact hcn
        refine ⟨by omega,by simpa using hcn,?_⟩
        simp [aX (ni hcr)]
        cases hrc : t.rc.getD c false
        ·simp at hrc
         have hxs : x < t.sp.length:=by rw [Wj.sp];exact hpi
         have hcs : c < t.sp.length:=by rw [Wj.sp];exact hcn
         have hco : c < t.ou.length:=by rw [Wj.ou];exact hcn
         have hcm : c < (bE m).length:=by simpa using hcn
         simp [hrc,ni hcr,hcn,hpi,pZ,aX (b8 hxs),ar (b8 hcm),b8 hcs,b8 hco,pf]
         have hmx : (if t.sp[x]?.getD 0 < (bE m)[c] then (bE m)[c] else t.sp[x]?.getD 0)=mxZ (t.sp.getD x 0) ((bE m).getD c 0):=by
          simp [mxZ,hcn]
         rw [hmx]
         obtain ⟨sp',hsp'⟩ : ∃ sp',sp'=t.sp.set c (mxZ (t.sp.getD x 0) ((bE m).getD c 0)):=⟨_,rfl⟩
         rw [<- hsp']
         have hspl : sp'.length=m.f.length:=by rw [hsp'];simp [Wj.sp]
         have hst2 : flJ m x s1 (j + 1)={ q:=upL sp' (t.q++[c]) t.q.length,rc:=t.rc.set c true,sp:=sp',ou:=t.ou.set c x }:=by
          rw [hnx]
          unfold lP
          rw [if_neg (fun h=>by
           rcases h with h | h
           ·omega
           ·simp at h;rw [hrc] at h;cases h),hsp']
          rfl
         have hst3:=lE hcr (by simpa using hrc)
         refine ⟨aT (by decide +kernel),?_⟩
         refine jj (b:=10736) (fs':=nfR (upL sp' (t.q++[c]) t.q.length)) (d:=.tup []) rfl (by decide) (by simp) (by simp) rfl rfl (by simp) (ir _) (pe _) (.inr rfl) (ir _) ?_ ?_
         ·exact pT hC t.q sp' c (by rw [hspl];exact hcn) (fun a ha=>by rw [hspl];exact Wj.q a ha) (by omega)
         ·simp [bN]
          refine ⟨j + 1,by omega,by omega,hw,?_⟩
          rw [hst2]
          simp
        ·have hst2 : flJ m x s1 (j + 1)=t:=by
          rw [hnx]
          unfold lP
          rw [if_pos (.inr (by simpa using hrc))]
         simp at hrc
         simp [hrc]
         exact ⟨j + 1,by omega,by omega,hw,by rw [hst2];exact ⟨rfl,rfl⟩,by rw [hst2],by rw [hst2]⟩
      ·have hj3 : j=3:=by omega
       subst hj3
       rw [<- hst] at ht
       simp
       exact ⟨dI m s,⟨(fo W).1,k + 1,by rw [mO,<- hs];rfl,by have:=(fo W).2 g2;omega⟩,(fo W).2 g2,by rw [ht];exact ⟨rfl,rfl⟩,by rw [ht],by rw [ht]⟩
    ·have h0 : s.q.length=0:=by simpa using g2
     have hfl : aN m=s:=by
      unfold aN
      rw [show 3 * m.f.length=k + (3 * m.f.length - k) by omega,mO,<- hs]
      exact kK m h0 _
     have hsp:=kZ s.sp
     have hou:=kZ s.ou
     rw [W.sp] at hsp
     rw [W.ou] at hou
     refine ⟨⟨by rw [W.sp];omega,by rw [W.ou];omega⟩,?_⟩
     rw [dX,hfl,hsp,hou]
end
end Go.Gv

namespace Go.Gv
structure RF where
 rc : List Bool
 lf : List Bool
 lv : List Int
 ou : List Int
def act (r : RF) (i : Nat) : Bool:=r.rc.getD i false && !r.lf.getD i false
def rat (r : RF) : Nat -> Int
 | 0=>-1
 | i + 1=>if act r i=true /\ (rat r i < 0 \/ r.lv.getD i 0 < r.lv.getD (rat r i).toNat 0) then (i : Int) else rat r i
theorem iX (r : RF) : ∀ i,(rat r i=-1 /\ ∀ b,b < i -> act r b=false) \/ ∃ a : Nat,rat r i=a /\ a < i /\ act r a=true /\ ∀ b,b < i -> act r b=true -> r.lv.getD a 0 < r.lv.getD b 0 \/ (r.lv.getD a 0=r.lv.getD b 0 /\ a <= b)
 | 0=>.inl ⟨rfl,fun b hb=>by omega⟩
 | i + 1=>by
  rcases iX r i with ⟨h1,h2⟩ | ⟨a,h1,h2,h3,h4⟩
  ·by_cases ha : act r i=true
   ·right
    refine ⟨i,by simp [rat,ha,h1],by omega,ha,fun b hb hab=>?_⟩
    by_cases e : b=i
    ·subst e;exact .inr ⟨rfl,Nat.le_refl _⟩
    ·rw [h2 b (by omega)] at hab;cases hab
   ·left
    refine ⟨by simp [rat,ha,h1],fun b hb=>?_⟩
    by_cases e : b=i
    ·subst e;simpa using ha
    ·exact h2 b (by omega)
  ·right
   by_cases hc : act r i=true /\ r.lv.getD i 0 < r.lv.getD a 0
   ·refine ⟨i,?_,by omega,hc.1,fun b hb hab=>?_⟩
    ·unfold rat
     rw [if_pos ⟨hc.1,.inr (by rw [h1];exact hc.2)⟩]
    ·by_cases e : b=i
     ·subst e;exact .inr ⟨rfl,Nat.le_refl _⟩
     ·rcases h4 b (by omega) hab with h5 | h5
      ·exact .inl (by omega)
      ·exact .inl (by omega)
   ·refine ⟨a,?_,by omega,h3,fun b hb hab=>?_⟩
    ·unfold rat
     rw [if_neg,h1]
     rintro ⟨k1,k2⟩
     rcases k2 with k2 | k2
     ·rw [h1] at k2;omega
     ·rw [h1] at k2;exact hc ⟨k1,k2⟩
    ·by_cases e : b=i
     ·subst e
      have : ¬ r.lv.getD b 0 < r.lv.getD a 0:=fun h=>hc ⟨hab,h⟩
      rcases Int.lt_or_eq_of_le (Int.not_lt.1 this) with h5 | h5
      ·exact .inl h5
      ·exact .inr ⟨h5,by omega⟩
     ·exact h4 b (by omega) hab
def fA (m : Msh) (i : Nat) (r : RF) (k : Int) : RF :=
 if 0 <= k /\ r.rc.getD k.toNat false=false then { r with rc:=r.rc.set k.toNat true,lv:=r.lv.set k.toNat (if r.lv.getD i 0 < (bE m).getD k.toNat 0 then (bE m).getD k.toNat 0 else r.lv.getD i 0),ou:=r.ou.set k.toNat i } else r
def rfI (m : Msh) (i : Nat) (r : RF) : Nat -> RF
 | 0=>r
 | j + 1=>fA m i (rfI m i r j) (nbF m i j)
def fd (m : Msh) (r : RF) : RF :=
 if rat r m.f.length < 0 then r else rfI m (rat r m.f.length).toNat { r with lf:=r.lf.set (rat r m.f.length).toNat true } 3
def rf0 (m : Msh) : Nat -> List Bool × List Int
 | 0=>(List.replicate m.f.length false,List.replicate m.f.length 0)
 | i + 1=>if bsd m i (-1) then ((rf0 m i).1.set i true,(rf0 m i).2.set i ((bE m).getD i 0)) else rf0 m i
def d7 (m : Msh) : RF:={ rc:=(rf0 m m.f.length).1,lf:=List.replicate m.f.length false,lv:=(rf0 m m.f.length).2,ou:=List.replicate m.f.length (-1) }
structure fJ (m : Msh) (s : Fl) (r : RF) : Prop where
 rc : s.rc=r.rc
 ou : s.ou=r.ou
 heap : gq s.sp s.q s.q.length
 cnt : ∀ a,s.q.count a=if act r a then 1 else 0
 lv : ∀ a,r.rc.getD a false=true -> s.sp.getD a 0=r.lv.getD a 0
 un : ∀ a,r.rc.getD a false=false -> s.sp.getD a 0=(bE m).getD a 0
 lf : ∀ a,r.lf.getD a false=true -> r.rc.getD a false=true
 len : r.lf.length=m.f.length /\ r.lv.length=m.f.length
theorem bR {α : Type} {l : List α} {i j : Nat} {x d : α} (h : i < l.length) : (l.set i x).getD j d=if j=i then x else l.getD j d:=by
 simp only [List.getD_eq_getElem?_getD,List.getElem?_set]
 by_cases e : i=j
 ·subst e;simp [h]
 ·rw [if_neg e,if_neg (Ne.symm e)]
theorem nW {sp sp' : List Int} {q : List Nat} (h : gq sp q q.length) (he : ∀ a ∈ q,sp'.getD a 0=sp.getD a 0) : gq sp' q q.length:=by
 intro i h0 hi
 have:=h i h0 hi
 rw [dY] at this ⊢
 rw [he _ (eD hi),he _ (eD (show (i - 1) / 2 < q.length by omega))]
 exact this
theorem fJ.p1 {m : Msh} {s : Fl} {r : RF} {i : Nat} {k : Int} (h : fJ m s r) (W : FlW m s) (hi : r.rc.getD i false=true) (hk : -1 <= k /\ k < m.f.length) : fJ m (lP m i s k) (fA m i r k):=by
 unfold lP fA
 by_cases h1 : k=-1
 ·rw [if_pos (.inl h1),if_neg (by omega)]
  exact h
 ·cases h2 : r.rc.getD k.toNat false
  ·rw [if_neg (by rw [h.rc,h2];simp;exact h1),if_pos ⟨by omega,rfl⟩]
   have hkl : k.toNat < m.f.length:=by omega
   have hrl : r.rc.length=m.f.length:=by rw [<- h.rc];exact W.rc
   have hsp:=W.sp
   have hrcs:=fun j=>bR (l:=r.rc) (i:=k.toNat) (j:=j) (x:=true) (d:=false) (by omega)
   have hsps:=fun j x=>bR (l:=s.sp) (i:=k.toNat) (j:=j) (x:=x) (d:=(0 : Int)) (by omega)
   have hlvs:=fun j x=>bR (l:=r.lv) (i:=k.toNat) (j:=j) (x:=x) (d:=(0 : Int)) (by rw [h.len.2];omega)
   have hv : mxZ (s.sp.getD i 0) ((bE m).getD k.toNat 0)=(if r.lv.getD i 0 < (bE m).getD k.toNat 0 then (bE m).getD k.toNat 0 else r.lv.getD i 0):=by rw [h.lv i hi];rfl
   have hnq : k.toNat ∉ s.q:=by
    intro hm
    have h3:=h.cnt k.toNat
    have h4:=List.count_pos_iff.2 hm
    simp only [act,h2,Bool.false_and] at h3
    simp at h3
    omega
   obtain ⟨p1,p2,p3⟩:=jA (sp:=s.sp.set k.toNat (mxZ (s.sp.getD i 0) ((bE m).getD k.toNat 0))) (fs:=s.q) (x:=k.toNat) (nW h.heap (fun a ha=>by
    rw [hsps,if_neg]
    rintro rfl
    exact hnq ha))
   have hlfk : r.lf.getD k.toNat false=false:=by
    cases e : r.lf.getD k.toNat false
    ·rfl
    ·have:=h.lf _ e;rw [h2] at this;cases this
   refine ⟨by simp [h.rc],by simp [h.ou],p1,fun a=>?_,fun a ha=>?_,fun a ha=>?_,fun a ha=>?_,by simp [h.len]⟩
   ·simp only [p2,h.cnt a,act,hrcs]
    by_cases e : a=k.toNat
    ·subst e
     simp only [if_pos,h2,hlfk]
     simp
    ·simp only [if_neg e]
     simp
   ·simp only [hrcs] at ha
    simp only [hsps,hlvs]
    by_cases e : a=k.toNat
    ·rw [if_pos e,if_pos e];exact hv
    ·rw [if_neg e] at ha
     rw [if_neg e,if_neg e]
     exact h.lv a ha
   ·simp only [hrcs] at ha
    simp only [hsps]
    by_cases e : a=k.toNat
    ·rw [if_pos e] at ha;cases ha
    ·rw [if_neg e] at ha
     rw [if_neg e]
     exact h.un a ha
   ·simp only [hrcs]
    split
    ·rfl
    ·exact h.lf a ha
  ·rw [if_pos (.inr (by rw [h.rc];exact h2)),if_neg (by simp)]
   exact h
theorem nu {m : Msh} {i a : Nat} {r : RF} {k : Int} (h : r.rc.getD a false=true) : (fA m i r k).rc.getD a false=true:=by
 unfold fA
 split
 ·by_cases e : k.toNat < r.rc.length
  ·rw [bR e]
   split
   ·rfl
   ·exact h
  ·rw [List.set_eq_of_length_le (by omega)]
   exact h
 ·exact h
theorem fJ.stepI {m : Msh} {s : Fl} {r : RF} {i : Nat} (h : fJ m s r) (W : FlW m s) (hi : r.rc.getD i false=true) : ∀ j,fJ m (flJ m i s j) (rfI m i r j) /\ (rfI m i r j).rc.getD i false=true
 | 0=>⟨h,hi⟩
 | j + 1=>by
  obtain ⟨h1,h2⟩:=fJ.stepI h W hi j
  exact ⟨h1.p1 (pQ W j).1 h2 (dZ m i j),nu h2⟩
theorem fJ.step {m : Msh} {s : Fl} {r : RF} (h : fJ m s r) (W : FlW m s) : fJ m (dI m s) (fd m r) /\ (s.q.length=0 ↔ rat r m.f.length < 0):=by
 have hact : ∀ a,a ∈ s.q ↔ act r a=true:=fun a=>by
  rw [<- List.count_pos_iff,h.cnt]
  split <;> simp_all
 rcases iX r m.f.length with ⟨h1,h2⟩ | ⟨a,h1,h2,h3,h4⟩
 ·have h0 : s.q.length=0:=by
   rcases Nat.eq_zero_or_pos s.q.length with e | e
   ·exact e
   ·have h5:=eD (fs:=s.q) (i:=0) e
    have h6:=h2 _ (W.q _ h5)
    rw [(hact _).1 h5] at h6
    cases h6
  unfold dI fd
  rw [if_pos h0,if_pos (by omega)]
  exact ⟨h,by rw [h1];exact ⟨fun _=>by omega,fun _=>h0⟩⟩
 ·have hq : a ∈ s.q:=(hact a).2 h3
  have h0 : 0 < s.q.length:=List.length_pos_of_mem hq
  obtain ⟨p1,p2,p3,p4⟩:=tp h.heap h0
  have hfa : fAt s.q 0=a:=by
   have h5:=eD (fs:=s.q) (i:=0) h0
   have h6:=(hact _).1 h5
   have h7:=h4 _ (W.q _ h5) h6
   obtain ⟨x,hx,hxa⟩:=List.mem_iff_getElem.1 hq
   have h8:=qH h.heap x hx
   rw [cO hx,hxa,dY] at h8
   have hra : r.rc.getD a false=true:=by simp only [act,Bool.and_eq_true] at h3;exact h3.1
   have hr0 : r.rc.getD (fAt s.q 0) false=true:=by simp only [act,Bool.and_eq_true] at h6;exact h6.1
   rw [h.lv a hra,h.lv _ hr0] at h8
   omega
  have hral : r.rc.getD a false=true:=by simp only [act,Bool.and_eq_true] at h3;exact h3.1
  have hlfs:=fun j=>bR (l:=r.lf) (i:=a) (j:=j) (x:=true) (d:=false) (by rw [h.len.1];exact h2)
  have hmid : fJ m { s with q:=(f5 s.sp s.q).take (s.q.length - 1) } { r with lf:=r.lf.set a true }:=by
   refine ⟨h.rc,h.ou,p3,fun b=>?_,h.lv,h.un,fun b hb=>?_,by simp [h.len]⟩
   ·have h5:=p4 b
    have h6:=h.cnt b
    have h7 : (f5 s.sp s.q)=(bv s.sp (swp s.q 0 (s.q.length - 1)) 0 (s.q.length - 1)).1:=rfl
    rw [h7]
    rw [hfa] at h5
    simp only [act,hlfs]
    by_cases e : b=a
    ·subst e
     rw [if_pos rfl] at h5
     rw [if_pos h3] at h6
     simp
     omega
    ·rw [if_neg e] at h5
     rw [if_neg e]
     simp only [act] at h6
     refine Eq.trans ?_ h6
     omega
   ·simp only [hlfs] at hb
    split at hb
    ·rename_i e;rw [e];exact hral
    ·exact h.lf b hb
  obtain ⟨W1,_,_⟩:=tn W h0
  have hpa : fAt (f5 s.sp s.q) (s.q.length - 1)=a:=p1.trans hfa
  refine ⟨?_,by omega⟩
  unfold dI fd
  rw [if_neg (by omega),if_neg (by omega),h1,hpa]
  exact (hmid.stepI W1 hral 3).1
end Go.Gv

namespace Go.Gv
theorem nk (m : Msh) : ∀ i,(rf0 m i).1=(fl0 m i).2
 | 0=>rfl
 | i + 1=>by
  unfold rf0 fl0
  split
  ·simp only [nk m i]
  ·exact nk m i
theorem eX (m : Msh) : ∀ i,(rf0 m i).1.length=m.f.length /\ (rf0 m i).2.length=m.f.length
 | 0=>by simp [rf0]
 | i + 1=>by
  obtain ⟨h1,h2⟩:=eX m i
  unfold rf0
  split
  ·simp [h1,h2]
  ·exact ⟨h1,h2⟩
theorem iJ (m : Msh) : ∀ i,gq (bE m) (fl0 m i).1 (fl0 m i).1.length
 | 0=>by intro i h0 hi;simp [fl0] at hi
 | i + 1=>by
  unfold fl0
  split
  ·exact (jA (iJ m i)).1
  ·exact iJ m i
theorem pP (m : Msh) : ∀ i,i <= m.f.length -> ∀ a,(fl0 m i).1.count a=if (fl0 m i).2.getD a false=true then 1 else 0
 | 0,_,a=>by
  rw [mb m 0 a (by omega)]
  simp [fl0]
 | i + 1,h,a=>by
  have ih:=pP m i (by omega) a
  have hl:=(iK m i).1
  unfold fl0
  split
  ·simp only [(jA (iJ m i)).2.1,ih]
   rw [bR (by omega)]
   by_cases e : a=i
   ·subst e
    rw [mb m a a (Nat.le_refl _)]
    simp
   ·simp only [if_neg e]
    simp
  ·exact ih
theorem nj (m : Msh) : ∀ i,i <= m.f.length -> ∀ a,(rf0 m i).1.getD a false=true -> (rf0 m i).2.getD a 0=(bE m).getD a 0
 | 0,_,a,h=>by
  have:=mb m 0 a (by omega)
  simp only [fl0] at this
  simp only [rf0] at h
  rw [this] at h;cases h
 | i + 1,hi,a,h=>by
  obtain ⟨h1,h2⟩:=eX m i
  unfold rf0 at h ⊢
  split at h
  ·rename_i hb
   simp only [hb,if_true] at h ⊢
   rw [bR (by omega)] at h ⊢
   by_cases e : a=i
   ·rw [if_pos e,e]
   ·rw [if_neg e] at h ⊢
    exact nj m i (by omega) a h
  ·rename_i hb
   simp only [hb] at h ⊢
   exact nj m i (by omega) a h
theorem fJ.init (m : Msh) : fJ m (dx m) (d7 m):=by
 have hf : ∀ a,(List.replicate m.f.length false).getD a false=false:=fun a=>by
  simp [List.getElem?_replicate]
  split <;> rfl
 refine ⟨(nk m _).symm,rfl,iJ m _,fun a=>?_,fun a ha=>?_,fun a _=>rfl,fun a ha=>?_,?_⟩
 ·have:=pP m m.f.length (Nat.le_refl _) a
  simp only [dx,act,d7,hf,nk]
  simpa using this
 ·exact (nj m _ (Nat.le_refl _) a ha).symm
 ·simp only [d7] at ha
  rw [hf] at ha;cases ha
 ·simp [d7,(eX m _).2]
def rfN (m : Msh) : Nat -> RF -> RF
 | 0,r=>r
 | k + 1,r=>rfN m k (fd m r)
def b9 (m : Msh) : RF:=rfN m (3 * m.f.length) (d7 m)
theorem fJ.run {m : Msh} : ∀ (k : Nat) {s : Fl} {r : RF},fJ m s r -> FlW m s -> fJ m (flN m k s) (rfN m k r)
 | 0,_,_,h,_=>h
 | k + 1,_,_,h,W=>fJ.run k (h.step W).1 (fo W).1
theorem nR {m : Msh} : ∀ (k : Nat) {s : Fl},FlW m s -> flM (flN m k s) + k <= flM s \/ (flN m k s).q.length=0
 | 0,s,_=>.inl (Nat.le_refl _)
 | k + 1,s,W=>by
  simp only [flN]
  by_cases h0 : s.q.length=0
  ·right
   have : dI m s=s:=by unfold dI;rw [if_pos h0]
   rw [this,kK m h0];exact h0
  ·obtain ⟨W1,h1⟩:=fo W
   have h2:=h1 (by omega)
   rcases nR k W1 with h3 | h3
   ·left;omega
   ·exact .inr h3
theorem oW (m : Msh) : (aN m).q.length=0:=by
 obtain ⟨W,h⟩:=iL m
 rcases nR (3 * m.f.length) W with h1 | h1
 ·have h2 : flM (aN m) + 3 * m.f.length <= flM (dx m):=h1
  have h3 : (aN m).q.length <= flM (aN m):=by unfold flM;omega
  omega
 ·exact h1
theorem mc (m : Msh) : fJ m (aN m) (b9 m):=(fJ.init m).run _ (iL m).1
theorem fO (m : Msh) : FlW m (aN m):=wU _ (iL m).1
theorem j4 (m : Msh) (a : Nat) (h : (b9 m).rc.getD a false=true) : (b9 m).lf.getD a false=true:=by
 have h1:=(mc m).cnt a
 have h2 : (aN m).q=[]:=List.eq_nil_of_length_eq_zero (oW m)
 rw [h2] at h1
 simp only [List.count_nil,act,h,Bool.true_and] at h1
 cases e : (b9 m).lf.getD a false
 ·rw [e] at h1;simp at h1
 ·rfl
theorem sP (m : Msh) (hall : ∀ a,a < m.f.length -> (b9 m).rc.getD a false=true) : (aN m).sp=(b9 m).lv /\ (aN m).ou=(b9 m).ou:=by
 have h:=mc m
 have W:=fO m
 refine ⟨List.ext_getElem (by rw [W.sp,h.len.2]) fun i h1 h2=>?_,h.ou⟩
 have:=h.lv i (hall i (by rw [<- W.sp];exact h1))
 simpa [h1,h2] using this
end Go.Gv

namespace Go.Gv
open Go.Lib
def wiS (v : Int) : D:=.agg [.int .i64 (v / 1152921504606846976),.int .i64 (v % 1152921504606846976)]
variable {C : CC} (hC : aE prog C)
include hC
end Go.Gv

namespace Go.Gv
variable {C : CC} (hC : aE prog C)
include hC
end Go.Gv

namespace Go.Gv
def slE (m : Msh) (a b : Int) : Int:=if aC m=false then 1 else if fy m.f.length a=false \/ fy m.f.length b=false then 2 else if bsd m a.toNat b=false then 25 else 0
def stE (m : Msh) (i a b : Int) : Int:=if aC m=false then 1 else if fy m.f.length i=false \/ fy m.f.length a=false \/ fy m.f.length b=false then 2 else if bsd m i.toNat a=false \/ bsd m i.toNat b=false then 25 else 0
variable {C : CC} (hC : aE prog C)
include hC
end Go.Gv

namespace Go.Gv
theorem uW {α : Type} {p : α -> Bool} {xs : List α} {i : Nat} (h : gw p xs=(i : Int)) : ∃ h : i < xs.length,p xs[i]=true:=by
 unfold gw at h
 cases e : xs.findIdx? p with
 | none=>rw [e] at h;simp at h
 | some k =>
  rw [e] at h
  have h : k=i:=by have h : (k : Int)=(i : Int):=h;omega
  subst h
  rw [List.findIdx?_eq_some_iff_getElem] at e
  exact ⟨e.1,e.2.1⟩
theorem pX {m : Msh} {i k : Nat} (h : 0 <= nbF m i k) : ∃ c,c < 3 /\ crn (fce m (nbF m i k).toNat) c=crn (fce m i) (k + 1) /\ crn (fce m (nbF m i k).toNat) (c + 1)=crn (fce m i) k:=by
 have e : nbF m i k=((nbF m i k).toNat : Int):=by omega
 have h2 : gw (fun f=>cd f (crn (fce m i) (k + 1)) (crn (fce m i) k)) m.f=((nbF m i k).toNat : Int):=e
 obtain ⟨h3,h4⟩:=uW h2
 rw [l9] at h4
 simp only [cd,List.any_eq_true,List.mem_range,Bool.and_eq_true,decide_eq_true_eq] at h4
 exact h4
def cpt (m : Msh) (f : Fce) (k : Nat) : Pnt:=ptS (spt m (crn f k).toNat)
end Go.Gv

namespace Go.Gv
theorem na {m : Msh} (hv : aC m=true) {i k : Nat} (hi : i < m.f.length) (hk : k < 3) (h : 0 <= nbF m i k) : ∃ c,c < 3 /\ nbF m (nbF m i k).toNat c=i:=by
 obtain ⟨c,hc,c1,c2⟩:=pX h
 refine ⟨c,hc,?_⟩
 unfold nbF at c1 c2 ⊢
 rw [c1,c2]
 have hs : cd (fce m i) (crn (fce m i) k) (crn (fce m i) (k + 1))=true:=by
  simp only [cd,List.any_eq_true,List.mem_range,Bool.and_eq_true,decide_eq_true_eq]
  exact ⟨k,hk,rfl,rfl⟩
 refine fv (fun j hj hji=>?_) hi (by rw [l9];exact hs)
 rw [l9]
 cases e : cd (fce m j) (crn (fce m i) k) (crn (fce m i) (k + 1))
 ·rfl
 ·have:=jp hv hj hi e hs
  omega
def crs (a b : Pnt) : Int:=a.1 * b.2 - a.2 * b.1
theorem ux (a b : Pnt) : crs b a=-crs a b:=by
 unfold crs
 rw [Int.mul_comm b.1,Int.mul_comm b.2]
 omega
theorem tX (a b c : Pnt) : fX a b c=crs a b + crs b c + crs c a:=by
 obtain ⟨a1,a2⟩:=a
 obtain ⟨b1,b2⟩:=b
 obtain ⟨c1,c2⟩:=c
 simp only [fX,crs,Int.sub_mul,Int.mul_sub]
 have e1:=Int.mul_comm a1 a2
 have e2:=Int.mul_comm b2 a1
 have e5:=Int.mul_comm a2 b1
 have e3:=Int.mul_comm c1 a2
 have e4:=Int.mul_comm c2 a1
 omega
def gE (m : Msh) (e : Int × Int) : Int:=crs (ptS (spt m e.1.toNat)) (ptS (spt m e.2.toNat))
theorem qU {l l' : List Int} (h : l.Perm l') : l.sum=l'.sum:=by
 induction h with
 | nil=>rfl
 | cons x _ ih=>simp [ih]
 | swap x y l=>simp;omega
 | trans _ _ ih1 ih2=>exact ih1.trans ih2
theorem sc (m : Msh) : ∀ (n : Nat) (E : List (Int × Int)),E.length <= n -> E.Nodup -> (∀ e ∈ E,e.1 ≠ e.2) -> (∀ e ∈ E,(e.2,e.1) ∈ E) -> (E.map (gE m)).sum=0
 | _,[],_,_,_,_=>rfl
 | 0,e::T,h,_,_,_=>by simp at h
 | n + 1,e::T,h,hn,hd,hs=>by
  have hne : (e.2,e.1) ≠ e:=fun he=>hd e (by simp) (by rw [<- he];simp at he ⊢;have:=congrArg Prod.fst he;have:=congrArg Prod.snd he;simp_all)
  have hmem : (e.2,e.1) ∈ T:=by
   rcases List.mem_cons.1 (hs e (by simp)) with h1 | h1
   ·exact absurd h1 hne
   ·exact h1
  rw [List.nodup_cons] at hn
  have hp:=List.perm_cons_erase hmem
  have h1:=qU (hp.map (gE m))
  have hel : (T.erase (e.2,e.1)).length + 1=T.length:=by
   have:=hp.length_eq
   simpa using this.symm
  have h2:=sc m n (T.erase (e.2,e.1)) (by simp at h;omega) (hn.2.erase _) (fun x hx=>hd x (List.mem_cons_of_mem _ (List.mem_of_mem_erase hx))) (fun x hx=>by
   rw [hn.2.mem_erase_iff] at hx ⊢
   have h3:=hs x (List.mem_cons_of_mem _ hx.2)
   refine ⟨fun h4=>?_,?_⟩
   ·have : x=e:=by
     have a1:=congrArg Prod.fst h4
     have a2:=congrArg Prod.snd h4
     simp at a1 a2
     exact Prod.ext a2 a1
    exact hn.1 (this ▸ hx.2)
   ·rcases List.mem_cons.1 h3 with h4 | h4
    ·exfalso
     refine hx.1 ?_
     rw [<- h4]
    ·exact h4)
  have h3 : gE m (e.2,e.1)=-gE m e:=ux _ _
  simp only [List.map_cons,List.sum_cons] at h1 ⊢
  omega
def sdE (m : Msh) (i : Nat) : List (Int × Int):=[(crn (fce m i) 0,crn (fce m i) 1),(crn (fce m i) 1,crn (fce m i) 2),(crn (fce m i) 2,crn (fce m i) 3)]
theorem ku {m : Msh} {i : Nat} {e : Int × Int} : e ∈ sdE m i ↔ cd (fce m i) e.1 e.2=true:=by
 simp only [sdE,List.mem_cons,List.not_mem_nil,or_false,cd,List.any_eq_true,List.mem_range,Bool.and_eq_true,decide_eq_true_eq]
 constructor
 ·rintro (rfl | rfl | rfl)
  ·exact ⟨0,by omega,rfl,rfl⟩
  ·exact ⟨1,by omega,rfl,rfl⟩
  ·exact ⟨2,by omega,rfl,rfl⟩
 ·rintro ⟨c,hc,c1,c2⟩
  rcases (by omega : c=0 \/ c=1 \/ c=2) with rfl | rfl | rfl
  ·exact .inl (Prod.ext c1.symm c2.symm)
  ·exact .inr (.inl (Prod.ext c1.symm c2.symm))
  ·exact .inr (.inr (Prod.ext c1.symm c2.symm))
theorem nT {α β : Type} (F : α -> List β) (g : β -> Int) : ∀ l : List α,((l.flatMap F).map g).sum=(l.map fun x=>((F x).map g).sum).sum
 | []=>rfl
 | x::l=>by simp [nT F g l]
theorem qf {α : Type} (g : α -> Int) : ∀ l : List α,(∀ x ∈ l,0 < g x) -> l ≠ [] -> 0 < (l.map g).sum
 | [],_,h=>absurd rfl h
 | [x],h,_=>by have:=h x (by simp);simpa using this
 | x::y::l,h,_=>by
  have h1:=h x (by simp)
  have h2:=qf g (y::l) (fun z hz=>h z (by simp [hz])) (by simp)
  simp only [List.map_cons,List.sum_cons] at h2 ⊢
  omega
theorem qQ {m : Msh} (hv : aC m=true) (u : Nat -> Bool) (hcl : ∀ i k,i < m.f.length -> k < 3 -> u i=true -> 0 <= nbF m i k /\ u (nbF m i k).toNat=true) : ∀ i,i < m.f.length -> u i=false:=by
 intro i hi
 cases hu : u i
 ·rfl
 exfalso
 obtain ⟨U,hU⟩ : ∃ U,U=(List.range m.f.length).filter u:=⟨_,rfl⟩
 have hmU : ∀ x,x ∈ U ↔ x < m.f.length /\ u x=true:=fun x=>by rw [hU,List.mem_filter,List.mem_range]
 have hnU : U.Pairwise (· ≠ ·):=by rw [hU];exact List.Pairwise.filter _ List.nodup_range
 have hcor : ∀ x,x < m.f.length -> (fce m x).a ≠ (fce m x).b /\ (fce m x).b ≠ (fce m x).c /\ (fce m x).c ≠ (fce m x).a:=fun x hx=>by
  have:=(kA hv hx).1
  simp only [okF,okc,Bool.and_eq_true,decide_eq_true_eq] at this
  exact ⟨this.1.1.1.1.1.2,this.1.1.1.2.1.2,this.1.1.2.1.2⟩
 have hE:=sc m _ (U.flatMap (sdE m)) (Nat.le_refl _) (by
  rw [List.Nodup,List.pairwise_flatMap]
  refine ⟨fun x hx=>?_,hnU.imp_of_mem fun {x y} hx hy hxy e he e' he' h=>?_⟩
  ·obtain ⟨k1,k2,k3⟩:=hcor x ((hmU x).1 hx).1
   simp only [sdE,crn,List.pairwise_cons,List.mem_cons,List.not_mem_nil,or_false,forall_eq_or_imp,forall_eq,List.Pairwise.nil,and_true,ne_eq,Prod.mk.injEq,not_and,false_imp_iff,implies_true]
   exact ⟨⟨fun h=>absurd h k1,fun h=>absurd h.symm k3⟩,fun h=>absurd h k2⟩
  ·subst h
   exact hxy (jp hv ((hmU x).1 hx).1 ((hmU y).1 hy).1 (ku.1 he) (ku.1 he'))) (fun e he=>by
  obtain ⟨x,hx,hex⟩:=List.mem_flatMap.1 he
  obtain ⟨k1,k2,k3⟩:=hcor x ((hmU x).1 hx).1
  simp only [sdE,crn,List.mem_cons,List.not_mem_nil,or_false] at hex
  rcases hex with rfl | rfl | rfl
  ·exact k1
  ·exact k2
  ·exact k3) (fun e he=>by
  obtain ⟨x,hx,hex⟩:=List.mem_flatMap.1 he
  have hxl:=(hmU x).1 hx
  have hh:=ku.1 hex
  simp only [cd,List.any_eq_true,List.mem_range,Bool.and_eq_true,decide_eq_true_eq] at hh
  obtain ⟨k,hk,k1,k2⟩:=hh
  obtain ⟨h1,h2⟩:=hcl x k hxl.1 hk hxl.2
  obtain ⟨c,hc,c1,c2⟩:=pX h1
  have hb:=dZ m x k
  refine List.mem_flatMap.2 ⟨(nbF m x k).toNat,(hmU _).2 ⟨by omega,h2⟩,ku.2 ?_⟩
  simp only [cd,List.any_eq_true,List.mem_range,Bool.and_eq_true,decide_eq_true_eq]
  exact ⟨c,hc,by rw [c1,k2],by rw [c2,k1]⟩)
 rw [nT] at hE
 have hpos:=qf (fun x=>((sdE m x).map (gE m)).sum) U (fun x hx=>by
  have:=(kA hv ((hmU x).1 hx).1).2
  have e : lK (aY m (fce m x))=((sdE m x).map (gE m)).sum:=by
   unfold lK
   rw [tX]
   simp only [sdE,List.map_cons,List.map_nil,List.sum_cons,List.sum_nil,gE,aY,crn]
   omega
  rw [<- e];exact this) (by
  intro h
  have:=(hmU i).2 ⟨hi,hu⟩
  rw [h] at this;cases this)
 omega
end Go.Gv

namespace Go.Gv
theorem tv {m : Msh} {i : Nat} {r : RF} {k : Int} : (fA m i r k).rc.length=r.rc.length /\ (fA m i r k).lf=r.lf:=by
 unfold fA
 split
 ·simp
 ·exact ⟨rfl,rfl⟩
theorem nq {m : Msh} {i : Nat} {r : RF} : ∀ j,(rfI m i r j).rc.length=r.rc.length /\ (rfI m i r j).lf=r.lf
 | 0=>⟨rfl,rfl⟩
 | j + 1=>by
  obtain ⟨h1,h2⟩:=nq (m:=m) (i:=i) (r:=r) j
  obtain ⟨h3,h4⟩:=tv (m:=m) (i:=i) (r:=rfI m i r j) (k:=nbF m i j)
  exact ⟨h3.trans h1,h4.trans h2⟩
theorem nr {m : Msh} {i a : Nat} {r : RF} (h : r.rc.getD a false=true) : ∀ j,(rfI m i r j).rc.getD a false=true
 | 0=>h
 | j + 1=>nu (nr h j)
theorem mC {m : Msh} {i : Nat} {r : RF} (hl : r.rc.length=m.f.length) : ∀ j c,c < j -> 0 <= nbF m i c -> (rfI m i r j).rc.getD (nbF m i c).toNat false=true
 | 0,c,h,_=>by omega
 | j + 1,c,h,h0=>by
  by_cases e : c=j
  ·subst e
   show (fA m i (rfI m i r c) (nbF m i c)).rc.getD _ false=true
   have hb:=dZ m i c
   unfold fA
   cases e2 : (rfI m i r c).rc.getD (nbF m i c).toNat false
   ·rw [if_pos ⟨h0,rfl⟩]
    rw [bR (by rw [(nq c).1];omega),if_pos rfl]
   ·rw [if_neg (by simp)]
    exact e2
  ·exact nu (mC hl j c (by omega) h0)
structure RCl (m : Msh) (r : RF) : Prop where
 len : r.rc.length=m.f.length
 cl : ∀ a,r.lf.getD a false=true -> ∀ c,c < 3 -> 0 <= nbF m a c -> r.rc.getD (nbF m a c).toNat false=true
 bd : ∀ a,a < m.f.length -> bsd m a (-1)=true -> r.rc.getD a false=true
theorem kP {l : List Bool} {i j : Nat} (h : (l.set i true).getD j false=true) : j=i \/ l.getD j false=true:=by
 by_cases e : i < l.length
 ·rw [bR e] at h
  split at h
  ·exact .inl (by assumption)
  ·exact .inr h
 ·rw [List.set_eq_of_length_le (by omega)] at h
  exact .inr h
theorem RCl.step {m : Msh} {r : RF} (h : RCl m r) : RCl m (fd m r):=by
 unfold fd
 split
 ·exact h
 ·obtain ⟨h1,h2⟩:=nq (m:=m) (i:=(rat r m.f.length).toNat) (r:={ r with lf:=r.lf.set (rat r m.f.length).toNat true }) 3
  refine ⟨h1.trans h.len,fun a ha c hc h0=>?_,fun a ha hb=>nr (r:={ r with lf:=r.lf.set (rat r m.f.length).toNat true }) (h.bd a ha hb) 3⟩
  rw [h2] at ha
  rcases kP ha with rfl | ha
  ·exact mC (r:={ r with lf:=r.lf.set (rat r m.f.length).toNat true }) h.len 3 c hc h0
  ·exact nr (r:={ r with lf:=r.lf.set (rat r m.f.length).toNat true }) (h.cl a ha c hc h0) 3
theorem RCl.run {m : Msh} : ∀ (k : Nat) {r : RF},RCl m r -> RCl m (rfN m k r)
 | 0,_,h=>h
 | k + 1,_,h=>RCl.run k h.step
theorem px (m : Msh) : ∀ i,i <= m.f.length -> ∀ a,a < i -> bsd m a (-1)=true -> (rf0 m i).1.getD a false=true
 | 0,_,a,h,_=>by omega
 | i + 1,hi,a,h,hb=>by
  have hl:=(eX m i).1
  unfold rf0
  by_cases e : a=i
  ·subst e
   rw [if_pos hb]
   simp only
   rw [bR (by omega),if_pos rfl]
  ·have ih:=px m i (by omega) a (by omega) hb
   split
   ·simp only
    rw [bR (by omega),if_neg e]
    exact ih
   ·exact ih
theorem RCl.init (m : Msh) : RCl m (d7 m):=by
 refine ⟨(eX m _).1,fun a ha=>?_,fun a ha hb=>px m _ (Nat.le_refl _) a ha hb⟩
 have hf : (List.replicate m.f.length false).getD a false=false:=by
  simp [List.getElem?_replicate]
  split <;> rfl
 simp only [d7] at ha
 rw [hf] at ha;cases ha
theorem dM {m : Msh} (hv : aC m=true) : ∀ a,a < m.f.length -> (b9 m).rc.getD a false=true:=by
 have hc : RCl m (b9 m):=(RCl.init m).run _
 intro a ha
 have:=qQ hv (fun i=>!(b9 m).rc.getD i false) (fun i k hi hk hu=>?_) a ha
 ·simpa using this
 ·simp only [Bool.not_eq_true'] at hu ⊢
  have hb:=dZ m i k
  have h0 : 0 <= nbF m i k:=by
   by_cases e : nbF m i k=-1
   ·exfalso
    have h1 : bsd m i (-1)=true:=by
     rcases (by omega : k=0 \/ k=1 \/ k=2) with rfl | rfl | rfl <;> simp [bsd,e]
    rw [hc.bd i hi h1] at hu;cases hu
   ·omega
  refine ⟨h0,?_⟩
  cases e : (b9 m).rc.getD (nbF m i k).toNat false
  ·rfl
  ·exfalso
   have h1:=j4 m _ e
   obtain ⟨c,hc1,hc2⟩:=na hv hi hk h0
   have h2:=hc.cl _ h1 c hc1 (by omega)
   rw [hc2] at h2
   simp only [Int.toNat_natCast] at h2
   rw [h2] at hu;cases hu
theorem eq {m : Msh} (hv : aC m=true) : (aN m).sp=(b9 m).lv /\ (aN m).ou=(b9 m).ou:=sP m (dM hv)
end Go.Gv

namespace Go.Gv
def PT (m : Msh) (a b : Int) : Int:=if oC m a b < 0 then 0 else gw (fun j=>decide (crn (fce m (oC m a b).toNat) j=a) && decide (crn (fce m (oC m a b).toNat) (j + 1)=b)) (List.range 3)
def acK (m : Msh) (i k : Nat) : Int:=PT m (crn (fce m i) (k + 1)) (crn (fce m i) k)
def nbT (m : Msh) (i : Nat) : List (List D):=(List.range i).map fun j=>[.int .i64 (nbF m j 0),.int .i64 (nbF m j 1),.int .i64 (nbF m j 2)]
@[simp] theorem Nt (m : Msh) (i : Nat) : (nbT m i).length=i:=by simp [nbT]
@[simp] theorem HL (m : Msh) (i : Nat) : List.take i (nbT m i)=nbT m i:=List.take_of_length_le (by simp)
@[simp] theorem PH (m : Msh) (i : Nat) : List.map (fun e=>List.map aU e) (nbT m i)=nbT m i:=by simp [nbT]
variable {C : CC} (hC : aE prog C)
include hC
end Go.Gv

namespace Go.Gv
open Go.Lib
variable {C : CC} (hC : aE prog C)
include hC
def nmD (x : Nat) : D:=.agg [.int .u64 ((x / 18446744073709551616 : Nat) : Int),.int .u64 ((x % 18446744073709551616 : Nat) : Int),.bool false]
end Go.Gv

namespace Go.Gv
variable {C : CC} (hC : aE prog C)
include hC
end Go.Gv

namespace Go.Gv
def bdB (m : Msh) (i k : Nat) : Bool:=(List.range k).any fun c=>decide (nbF m i c < 0)
def ini (m : Msh) (i k : Nat) : Int:=if bdB m i k then -1 else -2
def qup (m : Msh) (i k : Nat) : Int:=if upF m i k < 0 then ini m i 3 else upF m i k
variable {C : CC} (hC : aE prog C)
include hC
end Go.Gv

namespace Go.Gv
def exM (z : Int) : Msh:=⟨false,[⟨0,0,0⟩,⟨30,0,z⟩,⟨30,30,9⟩,⟨0,30,0⟩],false,[⟨0,1,2,0⟩,⟨0,2,3,0⟩]⟩
variable {C : CC} (hC : aE prog C)
include hC
theorem sD (b b' : Bool) (xs ys : List Int) (hx : xs.length < 2 ^ 62) (hy : ys.length < 2 ^ 62) : C 19 [slx b (xs.map fun n=>[.int .i64 n]),slx b' (ys.map fun n=>[.int .i64 n])] (.bool (decide (xs=ys))) []:=by
 refine bD hC (nf:=N19) rfl rfl ?_
 simp [N19]
 refine av (fun h=>?_) (fun h=>?_) <;> simp at h <;> simp [h]
 ·rintro rfl;exact h rfl
 have h' : xs.length=ys.length:=by omega
 refine aF Nat (fun i=>[(0,slx b (xs.map fun n=>[.int .i64 n])),(1,slx b' (ys.map fun n=>[.int .i64 n])),(12,.int .i64 ys.length),(13,.int .i64 i)])
  (fun i=>i <= ys.length /\ ∀ k,k < i -> xs[k]? = ys[k]?) (fun i=>ys.length - i) 0 (by simp) (by simp) ?_
 rintro i ⟨hi,hok⟩
 simp
 refine av (fun h1=>?_) (fun h1=>?_) <;> simp at h1 <;> simp [h1]
 ·have hw : IntKind.wrap .i64 ((i : Int) + 1)=((i + 1 : Nat) : Int):=ao (by omega) (by omega)
  have hx1 : i < xs.length:=by omega
  simp [h1,hx1]
  refine ⟨aT (by decide +kernel),?_⟩
  refine av (fun h2=>?_) (fun h2=>?_) <;> simp [h1,hx1] at h2 <;> simp [h1,hx1,h2,hw]
  ·rintro rfl
   exact h2 rfl
  ·refine ⟨i + 1,⟨by omega,fun k hk=>?_⟩,by omega,rfl⟩
   rcases Nat.lt_succ_iff_lt_or_eq.1 hk with h5 | rfl
   ·exact hok k h5
   ·rw [List.getElem?_eq_getElem h1,List.getElem?_eq_getElem hx1,h2]
 ·refine List.ext_getElem? fun k=>?_
  rcases Nat.lt_or_ge k i with h2 | h2
  ·exact hok k h2
  ·rw [List.getElem?_eq_none (by omega),List.getElem?_eq_none (by omega)]
end Go.Gv

namespace Go.Gv
variable {C : CC} (hC : aE prog C)
include hC
end Go.Gv

namespace Go.Gv
variable {C : CC} (hC : aE prog C)
include hC
end Go.Gv

namespace Go.Gv
def qfl (m : Msh) (i : Nat) : List Int:=(List.range i).map fun j=>qY m j
@[simp] theorem Iz (m : Msh) (i : Nat) : List.take i (inR (qfl m i))=inR (qfl m i):=List.take_of_length_le (by simp [qfl])
@[simp] theorem N6 (m : Msh) (i : Nat) : (qfl m i).length=i:=by simp [qfl]
variable {C : CC} (hC : aE prog C)
include hC
end Go.Gv

namespace Go.Gv
def Py (m : Msh) : Bool:=(decide ((80 : Int) < (m.s.length : Int)) && decide ((m.s.length : Int) <= 2000)) || (decide ((80 : Int) < (m.f.length : Int)) && decide ((m.f.length : Int) <= 4000)) || decide ((2010 : Int) < (m.s.length : Int)) || decide ((4010 : Int) < (m.f.length : Int))
variable {C : CC} (hC : aE prog C)
include hC
end Go.Gv

namespace Go.Gv
def wa (f : Nat -> Int) : Nat -> Int
 | 0=>0
 | n + 1=>wa f n + f n
def ye (l : List Int) (x : Nat) : Int:=((l.filter fun y=>decide (y=(x : Int))).length : Int)
def twF (m : Msh) (i : Nat) : Int:=lK (aY m (fce m i))
def Fj (m : Msh) (x : Nat) : Int:=wa (fun j=>twF m j * ye (xC m (j : Int)) x) m.f.length
def Ql (m : Msh) : Int:=wa (twF m) m.f.length
end Go.Gv

namespace Go.Gv
def HA (f : Nat -> Int) : List Nat -> Int
 | []=>0
 | x::r=>f x + HA f r
def giv (m : Msh) (x y : Nat) : Int:=if qY m y=(x : Int) then Fj m y else 0
def Om (m : Msh) (P : List Nat) (x : Nat) : Int:=twF m x + HA (giv m x) P
structure Ord (m : Msh) (P : List Nat) : Prop where
 perm : P.Perm (List.range m.f.length)
 srt : P.Pairwise fun a b=>iB m b <= iB m a
theorem Ord.len {m : Msh} {P : List Nat} (h : Ord m P) : P.length=m.f.length:=by
 have:=h.perm.length_eq
 simpa using this
theorem Ord.lt {m : Msh} {P : List Nat} (h : Ord m P) {p : Nat} (hp : p < P.length) : P[p] < m.f.length:=by
 have:=h.perm.mem_iff.1 (List.getElem_mem hp)
 simpa using this
def HF (l : List Nat) : List (List D):=l.map fun (i : Nat)=>[D.int .i64 ((i : Nat) : Int)]
def acR (m : Msh) (P : List Nat) : List Int:=(List.range m.f.length).map (Om m P)
def Qc (m : Msh) : List Int:=(List.range m.f.length).map (Fj m)
def PP (m : Msh) (i : Nat) (l : List Int) (x : Nat) : Int:=wa (fun j=>twF m j * ye (xC m (j : Int)) x) i + twF m i * ye l x
def Qj (m : Msh) (i : Nat) (l : List Int) : List Int:=(List.range m.f.length).map (PP m i l)
end Go.Gv

set_option maxRecDepth 4000
namespace Go.Gv
def mvS (x y z : Int) (s : Spt) : Spt:=⟨s.x + x,s.y + y,s.z + z⟩
def mvM (m : Msh) (x y z : Int) : Msh:=⟨false,m.s.map (mvS x y z),false,m.f⟩
def PI (n : Int) : Bool:=decide (n < -67108864) || decide (67108864 < n)
def mvE (m : Msh) (x y z : Int) : Int:=if aC m=true then (if ([x,y,z].any PI)=true then 5 else if (m.s.all fun s=>bm (mvS x y z s))=true then 0 else 5) else 1
def PF (x y z : Int) (ss : List Spt) (i : Nat) : List Spt:=(ss.take i).map (mvS x y z)++ss.drop i
def mvR (x y z : Int) (ss : List Spt) (i : Nat) : List (List D):=(PF x y z ss i).map kj
variable {C : CC} (hC : aE prog C)
include hC
end Go.Gv

namespace Go.Gv
def trP (x y : Int) (p : Pnt) : Pnt:=(p.1 + x,p.2 + y)
def trT (x y : Int) (t : Tri) : Tri:=(trP x y t.1,trP x y t.2.1,trP x y t.2.2)
section
variable {m : Msh} {x y z : Int} (hv : aC m=true) (hr : ∀ i,i < m.s.length -> bm (mvS x y z (spt m i))=true)
include hv hr
omit hr
omit hv in
end
end Go.Gv

set_option maxRecDepth 4000
namespace Go.Gv
def upT (f : Nat -> Int) (n i : Nat) : List Int:=(List.range n).map fun j=>if j < i then f j else 0
def Qa (C : CC) : Prop:=∀ (m : Msh) (cs : List D),m.f.length < 2 ^ 62 -> (∀ a b : Nat,a < m.f.length -> b < m.f.length -> C 375 (.int .i64 a::.int .i64 b::cs) (.int .i64 (iB m b - iB m a)) []) -> ∃ Q,Ord m Q /\ C 374 [.own 1 (HF (List.range m.f.length)),.fn 375 cs] .any [.own 1 (HF Q),.nilp]
variable {C : CC} (hC : aE prog C)
include hC
end Go.Gv

set_option maxRecDepth 4000
namespace Go.Gv
variable {C : CC} (hC : aE prog C)
include hC
end Go.Gv

set_option maxRecDepth 4000
namespace Go.Gv
variable {C : CC} (hC : aE prog C)
include hC
end Go.Gv

namespace Go.Gv
structure RFW (m : Msh) (r : RF) : Prop where
 rc : r.rc.length=m.f.length
 lf : r.lf.length=m.f.length
 lv : r.lv.length=m.f.length
 ou : r.ou.length=m.f.length
theorem RFW.p1 {m : Msh} {i : Nat} {r : RF} {k : Int} (h : RFW m r) : RFW m (fA m i r k):=by
 unfold fA
 split
 ·exact ⟨by simp [h.rc],h.lf,by simp [h.lv],by simp [h.ou]⟩
 ·exact h
theorem RFW.i {m : Msh} {i : Nat} {r : RF} (h : RFW m r) : ∀ j,RFW m (rfI m i r j)
 | 0=>h
 | j + 1=>(RFW.i h j).p1
section
variable {C : Nat -> List D -> D -> List D -> Prop} (hC : aE prog C)
include hC
end
end Go.Gv

namespace Go.Gv
section
variable {C : Nat -> List D -> D -> List D -> Prop} (hC : aE prog C)
include hC
theorem rI (dec : Nat -> List UInt8) (hI : ∀ n : Nat,n < 100 -> C 127 [.int .i64 n] (.str (dec n)) []) (m : Msh) (hz : cY m=true -> m.s.length <= 100 /\ m.f.length <= 100) :
  C 243 [.agg (cj m)] (if aC m then .tup [.sl (inR (aN m).sp),.int .i64 0] else .tup [.nils,.int .i64 1]) []:=by
 have k:=gM hC dec hI m hz
 simp only [ai] at k
 refine bD hC (nf:=N243) rfl rfl ?_
 simp [N243,ai]
 refine af k (.inr rfl) ?_
 cases hv : aC m
 ·simp
 ·simp [dX]
theorem lV (dec : Nat -> List UInt8) (hI : ∀ n : Nat,n < 100 -> C 127 [.int .i64 n] (.str (dec n)) []) (m : Msh) (hz : cY m=true -> m.s.length <= 100 /\ m.f.length <= 100) :
  C 244 [.agg (cj m)] (if aC m then .tup [.sl (inR (aN m).ou),.int .i64 0] else .tup [.nils,.int .i64 1]) []:=by
 have k:=gM hC dec hI m hz
 simp only [ai] at k
 refine bD hC (nf:=N244) rfl rfl ?_
 simp [N244,ai]
 refine af k (.inr rfl) ?_
 cases hv : aC m
 ·simp
 ·simp [dX]
end
end Go.Gv

namespace Go.Gv
def iD (n : Nat) (ou : List Int) (rc : List Bool) : Nat -> Nat -> Prop
 | 0,a=>ou.getD a 0=-1
 | d + 1,a=>∃ b : Nat,b < n /\ ou.getD a 0=b /\ rc.getD b false=true /\ iD n ou rc d b
structure OuI (m : Msh) (r : RF) : Prop where
 rc : r.rc.length=m.f.length
 ou : r.ou.length=m.f.length
 e : ∀ a,a < m.f.length -> r.rc.getD a false=true -> ∃ d,d <= r.rc.count true /\ iD m.f.length r.ou r.rc d a
theorem iD.mono {n : Nat} {ou ou' : List Int} {rc rc' : List Bool} (h1 : ∀ a,rc.getD a false=true -> rc'.getD a false=true /\ ou'.getD a 0=ou.getD a 0) : ∀ {d a : Nat},rc.getD a false=true -> iD n ou rc d a -> iD n ou' rc' d a
 | 0,a,ha,h=>by
  show ou'.getD a 0=-1
  rw [(h1 a ha).2];exact h
 | d + 1,a,ha,⟨b,hb,e1,e2,e3⟩=>⟨b,hb,by rw [(h1 a ha).2];exact e1,(h1 b e2).1,iD.mono h1 e2 e3⟩
theorem nO {l : List Bool} {i : Nat} (h : i < l.length) (hf : l.getD i false=false) : (l.set i true).count true=l.count true + 1:=by
 have h1 : l[i]=false:=by simpa [h] using hf
 rw [List.count_set h,h1]
 simp
theorem OuI.p1 {m : Msh} {i : Nat} {r : RF} {k : Int} (h : OuI m r) (hi : i < m.f.length) (hr : r.rc.getD i false=true) (hk : k < m.f.length) : OuI m (fA m i r k):=by
 unfold fA
 split
 ·rename_i hc
  have hkl : k.toNat < m.f.length:=by omega
  have hrc:=fun j=>bR (l:=r.rc) (i:=k.toNat) (j:=j) (x:=true) (d:=false) (by rw [h.rc];omega)
  have hou:=fun j (x : Int)=>bR (l:=r.ou) (i:=k.toNat) (j:=j) (x:=x) (d:=(0 : Int)) (by rw [h.ou];omega)
  have hm : ∀ a,r.rc.getD a false=true -> (r.rc.set k.toNat true).getD a false=true /\ (r.ou.set k.toNat (i : Int)).getD a 0=r.ou.getD a 0:=fun a ha=>by
   have hne : a ≠ k.toNat:=fun e=>by rw [e,hc.2] at ha;cases ha
   rw [hrc,hou,if_neg hne,if_neg hne]
   exact ⟨ha,rfl⟩
  have hct:=nO (l:=r.rc) (i:=k.toNat) (by rw [h.rc];omega) hc.2
  refine ⟨by simp [h.rc],by simp [h.ou],fun a ha har=>?_⟩
  simp only at har ⊢
  rw [hct]
  by_cases e : a=k.toNat
  ·obtain ⟨d,hd,he⟩:=h.e i hi hr
   refine ⟨d + 1,by omega,i,hi,?_,(hm i hr).1,iD.mono hm hr he⟩
   rw [hou,if_pos e]
  ·rw [hrc,if_neg e] at har
   obtain ⟨d,hd,he⟩:=h.e a ha har
   exact ⟨d,by omega,iD.mono hm har he⟩
 ·exact h
theorem OuI.i {m : Msh} {i : Nat} {r : RF} (h : OuI m r) (hi : i < m.f.length) (hr : r.rc.getD i false=true) : ∀ j,OuI m (rfI m i r j)
 | 0=>h
 | j + 1=>(OuI.i h hi hr j).p1 hi (nr hr j) (dZ m i j).2
theorem OuI.step {m : Msh} {r : RF} (h : OuI m r) : OuI m (fd m r):=by
 unfold fd
 split
 ·exact h
 ·rename_i h0
  rcases iX r m.f.length with ⟨h1,_⟩ | ⟨a,h1,h2,h3,_⟩
  ·omega
  ·rw [h1]
   simp only [act,Bool.and_eq_true] at h3
   exact OuI.i (r:={ r with lf:=r.lf.set a true }) ⟨h.rc,h.ou,h.e⟩ h2 h3.1 3
theorem OuI.run {m : Msh} : ∀ (k : Nat) {r : RF},OuI m r -> OuI m (rfN m k r)
 | 0,_,h=>h
 | k + 1,_,h=>OuI.run k h.step
theorem OuI.init (m : Msh) : OuI m (d7 m):=by
 refine ⟨(eX m _).1,by simp [d7],fun a ha _=>⟨0,by omega,?_⟩⟩
 show (List.replicate m.f.length (-1 : Int)).getD a 0=-1
 simp [List.getElem?_replicate,ha]
def mth (ou : List Int) : Nat -> Nat -> Nat
 | 0,a=>a
 | k + 1,a=>if ou.getD a 0=-1 then a else mth ou k (ou.getD a 0).toNat
theorem mY {n : Nat} {ou : List Int} {rc : List Bool} : ∀ {d a : Nat},iD n ou rc d a -> ∀ k,d <= k -> mth ou k a=mth ou d a
 | 0,a,h,k,_=>by
  cases k with
  | zero=>rfl
  | succ k =>
   have h : ou.getD a 0=-1:=h
   simp only [mth,h,if_true]
 | d + 1,a,⟨b,_,e1,_,e3⟩,k,hk=>by
  cases k with
  | zero=>omega
  | succ k =>
   simp only [mth,e1]
   rw [if_neg (by omega),if_neg (by omega)]
   exact mY e3 k (by omega)
theorem il {m : Msh} (hv : aC m=true) {a : Nat} (ha : a < m.f.length) : ∃ d,d <= m.f.length /\ iD m.f.length (aN m).ou (b9 m).rc d a:=by
 have h : OuI m (b9 m):=(OuI.init m).run _
 obtain ⟨d,hd,he⟩:=h.e a ha (dM hv a ha)
 refine ⟨d,?_,by rw [(eq hv).2];exact he⟩
 have:=List.count_le_length (a:=true) (l:=(b9 m).rc)
 have:=h.rc
 omega
end Go.Gv

namespace Go.Gv
theorem og {ou : List Int} {a : Nat} (h : ou.getD a 0=-1) : ∀ k,mth ou k a=a
 | 0=>rfl
 | k + 1=>by simp only [mth,h,if_true]
theorem oe {n : Nat} {ou : List Int} {rc : List Bool} {d a b : Nat} (e1 : ou.getD a 0=b) (e3 : iD n ou rc d b) {k : Nat} (hk : d + 1 <= k) : mth ou k a=mth ou k b:=by
 cases k with
 | zero=>omega
 | succ k =>
  rw [mY e3 (k + 1) (by omega),<- mY e3 k (by omega)]
  simp only [mth,e1]
  rw [if_neg (by omega)]
  simp
def hH (m : Msh) (a : Nat) : Int:=(mth (aN m).ou m.f.length a : Nat)
def drT (m : Msh) (i : Nat) : List Int:=(List.range i).map (hH m)++List.replicate (m.f.length - i) 0
def drL (m : Msh) : List Int:=(List.range m.f.length).map (hH m)
theorem uB {m : Msh} {i : Nat} (h : i <= m.f.length) : (drT m i).length=m.f.length:=by simp [drT];omega
theorem uC {m : Msh} {i : Nat} (h : i < m.f.length) : (drT m i).set i (hH m i)=drT m (i + 1):=by
 unfold drT
 apply List.ext_getElem (by simp;omega)
 intro j h1 h2
 simp only [List.getElem_set,List.getElem_append,List.length_map,List.length_range,List.getElem_map,List.getElem_range,List.getElem_replicate]
 split <;> split <;> (try split) <;> first | rfl | omega | (simp_all;done)
theorem uA (m : Msh) : drT m m.f.length=drL m:=by simp [drT,drL]
section
variable {C : Nat -> List D -> D -> List D -> Prop} (hC : aE prog C)
include hC
set_option maxHeartbeats 1000000 in
theorem lU (dec : Nat -> List UInt8) (hI : ∀ n : Nat,n < 100 -> C 127 [.int .i64 n] (.str (dec n)) []) (m : Msh) (hz : cY m=true -> m.s.length <= 100 /\ m.f.length <= 100) :
  C 245 [.agg (cj m)] (if aC m then .tup [.sl (inR (drL m)),.int .i64 0] else .tup [.nils,.int .i64 1]) []:=by
 have k:=gM hC dec hI m hz
 simp only [ai] at k
 refine bD hC (nf:=N245) rfl rfl ?_
 simp [N245,ai]
 refine af k (.inr rfl) ?_
 cases hv : aC m
 ·simp
 ·have hsz:=(dS hv).2
  have W:=fO m
  obtain ⟨ou,hou⟩ : ∃ ou,ou=(aN m).ou:=⟨_,rfl⟩
  have hol : ou.length=m.f.length:=by rw [hou];exact W.ou
  have hen : ∀ a,a < m.f.length -> ∃ d,d <= m.f.length /\ iD m.f.length ou (b9 m).rc d a:=fun a ha=>by rw [hou];exact il hv ha
  have hmo : ∀ a,hH m a=(mth ou m.f.length a : Nat):=fun a=>by rw [hou];rfl
  simp [dX,<- hou,hol]
  refine ⟨by omega,?_⟩
  refine aF Nat (fun i=>[(4,.ptr [.sl (nbA m),slx true (inR (bE m)),.sl (inR (aN m).sp),.sl (inR ou)]),(6,.ref (.r 10096) 0 m.f.length),(24,.int .i64 m.f.length),(25,.int .i64 i),(10096,.blk 1 (inR (drT m i)))]) (fun i=>i <= m.f.length) (fun i=>m.f.length - i) 0 (by simp) (by simp [drT,inR]) ?_
  rintro i hi
  have hw : IntKind.wrap .i64 ((i : Int) + 1)=((i + 1 : Nat) : Int):=ao (by omega) (by omega)
  have hdl:=uB hi
  simp
  refine av (fun g1=>?_) (fun g1=>?_) <;> simp at g1 <;> simp [g1]
  ·obtain ⟨d0,hd0,he0⟩:=hen i g1
   refine aF (Nat × Nat) (fun s=>[(4,.ptr [.sl (nbA m),slx true (inR (bE m)),.sl (inR (aN m).sp),.sl (inR ou)]),(6,.ref (.r 10096) 0 m.f.length),(7,.int .i64 i),(8,.int .i64 s.1),(24,.int .i64 m.f.length),(25,.int .i64 i),(10096,.blk 1 (inR (drT m i)))]) (fun s=>s.1 < m.f.length /\ s.2 <= m.f.length /\ iD m.f.length ou (b9 m).rc s.2 s.1 /\ mth ou m.f.length s.1=mth ou m.f.length i) (fun s=>s.2) (i,d0) ⟨g1,hd0,he0,rfl⟩ (by simp) ?_
   rintro ⟨a,d⟩ ⟨q1,q2,q3,q4⟩
   simp only at q1 q2 q3 q4
   have hao : a < ou.length:=by omega
   simp [ar (b8 hao)]
   refine av (fun g2=>?_) (fun g2=>?_) <;> simp at g2
   ·cases d with
    | zero =>
     have : ou.getD a 0=-1:=q3
     simp at this
     exact absurd this g2
    | succ d =>
     obtain ⟨b,hb,e1,e2,e3⟩:=q3
     have e1' : ou[a]?.getD 0=(b : Int):=by simpa using e1
     simp [g2,ar (b8 hao),e1']
     exact ⟨b,d,⟨hb,by omega,e3,by rw [<- q4,oe e1 e3 q2]⟩,by omega,rfl⟩
   ·have h1 : ou.getD a 0=-1:=by simpa using g2
    rw [og h1] at q4
    have hmi : hH m i=(a : Int):=by rw [hmo,<- q4]
    have hst:=uC g1
    rw [hmi] at hst
    have hil : i < (drT m i).length:=by omega
    simp [g2,g1,b8 hil,pf,hst]
    exact ⟨i + 1,by omega,by omega,hw,rfl⟩
  ·have hin : i=m.f.length:=by omega
   subst hin
   rw [uA] at hdl ⊢
   have:=kZ (drL m)
   rw [hdl] at this
   simp [this]
   omega
end
end Go.Gv

namespace Go.Gv
section
variable {C : Nat -> List D -> D -> List D -> Prop} (hC : aE prog C)
include hC
end
end Go.Gv

namespace Go.Gv
structure Fo (n : Nat) (f : List Nat) : Prop where
 len : f.length=n
 le : ∀ i,i < n -> fAt f i <= i
def ftN (f : List Nat) : Nat -> Nat -> Nat
 | 0,i=>i
 | k + 1,i=>if fAt f i=i then i else ftN f k (fAt f i)
def ftF (f : List Nat) (i : Nat) : Nat:=ftN f i i
theorem sR {n : Nat} {f : List Nat} (h : Fo n f) : ∀ (k i : Nat),i < n -> i <= k -> ftN f k i=ftN f i i:=by
 intro k
 induction k using Nat.strongRecOn with
 | _ k ih =>
  intro i hi hk
  have hle:=h.le i hi
  cases i with
  | zero =>
   cases k with
   | zero=>rfl
   | succ k=>unfold ftN;rw [if_pos (by omega)]
  | succ i =>
   cases k with
   | zero=>omega
   | succ k =>
    simp only [ftN]
    split
    ·rfl
    ·rename_i hne
     by_cases hk2 : k=i
     ·rw [hk2]
     ·rw [ih k (by omega) (fAt f (i + 1)) (by omega) (by omega),ih i (by omega) (fAt f (i + 1)) (by omega) (by omega)]
theorem cM {f : List Nat} {i : Nat} (e : fAt f i=i) : ftF f i=i:=by
 unfold ftF
 cases i with
 | zero=>rfl
 | succ i=>simp only [ftN,e,if_true]
theorem dy {n : Nat} {f : List Nat} (h : Fo n f) {i : Nat} (hi : i < n) : ftF f i=ftF f (fAt f i):=by
 have hle:=h.le i hi
 by_cases e : fAt f i=i
 ·rw [e]
 ·unfold ftF
  cases i with
  | zero=>omega
  | succ i =>
   rw [ftN,if_neg e]
   exact sR h i _ (by omega) (by omega)
theorem eC {n : Nat} {f : List Nat} (h : Fo n f) : ∀ i,i < n -> ftF f i <= i /\ fAt f (ftF f i)=ftF f i:=by
 intro i
 induction i using Nat.strongRecOn with
 | _ i ih =>
  intro hi
  have hle:=h.le i hi
  by_cases e : fAt f i=i
  ·rw [cM e];exact ⟨Nat.le_refl _,e⟩
  ·rw [dy h hi]
   obtain ⟨h1,h2⟩:=ih (fAt f i) (by omega) (by omega)
   exact ⟨by omega,h2⟩
theorem sQ {n : Nat} {f : List Nat} (h : Fo n f) {i : Nat} (hi : i < n) : ftF f (ftF f i)=ftF f i:=cM (eC h i hi).2
theorem dK {f : List Nat} {i j x : Nat} (h : i < f.length) : fAt (f.set i x) j=if j=i then x else fAt f j:=by
 unfold fAt
 simp only [List.getD_eq_getElem?_getD,List.getElem?_set]
 by_cases e : j=i
 ·subst e;simp [h]
 ·rw [if_neg (fun h=>e h.symm),if_neg e]
theorem Fr {n : Nat} {f : List Nat} (h : Fo n f) {i : Nat} (hi : i < n) : Fo n (f.set i (fAt f (fAt f i))) /\ ∀ x,x < n -> ftF (f.set i (fAt f (fAt f i))) x=ftF f x:=by
 have hl : i < f.length:=by rw [h.len];exact hi
 have h1:=h.le i hi
 have h2:=h.le (fAt f i) (by omega)
 have hF : Fo n (f.set i (fAt f (fAt f i))):=by
  refine ⟨by simp [h.len],fun j hj=>?_⟩
  rw [dK hl]
  split
  ·omega
  ·exact h.le j hj
 refine ⟨hF,fun x=>?_⟩
 induction x using Nat.strongRecOn with
 | _ x ih =>
  intro hx
  have hst:=dy hF hx
  have hx1:=h.le x hx
  rw [dK hl] at hst
  by_cases e : x=i
  ·rw [if_pos e] at hst
   subst e
   by_cases e2 : fAt f (fAt f x)=x
   ·have e3 : fAt f x=x:=by omega
    rw [cM e3]
    exact cM (by rw [dK hl,if_pos rfl];exact e2)
   ·rw [hst,ih _ (by omega) (by omega),dy h hx,dy h (by omega : fAt f x < n)]
  ·rw [if_neg e] at hst
   by_cases e2 : fAt f x=x
   ·rw [cM e2]
    exact cM (by rw [dK hl,if_neg e];exact e2)
   ·rw [hst,ih _ (by omega) (by omega),<- dy h hx]
def hlv (f : List Nat) : Nat -> Nat -> List Nat
 | 0,_=>f
 | k + 1,i=>if fAt f i=i then f else hlv (f.set i (fAt f (fAt f i))) k (fAt f (fAt f i))
def hlL (f : List Nat) (i : Nat) : List Nat:=hlv f i i
theorem sW {f : List Nat} {k i : Nat} (e : fAt f i=i) : hlv f k i=f:=by
 cases k with
 | zero=>rfl
 | succ k=>simp only [hlv,e,if_true]
theorem nX {n : Nat} : ∀ (k : Nat) {f : List Nat} {i : Nat},Fo n f -> i < n -> Fo n (hlv f k i) /\ ∀ x,x < n -> ftF (hlv f k i) x=ftF f x
 | 0,f,i,h,_=>⟨h,fun _ _=>rfl⟩
 | k + 1,f,i,h,hi=>by
  unfold hlv
  split
  ·exact ⟨h,fun _ _=>rfl⟩
  ·obtain ⟨h1,h2⟩:=Fr h hi
   have h3:=h.le i hi
   have h4:=h.le (fAt f i) (by omega)
   obtain ⟨h5,h6⟩:=nX k h1 (show fAt f (fAt f i) < n by omega)
   exact ⟨h5,fun x hx=>by rw [h6 x hx,h2 x hx]⟩
theorem gr {n : Nat} {f : List Nat} {i : Nat} (h : Fo n f) (hi : i < n) : Fo n (hlL f i) /\ ∀ x,x < n -> ftF (hlL f i) x=ftF f x:=nX i h hi
theorem qK {n : Nat} {f : List Nat} (h : Fo n f) {M m : Nat} (hM : M < n) (e1 : fAt f M=M) (e2 : fAt f m=m) (hm : m <= M) :
  Fo n (f.set M m) /\ ∀ x,x < n -> ftF (f.set M m) x=if ftF f x=M then m else ftF f x:=by
 have hl : M < f.length:=by rw [h.len];exact hM
 have hF : Fo n (f.set M m):=by
  refine ⟨by simp [h.len],fun j hj=>?_⟩
  rw [dK hl]
  split
  ·omega
  ·exact h.le j hj
 refine ⟨hF,fun x=>?_⟩
 induction x using Nat.strongRecOn with
 | _ x ih =>
  intro hx
  have hst:=dy hF hx
  have hx1:=h.le x hx
  rw [dK hl] at hst
  by_cases e : x=M
  ·rw [if_pos e] at hst
   subst e
   rw [cM e1,if_pos rfl,hst]
   by_cases e3 : m=x
   ·subst e3
    exact cM (by rw [dK hl,if_pos rfl])
   ·exact cM (by rw [dK hl,if_neg e3];exact e2)
  ·rw [if_neg e] at hst
   by_cases e3 : fAt f x=x
   ·rw [cM e3,if_neg e]
    exact cM (by rw [dK hl,if_neg e];exact e3)
   ·rw [hst,ih _ (by omega) (by omega),<- dy h hx]
def fU (f : List Nat) (a b : Nat) : List Nat:=(hlL (hlL f a) b).set (max (ftF f a) (ftF f b)) (min (ftF f a) (ftF f b))
theorem eF {n : Nat} {f : List Nat} (h : Fo n f) {a b : Nat} (ha : a < n) (hb : b < n) :
  Fo n (fU f a b) /\ ∀ x,x < n -> ftF (fU f a b) x=if ftF f x=max (ftF f a) (ftF f b) then min (ftF f a) (ftF f b) else ftF f x:=by
 obtain ⟨h1,r1⟩:=gr h ha
 obtain ⟨h2,r2⟩:=gr h1 hb
 have hr : ∀ x,x < n -> ftF (hlL (hlL f a) b) x=ftF f x:=fun x hx=>by rw [r2 x hx,r1 x hx]
 have ga:=eC h a ha
 have gb:=eC h b hb
 have fx : ∀ x,x < n -> fAt (hlL (hlL f a) b) (ftF f x)=ftF f x:=fun x hx=>by
  have:=(eC h2 x hx).2
  rw [hr x hx] at this
  exact this
 have e1 : fAt (hlL (hlL f a) b) (max (ftF f a) (ftF f b))=max (ftF f a) (ftF f b):=by
  rcases Nat.le_total (ftF f a) (ftF f b) with g | g
  ·rw [Nat.max_eq_right g];exact fx b hb
  ·rw [Nat.max_eq_left g];exact fx a ha
 have e2 : fAt (hlL (hlL f a) b) (min (ftF f a) (ftF f b))=min (ftF f a) (ftF f b):=by
  rcases Nat.le_total (ftF f a) (ftF f b) with g | g
  ·rw [Nat.min_eq_left g];exact fx a ha
  ·rw [Nat.min_eq_right g];exact fx b hb
 obtain ⟨q1,q2⟩:=qK h2 (M:=max (ftF f a) (ftF f b)) (m:=min (ftF f a) (ftF f b)) (by omega) e1 e2 (by omega)
 refine ⟨q1,fun x hx=>?_⟩
 unfold fU
 rw [q2 x hx,hr x hx]
inductive Cn (R : Nat -> Nat -> Prop) : Nat -> Nat -> Prop
 | refl (a : Nat) : Cn R a a
 | step {a b c : Nat} : Cn R a b -> R b c -> Cn R a c
theorem Cn.trans {R : Nat -> Nat -> Prop} {a b c : Nat} (h : Cn R a b) (g : Cn R b c) : Cn R a c:=by
 induction g with
 | refl=>exact h
 | step _ r ih=>exact .step ih r
theorem Cn.symm {R : Nat -> Nat -> Prop} (hs : ∀ a b,R a b -> R b a) {a b : Nat} (h : Cn R a b) : Cn R b a:=by
 induction h with
 | refl=>exact .refl _
 | step _ r ih=>exact (Cn.step (.refl _) (hs _ _ r)).trans ih
theorem Cn.mono {R S : Nat -> Nat -> Prop} (hs : ∀ a b,R a b -> S a b) {a b : Nat} (h : Cn R a b) : Cn S a b:=by
 induction h with
 | refl=>exact .refl _
 | step _ r ih=>exact .step ih (hs _ _ r)
def kD (n : Nat) (R : Nat -> Nat -> Prop) (f : List Nat) : Prop:=∀ x,x < n -> Cn R x (ftF f x)
theorem kD.init {n : Nat} (R : Nat -> Nat -> Prop) : Fo n (List.range n) /\ kD n R (List.range n) /\ ∀ x,x < n -> ftF (List.range n) x=x:=by
 have hf : ∀ x,x < n -> fAt (List.range n) x=x:=fun x hx=>by simp [fAt,hx]
 have hr : ∀ x,x < n -> ftF (List.range n) x=x:=fun x hx=>cM (hf x hx)
 exact ⟨⟨by simp,fun i hi=>by rw [hf i hi];omega⟩,fun x hx=>by rw [hr x hx];exact .refl _,hr⟩
theorem kD.join {n : Nat} {R : Nat -> Nat -> Prop} {f : List Nat} (hs : ∀ a b,R a b -> R b a) (h : Fo n f) (hi : kD n R f) {a b : Nat} (ha : a < n) (hb : b < n) (hr : R a b) : kD n R (fU f a b):=by
 intro x hx
 obtain ⟨_,q⟩:=eF h ha hb
 rw [q x hx]
 have wab : Cn R (ftF f a) (ftF f b):=((hi a ha).symm hs).trans ((Cn.step (.refl _) hr).trans (hi b hb))
 split
 ·rename_i e
  have h1:=hi x hx
  rw [e] at h1
  refine h1.trans ?_
  rcases Nat.le_total (ftF f a) (ftF f b) with g | g
  ·rw [Nat.max_eq_right g,Nat.min_eq_left g];exact wab.symm hs
  ·rw [Nat.max_eq_left g,Nat.min_eq_right g];exact wab
 ·exact hi x hx
theorem qL {n : Nat} {f : List Nat} (h : Fo n f) {a b : Nat} (ha : a < n) (hb : b < n) : ftF (fU f a b) a=ftF (fU f a b) b:=by
 obtain ⟨_,q⟩:=eF h ha hb
 rw [q a ha,q b hb]
 split <;> split <;> omega
theorem mg {n : Nat} {f : List Nat} (h : Fo n f) {a b x y : Nat} (ha : a < n) (hb : b < n) (hx : x < n) (hy : y < n) (e : ftF f x=ftF f y) : ftF (fU f a b) x=ftF (fU f a b) y:=by
 obtain ⟨_,q⟩:=eF h ha hb
 rw [q x hx,q y hy,e]
theorem Cn.root {R : Nat -> Nat -> Prop} {f : List Nat} (hR : ∀ a b,R a b -> ftF f a=ftF f b) {a b : Nat} (h : Cn R a b) : ftF f a=ftF f b:=by
 induction h with
 | refl=>rfl
 | step _ r ih=>rw [ih,hR _ _ r]
end Go.Gv

namespace Go.Gv
theorem iu {fs : List Nat} {i : Nat} (h : i < fs.length) : (nfR fs)[i]? = some [.int .i64 (fAt fs i : Nat)]:=by rw [cO h];exact gR h
def frT (n i : Nat) : List Nat:=List.range i++List.replicate (n - i) 0
theorem uS {n i : Nat} (h : i <= n) : (frT n i).length=n:=by simp [frT];omega
theorem uT {n i : Nat} (h : i < n) : (frT n i).set i i=frT n (i + 1):=by
 unfold frT
 apply List.ext_getElem (by simp;omega)
 intro j h1 h2
 simp only [List.getElem_set,List.getElem_append,List.length_range,List.getElem_range,List.getElem_replicate]
 split <;> split <;> (try split) <;> first | rfl | omega
section
variable {C : Nat -> List D -> D -> List D -> Prop} (hC : fI prog C)
include hC
theorem pz (n : Nat) (hn : n < 2 ^ 40) (f : List Nat) (h : Fo n f) (i : Nat) (hi : i < n) : C 332 [.blk 1 (nfR f),.ref (.r 10015) 0 n,.int .i64 i] (.int .i64 (ftF f i : Nat)) [.blk 1 (nfR (hlL f i)),.nilp]:=by
 refine eM hC (nf:=N332) rfl rfl ?_
 simp [N332]
 refine aF (List Nat × Nat × Nat) (fun s=>[(0,.ref (.r 10015) 0 n),(1,.int .i64 s.2.1),(10015,.blk 1 (nfR s.1))]) (fun s=>Fo n s.1 /\ s.2.1 < n /\ s.2.1 <= s.2.2 /\ hlv s.1 s.2.2 s.2.1=hlL f i /\ ftF s.1 s.2.1=ftF f i) (fun s=>s.2.1) (f,i,i) ⟨h,hi,Nat.le_refl _,rfl,rfl⟩ (by simp) ?_
 rintro ⟨g,a,k⟩ ⟨k1,k2,k3,k4,k5⟩
 simp only at k1 k2 k3 k4 k5
 have hl:=k1.len
 have hag : a < g.length:=by omega
 have h1:=k1.le a k2
 have hfl : fAt g a < g.length:=by omega
 have h2:=k1.le (fAt g a) (by omega)
 simp [aX (iu hag),k2]
 refine av (fun g1=>?_) (fun g1=>?_) <;> simp at g1 <;> simp [g1]
 ·have hne : fAt g a ≠ a:=fun e=>g1 (by rw [e])
  have hfx : (fAt g a : Int) < g.length:=by omega
  obtain ⟨q1,q2⟩:=Fr k1 k2
  have hset : nfR (g.set a (fAt g (fAt g a)))=(nfR g).set a [.int .i64 (fAt g (fAt g a) : Nat)]:=(iQ g a _).symm
  have hfn : fAt g a < n:=by omega
  simp [aX (iu hag),aX (iu hfl),k2,hfn,iu hag,iQ]
  have hal : a < (g.set a (fAt g (fAt g a))).length:=by simpa using hag
  have hv : fAt (g.set a (fAt g (fAt g a))) a=fAt g (fAt g a):=by rw [dK hag,if_pos rfl]
  simp [aX (iu hal),hv]
  cases k with
  | zero=>omega
  | succ k =>
   refine ⟨g.set a (fAt g (fAt g a)),fAt g (fAt g a),⟨q1,by omega,k,by omega,?_,?_⟩,by omega,rfl,rfl⟩
   ·rw [<- k4,hlv,if_neg hne]
   ·rw [q2 _ (by omega),<- k5,dy k1 k2,dy k1 (by omega : fAt g a < n)]
 ·have e : fAt g a=a:=by omega
  rw [sW e] at k4
  rw [cM e] at k5
  rw [<- k4,<- k5]
  simp
  omega
theorem yD (n : Nat) (hn : n < 2 ^ 40) (f : List Nat) (h : Fo n f) (a b : Nat) (ha : a < n) (hb : b < n) : C 331 [.blk 1 (nfR f),.ref (.r 10015) 0 n,.int .i64 a,.int .i64 b] (.tup []) [.blk 1 (nfR (fU f a b)),.nilp]:=by
 obtain ⟨h1,r1⟩:=gr h ha
 obtain ⟨h2,r2⟩:=gr h1 hb
 have k1:=pz hC n hn f h a ha
 have k2:=pz hC n hn (hlL f a) h1 b hb
 rw [r1 b hb] at k2
 have l0:=h.len
 have l1:=h1.len
 have l2:=h2.len
 have ga:=eC h a ha
 have gb:=eC h b hb
 obtain ⟨ra,hra⟩ : ∃ ra,ra=ftF f a:=⟨_,rfl⟩
 obtain ⟨rb,hrb⟩ : ∃ rb,rb=ftF f b:=⟨_,rfl⟩
 have hj : fU f a b=(hlL (hlL f a) b).set (max ra rb) (min ra rb):=by rw [hra,hrb];rfl
 rw [hj]
 rw [<- hra] at ga k1
 rw [<- hrb] at gb k2
 refine eM hC (nf:=N331) rfl rfl ?_
 simp [N331,l0]
 refine ⟨by omega,?_⟩
 refine bU k1 (by simp;omega) ?_
 simp [l1]
 refine ⟨by omega,?_⟩
 refine bU k2 (by simp;omega) ?_
 obtain ⟨M,hMe⟩ : ∃ M,M=max ra rb:=⟨_,rfl⟩
 obtain ⟨N,hNe⟩ : ∃ N,N=min ra rb:=⟨_,rfl⟩
 rw [<- hMe,<- hNe]
 have hM : M < n:=by omega
 have e1 : (if ra < rb then (rb : Int) else ra)=(M : Int):=by split <;> omega
 have e2 : (if rb < ra then (rb : Int) else ra)=(N : Int):=by split <;> omega
 have hMl : M < (hlL (hlL f a) b).length:=by omega
 simp [e1,e2,hM,iu hMl,iQ]
 omega
end
section
variable {C : Nat -> List D -> D -> List D -> Prop} (hC : aE prog C)
include hC
theorem oX (n : Nat) (hn : n < 2 ^ 40) : C 329 [.int .i64 n] .any [.own 1 (nfR (List.range n))]:=by
 refine lI hC (nf:=N329) rfl rfl ?_
 simp [N329]
 refine ⟨by omega,?_⟩
 refine aF Nat (fun i=>[(3,.ref (.r 10048) 0 n),(8,.int .i64 n),(9,.int .i64 i),(10048,.blk 1 (nfR (frT n i)))]) (fun i=>i <= n) (fun i=>n - i) 0 (by simp) (by simp [nfR,frT]) ?_
 rintro i hi
 have hw : IntKind.wrap .i64 ((i : Int) + 1)=((i + 1 : Nat) : Int):=ao (by omega) (by omega)
 have hl:=uS hi
 simp
 refine av (fun g1=>?_) (fun g1=>?_) <;> simp at g1 <;> simp [g1]
 ·have hil : i < (frT n i).length:=by omega
  have hs:=uT g1
  simp [iu hil,iQ,hs]
  exact ⟨i + 1,by omega,by omega,hw,rfl⟩
 ·have e : i=n:=by omega
  subst e
  have e2 : frT i i=List.range i:=by simp [frT]
  rw [e2]
  simp
  exact ir _
end
end Go.Gv
