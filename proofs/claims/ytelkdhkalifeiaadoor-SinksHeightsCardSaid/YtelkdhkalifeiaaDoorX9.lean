/-
  Texts of the proof: I5, I6, L10, L11, J29, L12, L15, L16, L19, RF1, SF1, SF2, PT6, PL1, M3, M4, P3, Z1, Z2, Z3, Z4, Z5, Z6, PV1, RF2, LF1, SL1, PV2, HT1, GvT, GvT3, HT2, HT3, SH1.
-/
import Derived.Test.YtelkdhkalifeiaaDoorX8
import Derived.Test.YtelkdhkalifeiaaDoorX5
import Derived.Sort.Row
import Derived.Sort.Grow
import Derived.Shelf.SlSortCmp.Whole1
import Derived.Shelf.SlSortCmp.NoneTotal
set_option linter.all false
namespace Go.Gv
def qfl (m : Msh) (i : Nat) : List Int:=(List.range i).map fun j=>r9 m j
@[simp] theorem JP (m : Msh) (i : Nat) : List.take i (inR (qfl m i))=inR (qfl m i):=List.take_of_length_le (by simp [qfl])
@[simp] theorem Pl (m : Msh) (i : Nat) : (qfl m i).length=i:=by simp [qfl]
variable {C : CC} (hC : az prog C)
include hC
end Go.Gv

namespace Go.Gv
def QH (m : Msh) : Bool:=(decide ((80 : Int) < (m.s.length : Int)) && decide ((m.s.length : Int) <= 2000)) || (decide ((80 : Int) < (m.f.length : Int)) && decide ((m.f.length : Int) <= 4000)) || decide ((2010 : Int) < (m.s.length : Int)) || decide ((4010 : Int) < (m.f.length : Int))
variable {C : CC} (hC : az prog C)
include hC
end Go.Gv

namespace Go.Gv
def xk (f : Nat -> Int) : Nat -> Int
 | 0=>0
 | n + 1=>xk f n + f n
def zD (l : List Int) (x : Nat) : Int:=((l.filter fun y=>decide (y=(x : Int))).length : Int)
def twF (m : Msh) (i : Nat) : Int:=mg (aX m (fce m i))
def Gy (m : Msh) (x : Nat) : Int:=xk (fun j=>twF m j * zD (yH m (j : Int)) x) m.f.length
def RC (m : Msh) : Int:=xk (twF m) m.f.length
end Go.Gv

namespace Go.Gv
def IS (f : Nat -> Int) : List Nat -> Int
 | []=>0
 | x::r=>f x + IS f r
def giv (m : Msh) (x y : Nat) : Int:=if r9 m y=(x : Int) then Gy m y else 0
def Py (m : Msh) (P : List Nat) (x : Nat) : Int:=twF m x + IS (giv m x) P
structure Ord (m : Msh) (P : List Nat) : Prop where
 perm : P.Perm (List.range m.f.length)
 srt : P.Pairwise fun a b=>cQ m b <= cQ m a
theorem Ord.len {m : Msh} {P : List Nat} (h : Ord m P) : P.length=m.f.length:=by
 have:=h.perm.length_eq
 simpa using this
theorem Ord.lt {m : Msh} {P : List Nat} (h : Ord m P) {p : Nat} (hp : p < P.length) : P[p] < m.f.length:=by
 have:=h.perm.mem_iff.1 (List.getElem_mem hp)
 simpa using this
def IX (l : List Nat) : List (List D):=l.map fun (i : Nat)=>[D.int .i64 ((i : Nat) : Int)]
def acR (m : Msh) (P : List Nat) : List Int:=(List.range m.f.length).map (Py m P)
def Rt (m : Msh) : List Int:=(List.range m.f.length).map (Gy m)
def Q1 (m : Msh) (i : Nat) (l : List Int) (x : Nat) : Int:=xk (fun j=>twF m j * zD (yH m (j : Int)) x) i + twF m i * zD l x
def RA (m : Msh) (i : Nat) (l : List Int) : List Int:=(List.range m.f.length).map (Q1 m i l)
end Go.Gv

set_option maxRecDepth 4000
namespace Go.Gv
def mvS (x y z : Int) (s : Spt) : Spt:=⟨s.x + x,s.y + y,s.z + z⟩
def mvM (m : Msh) (x y z : Int) : Msh:=⟨false,m.s.map (mvS x y z),false,m.f⟩
def QU (n : Int) : Bool:=decide (n < -67108864) || decide (67108864 < n)
def mvE (m : Msh) (x y z : Int) : Int:=if au m=true then (if ([x,y,z].any QU)=true then 5 else if (m.s.all fun s=>br (mvS x y z s))=true then 0 else 5) else 1
def QQ (x y z : Int) (ss : List Spt) (i : Nat) : List Spt:=(ss.take i).map (mvS x y z)++ss.drop i
def mvR (x y z : Int) (ss : List Spt) (i : Nat) : List (List D):=(QQ x y z ss i).map ju
variable {C : CC} (hC : az prog C)
include hC
end Go.Gv

namespace Go.Gv
def trP (x y : Int) (p : Pnt) : Pnt:=(p.1 + x,p.2 + y)
def trT (x y : Int) (t : Tri) : Tri:=(trP x y t.1,trP x y t.2.1,trP x y t.2.2)
section
variable {m : Msh} {x y z : Int} (hv : au m=true) (hr : ∀ i,i < m.s.length -> br (mvS x y z (spt m i))=true)
include hv hr
omit hr
omit hv in
end
end Go.Gv

set_option maxRecDepth 4000
namespace Go.Gv
def upT (f : Nat -> Int) (n i : Nat) : List Int:=(List.range n).map fun j=>if j < i then f j else 0
def Rp (C : CC) : Prop:=∀ (m : Msh) (cs : List D),m.f.length < 2 ^ 62 -> (∀ a b : Nat,a < m.f.length -> b < m.f.length -> C 375 (.int .i64 a::.int .i64 b::cs) (.int .i64 (cQ m b - cQ m a)) []) -> ∃ Q,Ord m Q /\ C 374 [.own 1 (IX (List.range m.f.length)),.fn 375 cs] .any [.own 1 (IX Q),.nilp]
variable {C : CC} (hC : az prog C)
include hC
end Go.Gv

set_option maxRecDepth 4000
namespace Go.Gv
variable {C : CC} (hC : az prog C)
include hC
end Go.Gv

set_option maxRecDepth 4000
namespace Go.Gv
variable {C : CC} (hC : az prog C)
include hC
end Go.Gv

namespace Go.Gv
structure RFW (m : Msh) (r : RF) : Prop where
 rc : r.rc.length=m.f.length
 lf : r.lf.length=m.f.length
 lv : r.lv.length=m.f.length
 ou : r.ou.length=m.f.length
theorem RFW.p1 {m : Msh} {i : Nat} {r : RF} {k : Int} (h : RFW m r) : RFW m (fS m i r k):=by
 unfold fS
 split
 ·exact ⟨by simp [h.rc],h.lf,by simp [h.lv],by simp [h.ou]⟩
 ·exact h
theorem RFW.i {m : Msh} {i : Nat} {r : RF} (h : RFW m r) : ∀ j,RFW m (rfI m i r j)
 | 0=>h
 | j + 1=>(RFW.i h j).p1
section
variable {C : Nat -> List D -> D -> List D -> Prop} (hC : az prog C)
include hC
end
end Go.Gv

namespace Go.Gv
section
variable {C : Nat -> List D -> D -> List D -> Prop} (hC : az prog C)
include hC
theorem sB (dec : Nat -> List UInt8) (hI : ∀ n : Nat,n < 100 -> C 127 [.int .i64 n] (.str (dec n)) []) (m : Msh) (hz : cY m=true -> m.s.length <= 100 /\ m.f.length <= 100) :
  C 243 [.agg (ci m)] (if au m then .tup [.sl (inR (aZ m).sp),.int .i64 0] else .tup [.nils,.int .i64 1]) []:=by
 have k:=ij hC dec hI m hz
 simp only [ai] at k
 refine bp hC (nf:=N243) rfl rfl ?_
 simp [N243,ai]
 refine ae k (.inr rfl) ?_
 cases hv : au m
 ·simp
 ·simp [ee]
theorem qU (dec : Nat -> List UInt8) (hI : ∀ n : Nat,n < 100 -> C 127 [.int .i64 n] (.str (dec n)) []) (m : Msh) (hz : cY m=true -> m.s.length <= 100 /\ m.f.length <= 100) :
  C 244 [.agg (ci m)] (if au m then .tup [.sl (inR (aZ m).ou),.int .i64 0] else .tup [.nils,.int .i64 1]) []:=by
 have k:=ij hC dec hI m hz
 simp only [ai] at k
 refine bp hC (nf:=N244) rfl rfl ?_
 simp [N244,ai]
 refine ae k (.inr rfl) ?_
 cases hv : au m
 ·simp
 ·simp [ee]
end
end Go.Gv

namespace Go.Gv
theorem tY {ou : List Int} {a : Nat} (h : ou.getD a 0=-1) : ∀ k,mth ou k a=a
 | 0=>rfl
 | k + 1=>by simp only [mth,h,if_true]
theorem tX {n : Nat} {ou : List Int} {rc : List Bool} {d a b : Nat} (e1 : ou.getD a 0=b) (e3 : iI n ou rc d b) {k : Nat} (hk : d + 1 <= k) : mth ou k a=mth ou k b:=by
 cases k with
 | zero=>omega
 | succ k =>
  rw [nH e3 (k + 1) (by omega),<- nH e3 k (by omega)]
  simp only [mth,e1]
  rw [if_neg (by omega)]
  simp
def pW (m : Msh) (a : Nat) : Int:=(mth (aZ m).ou m.f.length a : Nat)
def drT (m : Msh) (i : Nat) : List Int:=(List.range i).map (pW m)++List.replicate (m.f.length - i) 0
def drL (m : Msh) : List Int:=(List.range m.f.length).map (pW m)
theorem vz {m : Msh} {i : Nat} (h : i <= m.f.length) : (drT m i).length=m.f.length:=by simp [drT];omega
theorem vA {m : Msh} {i : Nat} (h : i < m.f.length) : (drT m i).set i (pW m i)=drT m (i + 1):=by
 unfold drT
 apply List.ext_getElem (by simp;omega)
 intro j h1 h2
 simp only [List.getElem_set,List.getElem_append,List.length_map,List.length_range,List.getElem_map,List.getElem_range,List.getElem_replicate]
 split <;> split <;> (try split) <;> first | rfl | omega | (simp_all;done)
theorem vy (m : Msh) : drT m m.f.length=drL m:=by simp [drT,drL]
section
variable {C : Nat -> List D -> D -> List D -> Prop} (hC : az prog C)
include hC
set_option maxHeartbeats 1000000 in
theorem qS (dec : Nat -> List UInt8) (hI : ∀ n : Nat,n < 100 -> C 127 [.int .i64 n] (.str (dec n)) []) (m : Msh) (hz : cY m=true -> m.s.length <= 100 /\ m.f.length <= 100) :
  C 245 [.agg (ci m)] (if au m then .tup [.sl (inR (drL m)),.int .i64 0] else .tup [.nils,.int .i64 1]) []:=by
 have k:=ij hC dec hI m hz
 simp only [ai] at k
 refine bp hC (nf:=N245) rfl rfl ?_
 simp [N245,ai]
 refine ae k (.inr rfl) ?_
 cases hv : au m
 ·simp
 ·have hsz:=(dx hv).2
  have W:=ii m
  obtain ⟨ou,hou⟩ : ∃ ou,ou=(aZ m).ou:=⟨_,rfl⟩
  have hol : ou.length=m.f.length:=by rw [hou];exact W.ou
  have hen : ∀ a,a < m.f.length -> ∃ d,d <= m.f.length /\ iI m.f.length ou (b5 m).rc d a:=fun a ha=>by rw [hou];exact iN hv ha
  have hmo : ∀ a,pW m a=(mth ou m.f.length a : Nat):=fun a=>by rw [hou];rfl
  simp [ee,<- hou,hol]
  refine ⟨by omega,?_⟩
  refine aE Nat (fun i=>[(4,.ptr [.sl (nbA m),slx true (inR (bq m)),.sl (inR (aZ m).sp),.sl (inR ou)]),(6,.ref (.r 10096) 0 m.f.length),(24,.int .i64 m.f.length),(25,.int .i64 i),(10096,.blk 1 (inR (drT m i)))]) (fun i=>i <= m.f.length) (fun i=>m.f.length - i) 0 (by simp) (by simp [drT,inR]) ?_
  rintro i hi
  have hw : IntKind.wrap .i64 ((i : Int) + 1)=((i + 1 : Nat) : Int):=am (by omega) (by omega)
  have hdl:=vz hi
  simp
  refine av (fun g1=>?_) (fun g1=>?_) <;> simp at g1 <;> simp [g1]
  ·obtain ⟨d0,hd0,he0⟩:=hen i g1
   refine aE (Nat × Nat) (fun s=>[(4,.ptr [.sl (nbA m),slx true (inR (bq m)),.sl (inR (aZ m).sp),.sl (inR ou)]),(6,.ref (.r 10096) 0 m.f.length),(7,.int .i64 i),(8,.int .i64 s.1),(24,.int .i64 m.f.length),(25,.int .i64 i),(10096,.blk 1 (inR (drT m i)))]) (fun s=>s.1 < m.f.length /\ s.2 <= m.f.length /\ iI m.f.length ou (b5 m).rc s.2 s.1 /\ mth ou m.f.length s.1=mth ou m.f.length i) (fun s=>s.2) (i,d0) ⟨g1,hd0,he0,rfl⟩ (by simp) ?_
   rintro ⟨a,d⟩ ⟨q1,q2,q3,q4⟩
   simp only at q1 q2 q3 q4
   have hao : a < ou.length:=by omega
   simp [aK (co hao)]
   refine av (fun g2=>?_) (fun g2=>?_) <;> simp at g2
   ·cases d with
    | zero =>
     have : ou.getD a 0=-1:=q3
     simp at this
     exact absurd this g2
    | succ d =>
     obtain ⟨b,hb,e1,e2,e3⟩:=q3
     have e1' : ou[a]?.getD 0=(b : Int):=by simpa using e1
     simp [g2,aK (co hao),e1']
     exact ⟨b,d,⟨hb,by omega,e3,by rw [<- q4,tX e1 e3 q2]⟩,by omega,rfl⟩
   ·have h1 : ou.getD a 0=-1:=by simpa using g2
    rw [tY h1] at q4
    have hmi : pW m i=(a : Int):=by rw [hmo,<- q4]
    have hst:=vA g1
    rw [hmi] at hst
    have hil : i < (drT m i).length:=by omega
    simp [g2,g1,co hil,pN,hst]
    exact ⟨i + 1,by omega,by omega,hw,rfl⟩
  ·have hin : i=m.f.length:=by omega
   subst hin
   rw [vy] at hdl ⊢
   have:=lH (drL m)
   rw [hdl] at this
   simp [this]
   omega
end
end Go.Gv

namespace Go.Gv
def exS : Msh:=⟨false,[⟨0,0,1⟩,⟨10,0,2⟩,⟨0,10,4⟩],false,[⟨0,1,2,0⟩]⟩
theorem tr : au exS=true:=by decide +kernel
theorem x7 : (b5 exS).lv=[7] /\ (b5 exS).ou=[-1]:=by decide +kernel
theorem Gn : bq exS=[7]:=by decide +kernel
theorem tq : (aZ exS).sp=[7]:=(eK tr).1.trans x7.1
theorem tp : (aZ exS).ou=[-1]:=(eK tr).2.trans x7.2
theorem zN : drL exS=[0]:=by
 show [pW exS 0]=[0]
 unfold pW
 rw [tp]
 rfl
theorem zO : mY exS=[]:=by
 show cU exS 1=[]
 rw [lP (by unfold hJ;rw [tq,Gn];rfl)]
 rfl
section
variable {C : Nat -> List D -> D -> List D -> Prop} (hC : az prog C)
include hC
theorem yR (dec : Nat -> List UInt8) (hI : ∀ n : Nat,n < 100 -> C 127 [.int .i64 n] (.str (dec n)) []) (m : Msh) (hz : cY m=true -> m.s.length <= 100 /\ m.f.length <= 100) :
  C 279 [.agg (ci m)] (if au m then .tup [.sl (rX (mY m)),.int .i64 0] else .tup [.nils,.int .i64 1]) []:=by
 have k:=ij hC dec hI m hz
 simp only [ai] at k
 refine bp hC (nf:=N279) rfl rfl ?_
 simp [N279,ai]
 refine ae k (.inr rfl) ?_
 cases hv : au m
 ·simp
 ·have kp:=A3 hC m hv
  rw [show ee m=.ptr [.sl (nbA m),slx true (inR (bq m)),.sl (inR (aZ m).sp),.sl (inR (aZ m).ou)] from rfl] at kp ⊢
  simp
  refine ae kp (.inr rfl) ?_
  simp
theorem rf (dec : Nat -> List UInt8) (hI : ∀ n : Nat,n < 100 -> C 127 [.int .i64 n] (.str (dec n)) []) : C 241 [] (.bool true) []:=by
 have hz : cY exS=true -> exS.s.length <= 100 /\ exS.f.length <= 100:=fun _=>by simp [exS]
 have k1:=sB hC dec hI exS hz
 have k2:=qU hC dec hI exS hz
 have k3:=qS hC dec hI exS hz
 have k4:=yR hC dec hI exS hz
 have q1:=tm hC false false [7] [7] (by simp) (by simp)
 have q2:=tm hC false false [-1] [-1] (by simp) (by simp)
 have q3:=tm hC false false [0] [0] (by simp) (by simp)
 rw [tr] at k1 k2 k3 k4
 rw [tq] at k1
 rw [tp] at k2
 rw [zN] at k3
 rw [zO] at k4
 simp only [ai] at k1 k2 k3 k4
 simp [exS,tM,rX,ju,cE] at k1 k2 k3 k4 q1 q2 q3
 refine bp hC (nf:=N241) rfl rfl ?_
 simp [N241]
 refine ae k1 (.inr rfl) ?_
 simp
 refine ae k2 (.inr rfl) ?_
 simp
 refine ae k3 (.inr rfl) ?_
 simp
 refine ae k4 (.inr rfl) ?_
 simp
 refine ae q1 (.inl rfl) ?_
 simp
 refine ae q2 (.inl rfl) ?_
 simp
 refine ae q3 (.inl rfl) ?_
 simp
end
end Go.Gv

namespace Go.Gv
structure LvI (m : Msh) (r : RF) (P : Nat -> Nat -> Prop) : Prop where
 rcl : r.rc.length=m.f.length
 lfl : r.lf.length=m.f.length
 lvl : r.lv.length=m.f.length
 oul : r.ou.length=m.f.length
 l1 : ∀ a,r.lf.getD a false=true -> r.rc.getD a false=true
 l2 : ∀ a b,r.lf.getD a false=true -> r.rc.getD b false=true -> r.lf.getD b false=false -> r.lv.getD a 0 <= r.lv.getD b 0
 bd : ∀ a,a < m.f.length -> bsd m a (-1)=true -> r.rc.getD a false=true
 l3 : ∀ a,a < m.f.length -> r.rc.getD a false=true -> (bsd m a (-1)=true /\ r.ou.getD a 0=-1 /\ r.lv.getD a 0=(bq m).getD a 0) \/
  (bsd m a (-1)=false /\ ∃ z : Nat,z < m.f.length /\ r.ou.getD a 0=z /\ r.lf.getD z false=true /\ (∃ c,c < 3 /\ nbF m a c=z) /\ r.lv.getD a 0=max ((bq m).getD a 0) (r.lv.getD z 0))
 l4 : ∀ y,r.lf.getD y false=true -> ∀ c,c < 3 -> P y c -> ∀ x : Nat,nbF m y c=x -> r.rc.getD x false=true /\ r.lv.getD x 0 <= max ((bq m).getD x 0) (r.lv.getD y 0)
theorem LvI.p1 {m : Msh} (hv : au m=true) {a j : Nat} {r : RF} (ha : a < m.f.length) (hj : j < 3) (hla : r.lf.getD a false=true) (hat : ∀ z,r.lf.getD z false=true -> r.lv.getD z 0 <= r.lv.getD a 0) {P : Nat -> Nat -> Prop} (h : LvI m r P) :
  LvI m (fS m a r (nbF m a j)) (fun y c=>P y c \/ (y=a /\ c=j)) /\ (fS m a r (nbF m a j)).lf=r.lf /\ ∀ z,r.lf.getD z false=true -> (fS m a r (nbF m a j)).lv.getD z 0=r.lv.getD z 0:=by
 have hb:=dQ m a j
 unfold fS
 split
 ·rename_i hc
  obtain ⟨x0,hx0⟩ : ∃ x0 : Nat,nbF m a j=x0:=⟨(nbF m a j).toNat,by omega⟩
  rw [hx0] at hc hb ⊢
  simp only [Int.toNat_natCast] at hc ⊢
  have hxn : x0 < m.f.length:=by omega
  obtain ⟨v,hvv⟩ : ∃ v,v=(if r.lv.getD a 0 < (bq m).getD x0 0 then (bq m).getD x0 0 else r.lv.getD a 0):=⟨_,rfl⟩
  have hv1 : v=max ((bq m).getD x0 0) (r.lv.getD a 0):=by rw [hvv];split <;> omega
  rw [<- hvv]
  have grc : ∀ i,(r.rc.set x0 true).getD i false=if i=x0 then true else r.rc.getD i false:=fun i=>bS (by rw [h.rcl];exact hxn)
  have glv : ∀ i,(r.lv.set x0 v).getD i 0=if i=x0 then v else r.lv.getD i 0:=fun i=>bS (by rw [h.lvl];exact hxn)
  have gou : ∀ i,(r.ou.set x0 (a : Int)).getD i 0=if i=x0 then (a : Int) else r.ou.getD i 0:=fun i=>bS (by rw [h.oul];exact hxn)
  have hne : ∀ i,r.rc.getD i false=true -> i ≠ x0:=fun i hi e=>by rw [e,hc.2] at hi;cases hi
  have hmono : ∀ i,r.rc.getD i false=true -> (r.rc.set x0 true).getD i false=true:=fun i hi=>by rw [grc,if_neg (hne i hi)];exact hi
  have hkeep : ∀ z,r.lf.getD z false=true -> (r.lv.set x0 v).getD z 0=r.lv.getD z 0:=fun z hz=>by rw [glv,if_neg (hne z (h.l1 z hz))]
  refine ⟨⟨by simp [h.rcl],h.lfl,by simp [h.lvl],by simp [h.oul],fun i hi=>hmono i (h.l1 i hi),fun i k hi hk hk2=>?_,fun i hi hbi=>hmono i (h.bd i hi hbi),fun i hi hir=>?_,fun y hy c hc3 hP x hx=>?_⟩,trivial,hkeep⟩
  ·simp only at hi hk hk2 ⊢
   rw [hkeep i hi,glv]
   split
   ·have:=hat i hi
    omega
   ·rename_i e
    rw [grc,if_neg e] at hk
    exact h.l2 i k hi hk hk2
  ·simp only at hir ⊢
   by_cases e : i=x0
   ·subst e
    right
    have hnb : bsd m i (-1)=false:=by
     cases hh : bsd m i (-1)
     ·rfl
     ·have:=h.bd i hi hh
      rw [hc.2] at this
      cases this
    obtain ⟨c',hc',e'⟩:=gT hv ha hj (by omega)
    rw [hx0] at e'
    refine ⟨hnb,a,ha,by rw [gou,if_pos rfl],hla,⟨c',hc',by simpa using e'⟩,?_⟩
    rw [glv,if_pos rfl,hkeep a hla,hv1]
   ·rw [grc,if_neg e] at hir
    rw [gou,if_neg e,glv,if_neg e]
    rcases h.l3 i hi hir with h5 | ⟨h5,z,hz,h6,h7,h8,h9⟩
    ·exact .inl h5
    ·exact .inr ⟨h5,z,hz,h6,h7,h8,by rw [hkeep z h7];exact h9⟩
  ·simp only at hy ⊢
   rw [hkeep y hy]
   rcases hP with hP | ⟨rfl,rfl⟩
   ·obtain ⟨h5,h6⟩:=h.l4 y hy c hc3 hP x hx
    rw [glv,if_neg (hne x h5)]
    exact ⟨hmono x h5,h6⟩
   ·have e : x=x0:=by omega
    subst e
    rw [grc,if_pos rfl,glv,if_pos rfl,hv1]
    exact ⟨by simp,Int.le_refl _⟩
 ·rename_i hc
  refine ⟨⟨h.rcl,h.lfl,h.lvl,h.oul,h.l1,h.l2,h.bd,h.l3,fun y hy c hc3 hP x hx=>?_⟩,rfl,fun _ _=>rfl⟩
  rcases hP with hP | ⟨rfl,rfl⟩
  ·exact h.l4 y hy c hc3 hP x hx
  ·have hxn : x < m.f.length:=by omega
   have hr : r.rc.getD x false=true:=by
    cases hh : r.rc.getD x false
    ·exact absurd ⟨by omega,by rw [hx];simpa using hh⟩ hc
    ·rfl
   refine ⟨hr,?_⟩
   rcases h.l3 x hxn hr with h5 | ⟨h5,z,hz,h6,h7,h8,h9⟩
   ·omega
   ·have:=hat z h7
    omega
theorem LvI.weaken {m : Msh} {r : RF} {P Q : Nat -> Nat -> Prop} (h : LvI m r P) (hPQ : ∀ y c,c < 3 -> r.lf.getD y false=true -> Q y c -> P y c) : LvI m r Q :=
 ⟨h.rcl,h.lfl,h.lvl,h.oul,h.l1,h.l2,h.bd,h.l3,fun y hy c hc hq=>h.l4 y hy c hc (hPQ y c hc hy hq)⟩
theorem LvI.i {m : Msh} (hv : au m=true) {a : Nat} {r : RF} (ha : a < m.f.length) (hla : r.lf.getD a false=true) (hat : ∀ z,r.lf.getD z false=true -> r.lv.getD z 0 <= r.lv.getD a 0) {P : Nat -> Nat -> Prop} (h : LvI m r P) : ∀ j,j <= 3 ->
  LvI m (rfI m a r j) (fun y c=>P y c \/ (y=a /\ c < j)) /\ (rfI m a r j).lf=r.lf /\ ∀ z,r.lf.getD z false=true -> (rfI m a r j).lv.getD z 0=r.lv.getD z 0
 | 0,_=>⟨h.weaken fun y c _ _ hq=>by rcases hq with h | h;exact h;omega,rfl,fun _ _=>rfl⟩
 | j + 1,hj=>by
  obtain ⟨h1,h2,h3⟩:=LvI.i hv ha hla hat h j (by omega)
  obtain ⟨q1,q2,q3⟩:=h1.p1 hv ha (show j < 3 by omega) (by rw [h2];exact hla) (fun z hz=>by rw [h2] at hz;rw [h3 z hz,h3 a hla];exact hat z hz)
  refine ⟨q1.weaken fun y c hc _ hq=>?_,by show (fS m a (rfI m a r j) (nbF m a j)).lf=_;rw [q2,h2],fun z hz=>by show (fS m a (rfI m a r j) (nbF m a j)).lv.getD z 0=_;rw [q3 z (by rw [h2];exact hz),h3 z hz]⟩
  rcases hq with h | ⟨h4,h5⟩
  ·exact .inl (.inl h)
  ·by_cases e : c=j
   ·exact .inr ⟨h4,e⟩
   ·exact .inl (.inr ⟨h4,by omega⟩)
theorem LvI.step {m : Msh} (hv : au m=true) {r : RF} (h : LvI m r fun _ _=>True) : LvI m (fC m r) fun _ _=>True:=by
 unfold fC
 split
 ·exact h
 ·rename_i h0
  rcases jo r m.f.length with ⟨h1,_⟩ | ⟨a,h1,h2,h3,h4⟩
  ·omega
  ·rw [h1]
   simp only [Int.toNat_natCast]
   have h3' : r.rc.getD a false=true /\ r.lf.getD a false=false:=by simpa [act] using h3
   have glf : ∀ i,(r.lf.set a true).getD i false=if i=a then true else r.lf.getD i false:=fun i=>bS (by rw [h.lfl];exact h2)
   have hat : ∀ z,(r.lf.set a true).getD z false=true -> r.lv.getD z 0 <= r.lv.getD a 0:=fun z hz=>by
    rw [glf] at hz
    split at hz
    ·rename_i e;rw [e];exact Int.le_refl _
    ·exact h.l2 z a hz h3'.1 h3'.2
   have hI : LvI m { r with lf:=r.lf.set a true } fun y _=>y ≠ a:=by
    refine ⟨h.rcl,by simp [h.lfl],h.lvl,h.oul,fun i hi=>?_,fun i k hi hk hk2=>?_,h.bd,fun i hi hir=>?_,fun y hy c hc hne x hx=>?_⟩
    ·simp only at hi
     rw [glf] at hi
     split at hi
     ·rename_i e;rw [e];exact h3'.1
     ·exact h.l1 i hi
    ·simp only at hi hk hk2 ⊢
     rw [glf] at hk2
     split at hk2
     ·cases hk2
     ·rename_i e
      have hak : act r k=true:=by simp only [act,hk,hk2];rfl
      by_cases hkn : k < m.f.length
      ·have h5:=h4 k hkn hak
       have h6:=hat i hi
       omega
      ·have : r.rc.getD k false=false:=by
        rw [List.getD_eq_getElem?_getD,List.getElem?_eq_none (by rw [h.rcl];omega)];rfl
       rw [this] at hk;cases hk
    ·rcases h.l3 i hi hir with h5 | ⟨h5,z,hz,h6,h7,h8,h9⟩
     ·exact .inl h5
     ·refine .inr ⟨h5,z,hz,h6,?_,h8,h9⟩
      show (r.lf.set a true).getD z false=true
      rw [glf];split
      ·rfl
      ·exact h7
    ·simp only at hy
     rw [glf,if_neg hne] at hy
     exact h.l4 y hy c hc trivial x hx
   have:=(hI.i (a:=a) hv h2 (by show (r.lf.set a true).getD a false=true;rw [glf,if_pos rfl]) hat 3 (Nat.le_refl _)).1
   refine this.weaken fun y c hc _ _=>?_
   by_cases e : y=a
   ·exact .inr ⟨e,hc⟩
   ·exact .inl e
theorem LvI.run {m : Msh} (hv : au m=true) : ∀ (k : Nat) {r : RF},LvI m r (fun _ _=>True) -> LvI m (rfN m k r) fun _ _=>True
 | 0,_,h=>h
 | k + 1,_,h=>LvI.run hv k (h.step hv)
theorem jX (m : Msh) : ∀ i a,(rf0 m i).1.getD a false=true -> bsd m a (-1)=true
 | 0,a,h=>by
  simp [rf0,List.getElem?_replicate] at h
  split at h <;> cases h
 | i + 1,a,h=>by
  unfold rf0 at h
  split at h
  ·rename_i hb
   rcases lA h with rfl | h
   ·exact hb
   ·exact jX m i a h
  ·exact jX m i a h
theorem LvI.init (m : Msh) : LvI m (eu m) fun _ _=>True:=by
 have hf : ∀ i,(List.replicate m.f.length false).getD i false=false:=fun i=>by simp [List.getElem?_replicate];split <;> rfl
 refine ⟨(ft m _).1,by simp [eu],(ft m _).2,by simp [eu],fun a ha=>?_,fun a b ha _ _=>?_,fun a ha hb=>qb m _ (Nat.le_refl _) a ha hb,fun a ha hr=>.inl ⟨jX m _ a hr,?_,nS m _ (Nat.le_refl _) a hr⟩,fun y hy=>?_⟩
 ·exact absurd ((hf a).symm.trans ha) (by decide)
 ·exact absurd ((hf a).symm.trans ha) (by decide)
 ·show (List.replicate m.f.length (-1 : Int)).getD a 0=-1
  simp [List.getElem?_replicate,ha]
 ·exact absurd ((hf y).symm.trans hy) (by decide)
def spF (m : Msh) (a : Nat) : Int:=(aZ m).sp.getD a 0
def suF (m : Msh) (a : Nat) : Int:=(bq m).getD a 0
def ouF (m : Msh) (a : Nat) : Int:=(aZ m).ou.getD a 0
theorem jK {m : Msh} (hv : au m=true) : LvI m (b5 m) fun _ _=>True:=(LvI.init m).run hv _
theorem fW {m : Msh} (hv : au m=true) {a : Nat} (ha : a < m.f.length) (hb : bsd m a (-1)=true) : spF m a=suF m a /\ ouF m a=-1:=by
 obtain ⟨e1,e2⟩:=eK hv
 unfold spF suF ouF
 rw [e1,e2]
 rcases (jK hv).l3 a ha (dU hv a ha) with h | ⟨h,_⟩
 ·exact ⟨h.2.2,h.2.1⟩
 ·rw [hb] at h;cases h
theorem fX {m : Msh} (hv : au m=true) {a : Nat} (ha : a < m.f.length) (hb : bsd m a (-1)=false) : ∃ z : Nat,z < m.f.length /\ ouF m a=z /\ (∃ c,c < 3 /\ nbF m a c=z) /\ spF m a=max (suF m a) (spF m z):=by
 obtain ⟨e1,e2⟩:=eK hv
 unfold spF suF ouF
 rw [e1,e2]
 rcases (jK hv).l3 a ha (dU hv a ha) with h | ⟨_,z,h1,h2,_,h4,h5⟩
 ·rw [hb] at h;cases h.1
 ·exact ⟨z,h1,h2,h4,h5⟩
theorem uS {m : Msh} (hv : au m=true) {a x c : Nat} (ha : a < m.f.length) (hc : c < 3) (hx : nbF m a c=x) : spF m a <= max (suF m a) (spF m x):=by
 obtain ⟨e1,_⟩:=eK hv
 have hb:=dQ m a c
 have hxn : x < m.f.length:=by omega
 obtain ⟨c',hc',e⟩:=gT hv ha hc (by omega)
 rw [hx] at e
 unfold spF suF
 rw [e1]
 exact ((jK hv).l4 x (kJ m x (dU hv x hxn)) c' hc' trivial a (by simpa using e)).2
theorem uR {m : Msh} (hv : au m=true) {a : Nat} (ha : a < m.f.length) : suF m a <= spF m a:=by
 cases hb : bsd m a (-1)
 ·obtain ⟨z,_,_,_,h⟩:=fX hv ha hb
  omega
 ·have:=fW hv ha hb
  omega
end Go.Gv

namespace Go.Gv
open Go.Lib
variable {C : CC} (hC : az prog C)
include hC
end Go.Gv

namespace Go.Gv
def DvS (x b i a q r : Nat) : Prop:=i <= 128 /\ r < b /\ ∃ c,a=c * 2 ^ i /\ c < 2 ^ (128 - i) /\ (q * b + r) * 2 ^ (128 - i) + c=x
theorem DvS.step {x b i a q r : Nat} (h : DvS x b i a q r) (hi : i < 128) (hb : 0 < b) :
  a < 340282366920938463463374607431768211456 /\ 2 * q <= x /\
  ∀ w r' a',2 * r + a / 170141183460469231731687303715884105728=w * b + r' -> r' < b -> a'=2 * a % 340282366920938463463374607431768211456 -> DvS x b (i + 1) a' (2 * q + w) r' /\ 2 * q + w <= x:=by
 obtain ⟨_,hr,c,h1,h2,h3⟩:=h
 obtain ⟨m,hm⟩ : ∃ m,m + 1=128 - i:=⟨127 - i,by omega⟩
 have hm2 : m=128 - (i + 1):=by omega
 rw [<- hm,Nat.pow_succ] at h2 h3
 obtain ⟨V,hV⟩ : ∃ V,V=2 ^ m:=⟨_,rfl⟩
 obtain ⟨W,hW⟩ : ∃ W,W=2 ^ i:=⟨_,rfl⟩
 have hVW : V * W=170141183460469231731687303715884105728:=by
  rw [hV,hW,<- Nat.pow_add,show m + i=127 by omega]
 have hVp : 0 < V:=by rw [hV];exact Nat.two_pow_pos m
 rw [<- hV] at h2 h3
 rw [<- hW] at h1
 obtain ⟨t,ht⟩ : ∃ t,t=c / V:=⟨_,rfl⟩
 obtain ⟨d,hd⟩ : ∃ d,d=c % V:=⟨_,rfl⟩
 have hc : c=t * V + d:=by rw [ht,hd,Nat.mul_comm];exact (Nat.div_add_mod c V).symm
 have hdV : d < V:=by rw [hd];exact Nat.mod_lt _ hVp
 have ht1 : t <= 1:=by
  have : t < 2:=by rw [ht,Nat.div_lt_iff_lt_mul hVp];omega
  omega
 have ha : a=t * 170141183460469231731687303715884105728 + d * W:=by
  rw [h1,hc,Nat.add_mul,Nat.mul_assoc,hVW]
 have hdW : d * W < 170141183460469231731687303715884105728:=by
  have : (d + 1) * W <= V * W:=Nat.mul_le_mul_right _ hdV
  rw [hVW,Nat.add_mul] at this
  have hWp : 0 < W:=by rw [hW];exact Nat.two_pow_pos i
  omega
 have hbit : a / 170141183460469231731687303715884105728=t:=by
  rw [ha];generalize d * W=z at *;omega
 have fin : ∀ w r',2 * r + t=w * b + r' -> ((2 * q + w) * b + r') * V + d=x:=fun w r' e=>by
  have e1 : (2 * q + w) * b + r'=2 * (q * b + r) + t:=by
   rw [Nat.add_mul,Nat.mul_assoc]
   generalize q * b=z at *
   generalize w * b=z' at *
   omega
  rw [e1,<- h3,hc,Nat.add_mul,Nat.mul_comm V 2,<- Nat.mul_assoc,Nat.mul_comm (q * b + r) 2]
  omega
 have big : ∀ w r',2 * r + t=w * b + r' -> 2 * q + w <= x:=fun w r' e=>by
  have e1:=fin w r' e
  have e2 : 2 * q + w <= (2 * q + w) * b:=Nat.le_mul_of_pos_right _ hb
  have e3 : (2 * q + w) * b + r' <= ((2 * q + w) * b + r') * V:=Nat.le_mul_of_pos_right _ hVp
  omega
 refine ⟨?_,?_,?_⟩
 ·rw [ha];generalize d * W=z at *;omega
 ·exact Nat.le_trans (Nat.le_add_right _ _) (big _ _ (Nat.div_add_mod' (2 * r + t) b).symm)
 ·intro w r' a' e hr' ha'
  rw [hbit] at e
  refine ⟨⟨by omega,hr',d,?_,?_,?_⟩,big w r' e⟩
  ·rw [ha',ha,Nat.pow_succ,<- hW,Nat.mul_comm W 2,Nat.mul_left_comm]
   generalize d * W=z at *
   omega
  ·rw [<- hm2,<- hV];exact hdV
  ·rw [<- hm2,<- hV];exact fin w r' e
theorem DvS.last {x b a q r : Nat} (h : DvS x b 128 a q r) : q=x / b /\ r=x % b:=by
 obtain ⟨_,hr,c,h1,h2,h3⟩:=h
 simp at h2 h3
 subst h2
 simp at h3
 subst h3
 have hb : 0 < b:=by omega
 rw [Nat.mul_comm,Nat.mul_add_div hb,Nat.div_eq_of_lt hr,Nat.mul_add_mod,Nat.mod_eq_of_lt hr]
 exact ⟨rfl,rfl⟩
variable {C : CC} (hC : az prog C)
include hC
end Go.Gv

namespace Go.Gv
variable {C : CC} (hC : az prog C)
include hC
end Go.Gv

namespace Go.Gv
open Go.Lib
def Rv (v : Int) : D:=QT v.natAbs (decide (v < 0))
variable {C : CC} (hC : az prog C)
include hC
end Go.Gv

namespace Go.Gv
open Go.Lib
variable {C : CC} (hC : az prog C)
include hC
end Go.Gv

namespace Go.Gv
open Go.Lib
variable {C : CC} (hC : az prog C)
include hC
end Go.Gv

namespace Go.Gv
def tn0 (m : Msh) (i : Nat) (p : Pnt) : Int:=d6 (ptS (spA m i)) (ptS (spB m i)) p
def tn1 (m : Msh) (i : Nat) (p : Pnt) : Int:=d6 (ptS (spB m i)) (ptS (spC m i)) p
def tn2 (m : Msh) (i : Nat) (p : Pnt) : Int:=d6 (ptS (spC m i)) (ptS (spA m i)) p
def osF (m : Msh) (i : Nat) (p : Pnt) : Int:=if tn0 m i p < 0 then 0 else if tn1 m i p < 0 then 1 else if tn2 m i p < 0 then 2 else -1
def Gt (m : Msh) (p : Pnt) : Int:=gr (fun i=>decide (osF m i p < 0)) (List.range m.f.length)
def Rq (m : Msh) (i : Nat) : List D:=[.int .i64 (spA m i).x,.int .i64 (spA m i).y,.int .i64 (spA m i).z,.int .i64 (spB m i).x,.int .i64 (spB m i).y,.int .i64 (spB m i).z,.int .i64 (spC m i).x,.int .i64 (spC m i).y,.int .i64 (spC m i).z]
@[simp] theorem Pk (p : Pnt) : (ptD p).length=2:=_root_.id rfl
@[simp] theorem JO (p : Pnt) : List.take 2 (ptD p)=ptD p:=_root_.id rfl
@[simp] theorem Rj (p : Pnt) : (∀ x,x ∈ ptD p -> isV x=true)=True:=by simp [ptD]
@[simp] theorem Ri (p : Pnt) : (∀ x,x ∈ ptD p -> ar x=true)=True:=by simp [ptD]
variable {C : CC} (hC : az prog C)
include hC
end Go.Gv

namespace Go.Gv
def onE (m : Msh) (p : Pnt) : Int:=if au m=true /\ okP p=true then (if Gt m p < 0 then 12 else 0) else 1
def onV (m : Msh) (p : Pnt) : Int:=if onE m p=0 then Gt m p else 0
def wlk (m : Msh) (p : Pnt) : Nat -> Nat -> Int × Int × Int
 | r,f=>if osF m f p < 0 then ((f : Int),((m.f.length - r : Nat) : Int),0) else if nbF m f (osF m f p).toNat < 0 then (0,0,12) else match r with
  | 0=>(0,0,6)
  | r + 1=>wlk m p r (nbF m f (osF m f p).toNat).toNat
def wkR (m : Msh) (from_ : Int) (p : Pnt) : Int × Int × Int:=if au m=true /\ okP p=true then (if fB m.f.length from_=true then wlk m p m.f.length from_.toNat else (0,0,2)) else (0,0,1)
def RE (t : Int × Int × Int) : D:=.tup [.int .i64 t.1,.int .i64 t.2.1,.int .i64 t.2.2]
variable {C : CC} (hC : az prog C)
include hC
end Go.Gv

namespace Go.Gv
open Go.Lib
def rS (m : Msh) (i : Nat) (p : Pnt) : Int:=(spA m i).z * tn1 m i p + (spB m i).z * tn2 m i p + (spC m i).z * tn0 m i p
def ov (m : Msh) (i : Nat) : Int:=d6 (ptS (spA m i)) (ptS (spB m i)) (ptS (spC m i))
theorem Bq (m : Msh) (i : Nat) (p : Pnt) : tn0 m i p + tn1 m i p + tn2 m i p=ov m i:=by
 unfold tn0 tn1 tn2 ov d6 ptS
 grind
structure OnF (m : Msh) (i : Nat) (p : Pnt) : Prop where
 z0 : -4194304 <= (spA m i).z /\ (spA m i).z <= 4194304
 z1 : -4194304 <= (spB m i).z /\ (spB m i).z <= 4194304
 z2 : -4194304 <= (spC m i).z /\ (spC m i).z <= 4194304
 t0 : 0 <= tn0 m i p /\ tn0 m i p <= 2251799813685248
 t1 : 0 <= tn1 m i p /\ tn1 m i p <= 2251799813685248
 t2 : 0 <= tn2 m i p /\ tn2 m i p <= 2251799813685248
 d : 0 < ov m i /\ ov m i <= 2251799813685248
theorem nI {z t : Int} (hz : -4194304 <= z /\ z <= 4194304) (ht : 0 <= t) : -(4194304 * t) <= z * t /\ z * t <= 4194304 * t:=by
 have h1:=Int.mul_nonneg (show 0 <= 4194304 - z by omega) ht
 have h2:=Int.mul_nonneg (show 0 <= 4194304 + z by omega) ht
 rw [Int.sub_mul] at h1
 rw [Int.add_mul] at h2
 omega
theorem OnF.num {m : Msh} {i : Nat} {p : Pnt} (h : OnF m i p) : -(4194304 * ov m i) <= rS m i p /\ rS m i p <= 4194304 * ov m i:=by
 have e:=Bq m i p
 have h1:=nI h.z0 h.t1.1
 have h2:=nI h.z1 h.t2.1
 have h3:=nI h.z2 h.t0.1
 unfold rS
 rw [<- e]
 omega
theorem s8 {n d k : Int} (hd : 0 < d) (h : -(k * d) <= n /\ n <= k * d) : -k <= n / d /\ n / d <= k:=by
 constructor
 ·exact (Int.le_ediv_iff_mul_le hd).2 (by rw [Int.neg_mul];exact h.1)
 ·exact Int.le_of_lt_add_one ((Int.ediv_lt_iff_lt_mul hd).2 (by rw [Int.add_mul];omega))
def loF (m : Msh) (i : Nat) (p : Pnt) : Int:=rS m i p / ov m i
def hiF (m : Msh) (i : Nat) (p : Pnt) : Int:=-(-rS m i p / ov m i)
theorem OnF.lo {m : Msh} {i : Nat} {p : Pnt} (h : OnF m i p) : -4194304 <= loF m i p /\ loF m i p <= 4194304:=s8 h.d.1 h.num
theorem OnF.hi {m : Msh} {i : Nat} {p : Pnt} (h : OnF m i p) : -4194304 <= hiF m i p /\ hiF m i p <= 4194304:=by
 have:=s8 (n:=-rS m i p) (k:=4194304) h.d.1 (by have:=h.num;omega)
 unfold hiF
 omega
variable {C : CC} (hC : az prog C)
include hC
def wz : D:=.agg [.int .i64 0,.int .i64 0]
end Go.Gv

namespace Go.Gv
variable {C : CC} (hC : az prog C)
include hC
end Go.Gv

namespace Go.Gv
section
variable {C : Nat -> List D -> D -> List D -> Prop} (hC : az prog C)
include hC
end
end Go.Gv

namespace Go.Gv
section
variable {C : Nat -> List D -> D -> List D -> Prop} (hC : az prog C)
include hC
theorem rL (m : Msh) : C 242 [.agg (ci m)] (.bool (decide (60 < m.s.length) || decide (80 < m.f.length))) []:=by
 refine bp hC (nf:=N242) rfl rfl ?_
 simp [N242,ai]
 refine av (fun g1=>?_) (fun g1=>?_) <;> simp at g1
 ·simp [show (60 : Int) < m.s.length by omega]
  exact .inl (by omega)
 ·simp [show ¬ (60 : Int) < m.s.length by omega]
  rw [decide_eq_false (show ¬ 60 < m.s.length by omega),Bool.false_or]
  by_cases h : 80 < m.f.length
  ·rw [decide_eq_true h,decide_eq_true (by omega)]
  ·rw [decide_eq_false h,decide_eq_false (by omega)]
end
end Go.Gv

namespace Go.Gv
theorem z6 {m : Msh} {i : Nat} (h : i < m.f.length) : (inR (aZ m).sp)[i]? = some [.int .i64 (spF m i)]:=co (by rw [(ii m).sp];exact h)
theorem pO {m : Msh} {i : Nat} (h : i < m.f.length) : (inR (bq m))[i]? = some [.int .i64 (suF m i)]:=co (by simpa using h)
section
variable {C : Nat -> List D -> D -> List D -> Prop} (hC : az prog C)
include hC
theorem sT (m : Msh) (i : Nat) : C 248 [.agg [.int .i64 (nbF m i 0),.int .i64 (nbF m i 1),.int .i64 (nbF m i 2)]] (.bool (bsd m i (-1))) []:=by
 have kh:=qA hC (b:=false) (xs:=[nbF m i 0,nbF m i 1,nbF m i 2]) (-1) (by simp)
 have kh2 : C 223 [.sl [[.int .i64 (nbF m i 0)],[.int .i64 (nbF m i 1)],[.int .i64 (nbF m i 2)]],.int .i64 (-1)] (.bool (bsd m i (-1))) []:=by simpa [bsd] using kh
 refine bp hC (nf:=N248) rfl rfl ?_
 simp [N248,bP]
 refine ae kh2 (.inl rfl) ?_
 simp
end
end Go.Gv

namespace Go.Gv
def Ra (m : Msh) (i : Nat) : Nat:=((spF m i - suF m i) * twF m i).toNat
def Bv (m : Msh) (l : List Nat) : Nat:=(l.map (Ra m)).sum
def RG (m : Msh) (l : List Nat) : D:=if (Bv m l + 5999) / 6000 <= 1125899906842624 then .tup [.agg [.int .i64 (Bv m l / 6000 : Nat),.int .i64 ((Bv m l + 5999) / 6000 : Nat)],.int .i64 0] else .tup [.agg [.int .i64 0,.int .i64 0],.int .i64 5]
theorem uQ {m : Msh} (hv : au m=true) : ∀ {a : Nat},a < m.f.length -> -12582912 <= spF m a /\ spF m a <= 12582912:=by
 have key : ∀ (d a : Nat),a < m.f.length -> iI m.f.length (aZ m).ou (b5 m).rc d a -> -12582912 <= spF m a /\ spF m a <= 12582912:=by
  intro d
  induction d with
  | zero =>
   intro a ha he
   have e : ouF m a=-1:=he
   have hb : bsd m a (-1)=true:=by
    cases h : bsd m a (-1)
    ·obtain ⟨z,_,h2,_⟩:=fX hv ha h
     omega
    ·rfl
   have h1:=(fW hv ha hb).1
   have h2:=la hv ha
   have h3 : suF m a=cQ m a:=by simp [suF,bq,ha]
   omega
  | succ d ih =>
   intro a ha ⟨b,hb,e1,_,e3⟩
   have h4:=ih b hb e3
   have h2:=la hv ha
   have h3 : suF m a=cQ m a:=by simp [suF,bq,ha]
   have e : ouF m a=b:=e1
   cases h : bsd m a (-1)
   ·obtain ⟨z,_,h5,_,h6⟩:=fX hv ha h
    have : z=b:=by omega
    subst this
    omega
   ·have:=(fW hv ha h).2
    omega
 intro a ha
 obtain ⟨d,_,he⟩:=iN hv ha
 exact key d a ha he
theorem j8 {m : Msh} {a : Nat} (ha : a < m.f.length) : suF m a=cQ m a:=by simp [suF,bq,ha]
def zSp : D:=.agg [.int .i64 0,.int .i64 0]
variable {C : CC} (hC : az prog C)
include hC
end Go.Gv

namespace Go.Gv
def hR (m : Msh) (h : Int) (i k : Nat) : Prop:=i < m.f.length /\ k < m.f.length /\ suF m i <= h /\ suF m k <= h /\ ∃ c,c < 3 /\ nbF m i c=k
def Way (m : Msh) (h : Int) (a b : Nat) : Prop:=suF m a <= h /\ suF m b <= h /\ Cn (hR m h) a b
theorem vR {m : Msh} (hv : au m=true) {h : Int} : ∀ a b,hR m h a b -> hR m h b a:=by
 rintro a b ⟨h1,h2,h3,h4,c,hc,e⟩
 obtain ⟨c',hc',e2⟩:=gT hv h1 hc (by omega)
 rw [e] at e2
 exact ⟨h2,h1,h4,h3,c',hc',by simpa using e2⟩
theorem Way.symm {m : Msh} (hv : au m=true) {h : Int} {a b : Nat} (w : Way m h a b) : Way m h b a:=⟨w.2.1,w.1,w.2.2.symm (vR hv)⟩
theorem qz {m : Msh} {h k : Int} (hk : h <= k) : ∀ a b,hR m h a b -> hR m k a b:=by
 rintro a b ⟨h1,h2,h3,h4,h5⟩
 exact ⟨h1,h2,by omega,by omega,h5⟩
theorem Way.mono {m : Msh} {h k : Int} {a b : Nat} (hk : h <= k) (w : Way m h a b) : Way m k a b:=⟨by have:=w.1;omega,by have:=w.2.1;omega,w.2.2.mono (qz hk)⟩
theorem Way.trans {m : Msh} {h k : Int} {a b c : Nat} (w : Way m h a b) (v : Way m k b c) : Way m (max h k) a c :=
 ⟨by have:=w.1;omega,by have:=v.2.1;omega,(w.mono (k:=max h k) (by omega)).2.2.trans (v.mono (k:=max h k) (by omega)).2.2⟩
theorem Cn.top {m : Msh} {h : Int} {a b : Nat} (ha : a < m.f.length) (h0 : suF m a <= h) (w : Cn (hR m h) a b) : ∃ i,i < m.f.length /\ suF m i <= h /\ suF m a <= suF m i /\ suF m b <= suF m i /\ Cn (hR m (suF m i)) a b:=by
 induction w with
 | refl=>exact ⟨a,ha,h0,Int.le_refl _,Int.le_refl _,.refl _⟩
 | @step b c _ r ih =>
  obtain ⟨i,h1,h2,h3,h4,h5⟩:=ih
  obtain ⟨r1,r2,r3,r4,r5⟩:=r
  by_cases hc : suF m c <= suF m i
  ·exact ⟨i,h1,h2,h3,hc,.step h5 ⟨r1,r2,h4,hc,r5⟩⟩
  ·exact ⟨c,r2,r4,by omega,Int.le_refl _,.step (h5.mono (qz (by omega))) ⟨r1,r2,by omega,Int.le_refl _,r5⟩⟩
def Lst (m : Msh) (a b : Nat) (v : Int) : Prop:=Way m v a b /\ ∀ h,Way m h a b -> v <= h
theorem Lst.uniq {m : Msh} {a b : Nat} {u v : Int} (h : Lst m a b u) (g : Lst m a b v) : u=v:=Int.le_antisymm (h.2 _ g.1) (g.2 _ h.1)
theorem Lst.of_way {m : Msh} {a b : Nat} (ha : a < m.f.length) {h : Int} (w : Way m h a b) : ∃ i,i < m.f.length /\ Lst m a b (suF m i) /\ suF m i <= h:=by
 have key : ∀ (k i : Nat),i < m.f.length -> ((List.range m.f.length).filter fun j=>decide (suF m j < suF m i)).length=k -> Way m (suF m i) a b -> ∃ j,j < m.f.length /\ Lst m a b (suF m j) /\ suF m j <= suF m i:=by
  intro k
  induction k using Nat.strongRecOn with
  | _ k ih =>
   intro i hi hk wi
   by_cases hex : ∃ j,j < m.f.length /\ suF m j < suF m i /\ Way m (suF m j) a b
   ·obtain ⟨j,hj,hlt,wj⟩:=hex
    have hless : ((List.range m.f.length).filter fun x=>decide (suF m x < suF m j)).length < k:=by
     rw [<- hk]
     have hsub : ((List.range m.f.length).filter fun x=>decide (suF m x < suF m j)).length + 1 <= ((List.range m.f.length).filter fun x=>decide (suF m x < suF m i)).length:=by
      rw [<- List.countP_eq_length_filter,<- List.countP_eq_length_filter]
      have h1 : List.countP (fun x=>decide (suF m x < suF m i)) (List.range m.f.length)=List.countP (fun x=>decide (suF m x < suF m j)) (List.range m.f.length) + List.countP (fun x=>decide (suF m j <= suF m x) && decide (suF m x < suF m i)) (List.range m.f.length):=by
       induction List.range m.f.length with
       | nil=>rfl
       | cons x l ihl =>
        simp only [List.countP_cons,ihl]
        by_cases c1 : suF m x < suF m j
        ·have c2 : suF m x < suF m i:=by omega
         have c3 : ¬ suF m j <= suF m x:=by omega
         simp [c1,c2,c3];omega
        ·by_cases c2 : suF m x < suF m i
         ·have c3 : suF m j <= suF m x:=by omega
          simp [c1,c2,c3];omega
         ·have c3 : suF m j <= suF m x:=by omega
          simp [c1,c2,c3]
      rw [h1]
      have h2 : 0 < List.countP (fun x=>decide (suF m j <= suF m x) && decide (suF m x < suF m i)) (List.range m.f.length):=List.countP_pos_iff.2 ⟨j,List.mem_range.2 hj,by simp [hlt]⟩
      omega
     omega
    obtain ⟨x,h1,h2,h3⟩:=ih _ hless j hj rfl wj
    exact ⟨x,h1,h2,by omega⟩
   ·refine ⟨i,hi,⟨wi,fun h9 w9=>?_⟩,Int.le_refl _⟩
    obtain ⟨j,j1,j2,j3,j4,j5⟩:=Cn.top ha w9.1 w9.2.2
    by_cases hlt : suF m j < suF m i
    ·exact absurd ⟨j,j1,hlt,j3,j4,j5⟩ hex
    ·omega
 obtain ⟨i,h1,h2,h3,h4,h5⟩:=Cn.top ha w.1 w.2.2
 obtain ⟨j,j1,j2,j3⟩:=key _ i h1 rfl ⟨h3,h4,h5⟩
 exact ⟨j,j1,j2,by omega⟩
open Classical in
noncomputable def cp (m : Msh) (a b : Nat) : Option Int:=if h : ∃ v,Lst m a b v then some (Classical.choose h) else none
theorem d5 {m : Msh} {a b : Nat} {v : Int} (h : Lst m a b v) : cp m a b=some v:=by
 have hex : ∃ v,Lst m a b v:=⟨v,h⟩
 unfold cp
 rw [dif_pos hex]
 exact congrArg some ((Classical.choose_spec hex).uniq h)
theorem hG {m : Msh} {a b : Nat} (h : ∀ v,¬ Way m v a b) : cp m a b=none:=by
 unfold cp
 rw [dif_neg]
 rintro ⟨v,hv⟩
 exact h v hv.1
theorem eI {m : Msh} {a b : Nat} (ha : a < m.f.length) : (∃ i,i < m.f.length /\ cp m a b=some (suF m i) /\ Lst m a b (suF m i)) \/ (cp m a b=none /\ ∀ h,¬ Way m h a b):=by
 by_cases hex : ∃ h,Way m h a b
 ·obtain ⟨h,w⟩:=hex
  obtain ⟨i,h1,h2,_⟩:=Lst.of_way ha w
  exact .inl ⟨i,h1,d5 h2,h2⟩
 ·have : ∀ h,¬ Way m h a b:=fun h w=>hex ⟨h,w⟩
  exact .inr ⟨hG this,this⟩
theorem Lst.symm {m : Msh} (hv : au m=true) {a b : Nat} {v : Int} (h : Lst m a b v) : Lst m b a v:=⟨h.1.symm hv,fun k w=>h.2 k (w.symm hv)⟩
theorem kK {m : Msh} (hv : au m=true) {a b : Nat} (ha : a < m.f.length) : cp m a b=cp m b a:=by
 rcases eI (b:=b) ha with ⟨i,_,h1,h2⟩ | ⟨h1,h2⟩
 ·rw [h1,d5 (h2.symm hv)]
 ·rw [h1,hG fun v w=>h2 v (w.symm hv)]
def mR (m : Msh) (S : List Nat) (i k : Nat) : Prop:=i < m.f.length /\ k < m.f.length /\ i ∈ S /\ k ∈ S /\ ∃ c,c < 3 /\ nbF m i c=k
theorem qE {m : Msh} (hv : au m=true) {S : List Nat} : ∀ a b,mR m S a b -> mR m S b a:=by
 rintro a b ⟨h1,h2,h3,h4,c,hc,e⟩
 obtain ⟨c',hc',e2⟩:=gT hv h1 hc (by omega)
 rw [e] at e2
 exact ⟨h2,h1,h4,h3,c',hc',by simpa using e2⟩
structure iB (m : Msh) (P : List Nat) : Prop where
 perm : P.Perm (List.range m.f.length)
 srt : P.Pairwise fun a b=>cQ m a <= cQ m b
theorem iB.len {m : Msh} {P : List Nat} (h : iB m P) : P.length=m.f.length:=by
 have:=h.perm.length_eq
 simpa using this
theorem iB.lt {m : Msh} {P : List Nat} (h : iB m P) {p : Nat} (hp : p < P.length) : P[p] < m.f.length:=by
 have:=h.perm.mem_iff.1 (List.getElem_mem hp)
 simpa using this
theorem iB.mem {m : Msh} {P : List Nat} (h : iB m P) {x : Nat} (hx : x < m.f.length) : x ∈ P:=h.perm.mem_iff.2 (List.mem_range.2 hx)
theorem iB.before {m : Msh} {P : List Nat} (h : iB m P) {p x : Nat} (hp : p < P.length) (hx : x < m.f.length) (hlt : suF m x < suF m P[p]) : x ∈ P.take p:=by
 obtain ⟨q,hq,e⟩:=List.getElem_of_mem (h.mem hx)
 have hpn:=h.lt hp
 rw [j8 hx,j8 hpn] at hlt
 by_cases hqp : q < p
 ·have hql : q < (P.take p).length:=by rw [List.length_take];omega
  have e3 : (P.take p)[q]=x:=by rw [List.getElem_take];exact e
  rw [<- e3]
  exact List.getElem_mem _
 ·have h2 : cQ m P[p] <= cQ m P[q]:=by
   by_cases e2 : p=q
   ·subst e2;exact Int.le_refl _
   ·exact List.pairwise_iff_getElem.1 h.srt p q hp hq (by omega)
  rw [e] at h2
  omega
theorem iB.upto {m : Msh} {P : List Nat} (h : iB m P) {p x : Nat} (hp : p < P.length) (hx : x ∈ P.take (p + 1)) : x < m.f.length /\ suF m x <= suF m P[p]:=by
 obtain ⟨q,hq,e⟩:=List.getElem_of_mem hx
 rw [List.length_take] at hq
 rw [List.getElem_take] at e
 have hqn:=h.lt (show q < P.length by omega)
 rw [e] at hqn
 refine ⟨hqn,?_⟩
 rw [j8 hqn,j8 (h.lt hp)]
 by_cases e2 : q=p
 ·subst e2;rw [e];exact Int.le_refl _
 ·have:=List.pairwise_iff_getElem.1 h.srt q p (by omega) hp (by omega)
  rw [e] at this
  exact this
def sC (m : Msh) (S : List Nat) (a b : Nat) : Prop:=¬ (a ∈ S /\ b ∈ S /\ Cn (mR m S) a b)
theorem sC.low {m : Msh} {P : List Nat} (hO : iB m P) {p a b : Nat} (hp : p < P.length) (ha : a < m.f.length) (hb : b < m.f.length) (hn : sC m (P.take p) a b) {h : Int} (w : Way m h a b) : suF m P[p] <= h:=by
 by_cases hlt : h < suF m P[p]
 ·exfalso
  apply hn
  refine ⟨hO.before hp ha (by have:=w.1;omega),hO.before hp hb (by have:=w.2.1;omega),w.2.2.mono ?_⟩
  rintro x y ⟨x1,y1,x2,y2,x3⟩
  exact ⟨x1,y1,hO.before hp x1 (by omega),hO.before hp y1 (by omega),x3⟩
 ·omega
theorem Gu {m : Msh} {P : List Nat} (hO : iB m P) {p a b : Nat} (hp : p < P.length) (ha : a < m.f.length) (hb : b < m.f.length) (hn : sC m (P.take p) a b) (h1 : a ∈ P.take (p + 1)) (h2 : b ∈ P.take (p + 1)) (h3 : Cn (mR m (P.take (p + 1))) a b) : cp m a b=some (suF m P[p]):=by
 refine d5 ⟨⟨(hO.upto hp h1).2,(hO.upto hp h2).2,h3.mono ?_⟩,fun h w=>hn.low hO hp ha hb w⟩
 rintro x y ⟨x1,y1,x2,y2,x3⟩
 exact ⟨x1,y1,(hO.upto hp x2).2,(hO.upto hp y2).2,x3⟩
theorem QN {m : Msh} {P : List Nat} (hO : iB m P) {a b : Nat} (ha : a < m.f.length) (hb : b < m.f.length) (hn : sC m P a b) : cp m a b=none:=by
 refine hG fun v w=>hn ⟨hO.mem ha,hO.mem hb,w.2.2.mono ?_⟩
 rintro x y ⟨x1,y1,x2,y2,x3⟩
 exact ⟨x1,y1,hO.mem x1,hO.mem y1,x3⟩
end Go.Gv

namespace Go.Gv
open Go.Sort
section
variable {P : Program} {F : Fid} {α : Type} [Inhabited α]
def ez (encD : α -> D) (d : Array α) : List (List D):=d.toList.map fun x=>[encD x]
theorem mt {f : FuncId} (enc : α -> Value) (encD : α -> D) (hflat : ∀ M x u,ab F M (encD x) u -> u=enc x) (hrep : ∀ M x,ab F M (encD x) (enc x)) (d d' : Array α) (hsz : d'.size=d.size) (ds : List D)
  (hnone : d.size=0 -> ∀ (M : Mem) (w : World) (vs : List Value) (A : Option Addr),(∀ p v,M p=some v -> w.cell? p=some v) -> ap F M ds vs -> Calls P f (.slice A 0 0::vs).toArray w fun e w'=>e=.returned (.tuple #[]) /\ ∃ n os,w'=grow (Sort.ahead w n) os)
  (hrun : ∀ (M : Mem) (w : World) (vs : List Value) (blk off cap : Nat),(∀ p v,M p=some v -> w.cell? p=some v) -> (∀ p : Addr,p.block=blk -> M p=none) -> ap F M ds vs -> Holds enc w blk off d -> blk < w.heap.size ->
   Calls P f (.slice (some ⟨blk,off,none⟩) d.size cap::vs).toArray w fun e w'=>e=.returned (.tuple #[]) /\ ∃ n os,w'=grow (putRow enc (Sort.ahead w n) blk off d') os) : sK P F f 1 (ez encD d) ds (ez encD d'):=by
 intro M w vs hh r
 have hl : (ez encD d).length=d.size:=by simp [ez]
 refine ⟨fun e A=>?_,fun b o T us cap hM hb hcell hcap hle hu hc=>?_⟩
 ·have h0 : d.size=0:=by rw [<- hl,e];rfl
  refine (hnone h0 M w vs A hh r).mono ?_
  rintro e0 w' ⟨rfl,n,os,rfl⟩
  exact ⟨rfl,rfl,rfl,rfl,by simp [grow,Sort.ahead],fun k hk=>by simp only [grow,Sort.ahead];rw [Array.getElem?_append_left hk],Nat.le_add_right _ _⟩
 ·rw [hl] at hcap ⊢
  have hH : Holds enc w b o d:=fun j hj=>by
   obtain ⟨u,k1,k2⟩:=hc j [encD d[j]] 0 (encD d[j]) (by simp [ez,hj]) rfl
   have:=hflat _ _ _ k2
   subst this
   have e1 : d[j]! = d[j]:=getElem!_pos d j hj
   rw [e1]
   have k3 : us[o + j]? = some (enc d[j]):=by simpa using k1
   constructor
   ·simp [World.cell?,hcell,k3]
   ·simp [World.frozen?,hcell]
  refine (hrun M w vs b o cap hh hM r hH hb).mono ?_
  rintro e0 w' ⟨rfl,n,os,rfl⟩
  have hput : (grow (putRow enc (Sort.ahead w n) b o d') os).heap[b]? = some (.cells (putCells enc o d' us.toArray) T (0,0)):=by
   simp only [grow,putRow,mapBlock,Sort.ahead]
   rw [Array.getElem?_append_left (by simpa using hb),Array.getElem?_modify,if_pos rfl,hcell]
   rfl
  refine ⟨rfl,(putCells enc o d' us.toArray).toList,by rw [Array.toArray_toList];exact hput,by simp [putCells],fun i r off x hi hr=>?_,⟨rfl,rfl,rfl,by simp [grow,putRow,mapBlock,Sort.ahead],fun k hk hne=>?_,Nat.le_add_right _ _⟩⟩
  ·simp only [ez,List.getElem?_map,Option.map_eq_some_iff] at hi
   obtain ⟨y,h1,rfl⟩:=hi
   have ho : off=0:=by
    have:=(List.getElem?_eq_some_iff.1 hr).1
    simpa using this
   subst ho
   simp only [List.getElem?_cons_zero,Option.some.injEq] at hr
   subst hr
   have hi2 : i < d'.size:=by have:=(List.getElem?_eq_some_iff.1 h1).1;simpa using this
   have hy : d'[i]! = y:=by
    rw [getElem!_pos d' i hi2]
    have:=(List.getElem?_eq_some_iff.1 h1).2
    simpa using this
   refine ⟨enc y,?_,hrep _ _⟩
   have hlt : o + i < us.length:=by
    have : o + cap * 1 <= us.length:=hle
    omega
   rw [Nat.mul_one,Nat.add_zero,Array.getElem?_toList]
   simp only [putCells,Array.getElem?_mapIdx,List.getElem?_toArray]
   rw [List.getElem?_eq_getElem hlt]
   simp only [Option.map_some]
   rw [if_pos ⟨by omega,by omega⟩,show o + i - o=i by omega,hy]
  ·simp only [grow,putRow,mapBlock,Sort.ahead]
   rw [Array.getElem?_append_left (by simpa using hk),Array.getElem?_modify,if_neg (Ne.symm hne)]
end
end Go.Gv

namespace Go.Gv
open Go.Sort Go.Proofs Go.Shelf
theorem Bel.grown {w w' : World} (h : Bel w w') : ∃ q os,w'=grow (w.drewN q) os:=by
 refine ⟨w'.drawn - w.drawn,w'.heap.extract w.heap.size w'.heap.size,?_⟩
 have hh : w'.heap=w.heap++w'.heap.extract w.heap.size w'.heap.size:=by
  apply Array.ext
  ·have:=h.size
   simp only [Array.size_append,Array.size_extract]
   omega
  ·intro i h1 h2
   by_cases hi : i < w.heap.size
   ·rw [Array.getElem_append_left hi]
    have:=h.block i hi
    rw [Array.getElem?_eq_getElem h1,Array.getElem?_eq_getElem hi] at this
    exact Option.some.inj this
   ·rw [Array.getElem_append_right (by omega),Array.getElem_extract]
    congr 1
    omega
 have hd:=h.drawn
 obtain ⟨h1,h2,h3,h4,h5,h6⟩:=h
 cases w
 cases w'
 simp only [grow,World.drewN] at *
 subst h1 h2 h3
 congr 1
 omega
theorem Bel.sorted {α : Type} [Inhabited α] {enc : α -> Value} {w : World} {blk off n : Nat} {d : Array α} {os : Array Obj} {p : Addr} {v : Value} (hp : p.block ≠ blk) (h : w.cell? p=some v) : (sortWorld enc w blk off n d os).cell? p=some v:=by
 have hb : p.block < w.heap.size:=by
  unfold World.cell? at h
  cases e : w.heap[p.block]? with
  | none=>rw [e] at h;cases h
  | some _=>exact (Array.getElem?_eq_some_iff.1 e).1
 have e : (sortWorld enc w blk off n d os).heap[p.block]? = w.heap[p.block]?:=by
  simp only [sortWorld,grow,putRow,mapBlock,Sort.ahead]
  rw [Array.getElem?_append_left (by simpa using hb),Array.getElem?_modify,if_neg (Ne.symm hp)]
 unfold World.cell? at h ⊢
 rw [e]
 exact h
section
variable {P : Program} {F : Fid} {α : Type} [Inhabited α]
theorem l7 {ρ : Ren} (Ly : SlLaysF.n6 P ρ) (enc : α -> Value) (encD : α -> D) (h1 : OneCell enc) (hflat : ∀ M x u,ab F M (encD x) u -> u=enc x) (hrep : ∀ M x,ab F M (encD x) (enc x)) (cf : α -> α -> Int) (hO : SWO (ltOf cf)) {g cg : Nat} (hg : ∀ f,F g=some f -> f=ρ.f 6) {cs : List D}
  (hn : ∀ f,F cg=some f -> jf P f=true) (hcl : ∀ x y,eD P F cg (encD x::encD y::cs) (.int .i64 (cf x y)) []) (d : Array α) (hz : d.size < 2 ^ 62) :
  eD P F g [.own 1 (ez encD d),.fn cg cs] .any [.own 1 (ez encD (pdq (ltOf cf) d 0 d.size (Lib.bitLen d.size) true true)),.nilp]:=by
 refine ⟨trivial,fun f hf=>⟨rfl,?_⟩⟩
 obtain rfl:=hg f hf
 have hp:=pdq_sorts (ltOf cf) hO d 0 d.size (Lib.bitLen d.size) true true (Nat.zero_le _) (Nat.le_refl _) (Or.inl rfl)
 have hsz : (pdq (ltOf cf) d 0 d.size (Lib.bitLen d.size) true true).size=d.size:=hp.1.1
 refine mt enc encD hflat hrep d _ hsz _ (fun h M w vs A hh r=>?_) (fun M w vs blk off cap hh hM r hH hb=>?_)
 ·simp only [ap,ab] at r
  obtain ⟨fv,vs',rfl,⟨fi,us,hfi,rfl,hus⟩,rfl⟩:=r
  refine (AnyF.slices_SortFunc_none { Ly with } A 0 _ w).mono ?_
  rintro e w' ⟨rfl,rfl⟩
  exact ⟨rfl,0,#[],by simp⟩
 ·simp only [ap,ab] at r
  obtain ⟨fv,vs',rfl,⟨fi,us,hfi,rfl,hus⟩,rfl⟩:=r
  have hcmp : CmpLays1 P fi us.toArray enc cf blk off d.size w:=by
   intro m os dk hdk x y
   have hr:=(hcl x y).2 fi hfi M (sortWorld enc w blk off m dk os) (enc x::enc y::us) (fun p v hpv=>Bel.sorted (fun e=>by rw [hM p e] at hpv;cases hpv) (hh p v hpv)) (by
    simp only [ap]
    exact ⟨_,_,rfl,hrep _ _,_,_,rfl,hrep _ _,hus⟩)
   have e : #[enc x,enc y]++us.toArray=(enc x::enc y::us).toArray:=by simp
   rw [e]
   refine hr.mono ?_
   rintro e w' ⟨v,M',rfl,hbel,_,_,_,hv⟩
   simp only [ab] at hv
   subst hv
   exact ⟨rfl,hbel.grown⟩
  exact Any.slices_SortFunc_eq Ly enc h1 cf hO fi us.toArray blk off cap d w (bi (hn fi hfi)) hcmp hH hb (by omega)
end
end Go.Gv

namespace Go.Gv
open Go.Sort Go.Proofs Go.Shelf
section
variable {m : Msh}
def cfH (m : Msh) {N : Nat} (a b : Fin N) : Int:=cQ m a.1 - cQ m b.1
theorem qo (m : Msh) (N : Nat) : SWO (ltOf (cfH m (N:=N))) where
 irrefl x:=by simp [ltOf,cfH]
 trans x y z h1 h2:=by
  have g1 : cfH m x y < 0:=of_decide_eq_true h1
  have g2 : cfH m y z < 0:=of_decide_eq_true h2
  refine decide_eq_true ?_
  unfold cfH at *
  omega
 ntrans x y z h1 h2:=by
  have g1 : ¬ cfH m x y < 0:=of_decide_eq_false h1
  have g2 : ¬ cfH m y z < 0:=of_decide_eq_false h2
  refine decide_eq_false ?_
  unfold cfH at *
  omega
def dH (N : Nat) : Array (Fin N):=(List.finRange N).toArray
theorem vw (N : Nat) : (dH N).size=N:=by simp [dH]
def oH (m : Msh) (N : Nat) [Inhabited (Fin N)] : List Nat:=(pdq (ltOf (cfH m)) (dH N) 0 (dH N).size (Lib.bitLen (dH N).size) true true).toList.map fun i=>i.1
theorem AW (m : Msh) [Inhabited (Fin m.f.length)] : iB m (oH m m.f.length):=by
 have h:=pdq_sorts (ltOf (cfH m)) (qo m m.f.length) (dH m.f.length) 0 (dH m.f.length).size (Lib.bitLen (dH m.f.length).size) true true (Nat.zero_le _) (Nat.le_refl _) (Or.inl rfl)
 obtain ⟨⟨hs,_,hp⟩,hsrt⟩:=h
 unfold oH
 generalize hP : pdq (ltOf (cfH m)) (dH m.f.length) 0 (dH m.f.length).size (Lib.bitLen (dH m.f.length).size) true true=d' at *
 have e1 : d'.extract 0 (dH m.f.length).size=d':=by rw [<- hs];exact Array.extract_size
 have e2 : (dH m.f.length).extract 0 (dH m.f.length).size=dH m.f.length:=Array.extract_size
 rw [e1,e2] at hp
 refine ⟨?_,?_⟩
 ·have h1:=hp.map (fun i : Fin m.f.length=>i.1)
  have h2 : (dH m.f.length).toList.map (fun i : Fin m.f.length=>i.1)=List.range m.f.length:=by
   unfold dH
   exact List.ext_getElem (by simp) (by intro i h1 h2;simp)
  rw [h2] at h1
  exact h1
 ·rw [List.pairwise_map,List.pairwise_iff_getElem]
  intro i j hi hj hij
  have hj' : j < d'.size:=by simpa using hj
  have hi' : i < d'.size:=by simpa using hi
  have h1:=hsrt i j (Nat.zero_le _) hij (by rw [<- hs];exact hj')
  rw [getElem!_pos d' j hj',getElem!_pos d' i hi'] at h1
  have g1 : ¬ cfH m d'[j] d'[i] < 0:=of_decide_eq_false h1
  unfold cfH at g1
  simp only [Array.getElem_toList]
  omega
end
section
variable {P : Program} {F : Fid}
theorem nY {ρ : Ren} (Ly : SlLaysF.n6 P ρ) (m : Msh) (h0 : 0 < m.f.length) (hl : m.f.length < 2 ^ 62) {g cg : Nat} (hg : ∀ f,F g=some f -> f=ρ.f 6) {cs : List D}
  (hn : ∀ f,F cg=some f -> jf P f=true) (hcl : ∀ a b : Nat,a < m.f.length -> b < m.f.length -> eD P F cg (.int .i64 a::.int .i64 b::cs) (.int .i64 (cQ m a - cQ m b)) []) :
  ∃ Q,iB m Q /\ eD P F g [.own 1 (nfR (List.range m.f.length)),.fn cg cs] .any [.own 1 (nfR Q),.nilp]:=by
 haveI : Inhabited (Fin m.f.length):=⟨⟨0,h0⟩⟩
 refine ⟨oH m m.f.length,AW m,?_⟩
 have k:=l7 (α:=Fin m.f.length) Ly (fun i=>.int .i64 (i.1 : Int)) (fun i=>D.int .i64 (i.1 : Int)) (fun _=>rfl) (fun M x u h=>by simpa [ab] using h) (fun M x=>by simp [ab]) (cfH m) (qo m _) hg hn (fun x y=>hcl x.1 y.1 x.2 y.2) (dH m.f.length) (by rw [vw];exact hl)
 have e1 : ez (fun i : Fin m.f.length=>D.int .i64 (i.1 : Int)) (dH m.f.length)=nfR (List.range m.f.length):=by
  unfold ez nfR dH
  exact List.ext_getElem (by simp) (by intro i h1 h2;simp)
 have e2 : ez (fun i : Fin m.f.length=>D.int .i64 (i.1 : Int)) (pdq (ltOf (cfH m)) (dH m.f.length) 0 (dH m.f.length).size (Lib.bitLen (dH m.f.length).size) true true)=nfR (oH m m.f.length):=by
  unfold ez nfR oH
  rw [List.map_map]
  rfl
 rw [e1,e2] at k
 exact k
end
end Go.Gv

namespace Go.Gv
def yS (C : CC) : Prop:=∀ (m : Msh) (cs : List D),0 < m.f.length -> m.f.length < 2 ^ 62 -> (∀ a b : Nat,a < m.f.length -> b < m.f.length -> C 847 (.int .i64 a::.int .i64 b::cs) (.int .i64 (cQ m a - cQ m b)) []) ->
 ∃ Q,iB m Q /\ C 374 [.own 1 (nfR (List.range m.f.length)),.fn 847 cs] .any [.own 1 (nfR Q),.nilp]
theorem rP (l : List Nat) : ∀ e ∈ nfR l,e.length=1 /\ ∀ c ∈ e,ar c=true:=by
 intro e he
 obtain ⟨x,_,rfl⟩:=List.mem_map.1 he
 simp
def meT (n : Nat) (S : List Nat) : List Bool:=(List.range n).map fun i=>decide (i ∈ S)
theorem nE (n : Nat) (S : List Nat) : (meT n S).length=n:=by simp [meT]
theorem nD {n i : Nat} {S : List Nat} (h : i < n) : (meT n S).getD i false=decide (i ∈ S):=by simp [meT,h]
theorem wb {n i : Nat} {S : List Nat} (h : i < n) : (meT n S).set i true=meT n (S++[i]):=by
 unfold meT
 apply List.ext_getElem (by simp)
 intro j h1 h2
 simp only [List.getElem_set,List.getElem_map,List.getElem_range,List.mem_append,List.mem_singleton]
 by_cases e : i=j
 ·subst e;simp
 ·rw [if_neg e,decide_eq_decide]
  exact ⟨.inl,fun h=>h.resolve_right fun h=>e h.symm⟩
theorem wa (n : Nat) : meT n []=List.replicate n false:=by
 unfold meT
 apply List.ext_getElem (by simp)
 intro j h1 h2
 simp
noncomputable def spR (m : Msh) (a b : Nat) : D:=match cp m a b with
 | some v=>.tup [.int .i64 v,.int .i64 0]
 | none=>.tup [.int .i64 0,.int .i64 12]
variable {C : CC} (hC : az prog C)
include hC
theorem zB (m : Msh) (hv : au m=true) (a b : Nat) (ha : a < m.f.length) (hb : b < m.f.length) : C 847 [.int .i64 a,.int .i64 b,.ptr [.sl (inR (bq m))]] (.int .i64 (cQ m a - cQ m b)) []:=by
 have h1:=la hv ha
 have h2:=la hv hb
 have w : IntKind.wrap .i64 (suF m a - suF m b)=cQ m a - cQ m b:=am (by rw [j8 ha,j8 hb]) (by omega)
 refine bp hC (nf:=N847) rfl rfl ?_
 simp [N847,aK (pO ha),aK (pO hb),w]
 exact aV (by decide +kernel)
set_option maxHeartbeats 4000000 in
set_option maxRecDepth 8000 in
theorem vi (hS : yS C) (dec : Nat -> List UInt8) (hI : ∀ n : Nat,n < 100 -> C 127 [.int .i64 n] (.str (dec n)) []) (m : Msh) (hz : cY m=true -> m.s.length <= 100 /\ m.f.length <= 100) (x y : Int) :
  C 845 [.agg (ci m),.int .i64 x,.int .i64 y] (if au m then (if (0 <= x /\ x < m.f.length) /\ 0 <= y /\ y < m.f.length then spR m x.toNat y.toNat else .tup [.int .i64 0,.int .i64 2]) else .tup [.int .i64 0,.int .i64 1]) []:=by
 have k1:=eE hC dec hI m hz
 have k2:=sO hC dec hI m hz
 simp only [ai] at k1 k2
 cases hv : au m
 ·simp only [hv,Bool.false_eq_true,if_false] at k1 ⊢
  refine bp hC (nf:=N845) rfl rfl ?_
  simp [N845,ai]
  refine ae k1 (.inr rfl) ?_
  simp
 simp only [hv,if_true] at k1 k2 ⊢
 by_cases hx : 0 <= x /\ x < m.f.length
 rotate_left
 ·rw [if_neg fun h=>hx h.1]
  refine bp hC (nf:=N845) rfl rfl ?_
  simp [N845,ai]
  refine ae k1 (.inr rfl) ?_
  by_cases h0 : x < 0
  ·simp [h0]
  ·simp [h0,show (m.f.length : Int) <= x by omega]
 by_cases hy : 0 <= y /\ y < m.f.length
 rotate_left
 ·rw [if_neg fun h=>hy h.2]
  refine bp hC (nf:=N845) rfl rfl ?_
  simp [N845,ai]
  refine ae k1 (.inr rfl) ?_
  by_cases h0 : y < 0
  ·simp [show ¬ x < 0 by omega,show ¬ (m.f.length : Int) <= x by omega,h0]
  ·simp [show ¬ x < 0 by omega,show ¬ (m.f.length : Int) <= x by omega,h0,show (m.f.length : Int) <= y by omega]
 rw [if_pos ⟨hx,hy⟩]
 obtain ⟨a,rfl⟩ : ∃ a : Nat,x=a:=⟨x.toNat,by omega⟩
 obtain ⟨b,rfl⟩ : ∃ b : Nat,y=b:=⟨y.toNat,by omega⟩
 have ha : a < m.f.length:=by omega
 have hb : b < m.f.length:=by omega
 have hsz:=(dx hv).2
 have hsl : slx true (inR (bq m))=.sl (inR (bq m)):=by
  cases h : inR (bq m) with
  | nil =>
   have:=congrArg List.length h
   rw [vW,xj] at this
   exact absurd (show m.f.length=0 from this) (by omega)
  | cons e r=>rfl
 rw [hsl] at k2
 obtain ⟨Q,hO,kS⟩:=hS m [.ptr [.sl (inR (bq m))]] (by omega) (by omega) fun a b ha hb=>zB hC m hv a b ha hb
 have hQl:=hO.len
 have kf:=ly hC m.f.length (by omega)
 simp only [Int.toNat_natCast]
 refine bp hC (nf:=N845) rfl rfl ?_
 simp [N845,ai]
 refine ae k1 (.inr rfl) ?_
 simp [show ¬ (a : Int) < 0 by omega,show ¬ m.f.length <= a by omega,show ¬ (b : Int) < 0 by omega,show ¬ m.f.length <= b by omega]
 refine ae k2 (.inr rfl) ?_
 simp
 refine ⟨by omega,?_⟩
 refine aE Nat (fun i=>[(1,.int .i64 a),(2,.int .i64 b),(8,.sl (nbA m)),(10,.adr (.r 10160) 0 0),(11,.ref (.r 10176) 0 m.f.length),(57,.int .i64 m.f.length),(58,.int .i64 i),(10160,.blk 1 [[.sl (inR (bq m))]]),(10176,.blk 1 (nfR (frT m.f.length i)))])
  (fun i=>i <= m.f.length) (fun i=>m.f.length - i) 0 (by simp) (by simp [nfR,frT]) ?_
 rintro i hi
 have hw : IntKind.wrap .i64 ((i : Int) + 1)=((i + 1 : Nat) : Int):=am (by omega) (by omega)
 have hl:=qw hi
 simp
 refine av (fun g1=>?_) (fun g1=>?_) <;> simp at g1 <;> simp [g1]
 ·have hil : i < (frT m.f.length i).length:=by omega
  have hs:=qx g1
  simp [gV hil,ip,hs]
  exact ⟨i + 1,by omega,by omega,hw,rfl⟩
 ·have e : i=m.f.length:=by omega
  subst e
  have e2 : frT m.f.length m.f.length=List.range m.f.length:=by simp [frT]
  rw [e2]
  simp
  refine ⟨fun e he c hc=>pX _ e he c hc,?_⟩
  refine rh kS (.inr (gU Q)) (by simp [hQl]) (rP Q) ?_
  simp
  refine ia kf ?_
  simp
  refine ⟨by omega,?_⟩
  have hz0 : List.replicate m.f.length [D.bool false]=rcR (meT m.f.length (Q.take 0)):=by rw [List.take_zero,wa];simp [rcR]
  rw [hz0]
  obtain ⟨I1,I2,I3⟩:=iJ.init (n:=m.f.length) (mR m (Q.take 0))
  refine aE (Nat × List Nat) (fun s=>[(1,.int .i64 a),(2,.int .i64 b),(8,.sl (nbA m)),(10,.adr (.r 10160) 0 0),(13,.ref (.r 10208) 0 m.f.length),(14,.ref (.r 10224) 0 m.f.length),(75,.ref (.r 11200) 0 m.f.length),(76,.int .i64 m.f.length),(77,.int .i64 s.1),
   (10160,.blk 1 [[.sl (inR (bq m))]]),(10208,.blk 1 (nfR s.2)),(10224,.blk 1 (rcR (meT m.f.length (Q.take s.1)))),(11200,.blk 1 (nfR Q))])
   (fun s=>s.1 <= m.f.length /\ Fo m.f.length s.2 /\ iJ m.f.length (mR m (Q.take s.1)) s.2 /\ (∀ i k,mR m (Q.take s.1) i k -> ftF s.2 i=ftF s.2 k) /\ sC m (Q.take s.1) a b)
   (fun s=>m.f.length - s.1) (0,List.range m.f.length) ⟨by simp,I1,I2,fun i k h=>by have:=h.2.2.1;simp at this,fun h=>by have:=h.1;simp at this⟩ (by simp) ?_
  rintro ⟨p,f⟩ ⟨hp,J1,J2,J3,J4⟩
  simp only at hp J1 J2 J3 J4
  have hwp : IntKind.wrap .i64 ((p : Int) + 1)=((p + 1 : Nat) : Int):=am (by omega) (by omega)
  simp
  refine av (fun g2=>?_) (fun g2=>?_) <;> simp at g2 <;> simp [g2]
  ·have hpQ : p < Q.length:=by omega
   obtain ⟨i,hi0⟩ : ∃ i,i=Q[p]:=⟨_,rfl⟩
   have hin : i < m.f.length:=by rw [hi0];exact hO.lt hpQ
   have hQg : (nfR Q)[p]? = some [.int .i64 (i : Nat)]:=by rw [gg hpQ,hi0]
   have htk : Q.take (p + 1)=Q.take p++[i]:=by rw [hi0];exact List.take_succ_eq_append_getElem hpQ
   have hml:=nE m.f.length (Q.take p)
   have hmi : i < (meT m.f.length (Q.take p)).length:=by rw [hml];exact hin
   have hms:=wb (S:=Q.take p) hin
   rw [<- htk] at hms
   have iS : i ∈ Q.take (p + 1):=by rw [htk];simp
   have mono : ∀ x k,mR m (Q.take p) x k -> mR m (Q.take (p + 1)) x k:=fun x k h=>⟨h.1,h.2.1,by rw [htk];exact List.mem_append_left _ h.2.2.1,by rw [htk];exact List.mem_append_left _ h.2.2.2.1,h.2.2.2.2⟩
   simp [aI hQg,hin,gi hmi,nR,hms,aK (jg hin)]
   refine aE (Nat × List Nat) (fun s=>[(1,.int .i64 a),(2,.int .i64 b),(8,.sl (nbA m)),(10,.adr (.r 10160) 0 0),(13,.ref (.r 10208) 0 m.f.length),(14,.ref (.r 10224) 0 m.f.length),(16,.int .i64 i),(75,.ref (.r 11200) 0 m.f.length),(76,.int .i64 m.f.length),(77,.int .i64 p),
    (87,.agg [.int .i64 (nbF m i 0),.int .i64 (nbF m i 1),.int .i64 (nbF m i 2)]),(88,.int .i64 s.1),(10160,.blk 1 [[.sl (inR (bq m))]]),(10208,.blk 1 (nfR s.2)),(10224,.blk 1 (rcR (meT m.f.length (Q.take (p + 1))))),(11200,.blk 1 (nfR Q))])
    (fun s=>s.1 <= 3 /\ Fo m.f.length s.2 /\ iJ m.f.length (mR m (Q.take (p + 1))) s.2 /\ (∀ x k,mR m (Q.take p) x k -> ftF s.2 x=ftF s.2 k) /\ (∀ c k : Nat,c < s.1 -> nbF m i c=k -> k ∈ Q.take (p + 1) -> ftF s.2 i=ftF s.2 k))
    (fun s=>3 - s.1) (0,f) ⟨by simp,J1,fun x hx=>(J2 x hx).mono mono,J3,fun c k h=>by simp at h⟩ (by simp) ?_
   rintro ⟨j,g⟩ ⟨hj,K1,K2,K3,K4⟩
   simp only at hj K1 K2 K3 K4
   have hwj : IntKind.wrap .i64 ((j : Int) + 1)=((j + 1 : Nat) : Int):=am (by omega) (by omega)
   have hgl:=K1.len
   simp
   refine av (fun g3=>?_) (fun g3=>?_) <;> simp at g3
   ·have hxj : ([.int .i64 (nbF m i 0),.int .i64 (nbF m i 1),.int .i64 (nbF m i 2)] : List D)[j]?.getD .any=.int .i64 (nbF m i j):=by
     rcases (by omega : j=0 \/ j=1 \/ j=2) with rfl | rfl | rfl <;> rfl
    have hbd:=dQ m i j
    obtain ⟨kk,hkk⟩ : ∃ kk,kk=nbF m i j:=⟨_,rfl⟩
    rw [<- hkk] at hxj hbd
    simp [show (j : Int) < 3 by omega,hxj]
    refine ⟨by omega,?_⟩
    by_cases c1 : kk=-1
    ·simp [c1]
     refine ⟨j + 1,g,⟨by omega,K1,K2,K3,fun c k hc ec hk=>?_⟩,by omega,hwj,rfl⟩
     by_cases e : c=j
     ·subst e;omega
     ·exact K4 c k (by omega) ec hk
    ·obtain ⟨c,hc⟩ : ∃ c : Nat,kk=c:=⟨kk.toNat,by omega⟩
     subst hc
     have hcn : c < m.f.length:=by omega
     have hml2:=nE m.f.length (Q.take (p + 1))
     have hmc : c < (meT m.f.length (Q.take (p + 1))).length:=by rw [hml2];exact hcn
     have hmg:=nD (S:=Q.take (p + 1)) hcn
     have hrow : (rcR (meT m.f.length (Q.take (p + 1))))[c]? = some [.bool (decide (c ∈ Q.take (p + 1)))]:=by rw [gi hmc,hmg]
     by_cases c2 : c ∈ Q.take (p + 1)
     ·have hj2:=(dP K1 hin hcn).1
      simp [c1,hcn,aI hrow,c2]
      refine ⟨by omega,hgl,bJ (tO hC.1 m.f.length (by omega) g K1 i c hin hcn) (by have:=hj2.len;simp;omega) ?_⟩
      simp
      refine ⟨j + 1,fQ g i c,⟨by omega,hj2,iJ.join (qE hv) K1 K2 hin hcn ⟨hin,hcn,iS,c2,j,by omega,hkk.symm⟩,fun x k h=>io K1 hin hcn h.1 h.2.1 (K3 x k h),fun c' k hc ec hk=>?_⟩,by omega,hwj,rfl⟩
      by_cases e : c'=j
      ·subst e
       have : k=c:=by omega
       subst this
       exact mO K1 hin hcn
      ·have hkn : k < m.f.length:=by have:=dQ m i c';omega
       exact io K1 hin hcn hin hkn (K4 c' k (by omega) ec hk)
     ·simp [c1,hcn,aI hrow,c2]
      refine ⟨j + 1,g,⟨by omega,K1,K2,K3,fun c' k hc ec hk=>?_⟩,by omega,hwj,rfl⟩
      by_cases e : c'=j
      ·subst e
       have : k=c:=by omega
       subst this
       exact absurd hk c2
      ·exact K4 c' k (by omega) ec hk
   ·have e3 : j=3:=by omega
    subst e3
    have all : ∀ x k,mR m (Q.take (p + 1)) x k -> ftF g x=ftF g k:=by
     rintro x k ⟨h1,h2,h3,h4,c,hc,ec⟩
     by_cases ex : x=i
     ·subst ex
      exact K4 c k hc ec h4
     ·by_cases ek : k=i
      ·subst ek
       obtain ⟨c',hc',e'⟩:=gT hv h1 hc (by omega)
       rw [ec] at e'
       exact (K4 c' x hc' (by simpa using e') h3).symm
      ·rw [htk] at h3 h4
       have h3' : x ∈ Q.take p:=(List.mem_append.1 h3).resolve_right fun h=>ex (by simpa using h)
       have h4' : k ∈ Q.take p:=(List.mem_append.1 h4).resolve_right fun h=>ek (by simpa using h)
       exact K3 x k ⟨h1,h2,h3',h4',c,hc,ec⟩
    have hml2:=nE m.f.length (Q.take (p + 1))
    have hma : a < (meT m.f.length (Q.take (p + 1))).length:=by rw [hml2];exact ha
    have hmb : b < (meT m.f.length (Q.take (p + 1))).length:=by rw [hml2];exact hb
    have hra : (rcR (meT m.f.length (Q.take (p + 1))))[a]? = some [.bool (decide (a ∈ Q.take (p + 1)))]:=by rw [gi hma,nD ha]
    have hrb : (rcR (meT m.f.length (Q.take (p + 1))))[b]? = some [.bool (decide (b ∈ Q.take (p + 1)))]:=by rw [gi hmb,nD hb]
    simp [ha,aI hra]
    by_cases m1 : a ∈ Q.take (p + 1)
    ·by_cases m2 : b ∈ Q.take (p + 1)
     ·have kr1:=lX hC.1 m.f.length (by omega) g K1 a ha
      obtain ⟨L1,L2⟩:=eT K1 ha
      have kr2:=lX hC.1 m.f.length (by omega) (hlL g a) L1 b hb
      rw [L2 b hb] at kr2
      obtain ⟨M1,M2⟩:=eT L1 hb
      have ll1:=L1.len
      have ll2:=M1.len
      have same : ∀ x,x < m.f.length -> ftF (hlL (hlL g a) b) x=ftF g x:=fun x hx=>by rw [M2 x hx,L2 x hx]
      simp [m1,hb,aI hrb,m2]
      refine ⟨by omega,hgl,bJ kr1 (by simp;omega) ?_⟩
      simp
      refine ⟨by omega,ll1,bJ kr2 (by simp;omega) ?_⟩
      simp
      refine av (fun h7=>?_) (fun h7=>?_)
      ·have hq : ftF g a=ftF g b:=by have:=of_decide_eq_true h7;omega
       have hcn : Cn (mR m (Q.take (p + 1))) a b:=by
        have q1:=K2 a ha
        have q2:=(K2 b hb).symm (qE hv)
        rw [hq] at q1
        exact q1.trans q2
       have hfd:=Gu hO hpQ ha hb J4 m1 m2 hcn
       rw [<- hi0] at hfd
       simp [aK (pO hin)]
       unfold spR
       rw [hfd]
      ·have hq : ¬ ftF g a=ftF g b:=by have:=of_decide_eq_false h7;omega
       simp
       refine ⟨p + 1,hlL (hlL g a) b,⟨by omega,M1,fun x hx=>by rw [same x hx];exact K2 x hx,fun x k h=>by rw [same x h.1,same k h.2.1];exact all x k h,fun h=>hq (Cn.root all h.2.2)⟩,by omega,hwp,rfl,rfl⟩
     ·simp [m1,hb,aI hrb,m2]
      exact ⟨p + 1,g,⟨by omega,K1,K2,all,fun h=>m2 h.2.1⟩,by omega,hwp,rfl,rfl⟩
    ·simp [m1]
     exact ⟨p + 1,g,⟨by omega,K1,K2,all,fun h=>m1 h.1⟩,by omega,hwp,rfl,rfl⟩
  ·have e3 : p=m.f.length:=by omega
   subst e3
   rw [<- hQl,List.take_length] at J4
   unfold spR
   rw [QN hO ha hb J4]
end Go.Gv

namespace Go.Gv
theorem Bm {m : Msh} (hv : au m=true) {h : Int} {x y : Nat} (hx : x < m.f.length) (hb : bsd m x (-1)=true) (h0 : suF m x <= h) (w : Cn (hR m h) x y) : spF m y <= h:=by
 induction w with
 | refl=>have:=(fW hv hx hb).1;omega
 | step _ r ih =>
  obtain ⟨r1,r2,r3,r4,c,hc,e⟩:=r
  obtain ⟨c',hc',e'⟩:=gT hv r1 hc (by omega)
  rw [e] at e'
  have:=uS hv r2 hc' (x:=_) (by simpa using e')
  omega
theorem qR {m : Msh} (hv : au m=true) : ∀ (d a : Nat),a < m.f.length -> iI m.f.length (aZ m).ou (b5 m).rc d a -> ∃ x,x < m.f.length /\ bsd m x (-1)=true /\ Way m (spF m a) a x
 | 0,a,ha,he=>by
  have e : ouF m a=-1:=he
  have hb : bsd m a (-1)=true:=by
   cases h : bsd m a (-1)
   ·obtain ⟨z,_,h2,_⟩:=fX hv ha h
    omega
   ·rfl
  have:=uR hv ha
  exact ⟨a,ha,hb,this,this,.refl _⟩
 | d + 1,a,ha,⟨b,hb,e1,_,e3⟩=>by
  have e : ouF m a=b:=e1
  obtain ⟨x,h1,h2,h3⟩:=qR hv d b hb e3
  have hnb : bsd m a (-1)=false:=by
   cases h : bsd m a (-1)
   ·rfl
   ·have:=(fW hv ha h).2
    omega
  obtain ⟨z,hz,h5,⟨c,hc,ec⟩,h6⟩:=fX hv ha hnb
  have : z=b:=by omega
  subst this
  have g1:=uR hv ha
  have g2:=uR hv hz
  have h3':=h3.mono (k:=spF m a) (by omega)
  exact ⟨x,h1,h2,g1,h3'.2.1,(Cn.step (.refl _) ⟨ha,hz,g1,by omega,c,hc,ec⟩).trans h3'.2.2⟩
noncomputable def leT (m : Msh) (a : Nat) : Nat -> Int
 | 0=>1152921504606846976
 | k + 1=>if bsd m k (-1)=true then (match cp m a k with
  | some s=>min (leT m a k) s
  | none=>leT m a k) else leT m a k
theorem pP {m : Msh} (hv : au m=true) {a : Nat} (ha : a < m.f.length) : ∀ k,k <= m.f.length -> spF m a <= leT m a k
 | 0,_=>by have:=uQ hv ha;simp only [leT];omega
 | k + 1,hk=>by
  have ih:=pP hv ha k (by omega)
  unfold leT
  split
  ·rename_i hb
   rcases eI (b:=k) ha with ⟨i,_,h1,h2⟩ | ⟨h1,_⟩
   ·rw [h1]
    have:=Bm hv (show k < m.f.length by omega) hb h2.1.2.1 (h2.1.symm hv).2.2
    simp only
    omega
   ·rw [h1];exact ih
  ·exact ih
theorem tQ {m : Msh} {a x : Nat} {s : Int} (hb : bsd m x (-1)=true) (hs : cp m a x=some s) : ∀ k,x < k -> leT m a k <= s
 | 0,h=>by omega
 | k + 1,h=>by
  by_cases e : x=k
  ·subst e
   unfold leT
   rw [if_pos hb,hs]
   simp only
   omega
  ·have ih:=tQ hb hs k (by omega)
   unfold leT
   split
   ·cases cp m a k with
    | some t=>simp only;omega
    | none=>exact ih
   ·exact ih
theorem v8 {m : Msh} (hv : au m=true) {a : Nat} (ha : a < m.f.length) : leT m a m.f.length=spF m a:=by
 refine Int.le_antisymm ?_ (pP hv ha _ (Nat.le_refl _))
 obtain ⟨d,_,he⟩:=iN hv ha
 obtain ⟨x,hx,hb,w⟩:=qR hv d a ha he
 obtain ⟨i,h1,h2,h3⟩:=Lst.of_way ha w
 exact Int.le_trans (tQ hb (d5 h2) _ hx) h3
theorem tP {m : Msh} (hv : au m=true) {a : Nat} (ha : a < m.f.length) : ∀ k,k <= m.f.length -> -12582912 <= leT m a k /\ leT m a k <= 1152921504606846976
 | 0,_=>by simp only [leT];omega
 | k + 1,hk=>by
  have ih:=tP hv ha k (by omega)
  have:=pP hv ha (k + 1) hk
  have:=uQ hv ha
  refine ⟨by omega,?_⟩
  unfold leT
  split
  ·cases cp m a k with
   | some t=>simp only;omega
   | none=>exact ih.2
  ·exact ih.2
noncomputable def spV (m : Msh) (a b : Nat) : Int:=(cp m a b).getD 0
noncomputable def spE (m : Msh) (a b : Nat) : Int:=if (cp m a b).isSome then 0 else 12
theorem Bk (m : Msh) (a b : Nat) : spR m a b=.tup [.int .i64 (spV m a b),.int .i64 (spE m a b)]:=by
 unfold spR spV spE
 cases cp m a b <;> rfl
theorem Bl {m : Msh} {a b c : Nat} (ha : a < m.f.length) (hb : b < m.f.length) (h1 : spE m a b=0) (h2 : spE m b c=0) : spE m a c=0 /\ spV m a c <= max (spV m a b) (spV m b c):=by
 unfold spE spV at *
 rcases eI (b:=b) ha with ⟨i,_,e1,l1⟩ | ⟨e1,_⟩
 ·rcases eI (b:=c) hb with ⟨j,_,e2,l2⟩ | ⟨e2,_⟩
  ·have w:=l1.1.trans l2.1
   obtain ⟨k,_,l3,h3⟩:=Lst.of_way ha w
   rw [e1,e2,d5 l3]
   exact ⟨rfl,h3⟩
  ·rw [e2] at h2;cases h2
 ·rw [e1] at h1;cases h1
theorem j7 (m : Msh) (a b : Nat) : spE m a b=0 \/ spE m a b=12:=by
 unfold spE
 split
 ·exact .inl rfl
 ·exact .inr rfl
theorem uT {i : Int} {n : Nat} (hi : 0 <= i) (hn : 0 < n) : ∃ a : Nat,a < n /\ i.tmod (n : Int)=a:=by
 have h1:=Int.emod_nonneg i (show (n : Int) ≠ 0 by omega)
 have h2:=Int.emod_lt_of_pos i (show (0 : Int) < n by omega)
 rw [Int.tmod_eq_emod_of_nonneg hi]
 exact ⟨(i % n).toNat,by omega,by omega⟩
variable {C : CC} (hC : az prog C)
include hC
set_option maxHeartbeats 4000000 in
set_option maxRecDepth 8000 in
theorem li (hS : yS C) (dec : Nat -> List UInt8) (hI : ∀ n : Nat,n < 100 -> C 127 [.int .i64 n] (.str (dec n)) []) (m : Msh) (i : Int) (hi : 0 <= i /\ i <= 255) (k : Int) (hk : 0 <= k /\ k <= 255) (l : Int) (hl : 0 <= l /\ l <= 255) :
  C 841 [.agg (ci m),.int .u8 i,.int .u8 k,.int .u8 l] (.bool true) []:=by
 have ka:=rf hC dec hI
 have kl:=rL hC m
 simp only [ai] at kl
 have wi : IntKind.wrap .i64 i=i:=am rfl (by omega)
 have wk : IntKind.wrap .i64 k=k:=am rfl (by omega)
 have wl : IntKind.wrap .i64 l=l:=am rfl (by omega)
 refine bp hC (nf:=N841) rfl rfl ?_
 simp [N841,ai]
 refine ae ka (.inl rfl) ?_
 simp
 refine ae kl (.inl rfl) ?_
 simp
 refine av (fun g1=>?_) (fun g1=>?_)
 ·simp
 ·simp at g1
  have hz : cY m=true -> m.s.length <= 100 /\ m.f.length <= 100:=fun _=>by omega
  by_cases hn : m.f.length=0
  ·simp [hn]
  ·simp [hn,wi,wk,wl]
   have hn0 : 0 < m.f.length:=by omega
   obtain ⟨a,ha,ea⟩:=uT hi.1 hn0
   obtain ⟨b,hb,eb⟩:=uT hk.1 hn0
   obtain ⟨c,hc,ec⟩:=uT hl.1 hn0
   rw [ea,eb,ec]
   have ks:=fun x y=>vi hC hS dec hI m hz x y
   have k1:=eE hC dec hI m hz
   have k2:=sB hC dec hI m hz
   simp only [ai] at ks k1 k2
   refine ⟨aV (by decide +kernel),?_⟩
   cases hv : au m
   ·simp [hv] at ks k1 k2 ⊢
    refine ae (ks _ _) (.inl rfl) ?_
    simp
    refine ae (ks _ _) (.inl rfl) ?_
    simp
    refine ae (ks _ _) (.inl rfl) ?_
    simp
    refine ae (ks _ _) (.inl rfl) ?_
    simp
    refine ae k1 (.inr rfl) ?_
    simp
    refine ae k2 (.inr rfl) ?_
    simp
   ·simp only [hv,if_true] at ks k1 k2
    have kS : ∀ x y : Nat,x < m.f.length -> y < m.f.length -> C 845 [.agg [slx m.sn (List.map ju m.s),slx m.fn (List.map cE m.f)],.int .i64 x,.int .i64 y] (.tup [.int .i64 (spV m x y),.int .i64 (spE m x y)]) []:=fun x y hx hy=>by
     have:=ks x y
     rw [if_pos ⟨⟨by omega,by omega⟩,by omega,by omega⟩] at this
     simp only [Int.toNat_natCast,Bk] at this
     exact this
    have sy1 : spV m b a=spV m a b:=by unfold spV;rw [kK hv ha]
    have sy2 : spE m b a=spE m a b:=by unfold spE;rw [kK hv ha]
    refine ae (kS a b ha hb) (.inl rfl) ?_
    simp
    refine ae (kS b a hb ha) (.inl rfl) ?_
    rw [sy1,sy2]
    simp
    refine ae (kS b c hb hc) (.inl rfl) ?_
    simp
    refine ae (kS a c ha hc) (.inl rfl) ?_
    have tri:=Bl (c:=c) ha hb
    obtain ⟨u,hu⟩ : ∃ u,u=spV m a b:=⟨_,rfl⟩
    obtain ⟨v,hvv⟩ : ∃ v,v=spV m b c:=⟨_,rfl⟩
    obtain ⟨w,hw⟩ : ∃ w,w=spV m a c:=⟨_,rfl⟩
    have t1:=j7 m a b
    have t2:=j7 m b c
    have t3:=j7 m a c
    obtain ⟨e,he⟩ : ∃ e,e=spE m a b:=⟨_,rfl⟩
    obtain ⟨f,hf⟩ : ∃ e,e=spE m b c:=⟨_,rfl⟩
    obtain ⟨g,hg⟩ : ∃ e,e=spE m a c:=⟨_,rfl⟩
    rw [<- hu,<- hvv,<- hw,<- he,<- hf,<- hg] at tri
    rw [<- he] at t1
    rw [<- hf] at t2
    rw [<- hg] at t3
    rw [<- hu,<- hvv,<- hw,<- he,<- hf,<- hg]
    have tl : e=0 -> f=0 -> g=0 /\ ¬ (if u < v then v else u) < w:=fun h1 h2=>by
     obtain ⟨h3,h4⟩:=tri h1 h2
     exact ⟨h3,by split <;> omega⟩
    simp
    have W:=ii m
    have hend:=v8 hv ha
    have lbd:=tP hv ha
    clear he hf hg hu hvv hw tri
    rcases t1 with e0 | e0 <;> rcases t2 with f0 | f0
    case' inl.inl =>
     obtain ⟨g0,hlt⟩:=tl e0 f0
     simp [e0,f0,g0,hlt]
    case' inl.inr=>simp [e0,f0]
    case' inr.inl=>simp [e0,f0]
    case' inr.inr=>simp [e0,f0]
    all_goals
     refine ae k1 (.inr rfl) ?_
     simp
     refine ae k2 (.inr rfl) ?_
     simp [W.sp]
     refine aE Nat (fun k=>[(4,.ptr [slx m.sn (List.map ju m.s),slx m.fn (List.map cE m.f)]),(10,.int .i64 a),(21,.sl (nbA m)),(23,.sl (inR (aZ m).sp)),(25,.int .i64 (leT m a k)),(137,.int .i64 m.f.length),(138,.int .i64 k)])
      (fun k=>k <= m.f.length) (fun k=>m.f.length - k) 0 (by simp) (by simp [leT]) ?_
     rintro q hq
     have hwq : IntKind.wrap .i64 ((q : Int) + 1)=((q + 1 : Nat) : Int):=am (by omega) (by omega)
     simp
     refine av (fun g4=>?_) (fun g4=>?_) <;> simp at g4 <;> simp [g4]
     ·have hnx : leT m a (q + 1)=if bsd m q (-1)=true then (match cp m a q with
       | some s=>min (leT m a q) s
       | none=>leT m a q) else leT m a q:=rfl
      simp [aK (jg g4)]
      refine ae (sT hC m q) (.inl rfl) ?_
      cases hb9 : bsd m q (-1)
      ·rw [hb9,if_neg (by decide)] at hnx
       simp
       exact ⟨q + 1,by omega,by omega,hnx.symm,hwq⟩
      ·rw [hb9,if_pos rfl] at hnx
       simp
       refine ae (kS a q ha g4) (.inl rfl) ?_
       cases hs9 : cp m a q with
       | none =>
        have e9 : spE m a q=12:=by unfold spE;rw [hs9];rfl
        rw [hs9] at hnx
        simp [e9]
        exact ⟨q + 1,by omega,by omega,hnx.symm,hwq⟩
       | some s =>
        have e9 : spE m a q=0:=by unfold spE;rw [hs9];rfl
        have e8 : spV m a q=s:=by unfold spV;rw [hs9];rfl
        rw [hs9] at hnx
        simp only at hnx
        have hmn : (if s < leT m a q then s else leT m a q)=leT m a (q + 1):=by rw [hnx];split <;> omega
        simp [e9,e8]
        refine ⟨q + 1,by omega,by omega,?_,hwq⟩
        rw [<- hmn]
     ·have e5 : q=m.f.length:=by omega
      subst e5
      rw [hend]
      simp [aK (z6 ha)]
end Go.Gv
