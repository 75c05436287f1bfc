/-
  Texts of the proof: I3, I1, I2, I4, H13, H14, H15, I5, I6, L10, L11, J29, L12, L15, L16, L19, RF1, SF1, PF5, SF2, RF2, PT1, PT2, PT3, PT5, PT6, LF1.
-/
import Derived.Test.YtelkdhkalifeiaaDoorX8
set_option linter.all false
namespace Go.Gv
theorem tx {f : Fce} {a b : Int} {k : Nat} (hk : k < 3) (h1 : crn f k=a) (h2 : crn f (k + 1)=b) : bU f a b=true:=by
 simp only [bU,List.any_eq_true,List.mem_range,Bool.and_eq_true,decide_eq_true_eq]
 exact ⟨k,hk,h1,h2⟩
theorem tz {f : Fce} {a b : Int} (h : ∀ k,k < 3 -> ¬ (crn f k=a /\ crn f (k + 1)=b)) : bU f a b=false:=by
 simp only [bU,List.any_eq_false,List.mem_range,Bool.and_eq_true,decide_eq_true_eq]
 exact h
theorem uu {m : Msh} {a b : Int} {i : Nat} (hi : i < m.f.length) (hj : ∀ j,j < i -> bU (fce m j) a b=false) (h : bU (fce m i) a b=true) : gZ m a b=i:=by
 refine dR (fun j hl hji=>?_) hi ?_
 ·rw [iY];exact hj j hji
 ·rw [iY];exact h
theorem uv {m : Msh} {a b : Int} (hj : ∀ j,j < m.f.length -> bU (fce m j) a b=false) : gZ m a b=-1:=by
 refine fJ (fun j hl=>?_)
 rw [iY];exact hj j hl
def qd (m : Msh) (a b : Int) : Int:=if gZ m a b < 0 then 0 else gM (fun j=>decide (crn (fce m (gZ m a b).toNat) j=a) && decide (crn (fce m (gZ m a b).toNat) (j + 1)=b)) (List.range 3)
theorem wC {m : Msh} {a b : Int} (h : gZ m a b=-1) : qd m a b=0:=by rw [qd,if_pos (by omega)]
theorem wB {m : Msh} {a b : Int} {i k : Nat} (h : gZ m a b=i) (hk : k < 3) (hj : ∀ j,j < k -> ¬ (crn (fce m i) j=a /\ crn (fce m i) (j + 1)=b)) (h1 : crn (fce m i) k=a) (h2 : crn (fce m i) (k + 1)=b) : qd m a b=k:=by
 rw [qd,if_neg (by omega),h]
 refine dR (fun j hl hjk=>?_) (by simp;omega) ?_
 ·have:=hj j hjk
  simp only [Int.toNat_natCast,List.getElem_range,Bool.and_eq_false_iff,decide_eq_false_iff_not]
  omega
 ·simp [h1,h2]
def acK (m : Msh) (i k : Nat) : Int:=qd m (crn (fce m i) (k + 1)) (crn (fce m i) k)
def nbT (m : Msh) (i : Nat) : List (List D):=(List.range i).map fun j=>[.int .i64 (nbF m j 0),.int .i64 (nbF m j 1),.int .i64 (nbF m j 2)]
@[simp] theorem Om (m : Msh) (i : Nat) : (nbT m i).length=i:=by simp [nbT]
theorem v7 (m : Msh) (i : Nat) : nbT m i++[[.int .i64 (nbF m i 0),.int .i64 (nbF m i 1),.int .i64 (nbF m i 2)]]=nbT m (i + 1):=by simp [nbT,List.range_succ]
@[simp] theorem IJ (m : Msh) (i : Nat) : List.take i (nbT m i)=nbT m i:=List.take_of_length_le (by simp)
@[simp] theorem Qx (m : Msh) (i : Nat) : List.map (fun e=>List.map a6 e) (nbT m i)=nbT m i:=by simp [nbT]
variable {C : CC} (hC : aI prog C)
include hC
set_option maxHeartbeats 2000000 in
theorem wh (m : Msh) (hm : m.f.length <= 100) (a b : Int) : C 322 [.agg (bk m),.int .i64 a,.int .i64 b] (.tup [.int .i64 (gZ m a b),.int .i64 (qd m a b)]) []:=by
 have kr:=fun i k h=>fN hC (fce m i) k h
 refine aT hC (nf:=N322) rfl rfl ?_
 simp only [aD] at kr
 simp [N322,ae]
 refine ay Nat (fun i=>[(1,.int .i64 a),(2,.int .i64 b),(3,.ptr (bk m)),(8,.int .i64 i)]) (fun i=>i <= m.f.length /\ ∀ j,j < i -> bU (fce m j) a b=false) (fun i=>m.f.length - i) 0 (by simp) (by simp [ae]) ?_
 rintro i ⟨hi,hj⟩
 simp [ae]
 refine am (fun g1=>?_) (fun g1=>?_) <;> simp at g1 <;> simp [g1]
 ·have hw : IntKind.wrap .i64 ((i : Int) + 1)=((i + 1 : Nat) : Int):=aj (by omega) (by omega)
  refine ay Nat (fun k=>[(1,.int .i64 a),(2,.int .i64 b),(3,.ptr (bk m)),(8,.int .i64 i),(9,.int .i64 k)]) (fun k=>k <= 3 /\ ∀ j,j < k -> ¬ (crn (fce m i) j=a /\ crn (fce m i) (j + 1)=b)) (fun k=>3 - k) 0 (by simp) (by simp [ae]) ?_
  rintro k ⟨hk,hn⟩
  simp [ae]
  refine am (fun g2=>?_) (fun g2=>?_) <;> simp at g2 <;> simp [g2]
  ·have hw2 : IntKind.wrap .i64 ((k : Int) + 1)=((k + 1 : Nat) : Int):=aj (by omega) (by omega)
   simp [g1,aD]
   refine aa (kr i k (by omega)) (.inl rfl) ?_
   simp
   refine am (fun c1=>?_) (fun c1=>?_) <;> simp at c1
   ·simp [c1,g1,hw2,aD]
    refine aa (kr i (k + 1) (by omega)) (.inl rfl) ?_
    simp
    refine am (fun c2=>?_) (fun c2=>?_) <;> simp at c2
    ·have hs:=uu g1 hj (tx (by omega) c1 c2)
     simp [c2]
     exact ⟨hs,wB hs (by omega) hn c1 c2⟩
    ·simp [c2]
     refine ⟨k + 1,⟨by omega,fun j hjk=>?_⟩,by omega,?_⟩
     ·rcases Nat.lt_succ_iff_lt_or_eq.1 hjk with h | rfl
      ·exact fun h3 h4=>hn j h ⟨h3,h4⟩
      ·exact fun _ h=>c2 h
     ·simp [ae,hw2]
   ·simp [c1]
    refine ⟨k + 1,⟨by omega,fun j hjk=>?_⟩,by omega,?_⟩
    ·rcases Nat.lt_succ_iff_lt_or_eq.1 hjk with h | rfl
     ·exact fun h3 h4=>hn j h ⟨h3,h4⟩
     ·exact fun h=>absurd h c1
    ·simp [ae,hw2]
  ·have hk3 : k=3:=by omega
   subst hk3
   refine ⟨i + 1,⟨by omega,fun j hji=>?_⟩,by omega,?_⟩
   ·rcases Nat.lt_succ_iff_lt_or_eq.1 hji with h | rfl
    ·exact hj j h
    ·exact tz hn
   ·simp [ae,hw]
 ·have hs:=uv (m:=m) (a:=a) (b:=b) (fun j hl=>hj j (by omega))
  exact ⟨hs,wC hs⟩
theorem rO (m : Msh) (hm : m.f.length <= 100) (i k : Nat) (hi : i < m.f.length) (hk : k < 3) : C 287 [.agg (bk m),.int .i64 i,.int .i64 k] (.tup [.int .i64 (nbF m i k),.int .i64 (acK m i k)]) []:=by
 have k1:=fN hC (fce m i) (k + 1) (by omega)
 have k2:=fN hC (fce m i) k (by omega)
 have k3:=wh hC m hm (crn (fce m i) (k + 1)) (crn (fce m i) k)
 rw [show gZ m (crn (fce m i) (k + 1)) (crn (fce m i) k)=nbF m i k from rfl,show qd m (crn (fce m i) (k + 1)) (crn (fce m i) k)=acK m i k from rfl] at k3
 have hw2 : IntKind.wrap .i64 ((k : Int) + 1)=((k + 1 : Nat) : Int):=aj (by omega) (by omega)
 refine aT hC (nf:=N287) rfl rfl ?_
 simp only [ae,aD] at k1 k2 k3
 simp [N287,ae,hi,aD,hw2]
 refine aa k1 (.inl rfl) ?_
 simp
 refine aa k2 (.inl rfl) ?_
 simp
 refine aa k3 (.inl rfl) ?_
 simp
 exact al (by decide +kernel)
set_option maxHeartbeats 2000000 in
theorem mi (m : Msh) (hm : m.f.length <= 100) : C 259 [.agg (bk m)] (.sl (nbA m)) []:=by
 have ka:=fun i k hi hk=>rO hC m hm i k hi hk
 refine aT hC (nf:=N259) rfl rfl ?_
 simp only [ae] at ka
 simp [N259,ae]
 refine ay Nat (fun i=>[(1,.ptr (bk m)),(3,.ref (.r 10048) 0 i),(10048,.blk 3 (nbT m i)),(4,.int .i64 i)]) (fun i=>i <= m.f.length) (fun i=>m.f.length - i) 0 (by simp) (by simp [ae,nbT]) ?_
 rintro i hi
 simp [ae]
 refine am (fun g1=>?_) (fun g1=>?_) <;> simp at g1 <;> simp [g1]
 ·have hw : IntKind.wrap .i64 ((i : Int) + 1)=((i + 1 : Nat) : Int):=aj (by omega) (by omega)
  have k0:=ka i 0 g1 (by omega)
  have k1:=ka i 1 g1 (by omega)
  have k2:=ka i 2 g1 (by omega)
  simp at k0 k1 k2
  refine aa k0 (.inl rfl) ?_
  simp
  refine aa k1 (.inl rfl) ?_
  simp
  refine aa k2 (.inl rfl) ?_
  simp
  refine ⟨by rintro c ((rfl | rfl) | rfl) <;> rfl,by omega,i + 1,by omega,by omega,by simp [ae],rfl,v7 m i,hw⟩
 ·have hi2 : i=m.f.length:=by omega
  subst hi2
  rfl
end Go.Gv

namespace Go.Gv
open Go.Lib
variable {C : CC} (hC : aI prog C)
include hC
def nmD (x : Nat) : D:=.agg [.int .u64 ((x / 18446744073709551616 : Nat) : Int),.int .u64 ((x % 18446744073709551616 : Nat) : Int),.bool false]
end Go.Gv

namespace Go.Gv
variable {C : CC} (hC : aI prog C)
include hC
theorem AU (m : Msh) (hv : aE m=true) (i : Nat) (hi : i < m.f.length) : C 296 [.agg (bk m),.int .i64 i] (.int .i64 (gm m i)) []:=by
 obtain ⟨⟨a1,a2⟩,⟨b1,b2⟩,⟨c1,c2⟩⟩:=jP (hD hv hi)
 obtain ⟨h1,h2,h3⟩:=yE hv hi
 have h1:=eE h1
 have h2:=eE h2
 have h3:=eE h3
 have wz1 : IntKind.wrap .i64 ((spA m i).z + (spB m i).z)=(spA m i).z + (spB m i).z:=aj rfl (by omega)
 have wz2 : IntKind.wrap .i64 ((spA m i).z + (spB m i).z + (spC m i).z)=gm m i:=aj rfl (by unfold gm;omega)
 refine aT hC (nf:=N296) rfl rfl ?_
 simp [N296,ae,hi,aD,a1,a2,b1,b2,c1,c2,b8,uJ,uK,uL,wz1,wz2]
 exact al (by decide +kernel)
end Go.Gv

namespace Go.Gv
def bdB (m : Msh) (i k : Nat) : Bool:=(List.range k).any fun c=>decide (nbF m i c < 0)
def ini (m : Msh) (i k : Nat) : Int:=if bdB m i k then -1 else -2
def qup (m : Msh) (i k : Nat) : Int:=if upF m i k < 0 then ini m i 3 else upF m i k
variable {C : CC} (hC : aI prog C)
include hC
end Go.Gv

namespace Go.Gv
def exM (z : Int) : Msh:=⟨false,[⟨0,0,0⟩,⟨30,0,z⟩,⟨30,30,9⟩,⟨0,30,0⟩],false,[⟨0,1,2,0⟩,⟨0,2,3,0⟩]⟩
variable {C : CC} (hC : aI prog C)
include hC
theorem mE (b b' : Bool) (xs ys : List Int) (hx : xs.length < 2 ^ 62) (hy : ys.length < 2 ^ 62) : C 19 [slx b (xs.map fun n=>[.int .i64 n]),slx b' (ys.map fun n=>[.int .i64 n])] (.bool (decide (xs=ys))) []:=by
 refine aT hC (nf:=N19) rfl rfl ?_
 simp [N19]
 refine am (fun h=>?_) (fun h=>?_) <;> simp at h <;> simp [h]
 ·rintro rfl;exact h rfl
 have h' : xs.length=ys.length:=by omega
 refine ay Nat (fun i=>[(0,slx b (xs.map fun n=>[.int .i64 n])),(1,slx b' (ys.map fun n=>[.int .i64 n])),(12,.int .i64 ys.length),(13,.int .i64 i)])
  (fun i=>i <= ys.length /\ ∀ k,k < i -> xs[k]? = ys[k]?) (fun i=>ys.length - i) 0 (by simp) (by simp) ?_
 rintro i ⟨hi,hok⟩
 simp
 refine am (fun h1=>?_) (fun h1=>?_) <;> simp at h1 <;> simp [h1]
 ·have hw : IntKind.wrap .i64 ((i : Int) + 1)=((i + 1 : Nat) : Int):=aj (by omega) (by omega)
  have hx1 : i < xs.length:=by omega
  simp [h1,hx1]
  refine ⟨al (by decide +kernel),?_⟩
  refine am (fun h2=>?_) (fun h2=>?_) <;> simp [h1,hx1] at h2 <;> simp [h1,hx1,h2,hw]
  ·rintro rfl
   exact h2 rfl
  ·refine ⟨i + 1,⟨by omega,fun k hk=>?_⟩,by omega,rfl⟩
   rcases Nat.lt_succ_iff_lt_or_eq.1 hk with h5 | rfl
   ·exact hok k h5
   ·rw [List.getElem?_eq_getElem h1,List.getElem?_eq_getElem hx1,h2]
 ·refine List.ext_getElem? fun k=>?_
  rcases Nat.lt_or_ge k i with h2 | h2
  ·exact hok k h2
  ·rw [List.getElem?_eq_none (by omega),List.getElem?_eq_none (by omega)]
end Go.Gv

namespace Go.Gv
variable {C : CC} (hC : aI prog C)
include hC
end Go.Gv

namespace Go.Gv
variable {C : CC} (hC : aI prog C)
include hC
end Go.Gv

namespace Go.Gv
def qfl (m : Msh) (i : Nat) : List Int:=(List.range i).map fun j=>rT m j
@[simp] theorem Jv (m : Msh) (i : Nat) : List.take i (inR (qfl m i))=inR (qfl m i):=List.take_of_length_le (by simp [qfl])
@[simp] theorem O2 (m : Msh) (i : Nat) : (qfl m i).length=i:=by simp [qfl]
variable {C : CC} (hC : aI prog C)
include hC
end Go.Gv

namespace Go.Gv
def Qo (m : Msh) : Bool:=(decide ((80 : Int) < (m.s.length : Int)) && decide ((m.s.length : Int) <= 2000)) || (decide ((80 : Int) < (m.f.length : Int)) && decide ((m.f.length : Int) <= 4000)) || decide ((2010 : Int) < (m.s.length : Int)) || decide ((4010 : Int) < (m.f.length : Int))
variable {C : CC} (hC : aI prog C)
include hC
end Go.Gv

namespace Go.Gv
def xc (f : Nat -> Int) : Nat -> Int
 | 0=>0
 | n + 1=>xc f n + f n
def ze (l : List Int) (x : Nat) : Int:=((l.filter fun y=>decide (y=(x : Int))).length : Int)
def twF (m : Msh) (i : Nat) : Int:=jv (aQ m (fce m i))
def Gd (m : Msh) (x : Nat) : Int:=xc (fun j=>twF m j * ze (yz m (j : Int)) x) m.f.length
def Q6 (m : Msh) : Int:=xc (twF m) m.f.length
end Go.Gv

namespace Go.Gv
def Iy (f : Nat -> Int) : List Nat -> Int
 | []=>0
 | x::r=>f x + Iy f r
def giv (m : Msh) (x y : Nat) : Int:=if rT m y=(x : Int) then Gd m y else 0
def Ph (m : Msh) (P : List Nat) (x : Nat) : Int:=twF m x + Iy (giv m x) P
structure Ord (m : Msh) (P : List Nat) : Prop where
 perm : P.Perm (List.range m.f.length)
 srt : P.Pairwise fun a b=>gm m b <= gm m a
theorem Ord.len {m : Msh} {P : List Nat} (h : Ord m P) : P.length=m.f.length:=by
 have:=h.perm.length_eq
 simpa using this
theorem Ord.lt {m : Msh} {P : List Nat} (h : Ord m P) {p : Nat} (hp : p < P.length) : P[p] < m.f.length:=by
 have:=h.perm.mem_iff.1 (List.getElem_mem hp)
 simpa using this
def ID (l : List Nat) : List (List D):=l.map fun (i : Nat)=>[D.int .i64 ((i : Nat) : Int)]
def acR (m : Msh) (P : List Nat) : List Int:=(List.range m.f.length).map (Ph m P)
def Q1 (m : Msh) : List Int:=(List.range m.f.length).map (Gd m)
def QF (m : Msh) (i : Nat) (l : List Int) (x : Nat) : Int:=xc (fun j=>twF m j * ze (yz m (j : Int)) x) i + twF m i * ze l x
def Q4 (m : Msh) (i : Nat) (l : List Int) : List Int:=(List.range m.f.length).map (QF m i l)
end Go.Gv

set_option maxRecDepth 4000
namespace Go.Gv
def mvS (x y z : Int) (s : Spt) : Spt:=⟨s.x + x,s.y + y,s.z + z⟩
def mvM (m : Msh) (x y z : Int) : Msh:=⟨false,m.s.map (mvS x y z),false,m.f⟩
def Qy (n : Int) : Bool:=decide (n < -67108864) || decide (67108864 < n)
def mvE (m : Msh) (x y z : Int) : Int:=if aE m=true then (if ([x,y,z].any Qy)=true then 5 else if (m.s.all fun s=>aU (mvS x y z s))=true then 0 else 5) else 1
def Qv (x y z : Int) (ss : List Spt) (i : Nat) : List Spt:=(ss.take i).map (mvS x y z)++ss.drop i
def mvR (x y z : Int) (ss : List Spt) (i : Nat) : List (List D):=(Qv x y z ss i).map eW
variable {C : CC} (hC : aI prog C)
include hC
end Go.Gv

namespace Go.Gv
def trP (x y : Int) (p : Pnt) : Pnt:=(p.1 + x,p.2 + y)
def trT (x y : Int) (t : Tri) : Tri:=(trP x y t.1,trP x y t.2.1,trP x y t.2.2)
section
variable {m : Msh} {x y z : Int} (hv : aE m=true) (hr : ∀ i,i < m.s.length -> aU (mvS x y z (spt m i))=true)
include hv hr
omit hr
omit hv in
end
end Go.Gv

set_option maxRecDepth 4000
namespace Go.Gv
def upT (f : Nat -> Int) (n i : Nat) : List Int:=(List.range n).map fun j=>if j < i then f j else 0
def Q0 (C : CC) : Prop:=∀ (m : Msh) (cs : List D),m.f.length < 2 ^ 62 -> (∀ a b : Nat,a < m.f.length -> b < m.f.length -> C 375 (.int .i64 a::.int .i64 b::cs) (.int .i64 (gm m b - gm m a)) []) -> ∃ Q,Ord m Q /\ C 374 [.own 1 (ID (List.range m.f.length)),.fn 375 cs] .any [.own 1 (ID Q),.nilp]
variable {C : CC} (hC : aI prog C)
include hC
end Go.Gv

set_option maxRecDepth 4000
namespace Go.Gv
variable {C : CC} (hC : aI prog C)
include hC
end Go.Gv

set_option maxRecDepth 4000
namespace Go.Gv
variable {C : CC} (hC : aI prog C)
include hC
theorem wi (m : Msh) (hv : aE m=true) (hm : m.f.length <= 100) : C 281 [.agg (bk m)] (.sl (inR (bA m))) []:=by
 refine aT hC (nf:=N281) rfl rfl ?_
 simp [N281,ae]
 refine ay Nat (fun i=>[(1,.ptr (bk m)),(3,.ref (.r 10048) 0 i),(4,.int .i64 i),(10048,.blk 1 (smR m i))]) (fun i=>i <= m.f.length) (fun i=>m.f.length - i) 0 (by simp) (by simp [ae,smR]) ?_
 intro i hi
 simp [ae]
 refine am (fun h=>?_) (fun h=>?_) <;> simp at h
 ·have hw : IntKind.wrap .i64 ((i : Int) + 1)=((i + 1 : Nat) : Int):=aj (by omega) (by omega)
  have k1:=AU hC m hv i h
  have ha:=qE m i
  simp only [ae] at k1
  simp [h]
  refine aa k1 (.inl rfl) ?_
  simp [hw]
  exact ⟨by omega,i + 1,by omega,by omega,by simp [ae],by omega,by omega,ha⟩
 ·have ei : i=m.f.length:=by omega
  subst ei
  have e:=yD m
  have hl : (inR (bA m)).length=m.f.length:=by simp [bA]
  simp [h,e]
  first | exact ⟨by simp [bA],List.take_of_length_le (by omega)⟩ | exact List.take_of_length_le (by omega) | exact List.take_of_length_le (by simp [bA])
end Go.Gv

namespace Go.Gv
structure RFW (m : Msh) (r : RF) : Prop where
 rc : r.rc.length=m.f.length
 lf : r.lf.length=m.f.length
 lv : r.lv.length=m.f.length
 ou : r.ou.length=m.f.length
theorem RFW.p1 {m : Msh} {i : Nat} {r : RF} {k : Int} (h : RFW m r) : RFW m (gl m i r k):=by
 unfold gl
 split
 ·exact ⟨by simp [h.rc],h.lf,by simp [h.lv],by simp [h.ou]⟩
 ·exact h
theorem RFW.i {m : Msh} {i : Nat} {r : RF} (h : RFW m r) : ∀ j,RFW m (rfI m i r j)
 | 0=>h
 | j + 1=>(RFW.i h j).p1
section
variable {C : Nat -> List D -> D -> List D -> Prop} (hC : aI prog C)
include hC
theorem rP (m : Msh) (i : Nat) : C 282 [.agg [.int .i64 (nbF m i 0),.int .i64 (nbF m i 1),.int .i64 (nbF m i 2)]] (.bool (bsd m i (-1))) []:=by
 have b0:=dS m i 0
 have b1:=dS m i 1
 have b2:=dS m i 2
 refine aT hC (nf:=N282) rfl rfl ?_
 simp [N282]
 refine am (fun g1=>?_) (fun g1=>?_) <;> simp at g1
 ·simp [g1,bsd,show (-1 : Int)=nbF m i 0 by omega]
  done
 ·simp [Int.not_lt.2 g1]
  refine am (fun g2=>?_) (fun g2=>?_) <;> simp at g2
  ·simp [g2,bsd]
   exact .inr (.inl (by omega))
  ·simp [Int.not_lt.2 g2,bsd]
   rw [Bool.eq_iff_iff]
   simp
   omega
theorem pX (a b : Int) : C 283 [.int .i64 a,.int .i64 b] (.int .i64 (if b < a then a else b)) []:=by
 refine aT hC (nf:=N283) rfl rfl ?_
 simp [N283]
 refine am (fun g1=>?_) (fun g1=>?_) <;> simp at g1
 ·simp [g1]
 ·simp [Int.not_lt.2 g1]
set_option maxRecDepth 8000 in
set_option maxHeartbeats 2000000 in
theorem oM (m : Msh) (hv : aE m=true) (hm : m.f.length <= 100) : C 246 [.agg (bk m)] (.tup [.sl (inR (b4 m).lv),.sl (inR (b4 m).ou)]) []:=by
 have k1:=mi hC m hm
 have k2:=wi hC m hv hm
 simp only [ae] at k1 k2
 refine aT hC (nf:=N246) rfl rfl ?_
 simp [N246,ae]
 refine aa k1 (.inr rfl) ?_
 simp
 refine aa k2 (.inr rfl) ?_
 simp
 refine ⟨al (by decide +kernel),by omega,al (by decide +kernel),by omega,al (by decide +kernel),?_⟩
 have r7 : List.replicate m.f.length [D.bool false]=rcR (rf0 m 0).1:=by simp [rf0,rcR]
 have r8 : List.replicate m.f.length [D.bool false]=rcR (List.replicate m.f.length false):=by simp [rcR]
 have r9 : List.replicate m.f.length [D.int .i64 0]=inR (rf0 m 0).2:=by simp [rf0,inR]
 have r10 : List.replicate m.f.length [D.int .i64 0]=inR (List.replicate 0 (-1)++List.replicate (m.f.length - 0) 0):=by simp [inR]
 refine ay Nat (fun i=>[(4,.sl (nbA m)),(5,.sl (inR (bA m))),(6,.int .i64 m.f.length),(7,.ref (.r 10112) 0 m.f.length),(8,.ref (.r 10128) 0 m.f.length),(9,.ref (.r 10144) 0 m.f.length),(10,.ref (.r 10160) 0 m.f.length),(11,.int .i64 i),
  (10112,.blk 1 (rcR (rf0 m i).1)),(10128,.blk 1 (rcR (List.replicate m.f.length false))),(10144,.blk 1 (inR (rf0 m i).2)),(10160,.blk 1 (inR (List.replicate i (-1)++List.replicate (m.f.length - i) 0)))]) (fun i=>i <= m.f.length) (fun i=>m.f.length - i) 0 (by simp) (by simp [rf0,rcR,inR]) ?_
 rintro i hi
 obtain ⟨l1,l2⟩:=f8 m i
 have hw : IntKind.wrap .i64 ((i : Int) + 1)=((i + 1 : Nat) : Int):=aj (by omega) (by omega)
 have hlo : (List.replicate i (-1 : Int)++List.replicate (m.f.length - i) 0).length=m.f.length:=by simp;omega
 obtain ⟨oi,hoi⟩ : ∃ oi,oi=List.replicate i (-1 : Int)++List.replicate (m.f.length - i) 0:=⟨_,rfl⟩
 rw [<- hoi] at hlo ⊢
 simp
 refine am (fun g1=>?_) (fun g1=>?_) <;> simp at g1 <;> simp [g1]
 ·have hio : i < oi.length:=by omega
  have hir : i < (rf0 m i).1.length:=by omega
  have hil : i < (rf0 m i).2.length:=by omega
  have his : i < (bA m).length:=by simpa using g1
  have ho2 : oi.set i (-1)=List.replicate (i + 1) (-1 : Int)++List.replicate (m.f.length - (i + 1)) 0:=by
   rw [hoi]
   apply List.ext_getElem (by simp;omega)
   intro j h1 h2
   simp only [List.getElem_set,List.getElem_append,List.length_replicate,List.getElem_replicate]
   split <;> split <;> (try split) <;> omega
  simp [bO hio,jO,aN (ja g1)]
  refine aa (rP hC m i) (.inl rfl) ?_
  simp
  have e0 : rf0 m (i + 1)=if bsd m i (-1) then ((rf0 m i).1.set i true,(rf0 m i).2.set i ((bA m).getD i 0)) else rf0 m i:=rfl
  refine am (fun g2=>?_) (fun g2=>?_)
  ·rw [if_pos g2] at e0
   simp [g2,aN (bO his),dY hir,bO hil,jk,jO]
   exact ⟨by omega,i + 1,by omega,by omega,hw,by rw [e0],by rw [e0];rfl,by rw [ho2]⟩
  ·rw [if_neg (by simp [g2])] at e0
   simp [g2]
   exact ⟨i + 1,by omega,by omega,hw,by rw [e0],by rw [e0],by rw [ho2]⟩
 ·have hin : i=m.f.length:=by omega
  subst hin
  have hoe : oi=List.replicate m.f.length (-1):=by rw [hoi];simp
  have W0 : RFW m (de m):=⟨l1,by simp [de],l2,by simp [de]⟩
  refine ay (RF × Nat) (fun s=>[(4,.sl (nbA m)),(5,.sl (inR (bA m))),(6,.int .i64 m.f.length),(7,.ref (.r 10112) 0 m.f.length),(8,.ref (.r 10128) 0 m.f.length),(9,.ref (.r 10144) 0 m.f.length),(10,.ref (.r 10160) 0 m.f.length),
   (10112,.blk 1 (rcR s.1.rc)),(10128,.blk 1 (rcR s.1.lf)),(10144,.blk 1 (inR s.1.lv)),(10160,.blk 1 (inR s.1.ou))]) (fun s=>RFW m s.1 /\ s.1=rfN m s.2 (de m) /\ s.2 + s.1.lf.count false <= m.f.length) (fun s=>s.1.lf.count false) (de m,0) ⟨W0,rfl,by simp [de]⟩ (by simp [de,hoe]) ?_
  rintro ⟨r,k⟩ ⟨W,hs,hk⟩
  simp only at W hs hk
  simp
  refine ay Nat (fun j=>[(4,.sl (nbA m)),(5,.sl (inR (bA m))),(6,.int .i64 m.f.length),(7,.ref (.r 10112) 0 m.f.length),(8,.ref (.r 10128) 0 m.f.length),(9,.ref (.r 10144) 0 m.f.length),(10,.ref (.r 10160) 0 m.f.length),(12,.int .i64 (rat r j)),(13,.int .i64 j),
   (10112,.blk 1 (rcR r.rc)),(10128,.blk 1 (rcR r.lf)),(10144,.blk 1 (inR r.lv)),(10160,.blk 1 (inR r.ou))]) (fun j=>j <= m.f.length) (fun j=>m.f.length - j) 0 (by simp) (by simp [rat]) ?_
  rintro j hj
  have hwj : IntKind.wrap .i64 ((j : Int) + 1)=((j + 1 : Nat) : Int):=aj (by omega) (by omega)
  simp
  refine am (fun g2=>?_) (fun g2=>?_) <;> simp at g2 <;> simp [g2]
  ·have hjr : j < r.rc.length:=by rw [W.rc];exact g2
   have hjl : j < r.lf.length:=by rw [W.lf];exact g2
   have hjv : j < r.lv.length:=by rw [W.lv];exact g2
   have hr1 : rat r (j + 1)=if act r j=true /\ (rat r j < 0 \/ r.lv.getD j 0 < r.lv.getD (rat r j).toNat 0) then (j : Int) else rat r j:=rfl
   simp [aH (dY hjr)]
   cases hrc : r.rc.getD j false
   ·have ha : act r j=false:=by simp only [act,hrc];rfl
    rw [if_neg (by simp [ha])] at hr1
    simp at hrc
    simp [hrc]
    exact ⟨al (by decide +kernel),j + 1,by omega,by omega,hr1.symm,hwj⟩
   ·cases hlf : r.lf.getD j false
    ·have ha : act r j=true:=by simp only [act,hrc,hlf];rfl
     simp at hrc hlf
     simp [hrc,hlf,aH (dY hjl)]
     refine ⟨g2,am (fun g3=>?_) (fun g3=>?_)⟩ <;> simp at g3
     ·rw [if_pos ⟨ha,.inl g3⟩] at hr1
      simp [g3]
      exact ⟨al (by decide +kernel),j + 1,by omega,by omega,hr1.symm,hwj⟩
     ·obtain ⟨a,hae,han⟩ : ∃ a : Nat,rat r j=a /\ a < m.f.length:=by
       rcases gT r j with ⟨h1,_⟩ | ⟨a,h1,h2,_⟩
       ·omega
       ·exact ⟨a,h1,by omega⟩
      have hav : a < r.lv.length:=by rw [W.lv];exact han
      rw [hae] at hr1 ⊢
      simp [aH (bO hjv),aH (bO hav),han,g2,show ¬ ((a : Int) < 0) by omega]
      refine ⟨al (by decide +kernel),am (fun g4=>?_) (fun g4=>?_)⟩ <;> simp at g4
      ·rw [if_pos ⟨ha,.inr (by simpa using g4)⟩] at hr1
       simp [g4]
       exact ⟨j + 1,by omega,by omega,hr1.symm,hwj⟩
      ·rw [if_neg (fun h=>by
        rcases h.2 with h | h
        ·omega
        ·simp at h;omega)] at hr1
       simp [Int.not_lt.2 g4]
       exact ⟨j + 1,by omega,by omega,hr1.symm,hwj⟩
    ·have ha : act r j=false:=by simp only [act,hrc,hlf];rfl
     rw [if_neg (by simp [ha])] at hr1
     simp at hrc hlf
     simp [hrc,hlf,aH (dY hjl)]
     exact ⟨g2,al (by decide +kernel),j + 1,by omega,by omega,hr1.symm,hwj⟩
  ·have hjn : j=m.f.length:=by omega
   subst hjn
   refine am (fun g3=>?_) (fun g3=>?_) <;> simp at g3
   ·have hfl : b4 m=r:=by
     unfold b4
     rw [show 3 * m.f.length=k + (3 * m.f.length - k) by omega,nK,<- hs]
     exact oT m g3 _
    have hlv:=eL r.lv
    have hou:=eL r.ou
    rw [W.lv] at hlv
    rw [W.ou] at hou
    simp [g3]
    refine ⟨⟨by rw [W.lv];omega,by rw [W.ou];omega⟩,?_,?_⟩
    ·rw [hfl,hlv]
    ·rw [hfl,hou]
   ·obtain ⟨a,hae,han,haa⟩ : ∃ a : Nat,rat r m.f.length=a /\ a < m.f.length /\ act r a=true:=by
     rcases gT r m.f.length with ⟨h1,_⟩ | ⟨a,h1,h2,h3,_⟩
     ·omega
     ·exact ⟨a,h1,by omega,h3⟩
    have hst : dT m r=rfI m a { r with lf:=r.lf.set a true } 3:=by
     unfold dT
     rw [if_neg (by omega),hae]
     rfl
    have hal : a < r.lf.length:=by rw [W.lf];exact han
    obtain ⟨r1,hr1⟩ : ∃ r1 : RF,r1={ r with lf:=r.lf.set a true }:=⟨_,rfl⟩
    rw [<- hr1] at hst
    have W1 : RFW m r1:=by rw [hr1];exact ⟨W.rc,by simp [W.lf],W.lv,W.ou⟩
    rw [hae]
    simp [han,dY hal,jk,show ¬ ((a : Int) < 0) by omega]
    have e1 : r1.rc=r.rc:=by rw [hr1]
    have e2 : r1.lf=r.lf.set a true:=by rw [hr1]
    have e3 : r1.lv=r.lv:=by rw [hr1]
    have e4 : r1.ou=r.ou:=by rw [hr1]
    rw [<- e1,<- e2,<- e3,<- e4]
    refine ay Nat (fun c=>[(4,.sl (nbA m)),(5,.sl (inR (bA m))),(6,.int .i64 m.f.length),(7,.ref (.r 10112) 0 m.f.length),(8,.ref (.r 10128) 0 m.f.length),(9,.ref (.r 10144) 0 m.f.length),(10,.ref (.r 10160) 0 m.f.length),(12,.int .i64 a),(14,.int .i64 c),
     (10112,.blk 1 (rcR (rfI m a r1 c).rc)),(10128,.blk 1 (rcR (rfI m a r1 c).lf)),(10144,.blk 1 (inR (rfI m a r1 c).lv)),(10160,.blk 1 (inR (rfI m a r1 c).ou))]) (fun c=>c <= 3) (fun c=>3 - c) 0 (by simp) (by simp [rfI]) ?_
    rintro c hc
    have Wc:=W1.i (i:=a) c
    obtain ⟨t,ht⟩ : ∃ t,t=rfI m a r1 c:=⟨_,rfl⟩
    have hnx : rfI m a r1 (c + 1)=gl m a t (nbF m a c):=by rw [ht];rfl
    rw [<- ht] at Wc ⊢
    have hwc : IntKind.wrap .i64 ((c : Int) + 1)=((c + 1 : Nat) : Int):=aj (by omega) (by omega)
    simp
    refine am (fun g4=>?_) (fun g4=>?_) <;> simp at g4
    ·have hc3 : c < 3:=by omega
     have hxc : ([.int .i64 (nbF m a 0),.int .i64 (nbF m a 1),.int .i64 (nbF m a 2)] : List D)[c]?.getD .any=.int .i64 (nbF m a c):=by
      rcases (by omega : c=0 \/ c=1 \/ c=2) with rfl | rfl | rfl <;> rfl
     simp [show (c : Int) < 3 by omega,aN (ja han),hxc]
     have hbd:=dS m a c
     obtain ⟨kk,hkk⟩ : ∃ kk,kk=nbF m a c:=⟨_,rfl⟩
     rw [<- hkk] at hbd hnx ⊢
     refine ⟨by omega,am (fun g5=>?_) (fun g5=>?_)⟩ <;> simp at g5
     ·obtain ⟨f,hf⟩ : ∃ f : Nat,kk=f:=⟨kk.toNat,by omega⟩
      subst hf
      have hfn : f < m.f.length:=by omega
      have hfr : f < t.rc.length:=by rw [Wc.rc];exact hfn
      have hfv : f < t.lv.length:=by rw [Wc.lv];exact hfn
      have hfo : f < t.ou.length:=by rw [Wc.ou];exact hfn
      have hav : a < t.lv.length:=by rw [Wc.lv];exact han
      have hfs : f < (bA m).length:=by simpa using hfn
      simp [aH (dY hfr),hfn]
      cases hrc : t.rc.getD f false
      ·simp at hrc
       have hnx2 : rfI m a r1 (c + 1)={ t with rc:=t.rc.set f true,lv:=t.lv.set f (if t.lv.getD a 0 < (bA m).getD f 0 then (bA m).getD f 0 else t.lv.getD a 0),ou:=t.ou.set f a }:=by
        rw [hnx]
        unfold gl
        rw [if_pos ⟨by omega,by simpa using hrc⟩]
        rfl
       simp [hrc,hfn,han,aN (bO hfs),aH (bO hav)]
       refine aa (pX hC _ _) (.inl rfl) ?_
       simp [hfn,dY hfr,bO hfv,bO hfo,jk,jO]
       have hmx : (if t.lv[a]?.getD 0 < (bA m)[f] then (bA m)[f] else t.lv[a]?.getD 0)=(if t.lv.getD a 0 < (bA m).getD f 0 then (bA m).getD f 0 else t.lv.getD a 0):=by
        simp [hfn]
       rw [hmx]
       exact ⟨al (by decide +kernel),c + 1,by omega,by omega,hwc,by rw [hnx2],by rw [hnx2],by rw [hnx2],by rw [hnx2]⟩
      ·have hnx2 : rfI m a r1 (c + 1)=t:=by
        rw [hnx]
        unfold gl
        rw [if_neg (fun h=>by
         have:=h.2
         simp at this hrc
         rw [this] at hrc;cases hrc)]
       simp at hrc
       simp [hrc]
       exact ⟨c + 1,by omega,by omega,hwc,by rw [hnx2],by rw [hnx2],by rw [hnx2],by rw [hnx2]⟩
     ·have hnx2 : rfI m a r1 (c + 1)=t:=by
       rw [hnx]
       unfold gl
       rw [if_neg (by omega)]
      simp [Int.not_le.2 g5]
      exact ⟨c + 1,by omega,by omega,hwc,by rw [hnx2],by rw [hnx2],by rw [hnx2],by rw [hnx2]⟩
    ·have hc3 : c=3:=by omega
     subst hc3
     rw [<- hst] at ht
     simp [show ¬ ((3 : Int) < 3) by omega]
     have hlc : (dT m r).lf.count false + 1=r.lf.count false:=by
      rw [hst,(kS 3).2,e2]
      refine jr hal ?_
      simp only [act,Bool.and_eq_true,Bool.not_eq_true'] at haa
      exact haa.2
     exact ⟨dT m r,⟨by rw [hst];exact W1.i 3,k + 1,by rw [nK,<- hs];rfl,by omega⟩,by omega,by rw [ht],by rw [ht],by rw [ht],by rw [ht]⟩
end
end Go.Gv

namespace Go.Gv
section
variable {C : Nat -> List D -> D -> List D -> Prop} (hC : aI prog C)
include hC
theorem sv (dec : Nat -> List UInt8) (hI : ∀ n : Nat,n < 100 -> C 127 [.int .i64 n] (.str (dec n)) []) (m : Msh) (hz : cL m=true -> m.s.length <= 100 /\ m.f.length <= 100) :
  C 243 [.agg (bk m)] (if aE m then .tup [.sl (inR (bg m).sp),.int .i64 0] else .tup [.nils,.int .i64 1]) []:=by
 have k:=ic hC dec hI m hz
 simp only [ae] at k
 refine aT hC (nf:=N243) rfl rfl ?_
 simp [N243,ae]
 refine aa k (.inr rfl) ?_
 cases hv : aE m
 ·simp
 ·simp [d9]
theorem mq (dec : Nat -> List UInt8) (hI : ∀ n : Nat,n < 100 -> C 127 [.int .i64 n] (.str (dec n)) []) (m : Msh) (hz : cL m=true -> m.s.length <= 100 /\ m.f.length <= 100) :
  C 244 [.agg (bk m)] (if aE m then .tup [.sl (inR (bg m).ou),.int .i64 0] else .tup [.nils,.int .i64 1]) []:=by
 have k:=ic hC dec hI m hz
 simp only [ae] at k
 refine aT hC (nf:=N244) rfl rfl ?_
 simp [N244,ae]
 refine aa k (.inr rfl) ?_
 cases hv : aE m
 ·simp
 ·simp [d9]
end
end Go.Gv

namespace Go.Gv
def iD (n : Nat) (ou : List Int) (rc : List Bool) : Nat -> Nat -> Prop
 | 0,a=>ou.getD a 0=-1
 | d + 1,a=>∃ b : Nat,b < n /\ ou.getD a 0=b /\ rc.getD b false=true /\ iD n ou rc d b
structure OuI (m : Msh) (r : RF) : Prop where
 rc : r.rc.length=m.f.length
 ou : r.ou.length=m.f.length
 e : ∀ a,a < m.f.length -> r.rc.getD a false=true -> ∃ d,d <= r.rc.count true /\ iD m.f.length r.ou r.rc d a
theorem iD.mono {n : Nat} {ou ou' : List Int} {rc rc' : List Bool} (h1 : ∀ a,rc.getD a false=true -> rc'.getD a false=true /\ ou'.getD a 0=ou.getD a 0) : ∀ {d a : Nat},rc.getD a false=true -> iD n ou rc d a -> iD n ou' rc' d a
 | 0,a,ha,h=>by
  show ou'.getD a 0=-1
  rw [(h1 a ha).2];exact h
 | d + 1,a,ha,⟨b,hb,e1,e2,e3⟩=>⟨b,hb,by rw [(h1 a ha).2];exact e1,(h1 b e2).1,iD.mono h1 e2 e3⟩
theorem od {l : List Bool} {i : Nat} (h : i < l.length) (hf : l.getD i false=false) : (l.set i true).count true=l.count true + 1:=by
 have h1 : l[i]=false:=by simpa [h] using hf
 rw [List.count_set h,h1]
 simp
theorem OuI.p1 {m : Msh} {i : Nat} {r : RF} {k : Int} (h : OuI m r) (hi : i < m.f.length) (hr : r.rc.getD i false=true) (hk : k < m.f.length) : OuI m (gl m i r k):=by
 unfold gl
 split
 ·rename_i hc
  have hkl : k.toNat < m.f.length:=by omega
  have hrc:=fun j=>cy (l:=r.rc) (i:=k.toNat) (j:=j) (x:=true) (d:=false) (by rw [h.rc];omega)
  have hou:=fun j (x : Int)=>cy (l:=r.ou) (i:=k.toNat) (j:=j) (x:=x) (d:=(0 : Int)) (by rw [h.ou];omega)
  have hm : ∀ a,r.rc.getD a false=true -> (r.rc.set k.toNat true).getD a false=true /\ (r.ou.set k.toNat (i : Int)).getD a 0=r.ou.getD a 0:=fun a ha=>by
   have hne : a ≠ k.toNat:=fun e=>by rw [e,hc.2] at ha;cases ha
   rw [hrc,hou,if_neg hne,if_neg hne]
   exact ⟨ha,rfl⟩
  have hct:=od (l:=r.rc) (i:=k.toNat) (by rw [h.rc];omega) hc.2
  refine ⟨by simp [h.rc],by simp [h.ou],fun a ha har=>?_⟩
  simp only at har ⊢
  rw [hct]
  by_cases e : a=k.toNat
  ·obtain ⟨d,hd,he⟩:=h.e i hi hr
   refine ⟨d + 1,by omega,i,hi,?_,(hm i hr).1,iD.mono hm hr he⟩
   rw [hou,if_pos e]
  ·rw [hrc,if_neg e] at har
   obtain ⟨d,hd,he⟩:=h.e a ha har
   exact ⟨d,by omega,iD.mono hm har he⟩
 ·exact h
theorem OuI.i {m : Msh} {i : Nat} {r : RF} (h : OuI m r) (hi : i < m.f.length) (hr : r.rc.getD i false=true) : ∀ j,OuI m (rfI m i r j)
 | 0=>h
 | j + 1=>(OuI.i h hi hr j).p1 hi (nJ hr j) (dS m i j).2
theorem OuI.step {m : Msh} {r : RF} (h : OuI m r) : OuI m (dT m r):=by
 unfold dT
 split
 ·exact h
 ·rename_i h0
  rcases gT r m.f.length with ⟨h1,_⟩ | ⟨a,h1,h2,h3,_⟩
  ·omega
  ·rw [h1]
   simp only [act,Bool.and_eq_true] at h3
   exact OuI.i (r:={ r with lf:=r.lf.set a true }) ⟨h.rc,h.ou,h.e⟩ h2 h3.1 3
theorem OuI.run {m : Msh} : ∀ (k : Nat) {r : RF},OuI m r -> OuI m (rfN m k r)
 | 0,_,h=>h
 | k + 1,_,h=>OuI.run k h.step
theorem OuI.init (m : Msh) : OuI m (de m):=by
 refine ⟨(f8 m _).1,by simp [de],fun a ha _=>⟨0,by omega,?_⟩⟩
 show (List.replicate m.f.length (-1 : Int)).getD a 0=-1
 simp [List.getElem?_replicate,ha]
def mth (ou : List Int) : Nat -> Nat -> Nat
 | 0,a=>a
 | k + 1,a=>if ou.getD a 0=-1 then a else mth ou k (ou.getD a 0).toNat
theorem nA {n : Nat} {ou : List Int} {rc : List Bool} : ∀ {d a : Nat},iD n ou rc d a -> ∀ k,d <= k -> mth ou k a=mth ou d a
 | 0,a,h,k,_=>by
  cases k with
  | zero=>rfl
  | succ k =>
   have h : ou.getD a 0=-1:=h
   simp only [mth,h,if_true]
 | d + 1,a,⟨b,_,e1,_,e3⟩,k,hk=>by
  cases k with
  | zero=>omega
  | succ k =>
   simp only [mth,e1]
   rw [if_neg (by omega),if_neg (by omega)]
   exact nA e3 k (by omega)
theorem lp {m : Msh} (hv : aE m=true) {a : Nat} (ha : a < m.f.length) : ∃ d,d <= m.f.length /\ iD m.f.length (bg m).ou (b4 m).rc d a:=by
 have h : OuI m (b4 m):=(OuI.init m).run _
 obtain ⟨d,hd,he⟩:=h.e a ha (ki hv a ha)
 refine ⟨d,?_,by rw [(fE hv).2];exact he⟩
 have:=List.count_le_length (a:=true) (l:=(b4 m).rc)
 have:=h.rc
 omega
end Go.Gv

namespace Go.Gv
theorem oF {ou : List Int} {a : Nat} (h : ou.getD a 0=-1) : ∀ k,mth ou k a=a
 | 0=>rfl
 | k + 1=>by simp only [mth,h,if_true]
theorem oE {n : Nat} {ou : List Int} {rc : List Bool} {d a b : Nat} (e1 : ou.getD a 0=b) (e3 : iD n ou rc d b) {k : Nat} (hk : d + 1 <= k) : mth ou k a=mth ou k b:=by
 cases k with
 | zero=>omega
 | succ k =>
  rw [nA e3 (k + 1) (by omega),<- nA e3 k (by omega)]
  simp only [mth,e1]
  rw [if_neg (by omega)]
  simp
def jU (m : Msh) (a : Nat) : Int:=(mth (bg m).ou m.f.length a : Nat)
def drT (m : Msh) (i : Nat) : List Int:=(List.range i).map (jU m)++List.replicate (m.f.length - i) 0
def drL (m : Msh) : List Int:=(List.range m.f.length).map (jU m)
theorem vn {m : Msh} {i : Nat} (h : i <= m.f.length) : (drT m i).length=m.f.length:=by simp [drT];omega
theorem vo {m : Msh} {i : Nat} (h : i < m.f.length) : (drT m i).set i (jU m i)=drT m (i + 1):=by
 unfold drT
 apply List.ext_getElem (by simp;omega)
 intro j h1 h2
 simp only [List.getElem_set,List.getElem_append,List.length_map,List.length_range,List.getElem_map,List.getElem_range,List.getElem_replicate]
 split <;> split <;> (try split) <;> first | rfl | omega | (simp_all;done)
theorem vm (m : Msh) : drT m m.f.length=drL m:=by simp [drT,drL]
section
variable {C : Nat -> List D -> D -> List D -> Prop} (hC : aI prog C)
include hC
set_option maxHeartbeats 1000000 in
theorem mo (dec : Nat -> List UInt8) (hI : ∀ n : Nat,n < 100 -> C 127 [.int .i64 n] (.str (dec n)) []) (m : Msh) (hz : cL m=true -> m.s.length <= 100 /\ m.f.length <= 100) :
  C 245 [.agg (bk m)] (if aE m then .tup [.sl (inR (drL m)),.int .i64 0] else .tup [.nils,.int .i64 1]) []:=by
 have k:=ic hC dec hI m hz
 simp only [ae] at k
 refine aT hC (nf:=N245) rfl rfl ?_
 simp [N245,ae]
 refine aa k (.inr rfl) ?_
 cases hv : aE m
 ·simp
 ·have hsz:=(d5 hv).2
  have W:=ib m
  obtain ⟨ou,hou⟩ : ∃ ou,ou=(bg m).ou:=⟨_,rfl⟩
  have hol : ou.length=m.f.length:=by rw [hou];exact W.ou
  have hen : ∀ a,a < m.f.length -> ∃ d,d <= m.f.length /\ iD m.f.length ou (b4 m).rc d a:=fun a ha=>by rw [hou];exact lp hv ha
  have hmo : ∀ a,jU m a=(mth ou m.f.length a : Nat):=fun a=>by rw [hou];rfl
  simp [d9,<- hou,hol]
  refine ⟨by omega,?_⟩
  refine ay Nat (fun i=>[(4,.ptr [.sl (nbA m),slx true (inR (bA m)),.sl (inR (bg m).sp),.sl (inR ou)]),(6,.ref (.r 10096) 0 m.f.length),(24,.int .i64 m.f.length),(25,.int .i64 i),(10096,.blk 1 (inR (drT m i)))]) (fun i=>i <= m.f.length) (fun i=>m.f.length - i) 0 (by simp) (by simp [drT,inR]) ?_
  rintro i hi
  have hw : IntKind.wrap .i64 ((i : Int) + 1)=((i + 1 : Nat) : Int):=aj (by omega) (by omega)
  have hdl:=vn hi
  simp
  refine am (fun g1=>?_) (fun g1=>?_) <;> simp at g1 <;> simp [g1]
  ·obtain ⟨d0,hd0,he0⟩:=hen i g1
   refine ay (Nat × Nat) (fun s=>[(4,.ptr [.sl (nbA m),slx true (inR (bA m)),.sl (inR (bg m).sp),.sl (inR ou)]),(6,.ref (.r 10096) 0 m.f.length),(7,.int .i64 i),(8,.int .i64 s.1),(24,.int .i64 m.f.length),(25,.int .i64 i),(10096,.blk 1 (inR (drT m i)))]) (fun s=>s.1 < m.f.length /\ s.2 <= m.f.length /\ iD m.f.length ou (b4 m).rc s.2 s.1 /\ mth ou m.f.length s.1=mth ou m.f.length i) (fun s=>s.2) (i,d0) ⟨g1,hd0,he0,rfl⟩ (by simp) ?_
   rintro ⟨a,d⟩ ⟨q1,q2,q3,q4⟩
   simp only at q1 q2 q3 q4
   have hao : a < ou.length:=by omega
   simp [aN (bO hao)]
   refine am (fun g2=>?_) (fun g2=>?_) <;> simp at g2
   ·cases d with
    | zero =>
     have : ou.getD a 0=-1:=q3
     simp at this
     exact absurd this g2
    | succ d =>
     obtain ⟨b,hb,e1,e2,e3⟩:=q3
     have e1' : ou[a]?.getD 0=(b : Int):=by simpa using e1
     simp [g2,aN (bO hao),e1']
     exact ⟨b,d,⟨hb,by omega,e3,by rw [<- q4,oE e1 e3 q2]⟩,by omega,rfl⟩
   ·have h1 : ou.getD a 0=-1:=by simpa using g2
    rw [oF h1] at q4
    have hmi : jU m i=(a : Int):=by rw [hmo,<- q4]
    have hst:=vo g1
    rw [hmi] at hst
    have hil : i < (drT m i).length:=by omega
    simp [g2,g1,bO hil,jO,hst]
    exact ⟨i + 1,by omega,by omega,hw,rfl⟩
  ·have hin : i=m.f.length:=by omega
   subst hin
   rw [vm] at hdl ⊢
   have:=eL (drL m)
   rw [hdl] at this
   simp [this]
   omega
end
end Go.Gv

namespace Go.Gv
section
variable {C : Nat -> List D -> D -> List D -> Prop} (hC : aI prog C)
include hC
set_option maxHeartbeats 1000000 in
theorem pR (m : Msh) (hv : aE m=true) (hm : m.f.length <= 100) : C 247 [.agg (bk m)] (.sl (inR (drL m))) []:=by
 have k:=oM hC m hv hm
 obtain ⟨f1,f2⟩:=fE hv
 rw [<- f1,<- f2] at k
 simp only [ae] at k
 have W:=ib m
 obtain ⟨ou,hou⟩ : ∃ ou,ou=(bg m).ou:=⟨_,rfl⟩
 have hol : ou.length=m.f.length:=by rw [hou];exact W.ou
 have hen : ∀ a,a < m.f.length -> ∃ d,d <= m.f.length /\ iD m.f.length ou (b4 m).rc d a:=fun a ha=>by rw [hou];exact lp hv ha
 have hmo : ∀ a,jU m a=(mth ou m.f.length a : Nat):=fun a=>by rw [hou];rfl
 rw [<- hou] at k
 refine aT hC (nf:=N247) rfl rfl ?_
 simp [N247,ae]
 refine aa k (.inr rfl) ?_
 simp
 refine ay Nat (fun i=>[(4,.sl (inR ou)),(5,.ref (.r 10080) 0 i),(6,.int .i64 i),(10080,.blk 1 (inR ((List.range i).map (jU m))))]) (fun i=>i <= m.f.length) (fun i=>m.f.length - i) 0 (by simp) (by simp) ?_
 rintro i hi
 have hw : IntKind.wrap .i64 ((i : Int) + 1)=((i + 1 : Nat) : Int):=aj (by omega) (by omega)
 simp [hol]
 refine am (fun g1=>?_) (fun g1=>?_) <;> simp at g1 <;> simp [g1]
 ·obtain ⟨d0,hd0,he0⟩:=hen i g1
  refine ay (Nat × Nat) (fun s=>[(4,.sl (inR ou)),(5,.ref (.r 10080) 0 i),(6,.int .i64 i),(7,.int .i64 s.1),(10080,.blk 1 (inR ((List.range i).map (jU m))))]) (fun s=>s.1 < m.f.length /\ s.2 <= m.f.length /\ iD m.f.length ou (b4 m).rc s.2 s.1 /\ mth ou m.f.length s.1=mth ou m.f.length i) (fun s=>s.2) (i,d0) ⟨g1,hd0,he0,rfl⟩ (by simp) ?_
  rintro ⟨a,d⟩ ⟨q1,q2,q3,q4⟩
  simp only at q1 q2 q3 q4
  have hao : a < ou.length:=by omega
  simp [aN (bO hao)]
  refine am (fun g2=>?_) (fun g2=>?_) <;> simp at g2
  ·cases d with
   | zero =>
    have : ou.getD a 0=-1:=q3
    simp at this
    omega
   | succ d =>
    obtain ⟨b,hb,e1,e2,e3⟩:=q3
    have e1' : ou[a]?.getD 0=(b : Int):=by simpa using e1
    simp [aN (bO hao),e1']
    exact ⟨b,d,⟨hb,by omega,e3,by rw [<- q4,oE e1 e3 q2]⟩,by omega,rfl⟩
  ·have h1 : ou.getD a 0=-1:=by
    cases d with
    | zero=>exact q3
    | succ d =>
     obtain ⟨b,hb,e1,_⟩:=q3
     simp at e1
     omega
   have h1' : ou[a]?.getD 0=-1:=by simpa using h1
   rw [oF h1] at q4
   have hmi : jU m i=(a : Int):=by rw [hmo,<- q4]
   simp [h1']
   refine ⟨by omega,i + 1,by omega,by omega,rfl,hw,?_⟩
   have t:=eL ((List.range i).map (jU m))
   simp at t
   rw [t,<- hmi]
   simp [inR,List.range_succ]
 ·have hin : i=m.f.length:=by omega
  subst hin
  simp [drL]
  have t:=eL ((List.range m.f.length).map (jU m))
  simpa using t
end
end Go.Gv

namespace Go.Gv
structure Fo (n : Nat) (f : List Nat) : Prop where
 len : f.length=n
 le : ∀ i,i < n -> fAt f i <= i
def ftN (f : List Nat) : Nat -> Nat -> Nat
 | 0,i=>i
 | k + 1,i=>if fAt f i=i then i else ftN f k (fAt f i)
def ftF (f : List Nat) (i : Nat) : Nat:=ftN f i i
theorem tr {n : Nat} {f : List Nat} (h : Fo n f) : ∀ (k i : Nat),i < n -> i <= k -> ftN f k i=ftN f i i:=by
 intro k
 induction k using Nat.strongRecOn with
 | _ k ih =>
  intro i hi hk
  have hle:=h.le i hi
  cases i with
  | zero =>
   cases k with
   | zero=>rfl
   | succ k=>unfold ftN;rw [if_pos (by omega)]
  | succ i =>
   cases k with
   | zero=>omega
   | succ k =>
    simp only [ftN]
    split
    ·rfl
    ·rename_i hne
     by_cases hk2 : k=i
     ·rw [hk2]
     ·rw [ih k (by omega) (fAt f (i + 1)) (by omega) (by omega),ih i (by omega) (fAt f (i + 1)) (by omega) (by omega)]
theorem cZ {f : List Nat} {i : Nat} (e : fAt f i=i) : ftF f i=i:=by
 unfold ftF
 cases i with
 | zero=>rfl
 | succ i=>simp only [ftN,e,if_true]
theorem dI {n : Nat} {f : List Nat} (h : Fo n f) {i : Nat} (hi : i < n) : ftF f i=ftF f (fAt f i):=by
 have hle:=h.le i hi
 by_cases e : fAt f i=i
 ·rw [e]
 ·unfold ftF
  cases i with
  | zero=>omega
  | succ i =>
   rw [ftN,if_neg e]
   exact tr h i _ (by omega) (by omega)
theorem eI {n : Nat} {f : List Nat} (h : Fo n f) : ∀ i,i < n -> ftF f i <= i /\ fAt f (ftF f i)=ftF f i:=by
 intro i
 induction i using Nat.strongRecOn with
 | _ i ih =>
  intro hi
  have hle:=h.le i hi
  by_cases e : fAt f i=i
  ·rw [cZ e];exact ⟨Nat.le_refl _,e⟩
  ·rw [dI h hi]
   obtain ⟨h1,h2⟩:=ih (fAt f i) (by omega) (by omega)
   exact ⟨by omega,h2⟩
theorem tq {n : Nat} {f : List Nat} (h : Fo n f) {i : Nat} (hi : i < n) : ftF f (ftF f i)=ftF f i:=cZ (eI h i hi).2
theorem dV {f : List Nat} {i j x : Nat} (h : i < f.length) : fAt (f.set i x) j=if j=i then x else fAt f j:=by
 unfold fAt
 simp only [List.getD_eq_getElem?_getD,List.getElem?_set]
 by_cases e : j=i
 ·subst e;simp [h]
 ·rw [if_neg (fun h=>e h.symm),if_neg e]
theorem Gj {n : Nat} {f : List Nat} (h : Fo n f) {i : Nat} (hi : i < n) : Fo n (f.set i (fAt f (fAt f i))) /\ ∀ x,x < n -> ftF (f.set i (fAt f (fAt f i))) x=ftF f x:=by
 have hl : i < f.length:=by rw [h.len];exact hi
 have h1:=h.le i hi
 have h2:=h.le (fAt f i) (by omega)
 have hF : Fo n (f.set i (fAt f (fAt f i))):=by
  refine ⟨by simp [h.len],fun j hj=>?_⟩
  rw [dV hl]
  split
  ·omega
  ·exact h.le j hj
 refine ⟨hF,fun x=>?_⟩
 induction x using Nat.strongRecOn with
 | _ x ih =>
  intro hx
  have hst:=dI hF hx
  have hx1:=h.le x hx
  rw [dV hl] at hst
  by_cases e : x=i
  ·rw [if_pos e] at hst
   subst e
   by_cases e2 : fAt f (fAt f x)=x
   ·have e3 : fAt f x=x:=by omega
    rw [cZ e3]
    exact cZ (by rw [dV hl,if_pos rfl];exact e2)
   ·rw [hst,ih _ (by omega) (by omega),dI h hx,dI h (by omega : fAt f x < n)]
  ·rw [if_neg e] at hst
   by_cases e2 : fAt f x=x
   ·rw [cZ e2]
    exact cZ (by rw [dV hl,if_neg e];exact e2)
   ·rw [hst,ih _ (by omega) (by omega),<- dI h hx]
def hlv (f : List Nat) : Nat -> Nat -> List Nat
 | 0,_=>f
 | k + 1,i=>if fAt f i=i then f else hlv (f.set i (fAt f (fAt f i))) k (fAt f (fAt f i))
def hlL (f : List Nat) (i : Nat) : List Nat:=hlv f i i
theorem tA {f : List Nat} {k i : Nat} (e : fAt f i=i) : hlv f k i=f:=by
 cases k with
 | zero=>rfl
 | succ k=>simp only [hlv,e,if_true]
theorem ot {n : Nat} : ∀ (k : Nat) {f : List Nat} {i : Nat},Fo n f -> i < n -> Fo n (hlv f k i) /\ ∀ x,x < n -> ftF (hlv f k i) x=ftF f x
 | 0,f,i,h,_=>⟨h,fun _ _=>rfl⟩
 | k + 1,f,i,h,hi=>by
  unfold hlv
  split
  ·exact ⟨h,fun _ _=>rfl⟩
  ·obtain ⟨h1,h2⟩:=Gj h hi
   have h3:=h.le i hi
   have h4:=h.le (fAt f i) (by omega)
   obtain ⟨h5,h6⟩:=ot k h1 (show fAt f (fAt f i) < n by omega)
   exact ⟨h5,fun x hx=>by rw [h6 x hx,h2 x hx]⟩
theorem gL {n : Nat} {f : List Nat} {i : Nat} (h : Fo n f) (hi : i < n) : Fo n (hlL f i) /\ ∀ x,x < n -> ftF (hlL f i) x=ftF f x:=ot i h hi
theorem rB {n : Nat} {f : List Nat} (h : Fo n f) {M m : Nat} (hM : M < n) (e1 : fAt f M=M) (e2 : fAt f m=m) (hm : m <= M) :
  Fo n (f.set M m) /\ ∀ x,x < n -> ftF (f.set M m) x=if ftF f x=M then m else ftF f x:=by
 have hl : M < f.length:=by rw [h.len];exact hM
 have hF : Fo n (f.set M m):=by
  refine ⟨by simp [h.len],fun j hj=>?_⟩
  rw [dV hl]
  split
  ·omega
  ·exact h.le j hj
 refine ⟨hF,fun x=>?_⟩
 induction x using Nat.strongRecOn with
 | _ x ih =>
  intro hx
  have hst:=dI hF hx
  have hx1:=h.le x hx
  rw [dV hl] at hst
  by_cases e : x=M
  ·rw [if_pos e] at hst
   subst e
   rw [cZ e1,if_pos rfl,hst]
   by_cases e3 : m=x
   ·subst e3
    exact cZ (by rw [dV hl,if_pos rfl])
   ·exact cZ (by rw [dV hl,if_neg e3];exact e2)
  ·rw [if_neg e] at hst
   by_cases e3 : fAt f x=x
   ·rw [cZ e3,if_neg e]
    exact cZ (by rw [dV hl,if_neg e];exact e3)
   ·rw [hst,ih _ (by omega) (by omega),<- dI h hx]
def gf (f : List Nat) (a b : Nat) : List Nat:=(hlL (hlL f a) b).set (max (ftF f a) (ftF f b)) (min (ftF f a) (ftF f b))
theorem eM {n : Nat} {f : List Nat} (h : Fo n f) {a b : Nat} (ha : a < n) (hb : b < n) :
  Fo n (gf f a b) /\ ∀ x,x < n -> ftF (gf f a b) x=if ftF f x=max (ftF f a) (ftF f b) then min (ftF f a) (ftF f b) else ftF f x:=by
 obtain ⟨h1,r1⟩:=gL h ha
 obtain ⟨h2,r2⟩:=gL h1 hb
 have hr : ∀ x,x < n -> ftF (hlL (hlL f a) b) x=ftF f x:=fun x hx=>by rw [r2 x hx,r1 x hx]
 have ga:=eI h a ha
 have gb:=eI h b hb
 have fx : ∀ x,x < n -> fAt (hlL (hlL f a) b) (ftF f x)=ftF f x:=fun x hx=>by
  have:=(eI h2 x hx).2
  rw [hr x hx] at this
  exact this
 have e1 : fAt (hlL (hlL f a) b) (max (ftF f a) (ftF f b))=max (ftF f a) (ftF f b):=by
  rcases Nat.le_total (ftF f a) (ftF f b) with g | g
  ·rw [Nat.max_eq_right g];exact fx b hb
  ·rw [Nat.max_eq_left g];exact fx a ha
 have e2 : fAt (hlL (hlL f a) b) (min (ftF f a) (ftF f b))=min (ftF f a) (ftF f b):=by
  rcases Nat.le_total (ftF f a) (ftF f b) with g | g
  ·rw [Nat.min_eq_left g];exact fx a ha
  ·rw [Nat.min_eq_right g];exact fx b hb
 obtain ⟨q1,q2⟩:=rB h2 (M:=max (ftF f a) (ftF f b)) (m:=min (ftF f a) (ftF f b)) (by omega) e1 e2 (by omega)
 refine ⟨q1,fun x hx=>?_⟩
 unfold gf
 rw [q2 x hx,hr x hx]
inductive Cn (R : Nat -> Nat -> Prop) : Nat -> Nat -> Prop
 | refl (a : Nat) : Cn R a a
 | step {a b c : Nat} : Cn R a b -> R b c -> Cn R a c
theorem Cn.trans {R : Nat -> Nat -> Prop} {a b c : Nat} (h : Cn R a b) (g : Cn R b c) : Cn R a c:=by
 induction g with
 | refl=>exact h
 | step _ r ih=>exact .step ih r
theorem Cn.symm {R : Nat -> Nat -> Prop} (hs : ∀ a b,R a b -> R b a) {a b : Nat} (h : Cn R a b) : Cn R b a:=by
 induction h with
 | refl=>exact .refl _
 | step _ r ih=>exact (Cn.step (.refl _) (hs _ _ r)).trans ih
theorem Cn.mono {R S : Nat -> Nat -> Prop} (hs : ∀ a b,R a b -> S a b) {a b : Nat} (h : Cn R a b) : Cn S a b:=by
 induction h with
 | refl=>exact .refl _
 | step _ r ih=>exact .step ih (hs _ _ r)
def k9 (n : Nat) (R : Nat -> Nat -> Prop) (f : List Nat) : Prop:=∀ x,x < n -> Cn R x (ftF f x)
theorem k9.init {n : Nat} (R : Nat -> Nat -> Prop) : Fo n (List.range n) /\ k9 n R (List.range n) /\ ∀ x,x < n -> ftF (List.range n) x=x:=by
 have hf : ∀ x,x < n -> fAt (List.range n) x=x:=fun x hx=>by simp [fAt,hx]
 have hr : ∀ x,x < n -> ftF (List.range n) x=x:=fun x hx=>cZ (hf x hx)
 exact ⟨⟨by simp,fun i hi=>by rw [hf i hi];omega⟩,fun x hx=>by rw [hr x hx];exact .refl _,hr⟩
theorem k9.join {n : Nat} {R : Nat -> Nat -> Prop} {f : List Nat} (hs : ∀ a b,R a b -> R b a) (h : Fo n f) (hi : k9 n R f) {a b : Nat} (ha : a < n) (hb : b < n) (hr : R a b) : k9 n R (gf f a b):=by
 intro x hx
 obtain ⟨_,q⟩:=eM h ha hb
 rw [q x hx]
 have wab : Cn R (ftF f a) (ftF f b):=((hi a ha).symm hs).trans ((Cn.step (.refl _) hr).trans (hi b hb))
 split
 ·rename_i e
  have h1:=hi x hx
  rw [e] at h1
  refine h1.trans ?_
  rcases Nat.le_total (ftF f a) (ftF f b) with g | g
  ·rw [Nat.max_eq_right g,Nat.min_eq_left g];exact wab.symm hs
  ·rw [Nat.max_eq_left g,Nat.min_eq_right g];exact wab
 ·exact hi x hx
theorem rC {n : Nat} {f : List Nat} (h : Fo n f) {a b : Nat} (ha : a < n) (hb : b < n) : ftF (gf f a b) a=ftF (gf f a b) b:=by
 obtain ⟨_,q⟩:=eM h ha hb
 rw [q a ha,q b hb]
 split <;> split <;> omega
theorem mL {n : Nat} {f : List Nat} (h : Fo n f) {a b x y : Nat} (ha : a < n) (hb : b < n) (hx : x < n) (hy : y < n) (e : ftF f x=ftF f y) : ftF (gf f a b) x=ftF (gf f a b) y:=by
 obtain ⟨_,q⟩:=eM h ha hb
 rw [q x hx,q y hy,e]
theorem Cn.root {R : Nat -> Nat -> Prop} {f : List Nat} (hR : ∀ a b,R a b -> ftF f a=ftF f b) {a b : Nat} (h : Cn R a b) : ftF f a=ftF f b:=by
 induction h with
 | refl=>rfl
 | step _ r ih=>rw [ih,hR _ _ r]
end Go.Gv

namespace Go.Gv
theorem iL {fs : List Nat} {i : Nat} (h : i < fs.length) : (nfR fs)[i]? = some [.int .i64 (fAt fs i : Nat)]:=by rw [c8 h];exact ii h
def frT (n i : Nat) : List Nat:=List.range i++List.replicate (n - i) 0
theorem vG {n i : Nat} (h : i <= n) : (frT n i).length=n:=by simp [frT];omega
theorem vH {n i : Nat} (h : i < n) : (frT n i).set i i=frT n (i + 1):=by
 unfold frT
 apply List.ext_getElem (by simp;omega)
 intro j h1 h2
 simp only [List.getElem_set,List.getElem_append,List.length_range,List.getElem_range,List.getElem_replicate]
 split <;> split <;> (try split) <;> first | rfl | omega
section
variable {C : Nat -> List D -> D -> List D -> Prop} (hC : fU prog C)
include hC
theorem pY (n : Nat) (hn : n < 2 ^ 40) (f : List Nat) (h : Fo n f) (i : Nat) (hi : i < n) : C 332 [.blk 1 (nfR f),.ref (.r 10015) 0 n,.int .i64 i] (.int .i64 (ftF f i : Nat)) [.blk 1 (nfR (hlL f i)),.nilp]:=by
 refine eT hC (nf:=N332) rfl rfl ?_
 simp [N332]
 refine ay (List Nat × Nat × Nat) (fun s=>[(0,.ref (.r 10015) 0 n),(1,.int .i64 s.2.1),(10015,.blk 1 (nfR s.1))]) (fun s=>Fo n s.1 /\ s.2.1 < n /\ s.2.1 <= s.2.2 /\ hlv s.1 s.2.2 s.2.1=hlL f i /\ ftF s.1 s.2.1=ftF f i) (fun s=>s.2.1) (f,i,i) ⟨h,hi,Nat.le_refl _,rfl,rfl⟩ (by simp) ?_
 rintro ⟨g,a,k⟩ ⟨k1,k2,k3,k4,k5⟩
 simp only at k1 k2 k3 k4 k5
 have hl:=k1.len
 have hag : a < g.length:=by omega
 have h1:=k1.le a k2
 have hfl : fAt g a < g.length:=by omega
 have h2:=k1.le (fAt g a) (by omega)
 simp [aH (iL hag),k2]
 refine am (fun g1=>?_) (fun g1=>?_) <;> simp at g1 <;> simp [g1]
 ·have hne : fAt g a ≠ a:=fun e=>g1 (by rw [e])
  have hfx : (fAt g a : Int) < g.length:=by omega
  obtain ⟨q1,q2⟩:=Gj k1 k2
  have hset : nfR (g.set a (fAt g (fAt g a)))=(nfR g).set a [.int .i64 (fAt g (fAt g a) : Nat)]:=(jb g a _).symm
  have hfn : fAt g a < n:=by omega
  simp [aH (iL hag),aH (iL hfl),k2,hfn,iL hag,jb]
  have hal : a < (g.set a (fAt g (fAt g a))).length:=by simpa using hag
  have hv : fAt (g.set a (fAt g (fAt g a))) a=fAt g (fAt g a):=by rw [dV hag,if_pos rfl]
  simp [aH (iL hal),hv]
  cases k with
  | zero=>omega
  | succ k =>
   refine ⟨g.set a (fAt g (fAt g a)),fAt g (fAt g a),⟨q1,by omega,k,by omega,?_,?_⟩,by omega,rfl,rfl⟩
   ·rw [<- k4,hlv,if_neg hne]
   ·rw [q2 _ (by omega),<- k5,dI k1 k2,dI k1 (by omega : fAt g a < n)]
 ·have e : fAt g a=a:=by omega
  rw [tA e] at k4
  rw [cZ e] at k5
  rw [<- k4,<- k5]
  simp
  omega
theorem zU (n : Nat) (hn : n < 2 ^ 40) (f : List Nat) (h : Fo n f) (a b : Nat) (ha : a < n) (hb : b < n) : C 331 [.blk 1 (nfR f),.ref (.r 10015) 0 n,.int .i64 a,.int .i64 b] (.tup []) [.blk 1 (nfR (gf f a b)),.nilp]:=by
 obtain ⟨h1,r1⟩:=gL h ha
 obtain ⟨h2,r2⟩:=gL h1 hb
 have k1:=pY hC n hn f h a ha
 have k2:=pY hC n hn (hlL f a) h1 b hb
 rw [r1 b hb] at k2
 have l0:=h.len
 have l1:=h1.len
 have l2:=h2.len
 have ga:=eI h a ha
 have gb:=eI h b hb
 obtain ⟨ra,hra⟩ : ∃ ra,ra=ftF f a:=⟨_,rfl⟩
 obtain ⟨rb,hrb⟩ : ∃ rb,rb=ftF f b:=⟨_,rfl⟩
 have hj : gf f a b=(hlL (hlL f a) b).set (max ra rb) (min ra rb):=by rw [hra,hrb];rfl
 rw [hj]
 rw [<- hra] at ga k1
 rw [<- hrb] at gb k2
 refine eT hC (nf:=N331) rfl rfl ?_
 simp [N331,l0]
 refine ⟨by omega,?_⟩
 refine b7 k1 (by simp;omega) ?_
 simp [l1]
 refine ⟨by omega,?_⟩
 refine b7 k2 (by simp;omega) ?_
 obtain ⟨M,hMe⟩ : ∃ M,M=max ra rb:=⟨_,rfl⟩
 obtain ⟨N,hNe⟩ : ∃ N,N=min ra rb:=⟨_,rfl⟩
 rw [<- hMe,<- hNe]
 have hM : M < n:=by omega
 have e1 : (if ra < rb then (rb : Int) else ra)=(M : Int):=by split <;> omega
 have e2 : (if rb < ra then (rb : Int) else ra)=(N : Int):=by split <;> omega
 have hMl : M < (hlL (hlL f a) b).length:=by omega
 simp [e1,e2,hM,iL hMl,jb]
 omega
end
section
variable {C : Nat -> List D -> D -> List D -> Prop} (hC : aI prog C)
include hC
theorem pt (n : Nat) (hn : n < 2 ^ 40) : C 329 [.int .i64 n] .any [.own 1 (nfR (List.range n))]:=by
 refine l7 hC (nf:=N329) rfl rfl ?_
 simp [N329]
 refine ⟨by omega,?_⟩
 refine ay Nat (fun i=>[(3,.ref (.r 10048) 0 n),(8,.int .i64 n),(9,.int .i64 i),(10048,.blk 1 (nfR (frT n i)))]) (fun i=>i <= n) (fun i=>n - i) 0 (by simp) (by simp [nfR,frT]) ?_
 rintro i hi
 have hw : IntKind.wrap .i64 ((i : Int) + 1)=((i + 1 : Nat) : Int):=aj (by omega) (by omega)
 have hl:=vG hi
 simp
 refine am (fun g1=>?_) (fun g1=>?_) <;> simp at g1 <;> simp [g1]
 ·have hil : i < (frT n i).length:=by omega
  have hs:=vH g1
  simp [iL hil,jb,hs]
  exact ⟨i + 1,by omega,by omega,hw,rfl⟩
 ·have e : i=n:=by omega
  subst e
  have e2 : frT i i=List.range i:=by simp [frT]
  rw [e2]
  simp
  exact iK _
end
end Go.Gv

namespace Go.Gv
def hG (m : Msh) (i : Nat) : Bool:=decide ((bA m).getD i 0 < (bg m).sp.getD i 0)
def jB (m : Msh) (i : Nat) (k : Int) : Bool:=decide (k ≠ -1) && (hG m i && (hG m k.toNat && decide ((bg m).sp.getD i 0=(bg m).sp.getD k.toNat 0)))
def kK (m : Msh) (i k : Nat) : Prop:=i < m.f.length /\ k < m.f.length /\ hG m i=true /\ hG m k=true /\ (bg m).sp.getD i 0=(bg m).sp.getD k 0 /\ ∃ j,j < 3 /\ nbF m i j=k
theorem qP {m : Msh} (hv : aE m=true) : ∀ a b,kK m a b -> kK m b a:=by
 rintro a b ⟨h1,h2,h3,h4,h5,j,hj,e⟩
 obtain ⟨c,hc,e2⟩:=tP hv h1 hj (by omega)
 rw [e] at e2
 exact ⟨h2,h1,h4,h3,h5.symm,c,hc,by simpa using e2⟩
theorem sI {m : Msh} {i j : Nat} (hi : i < m.f.length) (hj : j < 3) (h : jB m i (nbF m i j)=true) : ∃ k : Nat,nbF m i j=k /\ k < m.f.length /\ kK m i k:=by
 simp only [jB,Bool.and_eq_true,decide_eq_true_eq] at h
 obtain ⟨h1,h2,h3,h4⟩:=h
 have hb:=dS m i j
 refine ⟨(nbF m i j).toNat,by omega,by omega,hi,by omega,h2,h3,h4,j,hj,by omega⟩
theorem sJ {m : Msh} {i k : Nat} (h : kK m i k) : jB m i k=true:=by
 obtain ⟨h1,h2,h3,h4,h5,_⟩:=h
 simp only [jB,Bool.and_eq_true,decide_eq_true_eq,Int.toNat_natCast]
 exact ⟨by omega,h3,h4,h5⟩
def foJ (m : Msh) (i : Nat) (f : List Nat) : Nat -> List Nat
 | 0=>f
 | j + 1=>if jB m i (nbF m i j) then gf (foJ m i f j) i (nbF m i j).toNat else foJ m i f j
def foI (m : Msh) : Nat -> List Nat
 | 0=>List.range m.f.length
 | i + 1=>foJ m i (foI m i) 3
theorem lq {m : Msh} (hv : aE m=true) {i : Nat} (hi : i < m.f.length) {f : List Nat} (h : Fo m.f.length f) (hf : k9 m.f.length (kK m) f) : ∀ j,j <= 3 ->
  Fo m.f.length (foJ m i f j) /\ k9 m.f.length (kK m) (foJ m i f j) /\ (∀ x y,x < m.f.length -> y < m.f.length -> ftF f x=ftF f y -> ftF (foJ m i f j) x=ftF (foJ m i f j) y) /\
  (∀ c k : Nat,c < j -> nbF m i c=k -> kK m i k -> ftF (foJ m i f j) i=ftF (foJ m i f j) k)
 | 0,_=>⟨h,hf,fun _ _ _ _ e=>e,fun c k hc=>by omega⟩
 | j + 1,hj=>by
  obtain ⟨h1,h2,h3,h4⟩:=lq hv hi h hf j (by omega)
  unfold foJ
  split
  ·rename_i hb
   obtain ⟨k,e,hk,ha⟩:=sI hi (by omega) hb
   have e2 : (nbF m i j).toNat=k:=by omega
   rw [e2]
   refine ⟨(eM h1 hi hk).1,k9.join (qP hv) h1 h2 hi hk ha,fun x y hx hy ex=>mL h1 hi hk hx hy (h3 x y hx hy ex),fun c k' hc ec hak=>?_⟩
   by_cases hcj : c=j
   ·subst hcj
    have : k'=k:=by omega
    subst this
    exact rC h1 hi hk
   ·exact mL h1 hi hk hi hak.2.1 (h4 c k' (by omega) ec hak)
  ·rename_i hb
   refine ⟨h1,h2,h3,fun c k' hc ec hak=>?_⟩
   by_cases hcj : c=j
   ·subst hcj
    have:=sJ hak
    rw [<- ec] at this
    exact absurd this hb
   ·exact h4 c k' (by omega) ec hak
theorem gI {m : Msh} (hv : aE m=true) : ∀ i,i <= m.f.length -> Fo m.f.length (foI m i) /\ k9 m.f.length (kK m) (foI m i) /\ (∀ a k : Nat,a < i -> kK m a k -> ftF (foI m i) a=ftF (foI m i) k)
 | 0,_=>⟨(k9.init (kK m)).1,(k9.init (kK m)).2.1,fun a k h=>by omega⟩
 | i + 1,hi=>by
  obtain ⟨h1,h2,h3⟩:=gI hv i (by omega)
  obtain ⟨q1,q2,q3,q4⟩:=lq hv (show i < m.f.length by omega) h1 h2 3 (by omega)
  refine ⟨q1,q2,fun a k ha hak=>?_⟩
  by_cases e : a=i
  ·subst e
   obtain ⟨_,_,_,_,_,j,hj,ej⟩:=id hak
   exact q4 j k hj ej hak
  ·exact q3 a k hak.1 hak.2.1 (h3 a k (by omega) hak)
def rtP (m : Msh) (x : Nat) : Nat:=ftF (foI m m.f.length) x
theorem uk {m : Msh} (hv : aE m=true) {a : Nat} (ha : a < m.f.length) : rtP m a <= a /\ rtP m (rtP m a)=rtP m a:=by
 obtain ⟨h1,_,_⟩:=gI hv m.f.length (Nat.le_refl _)
 exact ⟨(eI h1 a ha).1,tq h1 ha⟩
theorem Cn.wet {m : Msh} {a b : Nat} (h : Cn (kK m) a b) : hG m a=hG m b /\ (bg m).sp.getD a 0=(bg m).sp.getD b 0:=by
 induction h with
 | refl=>exact ⟨rfl,rfl⟩
 | step _ r ih =>
  obtain ⟨_,_,h3,h4,h5,_⟩:=r
  exact ⟨ih.1.trans (h3.trans h4.symm),ih.2.trans h5⟩
theorem wo {m : Msh} (hv : aE m=true) {a : Nat} (ha : a < m.f.length) : hG m (rtP m a)=hG m a /\ (bg m).sp.getD (rtP m a) 0=(bg m).sp.getD a 0:=by
 have h:=(gI hv m.f.length (Nat.le_refl _)).2.1 a ha
 exact ⟨h.wet.1.symm,h.wet.2.symm⟩
def stB (m : Msh) (s : Nat) : Bool:=hG m s && decide (rtP m s=s)
def stT (m : Msh) (i : Nat) : List Nat:=(List.range i).filter (stB m)
def inP (m : Msh) (s k : Nat) : Bool:=hG m k && decide (rtP m k=s)
def c9 (m : Msh) (i : Nat) : List (List Nat):=(stT m i).map fun s=>(List.range i).filter (inP m s)
def mU (m : Msh) : List (List Nat):=c9 m m.f.length
def fK (m : Msh) (i : Nat) : List Int:=(List.range m.f.length).map fun s=>if s < i /\ stB m s=true then ((stT m s).length : Int) else 0
theorem fR (m : Msh) (i : Nat) : stT m (i + 1)=if stB m i then stT m i++[i] else stT m i:=by
 unfold stT
 rw [List.range_succ,List.filter_append]
 split <;> simp_all
theorem lZ (m : Msh) {r : Nat} (hr : stB m r=true) : ∀ i,r < i -> ∃ h : (stT m r).length < (stT m i).length,(stT m i)[(stT m r).length]=r
 | 0,h=>by omega
 | i + 1,h=>by
  have e:=fR m i
  by_cases hi : r=i
  ·subst hi
   rw [if_pos hr] at e
   refine ⟨by rw [e];simp,?_⟩
   simp [e]
  ·obtain ⟨h1,h2⟩:=lZ m hr i (by omega)
   split at e
   ·refine ⟨by rw [e];simp;omega,?_⟩
    simp only [e]
    rw [List.getElem_append_left h1]
    exact h2
   ·refine ⟨by rw [e];exact h1,?_⟩
    simp only [e]
    exact h2
theorem Bc (m : Msh) {r i j : Nat} (hr : stB m r=true) (hj : j < (stT m i).length) (hne : j ≠ (stT m r).length) : (stT m i)[j] ≠ r:=by
 intro e
 have hm : r ∈ stT m i:=by rw [<- e];exact List.getElem_mem _
 have hri : r < i:=by
  have:=(List.mem_filter.1 hm).1
  simpa using this
 obtain ⟨h1,h2⟩:=lZ m hr i hri
 have hnd : (stT m i).Nodup:=List.Pairwise.filter _ List.nodup_range
 exact hne ((List.getElem_inj hnd).1 (e.trans h2.symm))
theorem fM (m : Msh) (i : Nat) : (c9 m i).length=(stT m i).length:=by simp [c9]
theorem Bb (m : Msh) (i : Nat) : (stT m i).length <= i:=by
 have:=List.length_filter_le (stB m) (List.range i)
 simpa [stT] using this
theorem lB (m : Msh) (i : Nat) : (fK m i).length=m.f.length:=by simp [fK]
theorem ov {m : Msh} {i r : Nat} (hr : r < i) (hi : i <= m.f.length) (hs : stB m r=true) : (fK m i).getD r 0=((stT m r).length : Int):=by
 simp [fK,show r < m.f.length by omega,hr,hs]
theorem tC {m : Msh} {i : Nat} (hi : i < m.f.length) (hs : stB m i=true) : (fK m i).set i ((stT m i).length : Int)=fK m (i + 1):=by
 unfold fK
 apply List.ext_getElem (by simp)
 intro j h1 h2
 simp only [List.getElem_set,List.getElem_map,List.getElem_range]
 by_cases e : i=j
 ·subst e
  rw [if_pos rfl,if_pos ⟨by omega,hs⟩]
 ·rw [if_neg e]
  by_cases h : j < i /\ stB m j=true
  ·rw [if_pos h,if_pos ⟨by omega,h.2⟩]
  ·rw [if_neg h,if_neg fun h3=>h ⟨by omega,h3.2⟩]
theorem mK {m : Msh} {i : Nat} (hs : stB m i=false) : fK m i=fK m (i + 1):=by
 unfold fK
 apply List.map_congr_left
 intro j _
 by_cases h : j < i /\ stB m j=true
 ·rw [if_pos h,if_pos ⟨by omega,h.2⟩]
 ·rw [if_neg h,if_neg fun h3=>h ⟨by
   have : j ≠ i:=fun e=>by rw [e,hs] at h3;exact absurd h3.2 (by decide)
   omega,h3.2⟩]
theorem rA (m : Msh) : fK m 0=List.replicate m.f.length 0:=by
 unfold fK
 apply List.ext_getElem (by simp)
 intro j h1 h2
 simp
theorem lL {m : Msh} {i : Nat} (h : hG m i=false) : c9 m (i + 1)=c9 m i:=by
 unfold c9
 rw [fR,if_neg (by simp [stB,h])]
 apply List.map_congr_left
 intro s _
 rw [List.range_succ,List.filter_append]
 simp [inP,h]
theorem tU {m : Msh} (hv : aE m=true) {i : Nat} (hi : i < m.f.length) (h : stB m i=true) : c9 m (i + 1)=(c9 m i++[[]]).set (stT m i).length [i]:=by
 have hw : hG m i=true /\ rtP m i=i:=by simpa [stB] using h
 unfold c9
 rw [fR,if_pos h,List.map_append,<- List.length_map (f:=fun s=>(List.range i).filter (inP m s)),List.set_append_right _ _ (Nat.le_refl _)]
 simp only [Nat.sub_self,List.map_cons,List.map_nil,List.set_cons_zero]
 congr 1
 ·apply List.map_congr_left
  intro s hs
  rw [List.range_succ,List.filter_append]
  have : s < i:=by simpa using (List.mem_filter.1 hs).1
  have hne : ¬ i=s:=by omega
  simp [inP,hw.1,hw.2,hne]
 ·rw [List.range_succ,List.filter_append]
  have h0 : (List.range i).filter (inP m i)=[]:=by
   rw [List.filter_eq_nil_iff]
   intro k hk
   have hk : k < i:=by simpa using hk
   have:=(uk hv (a:=k) (by omega)).1
   simp only [inP,Bool.and_eq_true,decide_eq_true_eq]
   omega
  simp [h0,inP,hw.1,hw.2]
theorem tV {m : Msh} {i r : Nat} (hw : hG m i=true) (hr : rtP m i=r) (hri : r < i) (hs : stB m r=true) : ∃ l,l.length <= i /\ (c9 m i)[(stT m r).length]? = some l /\ c9 m (i + 1)=(c9 m i).set (stT m r).length (l++[i]):=by
 obtain ⟨h1,h2⟩:=lZ m hs i hri
 have hn : stB m i=false:=by
  have : ¬ r=i:=by omega
  simp [stB,hr,this]
 refine ⟨(List.range i).filter (inP m r),by have:=List.length_filter_le (inP m r) (List.range i);simpa using this,?_,?_⟩
 ·unfold c9
  rw [List.getElem?_map,List.getElem?_eq_getElem h1,h2]
  rfl
 ·unfold c9
  rw [fR,if_neg (by simp [hn])]
  apply List.ext_getElem (by simp)
  intro j g1 g2
  simp only [List.getElem_map,List.getElem_set]
  have g3 : j < (stT m i).length:=by simpa using g1
  have e3 : ∀ s,(List.range (i + 1)).filter (inP m s)=(List.range i).filter (inP m s)++(if inP m s i=true then [i] else []):=fun s=>by
   rw [List.range_succ,List.filter_append]
   congr 1
   rw [List.filter_cons,List.filter_nil]
  simp only [e3]
  by_cases e : (stT m r).length=j
  ·subst e
   rw [if_pos rfl,h2,if_pos (by simp [inP,hw,hr])]
  ·rw [if_neg e]
   have:=Bc m hs g3 (fun h=>e h.symm)
   have h5 : ¬ r=(stT m i)[j]:=fun h=>this h.symm
   rw [if_neg (by simp [inP,hw,hr,h5]),List.append_nil]
end Go.Gv

namespace Go.Gv
def rN (l : List (List Nat)) : List (List D):=l.map fun p=>[.sl (nfR p)]
def eR (l : List (List Nat)) : List (List D):=l.map fun p=>[.own 1 (nfR p)]
theorem wc (l : List (List Nat)) : (eR l).map (fun e=>e.map a6)=rN l:=by simp [eR,rN,a6]
section
variable {C : Nat -> List D -> D -> List D -> Prop} (hC : aI prog C)
include hC
theorem JZ (m : Msh) (i : Nat) (hi : i < m.f.length) : C 330 [.int .i64 i,.ptr [d9 m]] (.bool (hG m i)) []:=by
 have W:=ib m
 have h1 : i < (bg m).sp.length:=by rw [W.sp];exact hi
 have h2 : i < (bA m).length:=by simpa using hi
 refine aT hC (nf:=N330) rfl rfl ?_
 simp [N330,d9,aN (bO h1),aN (bO h2)]
 exact ⟨al (by decide +kernel),rfl⟩
set_option maxRecDepth 8000 in
set_option maxHeartbeats 2000000 in
theorem AR (m : Msh) (hv : aE m=true) : C 314 [d9 m] (.sl (rN (mU m))) []:=by
 have W:=ib m
 have hsz:=(d5 hv).2
 have kf:=pt hC m.f.length (by omega)
 have e0 : d9 m=.ptr [.sl (nbA m),slx true (inR (bA m)),.sl (inR (bg m).sp),.sl (inR (bg m).ou)]:=rfl
 have kw:=fun i hi=>JZ hC m i hi
 refine aT hC (nf:=N314) rfl rfl ?_
 simp [N314,e0]
 refine jF kf ?_
 simp
 have hfl : ∀ i,i <= m.f.length -> (foI m i).length=m.f.length:=fun i hi=>(gI hv i hi).1.len
 obtain ⟨fD,hfD⟩ : ∃ fD,fD=d9 m:=⟨_,rfl⟩
 rw [<- e0,<- hfD]
 rw [<- hfD] at kw
 refine ay Nat (fun i=>[(1,.ptr [fD]),(3,.ref (.r 10048) 0 m.f.length),(4,.fn 330 [.ptr [fD]]),(23,.sl (nbA m)),(24,.int .i64 m.f.length),(25,.int .i64 i),(10048,.blk 1 (nfR (foI m i)))]) (fun i=>i <= m.f.length) (fun i=>m.f.length - i) 0 (by simp) (by simp [foI]) ?_
 rintro i hi
 have hw : IntKind.wrap .i64 ((i : Int) + 1)=((i + 1 : Nat) : Int):=aj (by omega) (by omega)
 obtain ⟨F1,F2,F3⟩:=gI hv i hi
 simp
 refine am (fun g1=>?_) (fun g1=>?_) <;> simp at g1 <;> simp [g1]
 ·simp [aN (ja g1)]
  obtain ⟨f0,hf0⟩ : ∃ f0,f0=foI m i:=⟨_,rfl⟩
  have hsp:=fun j hj=>lq hv g1 F1 F2 j hj
  rw [<- hf0] at F1 F2 F3 hsp ⊢
  refine ay Nat (fun j=>[(1,.ptr [fD]),(3,.ref (.r 10048) 0 m.f.length),(4,.fn 330 [.ptr [fD]]),(5,.int .i64 i),(23,.sl (nbA m)),(24,.int .i64 m.f.length),(25,.int .i64 i),(30,.agg [.int .i64 (nbF m i 0),.int .i64 (nbF m i 1),.int .i64 (nbF m i 2)]),(31,.int .i64 j),(10048,.blk 1 (nfR (foJ m i f0 j)))]) (fun j=>j <= 3) (fun j=>3 - j) 0 (by simp) (by simp [foJ]) ?_
  rintro j hj
  have hw2 : IntKind.wrap .i64 ((j : Int) + 1)=((j + 1 : Nat) : Int):=aj (by omega) (by omega)
  obtain ⟨J1,J2,J3,J4⟩:=hsp j hj
  obtain ⟨fj,hfj⟩ : ∃ fj,fj=foJ m i f0 j:=⟨_,rfl⟩
  have hnx : foJ m i f0 (j + 1)=if jB m i (nbF m i j) then gf fj i (nbF m i j).toNat else fj:=by rw [hfj];rfl
  rw [<- hfj] at J1 J2 J3 J4 ⊢
  have hjl:=J1.len
  simp
  refine am (fun g3=>?_) (fun g3=>?_) <;> simp at g3
  ·have hxj : ([.int .i64 (nbF m i 0),.int .i64 (nbF m i 1),.int .i64 (nbF m i 2)] : List D)[j]?.getD .any=.int .i64 (nbF m i j):=by
    rcases (by omega : j=0 \/ j=1 \/ j=2) with rfl | rfl | rfl <;> rfl
   have hbd:=dS m i j
   obtain ⟨kk,hkk⟩ : ∃ kk,kk=nbF m i j:=⟨_,rfl⟩
   rw [<- hkk] at hxj hbd hnx
   simp [show (j : Int) < 3 by omega,hxj]
   refine ⟨by omega,?_⟩
   have fin : jB m i kk=false -> ∃ x,x <= 3 /\ 3 - x < 3 - j /\ IntKind.wrap .i64 ((j : Int) + 1)=(x : Int) /\ nfR fj=nfR (foJ m i f0 x):=fun hb=>⟨j + 1,by omega,by omega,hw2,by rw [hnx,hb];rfl⟩
   by_cases c1 : kk=-1
   ·simp [c1]
    exact ⟨al (by decide +kernel),fin (by simp [jB,c1])⟩
   ·obtain ⟨c,hc⟩ : ∃ c : Nat,kk=c:=⟨kk.toNat,by omega⟩
    subst hc
    have hcn : c < m.f.length:=by omega
    simp [c1]
    refine aa (kw i g1) (.inl rfl) ?_
    cases w1 : hG m i
    ·simp
     exact ⟨al (by decide +kernel),fin (by simp [jB,w1])⟩
    ·simp
     refine aa (kw c hcn) (.inl rfl) ?_
     cases w2 : hG m c
     ·simp
      exact ⟨al (by decide +kernel),fin (by simp [jB,w1,w2])⟩
     ·have h1 : i < (bg m).sp.length:=by rw [W.sp];exact g1
      have h2 : c < (bg m).sp.length:=by rw [W.sp];exact hcn
      have hj2:=(eM J1 g1 hcn).1
      rw [hfD,e0]
      simp [aN (bO h1),aN (bO h2)]
      refine ⟨al (by decide +kernel),?_⟩
      refine am (fun g5=>?_) (fun g5=>?_)
      ·have hb : jB m i (c : Int)=true:=by
        simp only [jB,Bool.and_eq_true,decide_eq_true_eq,Int.toNat_natCast]
        exact ⟨c1,w1,w2,by simpa using g5⟩
       rw [hb] at hnx
       simp only [if_true,Int.toNat_natCast] at hnx
       simp [g5]
       refine ⟨by omega,hjl,b7 (zU hC.1 m.f.length (by omega) fj J1 i c g1 hcn) (by have:=hj2.len;simp;omega) ?_⟩
       simp
       exact ⟨j + 1,by omega,by omega,hw2,by rw [hnx]⟩
      ·simp [g5]
       exact fin (by simpa [jB,w1,w2] using g5)
  ·have e3 : j=3:=by omega
   subst e3
   simp
   exact ⟨i + 1,by omega,by omega,hw,by rw [hfj,hf0];rfl⟩
 ·have e : i=m.f.length:=by omega
  subst e
  rw [hfD,e0]
  simp
  refine ⟨by omega,?_⟩
  rw [<- e0,<- hfD]
  have hz : List.replicate m.f.length [D.int .i64 0]=inR (fK m 0):=by rw [rA];simp [inR]
  rw [hz]
  refine ay (Nat × List Nat) (fun s=>[(3,.ref (.r 10048) 0 m.f.length),(4,.fn 330 [.ptr [fD]]),(9,.ref (.r 10144) 0 (c9 m s.1).length),(10,.ref (.r 10160) 0 m.f.length),(79,.int .i64 m.f.length),(80,.int .i64 s.1),(10048,.blk 1 (nfR s.2)),(10144,.blk 1 (eR (c9 m s.1))),(10160,.blk 1 (inR (fK m s.1)))])
   (fun s=>s.1 <= m.f.length /\ Fo m.f.length s.2 /\ ∀ x,x < m.f.length -> ftF s.2 x=rtP m x) (fun s=>m.f.length - s.1) (0,foI m m.f.length) ⟨by simp,F1,fun _ _=>rfl⟩ (by simp [c9,stT,eR]) ?_
  rintro ⟨i,f⟩ ⟨hi,K1,K2⟩
  simp only at hi K1 K2
  have hw : IntKind.wrap .i64 ((i : Int) + 1)=((i + 1 : Nat) : Int):=aj (by omega) (by omega)
  have kl:=K1.len
  simp
  refine am (fun g1=>?_) (fun g1=>?_) <;> simp at g1 <;> simp [g1]
  ·refine aa (kw i g1) (.inl rfl) ?_
   simp
   refine am (fun g2=>?_) (fun g2=>?_)
   ·simp at g2
    simp [g2]
    exact ⟨i + 1,f,⟨by omega,K1,K2⟩,by omega,by rw [lL g2],hw,rfl,by rw [lL g2],by rw [mK (by simp [stB,g2])]⟩
   ·simp at g2
    obtain ⟨r,hr⟩ : ∃ r,r=rtP m i:=⟨_,rfl⟩
    obtain ⟨r1,r2⟩:=uk hv g1
    obtain ⟨r3,r4⟩:=wo hv g1
    have kr:=pY hC.1 m.f.length (by omega) f K1 i g1
    rw [K2 i g1,<- hr] at kr
    obtain ⟨L1,L2⟩:=gL K1 g1
    rw [<- hr] at r1 r2 r3 r4
    have hrs : stB m r=true:=by simp [stB,r3,g2,r2]
    simp [g2,kl]
    refine ⟨by omega,b7 kr (by have:=L1.len;simp;omega) ?_⟩
    simp
    refine am (fun g3=>?_) (fun g3=>?_) <;> simp at g3
    ·have g3' : r=i:=by omega
     subst g3'
     clear g3
     have hii : r < (inR (fK m r)).length:=by simp [lB];exact g1
     have hid : r < (fK m r).length:=by simpa using hii
     have hst:=tC g1 hrs
     have hon:=tU hv g1 hrs
     have hol:=fM m r
     have hle:=Bb m r
     have hid2 : r < (fK m (r + 1)).length:=by rw [lB];exact g1
     have hig:=ov (m:=m) (i:=r + 1) (r:=r) (by omega) (by omega) hrs
     have hmt:=lZ m hrs (r + 1) (by omega)
     have hw2 : (stT m r).length < (c9 m (r + 1)).length:=by rw [fM];exact hmt.1
     have hpl : (eR (c9 m r)).length=(stT m r).length:=by simp [eR,hol]
     have htk : List.take (stT m r).length (eR (c9 m r))=eR (c9 m r):=List.take_of_length_le (by omega)
     have hig2 : (inR (fK m (r + 1)))[r]? = some [.int .i64 ((stT m r).length : Nat)]:=by rw [bO hid2,hig]
     have hrow : (eR (c9 m r)++[[D.nils]])[(stT m r).length]? = some [.nils]:=by rw [List.getElem?_append_right (by omega),hpl];simp
     have hset : (eR (c9 m r)++[[D.nils]]).set (stT m r).length [.own 1 [[.int .i64 (r : Int)]]]=eR (c9 m (r + 1)):=by
      rw [hon]
      unfold eR
      rw [List.map_set,List.map_append,List.set_append_right _ _ (by simp [hol]),List.set_append_right _ _ (by simp [hol])]
      simp [nfR,hol]
     simp [g1,bO hid,jO,hol,hst,htk,hpl,aH hig2]
     refine ⟨by omega,?_⟩
     simp [aH hrow,hrow]
     exact ⟨al (by decide +kernel),r + 1,hlL f r,⟨by omega,L1,fun x hx=>by rw [L2 x hx,K2 x hx]⟩,by omega,by rw [fM];have:=fR m r;rw [if_pos hrs] at this;rw [this];simp,hw,rfl,hset,rfl⟩
    ·have hri : r < i:=by omega
     obtain ⟨l,hll,ho1,ho2⟩:=tV g2 hr.symm hri hrs
     have hol:=fM m i
     have hmt:=lZ m hrs i hri
     have hid : r < (fK m i).length:=by rw [lB];omega
     have hig:=ov (m:=m) (i:=i) (r:=r) hri (by omega) hrs
     have hig2 : (inR (fK m i))[r]? = some [.int .i64 ((stT m r).length : Nat)]:=by rw [bO hid,hig]
     have hrow : (eR (c9 m i))[(stT m r).length]? = some [.own 1 (nfR l)]:=by unfold eR;rw [List.getElem?_map,ho1];rfl
     have hset : (eR (c9 m i)).set (stT m r).length [.own 1 (nfR (l++[i]))]=eR (c9 m (i + 1)):=by
      rw [ho2]
      unfold eR
      rw [List.map_set]
     have hrn : r < m.f.length:=by omega
     simp [g3,hrn,aH hig2]
     have hrl : (stT m r).length < (eR (c9 m i)).length:=by simp [eR,hol];exact hmt.1
     have hrl2 : (stT m r).length < (c9 m i).length:=by rw [hol];exact hmt.1
     have hgs : ∀ x,((eR (c9 m i)).set (stT m r).length x)[(stT m r).length]? = some x:=fun x=>List.getElem?_set_self hrl
     simp [aH hrow,hrow,hrl2]
     refine ⟨by omega,?_⟩
     simp [hgs]
     have hns : stB m i=false:=by simp [stB,<- hr];exact fun _ h=>g3 (by rw [h])
     have hso : (c9 m i).length=(c9 m (i + 1)).length:=by rw [fM,fM,fR,if_neg (by simp [hns])]
     refine ⟨?_,al (by decide +kernel),i + 1,hlL f i,⟨by omega,L1,fun x hx=>by rw [L2 x hx,K2 x hx]⟩,by omega,hso,hw,rfl,by rw [qx];exact hset,by rw [mK hns]⟩
     rintro e (he | rfl) c hc
     ·exact tQ _ _ he _ hc
     ·simp at hc;subst hc;rfl
  ·have e : i=m.f.length:=by omega
   subst e
   have hpl : (eR (mU m)).length=(mU m).length:=by simp [eR]
   exact ⟨by simp [eR],by rw [show c9 m m.f.length=mU m from rfl,wc];exact List.take_of_length_le (by simp [rN])⟩
end
end Go.Gv

namespace Go.Gv
def exS : Msh:=⟨false,[⟨0,0,1⟩,⟨10,0,2⟩,⟨0,10,4⟩],false,[⟨0,1,2,0⟩]⟩
theorem tf : aE exS=true:=by decide +kernel
theorem xU : (b4 exS).lv=[7] /\ (b4 exS).ou=[-1]:=by decide +kernel
theorem F6 : bA exS=[7]:=by decide +kernel
theorem te : (bg exS).sp=[7]:=(fE tf).1.trans xU.1
theorem td : (bg exS).ou=[-1]:=(fE tf).2.trans xU.2
theorem zB : drL exS=[0]:=by
 show [jU exS 0]=[0]
 unfold jU
 rw [td]
 rfl
theorem zD : mU exS=[]:=by
 show c9 exS 1=[]
 rw [lL (by unfold hG;rw [te,F6];rfl)]
 rfl
section
variable {C : Nat -> List D -> D -> List D -> Prop} (hC : aI prog C)
include hC
theorem yK (dec : Nat -> List UInt8) (hI : ∀ n : Nat,n < 100 -> C 127 [.int .i64 n] (.str (dec n)) []) (m : Msh) (hz : cL m=true -> m.s.length <= 100 /\ m.f.length <= 100) :
  C 279 [.agg (bk m)] (if aE m then .tup [.sl (rN (mU m)),.int .i64 0] else .tup [.nils,.int .i64 1]) []:=by
 have k:=ic hC dec hI m hz
 simp only [ae] at k
 refine aT hC (nf:=N279) rfl rfl ?_
 simp [N279,ae]
 refine aa k (.inr rfl) ?_
 cases hv : aE m
 ·simp
 ·have kp:=AR hC m hv
  rw [show d9 m=.ptr [.sl (nbA m),slx true (inR (bA m)),.sl (inR (bg m).sp),.sl (inR (bg m).ou)] from rfl] at kp ⊢
  simp
  refine aa kp (.inr rfl) ?_
  simp
theorem qT (dec : Nat -> List UInt8) (hI : ∀ n : Nat,n < 100 -> C 127 [.int .i64 n] (.str (dec n)) []) : C 241 [] (.bool true) []:=by
 have hz : cL exS=true -> exS.s.length <= 100 /\ exS.f.length <= 100:=fun _=>by simp [exS]
 have k1:=sv hC dec hI exS hz
 have k2:=mq hC dec hI exS hz
 have k3:=mo hC dec hI exS hz
 have k4:=yK hC dec hI exS hz
 have q1:=mE hC false false [7] [7] (by simp) (by simp)
 have q2:=mE hC false false [-1] [-1] (by simp) (by simp)
 have q3:=mE hC false false [0] [0] (by simp) (by simp)
 rw [tf] at k1 k2 k3 k4
 rw [te] at k1
 rw [td] at k2
 rw [zB] at k3
 rw [zD] at k4
 simp only [ae] at k1 k2 k3 k4
 simp [exS,pH,rN,eW,bz] at k1 k2 k3 k4 q1 q2 q3
 refine aT hC (nf:=N241) rfl rfl ?_
 simp [N241]
 refine aa k1 (.inr rfl) ?_
 simp
 refine aa k2 (.inr rfl) ?_
 simp
 refine aa k3 (.inr rfl) ?_
 simp
 refine aa k4 (.inr rfl) ?_
 simp
 refine aa q1 (.inl rfl) ?_
 simp
 refine aa q2 (.inl rfl) ?_
 simp
 refine aa q3 (.inl rfl) ?_
 simp
end
end Go.Gv

namespace Go.Gv
section
variable {C : Nat -> List D -> D -> List D -> Prop} (hC : aI prog C)
include hC
theorem rD (m : Msh) : C 242 [.agg (bk m)] (.bool (decide (60 < m.s.length) || decide (80 < m.f.length))) []:=by
 refine aT hC (nf:=N242) rfl rfl ?_
 simp [N242,ae]
 refine am (fun g1=>?_) (fun g1=>?_) <;> simp at g1
 ·simp [show (60 : Int) < m.s.length by omega]
  exact .inl (by omega)
 ·simp [show ¬ (60 : Int) < m.s.length by omega]
  rw [decide_eq_false (show ¬ 60 < m.s.length by omega),Bool.false_or]
  by_cases h : 80 < m.f.length
  ·rw [decide_eq_true h,decide_eq_true (by omega)]
  ·rw [decide_eq_false h,decide_eq_false (by omega)]
set_option maxHeartbeats 1000000 in
theorem lb (dec : Nat -> List UInt8) (hI : ∀ n : Nat,n < 100 -> C 127 [.int .i64 n] (.str (dec n)) []) (ka : C 241 [] (.bool true) []) (m : Msh) : C 208 [.agg (bk m)] (.bool true) []:=by
 have kl:=rD hC m
 simp only [ae] at kl
 refine aT hC (nf:=N208) rfl rfl ?_
 simp [N208,ae]
 refine aa ka (.inl rfl) ?_
 simp
 refine aa kl (.inl rfl) ?_
 simp
 refine am (fun g1=>?_) (fun g1=>?_)
 ·simp
 ·simp at g1
  have hz : cL m=true -> m.s.length <= 100 /\ m.f.length <= 100:=fun _=>by omega
  have k1:=sv hC dec hI m hz
  have k2:=mq hC dec hI m hz
  have k3:=mo hC dec hI m hz
  have k4:=t8 hC m hz
  simp only [ae] at k1 k2 k3 k4
  simp
  refine aa k1 (.inr rfl) ?_
  cases hv : aE m
  ·simp [hv] at k1 k2 k3 k4 ⊢
   refine aa k2 (.inr rfl) ?_
   simp
   refine aa k3 (.inr rfl) ?_
   simp
   refine aa k4 (.inl rfl) ?_
   simp
  ·have kf:=oM hC m hv (by omega)
   have kd:=pR hC m hv (by omega)
   obtain ⟨f1,f2⟩:=fE hv
   have W:=ib m
   rw [<- f1,<- f2] at kf
   simp only [ae] at kf kd
   have q1:=mE hC false false (bg m).sp (bg m).sp (by rw [W.sp];omega) (by rw [W.sp];omega)
   have q2:=mE hC false false (bg m).ou (bg m).ou (by rw [W.ou];omega) (by rw [W.ou];omega)
   have q3:=mE hC false false (drL m) (drL m) (by simp [drL];omega) (by simp [drL];omega)
   rw [<- pH] at q1 q2 q3
   simp at q1 q2 q3
   simp [hv] at k1 k2 k3 k4 ⊢
   refine aa k2 (.inr rfl) ?_
   simp
   refine aa k3 (.inr rfl) ?_
   simp
   refine aa k4 (.inl rfl) ?_
   simp
   refine aa kf (.inr rfl) ?_
   simp
   refine aa q1 (.inl rfl) ?_
   simp
   refine aa q2 (.inl rfl) ?_
   simp
   refine aa kd (.inr rfl) ?_
   simp
   refine aa q3 (.inl rfl) ?_
   simp
theorem mc (dec : Nat -> List UInt8) (hI : ∀ n : Nat,n < 100 -> C 127 [.int .i64 n] (.str (dec n)) []) (m : Msh) : C 208 [.agg (bk m)] (.bool true) []:=lb hC dec hI (qT hC dec hI) m
end
end Go.Gv
