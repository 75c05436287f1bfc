/-
  Texts of the proof: Z10, Z11, J3, J4, J5, J6, J7, J8, J9, J10, J11, J12, J13, J14, J15, J16, J17, J18, J19, J20, J21, J22.
-/
import Derived.Test.YteaonmajblajnaaGreatDoorX7
import Derived.Test.YteaonmajblajnaaGreatDoorX6
set_option linter.all false
namespace Go.Gv
theorem jf (x : Int) : (go x 0=-1 /\ x < 0) \/ (go x 0=0 /\ x=0) \/ (go x 0=1 /\ 0 < x):=by
 unfold go
 split
 ·exact .inl ⟨rfl,‹_›⟩
 ·split
  ·exact .inr (.inr ⟨rfl,‹_›⟩)
  ·exact .inr (.inl ⟨rfl,by omega⟩)
def mn2 (x y : Int) : Int:=if y < x then y else x
def mx2 (x y : Int) : Int:=if x < y then y else x
def oN (m : Msh) (i : Nat) (p : Pnt) : Int:=mn2 (mn2 (mn2 1 (go (tn0 m i p) 0)) (go (tn1 m i p) 0)) (go (tn2 m i p) 0)
theorem qY (m : Msh) (i : Nat) (p : Pnt) : decide (0 <= oN m i p)=decide (osF m i p < 0):=by
 rw [decide_eq_decide]
 have h0:=jf (tn0 m i p)
 have h1:=jf (tn1 m i p)
 have h2:=jf (tn2 m i p)
 have hc:=sw m i p
 unfold oN mn2
 generalize go (tn0 m i p) 0=a at *
 generalize go (tn1 m i p) 0=b at *
 generalize go (tn2 m i p) 0=c at *
 constructor
 ·intro h
  split at h <;> split at h <;> split at h <;> omega
 ·intro h
  split <;> split <;> split <;> omega
variable {C : CC} (hC : aA prog C)
include hC
theorem eS {a b c : Pnt} (ha : okP a=true) (hb : okP b=true) (hc : okP c=true) : C 360 [.agg (ptD a),.agg (ptD b),.agg (ptD c)] (.int .i64 (ao a b c)) []:=by
 have:=cm ha
 have:=cm hb
 have:=cm hc
 have h4:=jS ha hb hc
 refine start hC (nf:=N360) rfl rfl ?_
 have w1 : IntKind.wrap .i64 (b.1 - a.1)=b.1 - a.1:=ae rfl (by omega)
 have w2 : IntKind.wrap .i64 (c.2 - a.2)=c.2 - a.2:=ae rfl (by omega)
 have w3 : IntKind.wrap .i64 (b.2 - a.2)=b.2 - a.2:=ae rfl (by omega)
 have w4 : IntKind.wrap .i64 (c.1 - a.1)=c.1 - a.1:=ae rfl (by omega)
 have w5 : IntKind.wrap .i64 ((b.1 - a.1) * (c.2 - a.2))=(b.1 - a.1) * (c.2 - a.2):=ae rfl (by omega)
 have w6 : IntKind.wrap .i64 ((b.2 - a.2) * (c.1 - a.1))=(b.2 - a.2) * (c.1 - a.1):=ae rfl (by omega)
 have w7 : IntKind.wrap .i64 ((b.1 - a.1) * (c.2 - a.2) - (b.2 - a.2) * (c.1 - a.1))=ao a b c:=ae rfl (by rw [ao];omega)
 simp [N360,ptD,w1,w2,w3,w4,w5,w6,w7]
theorem xj (p : Pnt) : C 361 [.agg (ptD p)] (.bool (!okP p)) []:=by
 have k:=fp hC p
 simp only [ptD] at k
 refine start hC (nf:=N361) rfl rfl ?_
 simp [N361,ptD]
 refine aa k (.inl rfl) ?_
 simp
theorem qo (b : Bool) (ps : List Pnt) (hp : ps.length < 2 ^ 62) : C 359 [slx b (ps.map fun x=>ptD x)] (.bool (ps.all okP)) []:=by
 have k2:=oL hC (b:=b) (xs:=ps) (g:=361) (cs:=[]) (fun x=>!okP x) hp (fun x _=>xj hC x)
 have e : (ps.any fun x=>!okP x)=!ps.all okP:=by rw [List.all_eq_not_any_not,Bool.not_not]
 rw [e] at k2
 refine start hC (nf:=N359) rfl rfl ?_
 simp [N359]
 refine aa k2 (.inl rfl) ?_
 simp
set_option maxHeartbeats 4000000 in
theorem mX (m : Msh) (hv : aF m=true) (i : Nat) (hi : i < m.f.length) (p : Pnt) (hp : okP p=true) :
  C 355 [.agg (ptD p),.agg (ptD (ptS (spA m i))),.agg (ptD (ptS (spB m i))),.agg (ptD (ptS (spC m i)))] (.tup [.int .i64 (oN m i p),.int .i64 0]) []:=by
 obtain ⟨oa,ob,oc⟩:=kF hv hi
 have hd : 0 < fx m i:=(ly hv hi).2
 have ka:=qo hC false [p,ptS (spA m i),ptS (spB m i),ptS (spC m i)] (by simp)
 have kd : C 360 [.agg (ptD (ptS (spA m i))),.agg (ptD (ptS (spB m i))),.agg (ptD (ptS (spC m i)))] (.int .i64 (fx m i)) []:=eS hC oa ob oc
 have t0 : C 360 [.agg (ptD (ptS (spA m i))),.agg (ptD (ptS (spB m i))),.agg (ptD p)] (.int .i64 (tn0 m i p)) []:=eS hC oa ob hp
 have t1 : C 360 [.agg (ptD (ptS (spB m i))),.agg (ptD (ptS (spC m i))),.agg (ptD p)] (.int .i64 (tn1 m i p)) []:=eS hC ob oc hp
 have t2 : C 360 [.agg (ptD (ptS (spC m i))),.agg (ptD (ptS (spA m i))),.agg (ptD p)] (.int .i64 (tn2 m i p)) []:=eS hC oc oa hp
 have cd:=iC hC (fx m i) 0
 have c0:=iC hC (tn0 m i p) 0
 have c1:=iC hC (tn1 m i p) 0
 have c2:=iC hC (tn2 m i p) 0
 rw [show go (fx m i) 0=1 by have:=jf (fx m i);omega] at cd
 simp [oa,ob,oc,hp] at ka
 have g0:=jf (tn0 m i p)
 have g1:=jf (tn1 m i p)
 have g2:=jf (tn2 m i p)
 unfold oN
 obtain ⟨x0,h0⟩ : ∃ x,x=go (tn0 m i p) 0:=⟨_,rfl⟩
 obtain ⟨x1,h1⟩ : ∃ x,x=go (tn1 m i p) 0:=⟨_,rfl⟩
 obtain ⟨x2,h2⟩ : ∃ x,x=go (tn2 m i p) 0:=⟨_,rfl⟩
 rw [<- h0] at c0 g0 ⊢
 rw [<- h1] at c1 g1 ⊢
 rw [<- h2] at c2 g2 ⊢
 have e0 : IntKind.wrap .i64 x0=x0:=ae rfl (by omega)
 have e1 : IntKind.wrap .i64 x1=x1:=ae rfl (by omega)
 have e2 : IntKind.wrap .i64 x2=x2:=ae rfl (by omega)
 have w1 : IntKind.wrap .i64 1=1:=by decide
 have w2 : IntKind.wrap .i64 2=2:=by decide
 have w3 : IntKind.wrap .i64 3=3:=by decide
 clear g0 g1 g2 h0 h1 h2
 obtain ⟨A,hA⟩ : ∃ A,A=ptS (spA m i):=⟨_,rfl⟩
 obtain ⟨B,hB⟩ : ∃ A,A=ptS (spB m i):=⟨_,rfl⟩
 obtain ⟨Z,hZ⟩ : ∃ A,A=ptS (spC m i):=⟨_,rfl⟩
 rw [<- hA,<- hB,<- hZ] at ka kd ⊢
 rw [<- hA,<- hB] at t0
 rw [<- hB,<- hZ] at t1
 rw [<- hA,<- hZ] at t2
 clear hA hB hZ
 simp only [ptD] at ka kd t0 t1 t2
 refine start hC (nf:=N355) rfl rfl ?_
 simp [N355,ptD]
 refine aa ka (.inl rfl) ?_
 simp
 refine aa kd (.inl rfl) ?_
 simp
 refine aa cd (.inl rfl) ?_
 simp
 refine au Nat (fun k=>[(4,.ptr (ptD p)),(10,.int .i64 1),(11,.int .i64 (if k=0 then 1 else if k=1 then mn2 1 x0 else if k=2 then mn2 (mn2 1 x0) x1 else mn2 (mn2 (mn2 1 x0) x1) x2)),(37,.agg [.int .i64 A.1,.int .i64 A.2,.int .i64 B.1,.int .i64 B.2,.int .i64 B.1,.int .i64 B.2,.int .i64 Z.1,.int .i64 Z.2,.int .i64 Z.1,.int .i64 Z.2,.int .i64 A.1,.int .i64 A.2]),(38,.int .i64 k)]) (fun k=>k <= 3) (fun k=>3 - k) 0 (by simp) (by simp [ptD]) ?_
 rintro k hk
 rcases (by omega : k=0 \/ k=1 \/ k=2 \/ k=3) with rfl | rfl | rfl | rfl
 ·simp [ptD,w1]
  refine aa t0 (.inl rfl) ?_
  simp
  refine aa c0 (.inl rfl) ?_
  simp [e0]
  exact ⟨1,by omega,by omega,by simp [ptD,w1,mn2]⟩
 ·simp [ptD,w2]
  refine aa t1 (.inl rfl) ?_
  simp
  refine aa c1 (.inl rfl) ?_
  simp [e1]
  exact ⟨2,by omega,by omega,by simp [ptD,w2,mn2]⟩
 ·simp [ptD,w3]
  refine aa t2 (.inl rfl) ?_
  simp
  refine aa c2 (.inl rfl) ?_
  simp [e2]
  exact ⟨3,by omega,by omega,by simp [ptD,w3,mn2]⟩
 ·simp
end Go.Gv

namespace Go.Gv
def mnZ (m : Msh) (i : Nat) : Int:=mn2 (mn2 (spA m i).z (spB m i).z) (spC m i).z
def mxZ (m : Msh) (i : Nat) : Int:=mx2 (mx2 (spA m i).z (spB m i).z) (spC m i).z
variable {C : CC} (hC : aA prog C)
include hC
end Go.Gv

namespace Go.Gv
def gr (a b c d : Pnt) : Int:=if (apG a b c d && apG c d a b)=true then 2 else if (onG a b c || onG a b d || onG c d a || onG c d b)=true then 1 else 0
def cnr (m : Msh) (i k : Nat) : Pnt:=if k=0 then ptS (spA m i) else if k=1 then ptS (spB m i) else ptS (spC m i)
def cw (m : Msh) (i k : Nat) (a b : Pnt) : Int:=gr a b (cnr m i k) (cnr m i ((k + 1) % 3))
def eq (m : Msh) (i : Nat) (a b : Pnt) : Bool:=decide (osF m i a < 0) || decide (osF m i b < 0) || (List.range 3).any fun k=>decide (0 < cw m i k a b)
def PI (m : Msh) (a b : Pnt) : List Nat:=(List.range m.f.length).filter fun i=>eq m i a b
theorem qF (a b : Pnt) : ao a b a=0 /\ ao a b b=0:=by unfold ao;constructor <;> grind
theorem gq {m : Msh} (hv : aF m=true) {i : Nat} (hi : i < m.f.length) (k : Nat) (hk : k < 3) : cnr m i k ≠ cnr m i ((k + 1) % 3):=by
 have hd : 0 < fx m i:=(ly hv hi).2
 unfold fx at hd
 intro e
 rcases (by omega : k=0 \/ k=1 \/ k=2) with rfl | rfl | rfl
 ·simp only [cnr] at e;simp at e;rw [e] at hd;have:=(qF (ptS (spB m i)) (ptS (spC m i))).1;unfold ao at hd;simp at hd
 ·simp only [cnr] at e;simp at e;rw [e] at hd;rw [(qF _ _).2] at hd;omega
 ·simp only [cnr] at e;simp at e;rw [e] at hd;rw [(qF _ _).1] at hd;omega
theorem bf {m : Msh} (hv : aF m=true) {i : Nat} (hi : i < m.f.length) (k : Nat) : okP (cnr m i k)=true:=by
 obtain ⟨h1,h2,h3⟩:=kF hv hi
 unfold cnr
 split
 ·exact h1
 ·split
  ·exact h2
  ·exact h3
def atL (a b : Pnt) (n k : Nat) : Pnt:=(a.1 + (b.1 - a.1) * k / n,a.2 + (b.2 - a.2) * k / n)
def jK (a b : Pnt) (n : Nat) : List Pnt:=(List.range (n + 1)).map (atL a b n)
def dR (a b : Pnt) : Int:=if okP a=true /\ okP b=true then (if a=b then 25 else 0) else 1
theorem qU {x : Int} {n k : Nat} {B : Int} (hn : 0 < n) (hk : k <= n) (hB : -B <= x /\ x <= B) : min 0 x <= x * k / n /\ x * k / n <= max 0 x:=by
 have hn' : (0 : Int) < n:=by omega
 constructor
 ·apply (Int.le_ediv_iff_mul_le hn').2
  rcases Int.le_total 0 x with h | h
  ·have:=Int.mul_nonneg h (show (0 : Int) <= k by omega)
   rw [Int.min_eq_left h];omega
  ·rw [Int.min_eq_right h]
   have:=Int.mul_nonneg (show 0 <= -x by omega) (show (0 : Int) <= (n : Int) - k by omega)
   have e : -x * ((n : Int) - k)=x * k - x * n:=by rw [Int.neg_mul,Int.mul_sub];omega
   omega
 ·rcases Int.le_total 0 x with h | h
  ·rw [Int.max_eq_right h]
   exact Int.ediv_le_of_le_mul hn' (Int.mul_le_mul_of_nonneg_left (by omega) h)
  ·rw [Int.max_eq_left h]
   refine Int.ediv_le_of_le_mul hn' ?_
   have:=Int.mul_nonneg (show 0 <= -x by omega) (show (0 : Int) <= k by omega)
   have e : -x * (k : Int)=-(x * k):=Int.neg_mul _ _
   omega
theorem tk {a b : Pnt} (ha : okP a=true) (hb : okP b=true) {n k : Nat} (hn : 0 < n) (hk : k <= n) : okP (atL a b n k)=true:=by
 simp only [okP,Bool.and_eq_true,decide_eq_true_eq] at ha hb ⊢
 have h1:=qU (x:=b.1 - a.1) (B:=33554432) hn hk (by omega)
 have h2:=qU (x:=b.2 - a.2) (B:=33554432) hn hk (by omega)
 simp only [atL]
 omega
end Go.Gv

namespace Go.Gv
def ug (q : Int × Int) : Prop:=0 < q.2 /\ q.2 <= 1073741824 /\ -1073741824 <= q.1 /\ q.1 <= 1073741824 /\ Nat.gcd q.1.natAbs q.2.natAbs=1
instance (q : Int × Int) : Decidable (ug q):=by unfold ug;infer_instance
def f7 (q : Int × Int) : Frq:=if h : ug q then ⟨q,h⟩ else ⟨(0,1),by decide⟩
theorem im {q : Int × Int} (h : ug q) : (f7 q).1=q:=by unfold f7;exact congrArg Subtype.val (dif_pos h)
def cdK (m : Msh) (a b : Pnt) (i k : Nat) : List (Int × Int):=if cw m i k a b=2 then [(ao (cnr m i k) (cnr m i ((k + 1) % 3)) a,ao (cnr m i k) (cnr m i ((k + 1) % 3)) b)] else []
def cdF (m : Msh) (a b : Pnt) (i k : Nat) : List (Int × Int):=(List.range k).flatMap (cdK m a b i)
def cdL (m : Msh) (a b : Pnt) (i : Nat) : List (Int × Int):=(List.range i).flatMap fun i=>cdF m a b i 3
def dx (p : Int × Int) : Bool:=decide (cA p.1 (p.1 - p.2)=0)
def fqs (l : List (Int × Int)) : List Frq:=l.map fun p=>f7 (cy p.1 (p.1 - p.2))
def iY (m : Msh) (a b : Pnt) : List Frq:=lD fqC (fqs (cdL m a b m.f.length))
theorem tp (m : Msh) (a b : Pnt) (i : Nat) : cdF m a b i 0=[]:=rfl
theorem lE (m : Msh) (a b : Pnt) (i k : Nat) : cdF m a b i (k + 1)=cdF m a b i k++cdK m a b i k:=by simp [cdF,List.range_succ]
theorem jv (m : Msh) (a b : Pnt) : cdL m a b 0=[]:=rfl
theorem oo (m : Msh) (a b : Pnt) (i : Nat) : cdL m a b (i + 1)=cdL m a b i++cdF m a b i 3:=by simp [cdL,List.range_succ]
theorem lK (l l' : List (Int × Int)) : fqs (l++l')=fqs l++fqs l':=by simp [fqs]
theorem vV (m : Msh) (a b : Pnt) (i k : Nat) : (cdK m a b i k).length <= 1:=by unfold cdK;split <;> simp
theorem nr (m : Msh) (a b : Pnt) (i : Nat) : ∀ k,(cdF m a b i k).length <= k
 | 0=>by simp [cdF]
 | k + 1=>by rw [lE,List.length_append];have:=nr m a b i k;have:=vV m a b i k;omega
theorem ju (m : Msh) (a b : Pnt) : ∀ i,(cdL m a b i).length <= 3 * i
 | 0=>by simp [cdL]
 | i + 1=>by rw [oo,List.length_append];have:=ju m a b i;have:=nr m a b i 3;omega
theorem Fw {a b c d : Pnt} (h : gr a b c d=2) : (ao c d a < 0 /\ 0 < ao c d b) \/ (0 < ao c d a /\ ao c d b < 0):=by
 unfold gr at h
 split at h
 ·rename_i h1
  simp only [apG,Bool.and_eq_true,Bool.or_eq_true,decide_eq_true_eq] at h1
  exact h1.2
 ·split at h <;> omega
theorem xb {m : Msh} {a b : Pnt} {n : Nat} {p : Int × Int} (h : p ∈ cdL m a b n) : ∃ i k,i < n /\ k < 3 /\ cw m i k a b=2 /\ p=(ao (cnr m i k) (cnr m i ((k + 1) % 3)) a,ao (cnr m i k) (cnr m i ((k + 1) % 3)) b):=by
 simp only [cdL,List.mem_flatMap,List.mem_range,cdF] at h
 obtain ⟨i,hi,k,hk,h⟩:=h
 unfold cdK at h
 split at h
 ·rename_i h2
  exact ⟨i,k,hi,hk,h2,by simpa using h⟩
 ·simp at h
theorem vX {m : Msh} {a b : Pnt} {n : Nat} {p : Int × Int} (h : p ∈ cdL m a b n) : (p.1 < 0 /\ 0 < p.2) \/ (0 < p.1 /\ p.2 < 0):=by
 obtain ⟨i,k,_,_,h2,rfl⟩:=xb h
 exact Fw h2
theorem tq {m : Msh} {a b : Pnt} {n : Nat} {p : Int × Int} (h : p ∈ cdL m a b n) : cA p.1 (p.1 - p.2)=0 \/ cA p.1 (p.1 - p.2)=5:=(tD (vX h)).2.1
def omF (q : Frq) : Frq:=f7 (q.1.2 - q.1.1,q.1.2)
def PG (q : Frq) : Prop:=0 <= q.1.1 /\ q.1.1 <= q.1.2
end Go.Gv

set_option maxRecDepth 4000
namespace Go.Gv
theorem yI {x q c : Int} (hc : 0 < c) (h1 : q * c <= x) (h2 : x < q * c + c) : x / c=q:=by
 apply Int.le_antisymm
 ·have:=(Int.ediv_lt_iff_lt_mul hc (a:=x) (b:=q + 1)).2 (by rw [Int.add_mul];omega)
  omega
 ·exact (Int.le_ediv_iff_mul_le hc).2 h1
theorem zM {x c : Int} (hc : 0 < c) : x / c=if x.tmod c < 0 then x.tdiv c - 1 else x.tdiv c:=by
 have e:=Int.mul_tdiv_add_tmod x c
 have e2 : c * x.tdiv c=x.tdiv c * c:=Int.mul_comm _ _
 have l:=Int.tmod_lt_of_pos x hc
 have g : -c < x.tmod c:=by
  have:=Int.tmod_lt_of_pos (-x) hc
  rw [Int.neg_tmod] at this
  omega
 split
 ·exact yI hc (by rw [Int.sub_mul];omega) (by rw [Int.sub_mul];omega)
 ·exact yI hc (by omega) (by omega)
theorem pB {x c B : Int} (hc : 0 < c) (h : -B <= x /\ x <= B) : -B <= x.tdiv c /\ x.tdiv c <= B:=by
 have e:=Int.mul_tdiv_add_tmod x c
 rcases Int.le_total 0 x with h0 | h0
 ·have h1:=Int.tdiv_nonneg h0 (Int.le_of_lt hc)
  have h2 : x.tdiv c <= x:=Int.tdiv_le_self c h0
  omega
 ·have h1:=Int.tdiv_nonneg (show 0 <= -x by omega) (Int.le_of_lt hc)
  have h2 : (-x).tdiv c <= -x:=Int.tdiv_le_self c (by omega)
  rw [Int.neg_tdiv] at h1 h2
  omega
def lh (n : Int) : Bool:=decide (-4194304 <= n) && decide (n <= 4194304)
def jg (e : Int) (n : Int) (ls : List Int) : Int:=if e=0 then (if (1 <= n /\ n <= 999) /\ ls.all lh=true then 0 else 2) else e
def ptR (a b : Pnt) (n k : Nat) : List (List D):=(List.range k).map fun i=>ptD (atL a b n i)
def ptE (a b : Pnt) (n k : Nat) : List (List D):=if k=0 then List.replicate (n + 1) [.int .i64 0,.int .i64 0] else ptR a b n k
theorem ri (a b : Pnt) (n k : Nat) : (ptR a b n k).length=k:=by simp [ptR]
theorem pa (a b : Pnt) (n k : Nat) : (ptE a b n k).take k=ptR a b n k:=by
 unfold ptE
 split
 ·rename_i h;subst h;simp [ptR]
 ·exact List.take_of_length_le (by rw [ri];exact Nat.le_refl _)
theorem uM (a b : Pnt) (n k : Nat) : k <= (ptE a b n k).length:=by
 unfold ptE
 split
 ·simp_all
 ·rw [ri];exact Nat.le_refl _
theorem uP (a b : Pnt) (n k : Nat) : ptR a b n (k + 1)=ptR a b n k++[ptD (atL a b n k)]:=by simp [ptR,List.range_succ]
theorem uN (a b : Pnt) (n k : Nat) : ptE a b n (k + 1)=ptR a b n k++[ptD (atL a b n k)]:=by
 unfold ptE;rw [if_neg (by omega),uP]
theorem uO (a b : Pnt) (n : Nat) : ptE a b n 0=List.replicate (n + 1) [.int .i64 0,.int .i64 0]:=by simp [ptE]
theorem xn (a b : Pnt) (n k : Nat) : ∀ e ∈ ptR a b n k,e.length=2 /\ ∀ c ∈ e,aw c=true:=by
 intro e he
 obtain ⟨i,_,rfl⟩:=List.mem_map.1 he
 simp [ptD]
theorem IY (a b : Pnt) (n k : Nat) : (ptR a b n k).map (fun e=>e.map aR)=ptR a b n k:=by
 unfold ptR
 rw [List.map_map]
 exact List.map_congr_left fun i _=>by simp [ptD]
theorem xm (a b : Pnt) (n : Nat) : ptR a b n (n + 1)=(jK a b n).map fun x=>ptD x:=by simp [ptR,jK]
variable {C : CC} (hC : aA prog C)
include hC
theorem jR (x : Int) (c : Int) (hc : 0 < c) (hx : -4611686018427387904 <= x /\ x <= 4611686018427387904) : C 730 [.int .i64 x,.int .i64 c] (.int .i64 (x / c)) []:=by
 have hc0 : ¬ c=0:=by omega
 have b:=pB hc hx
 have w1 : IntKind.wrap .i64 (x.tdiv c)=x.tdiv c:=ae rfl (by omega)
 have w2 : IntKind.wrap .i64 (x.tdiv c - 1)=x.tdiv c - 1:=ae rfl (by omega)
 rw [zM hc]
 refine start hC (nf:=N730) rfl rfl ?_
 simp [N730,hc0,w1]
 by_cases h : x.tmod c < 0
 ·simp [h,w2]
 ·simp [h]
theorem sT (n : Int) : C 740 [.int .i64 n] (.bool (!lh n)) []:=by
 refine start hC (nf:=N740) rfl rfl ?_
 simp [N740,lh]
 by_cases h : n < -4194304
 ·simp [h]
 ·simp [h]
  rw [Bool.eq_iff_iff]
  simp
  omega
theorem pC (b : Bool) (ls : List Int) (hl : ls.length < 2 ^ 62) : C 729 [slx b (ls.map fun n=>[.int .i64 n])] (.bool (ls.all lh)) []:=by
 have k:=oK hC (b:=b) (xs:=ls) (g:=740) (cs:=[]) (fun n=>!lh n) hl (fun x _=>sT hC x)
 have e : (ls.any fun x=>!lh x)=!ls.all lh:=by rw [List.all_eq_not_any_not,Bool.not_not]
 rw [e] at k
 refine start hC (nf:=N729) rfl rfl ?_
 simp [N729]
 refine aa k (.inl rfl) ?_
 simp
theorem w9 (a b : Pnt) : C 708 [.nilp,.agg (ptD a),.agg (ptD b)] (.int .i64 (dR a b)) []:=by
 have ka:=fp hC a
 have kb:=fp hC b
 simp only [ptD] at ka kb
 refine start hC (nf:=N708) rfl rfl ?_
 unfold dR
 simp [N708,ptD]
 refine aa ka (.inl rfl) ?_
 cases h1 : okP a
 ·simp
 simp
 refine aa kb (.inl rfl) ?_
 cases h2 : okP b
 ·simp
 simp
 by_cases h3 : a.1=b.1
 ·by_cases h4 : a.2=b.2
  ·simp [h3,h4,Prod.ext h3 h4]
  ·have hne : ¬ a=b:=fun e=>h4 (by rw [e])
   simp [h3,h4,hne]
 ·have hne : ¬ a=b:=fun e=>h3 (by rw [e])
  simp [h3,hne]
theorem tx (a b : Pnt) (n : Int) : C 703 [.nilp,.agg (ptD a),.agg (ptD b),.int .i64 n,.nils] (.int .i64 (jg (dR a b) n [])) []:=by
 have k1:=w9 hC a b
 have k2:=pC hC true [] (by simp)
 simp only [ptD] at k1
 refine start hC (nf:=N703) rfl rfl ?_
 unfold jg
 simp [N703,ptD]
 refine aa k1 (.inl rfl) ?_
 clear k1
 generalize dR a b=e
 simp
 by_cases h : e=0
 ·subst h
  simp
  by_cases h1 : n < 1
  ·simp [h1,show ¬ 1 <= n by omega]
  ·by_cases h2 : 999 < n
   ·simp [h1,h2,show ¬ n <= 999 by omega]
   ·simp [h1,h2,show 1 <= n by omega,show n <= 999 by omega]
    simp at k2
    refine aa k2 (.inl rfl) ?_
    simp
    omega
 ·simp [h]
set_option maxHeartbeats 1000000 in
theorem kG (a b : Pnt) (ha : okP a=true) (hb : okP b=true) (n : Nat) (h1 : 1 <= n) (h2 : n <= 999) : C 704 [.agg (ptD a),.agg (ptD b),.int .i64 n] (.sl ((jK a b n).map fun x=>ptD x)) []:=by
 have ba:=cm ha
 have bb:=cm hb
 have w0 : IntKind.wrap .i64 ((n : Int) + 1)=((n + 1 : Nat) : Int):=ae (by omega) (by omega)
 have w1 : IntKind.wrap .i64 (b.1 - a.1)=b.1 - a.1:=ae rfl (by omega)
 have w2 : IntKind.wrap .i64 (b.2 - a.2)=b.2 - a.2:=ae rfl (by omega)
 refine start hC (nf:=N704) rfl rfl ?_
 simp [N704,ptD,w0]
 refine ⟨by omega,by omega,?_⟩
 refine au Nat (fun k=>[(2,.int .i64 n),(3,.ptr (ptD a)),(4,.ptr (ptD b)),(7,.ref (.r 10112) 0 k),(10112,.blk 2 (ptE a b n k)),(13,.int .i64 ((n + 1 : Nat) : Int)),(14,.int .i64 k)]) (fun k=>k <= n + 1) (fun k=>n + 1 - k) 0 (by simp) (by simp [ptD,uO]) ?_
 intro k hk
 simp
 refine al (fun h=>?_) (fun h=>?_) <;> simp at h
 ·have hw : IntKind.wrap .i64 ((k : Int) + 1)=((k + 1 : Nat) : Int):=ae (by omega) (by omega)
  have hk' : k <= n:=by omega
  have m1:=fo (a:=b.1 - a.1) (b:=(k : Int)) (k:=33554432) (l:=999) (by omega) (by omega) (by omega) (by omega)
  have m2:=fo (a:=b.2 - a.2) (b:=(k : Int)) (k:=33554432) (l:=999) (by omega) (by omega) (by omega) (by omega)
  have w3 : IntKind.wrap .i64 ((b.1 - a.1) * k)=(b.1 - a.1) * k:=ae rfl (by omega)
  have w4 : IntKind.wrap .i64 ((b.2 - a.2) * k)=(b.2 - a.2) * k:=ae rfl (by omega)
  have f1:=jR hC ((b.1 - a.1) * k) n (by omega) (by omega)
  have f2:=jR hC ((b.2 - a.2) * k) n (by omega) (by omega)
  have ho:=cm (tk ha hb (show 0 < n by omega) hk')
  have w5 : IntKind.wrap .i64 (a.1 + (b.1 - a.1) * k / n)=(atL a b n k).1:=ae rfl (by omega)
  have w6 : IntKind.wrap .i64 (a.2 + (b.2 - a.2) * k / n)=(atL a b n k).2:=ae rfl (by omega)
  have hle:=uM a b n k
  have hss:=uN a b n k
  have htk:=pa a b n k
  have hpc:=xn a b n k
  simp [h,ptD,w1,w2,w3,w4]
  refine aa f1 (.inl rfl) ?_
  simp [w5,w2,w4]
  refine aa f2 (.inl rfl) ?_
  simp [w6]
  refine ⟨hle,by omega,ah (by decide +kernel),k + 1,by omega,by omega,rfl,?_,hw⟩
  rw [htk,hss];rfl
 ·have ek : k=n + 1:=by omega
  subst ek
  simp [h]
  refine ⟨uM a b n (n + 1),?_⟩
  rw [<- List.map_take,pa,IY,xm]
  rfl
end Go.Gv

set_option maxRecDepth 4000
namespace Go.Gv
def fqD (q : Frq) : List D:=[.int .i64 q.1.1,.int .i64 q.1.2]
theorem mnE (x y : Int) : (if y < x then y else x)=min x y:=by split <;> omega
theorem mxE (x y : Int) : (if x < y then y else x)=max x y:=by split <;> omega
def mkE (n d : Int) : Int:=if 1073741824 < n / Nat.gcd n.natAbs d.natAbs \/ 1073741824 < d / Nat.gcd n.natAbs d.natAbs then 5 else 0
def mkQ (n d : Int) : Int × Int:=if mkE n d=0 then (n / Nat.gcd n.natAbs d.natAbs,d / Nat.gcd n.natAbs d.natAbs) else (0,0)
variable {C : CC} (hC : aA prog C)
include hC
theorem xh {a b p : Pnt} (ha : okP a=true) (hb : okP b=true) (hp : okP p=true) : C 732 [.agg (ptD a),.agg (ptD b),.agg (ptD p)] (.bool (onG a b p)) []:=by
 have k:=eS hC ha hb hp
 simp only [ptD] at k
 refine start hC (nf:=N732) rfl rfl ?_
 simp [N732,ptD]
 refine aa k (.inl rfl) ?_
 unfold onG
 by_cases h0 : ao a b p=0
 ·simp [h0,mnE,mxE]
  by_cases h1 : min a.1 b.1 <= p.1
  ·by_cases h2 : p.1 <= max a.1 b.1
   ·by_cases h3 : min a.2 b.2 <= p.2
    ·by_cases h4 : p.2 <= max a.2 b.2
     ·simp [mnE,mxE,h0,h1,h2,h3,h4]
     ·simp [mnE,mxE,h0,h1,h2,h3,h4]
    ·simp [mnE,mxE,h0,h1,h2,h3]
   ·simp [mnE,mxE,h0,h1,h2]
  ·simp [mnE,mxE,h0,h1]
 ·simp [h0]
theorem qL {a b p q : Pnt} (ha : okP a=true) (hb : okP b=true) (hp : okP p=true) (hq : okP q=true) : C 731 [.agg (ptD a),.agg (ptD b),.agg (ptD p),.agg (ptD q)] (.bool (apG a b p q)) []:=by
 have k1:=eS hC ha hb hp
 have k2:=eS hC ha hb hq
 simp only [ptD] at k1 k2
 refine start hC (nf:=N731) rfl rfl ?_
 simp [N731,ptD]
 refine aa k1 (.inl rfl) ?_
 simp
 refine aa k2 (.inl rfl) ?_
 simp
 refine ⟨ah (by decide +kernel),?_⟩
 unfold apG
 generalize ao a b p=x
 generalize ao a b q=y
 by_cases h1 : x < 0
 ·by_cases h2 : 0 < y
  ·simp [h1,h2]
  ·simp [h1,h2,show ¬ 0 < x by omega]
 ·by_cases h3 : 0 < x
  ·simp [h1,h3]
  ·simp [h1,h3]
set_option maxHeartbeats 1000000 in
theorem iE {a b c d : Pnt} (ha : okP a=true) (hb : okP b=true) (hc : okP c=true) (hd : okP d=true) (hab : a ≠ b) (hcd : c ≠ d) : C 711 [.agg (ptD a),.agg (ptD b),.agg (ptD c),.agg (ptD d)] (.tup [.int .i64 (gr a b c d),.int .i64 0]) []:=by
 have ka:=qo hC false [a,b,c,d] (by simp)
 have p1:=qL hC ha hb hc hd
 have p2:=qL hC hc hd ha hb
 have o1:=xh hC ha hb hc
 have o2:=xh hC ha hb hd
 have o3:=xh hC hc hd ha
 have o4:=xh hC hc hd hb
 have n1 : ¬ (a.1=b.1 /\ a.2=b.2):=fun e=>hab (Prod.ext e.1 e.2)
 have n2 : ¬ (c.1=d.1 /\ c.2=d.2):=fun e=>hcd (Prod.ext e.1 e.2)
 have n1' : (decide (a.1=b.1) && decide (a.2=b.2))=false:=by
  rw [Bool.eq_false_iff];simp;exact fun e1 e2=>n1 ⟨e1,e2⟩
 have n2' : (decide (c.1=d.1) && decide (c.2=d.2))=false:=by
  rw [Bool.eq_false_iff];simp;exact fun e1 e2=>n2 ⟨e1,e2⟩
 simp [ha,hb,hc,hd] at ka
 simp only [ptD] at ka p1 p2 o1 o2 o3 o4
 unfold gr
 generalize apG a b c d=x1 at *
 generalize apG c d a b=x2 at *
 generalize onG a b c=y1 at *
 generalize onG a b d=y2 at *
 generalize onG c d a=y3 at *
 generalize onG c d b=y4 at *
 refine start hC (nf:=N711) rfl rfl ?_
 simp [N711,ptD]
 refine aa ka (.inl rfl) ?_
 simp [n1',n2']
 refine aa p1 (.inl rfl) ?_
 cases x1
 ·simp
  refine aa o1 (.inl rfl) ?_
  cases y1
  ·simp
   refine aa o2 (.inl rfl) ?_
   cases y2
   ·simp
    refine aa o3 (.inl rfl) ?_
    cases y3
    ·simp
     refine aa o4 (.inl rfl) ?_
     cases y4 <;> simp
    ·simp
   ·simp
  ·simp
 ·simp
  refine aa p2 (.inl rfl) ?_
  cases x2
  ·simp
   refine aa o1 (.inl rfl) ?_
   cases y1
   ·simp
    refine aa o2 (.inl rfl) ?_
    cases y2
    ·simp
     refine aa o3 (.inl rfl) ?_
     cases y3
     ·simp
      refine aa o4 (.inl rfl) ?_
      cases y4 <;> simp
     ·simp
    ·simp
   ·simp
  ·simp
theorem ov (a b : Nat) (ha : a < 18446744073709551616) (hb : b < 18446744073709551616) : C 738 [.int .u64 a,.int .u64 b] (.int .u64 ((Nat.gcd a b : Nat) : Int)) []:=by
 refine start hC (nf:=N738) rfl rfl ?_
 simp [N738]
 refine au (Nat × Nat) (fun s=>[(0,.int .u64 s.1),(1,.int .u64 s.2)]) (fun s=>s.1 < 18446744073709551616 /\ s.2 < 18446744073709551616 /\ Nat.gcd s.1 s.2=Nat.gcd a b) (fun s=>s.2) (a,b) ⟨ha,hb,rfl⟩ (by simp) ?_
 rintro ⟨x,y⟩ ⟨h1,h2,h3⟩
 simp only at h1 h2 h3
 simp
 by_cases hy : y=0
 ·subst hy
  rw [Nat.gcd_zero_right] at h3
  simp [h3]
 ·have hm : (x : Int).tmod (y : Int)=((x % y : Nat) : Int):=by rw [Int.tmod_eq_emod_of_nonneg (by omega)];rfl
  simp [hy,hm]
  refine ⟨ah (by decide +kernel),y,x % y,⟨h2,by have:=Nat.mod_lt x (show 0 < y by omega);omega,?_⟩,Nat.mod_lt x (by omega),rfl,rfl⟩
  rw [Nat.gcd_comm,<- Nat.gcd_rec,Nat.gcd_comm];exact h3
theorem qC (n : Int) (h : -4611686018427387904 <= n /\ n <= 4611686018427387904) : C 739 [.int .i64 n] (.int .u64 (n.natAbs : Int)) []:=by
 refine start hC (nf:=N739) rfl rfl ?_
 have e1 : IntKind.u64.signed=false:=rfl
 have e3 : (2 ^ IntKind.u64.bits : Int)=18446744073709551616:=rfl
 by_cases hn : n < 0
 ·have w1 : IntKind.u64.wrap n=n + 18446744073709551616:=by
   unfold IntKind.wrap
   simp only [e1,e3,Bool.false_and]
   simp;omega
  have w2 : IntKind.u64.wrap (-(n + 18446744073709551616))=-n:=by
   unfold IntKind.wrap
   simp only [e1,e3,Bool.false_and]
   simp;omega
  have e : (n.natAbs : Int)=-n:=by omega
  simp [N739,hn,w1,w2]
  omega
 ·have w1 : IntKind.u64.wrap n=n:=by
   unfold IntKind.wrap
   simp only [e1,e3,Bool.false_and]
   simp;omega
  simp [N739,hn,w1]
  omega
set_option maxHeartbeats 1000000 in
theorem AQ (n d : Int) (hn : 0 <= n /\ n <= 4611686018427387904) (hd : 0 < d /\ d <= 4611686018427387904) : C 733 [.int .i64 n,.int .i64 d] (.tup [.agg [.int .i64 (mkQ n d).1,.int .i64 (mkQ n d).2],.int .i64 (mkE n d)]) []:=by
 obtain ⟨a,rfl⟩:=Int.eq_ofNat_of_zero_le hn.1
 obtain ⟨b,rfl⟩:=Int.eq_ofNat_of_zero_le (show 0 <= d by omega)
 have k1:=qC hC a (by omega)
 have k2:=qC hC b (by omega)
 have k3:=ov hC a b (by omega) (by omega)
 simp only [Int.natAbs_natCast] at k1 k2
 have g0 : 0 < Nat.gcd a b:=Nat.gcd_pos_of_pos_right _ (by omega)
 have g0' : ¬ Nat.gcd a b=0:=by omega
 have hd0 : ¬ b=0:=by omega
 have gb : Nat.gcd a b <= b:=Nat.le_of_dvd (by omega) (Nat.gcd_dvd_right _ _)
 have la:=Nat.div_le_self a (Nat.gcd a b)
 have lb:=Nat.div_le_self b (Nat.gcd a b)
 have t1 : (a : Int).tdiv ((Nat.gcd a b : Nat) : Int)=((a / Nat.gcd a b : Nat) : Int):=by rw [Int.tdiv_eq_ediv_of_nonneg (by omega)];rfl
 have t2 : (b : Int).tdiv ((Nat.gcd a b : Nat) : Int)=((b / Nat.gcd a b : Nat) : Int):=by rw [Int.tdiv_eq_ediv_of_nonneg (by omega)];rfl
 have q1 : (a : Int) / ((Nat.gcd a b : Nat) : Int)=((a / Nat.gcd a b : Nat) : Int):=rfl
 have q2 : (b : Int) / ((Nat.gcd a b : Nat) : Int)=((b / Nat.gcd a b : Nat) : Int):=rfl
 have hE : mkE (a : Int) b=if 1073741824 < ((a / Nat.gcd a b : Nat) : Int) \/ 1073741824 < ((b / Nat.gcd a b : Nat) : Int) then 5 else 0:=by
  unfold mkE
  simp only [Int.natAbs_natCast,q1,q2]
 have hQ : mkQ (a : Int) b=if mkE (a : Int) b=0 then (((a / Nat.gcd a b : Nat) : Int),((b / Nat.gcd a b : Nat) : Int)) else (0,0):=by
  unfold mkQ
  simp only [Int.natAbs_natCast,q1,q2]
 rw [hQ,hE]
 clear hQ hE q1 q2
 generalize a / Nat.gcd a b=x at *
 generalize b / Nat.gcd a b=y at *
 generalize Nat.gcd a b=g at *
 have e1 : IntKind.u64.signed=false:=rfl
 have e3 : (2 ^ IntKind.u64.bits : Int)=18446744073709551616:=rfl
 have w1 : IntKind.u64.wrap (x : Int)=x:=by
  unfold IntKind.wrap
  simp only [e1,e3,Bool.false_and]
  simp;omega
 have w2 : IntKind.u64.wrap (y : Int)=y:=by
  unfold IntKind.wrap
  simp only [e1,e3,Bool.false_and]
  simp;omega
 have w3 : IntKind.i64.wrap (x : Int)=x:=ae rfl (by omega)
 have w4 : IntKind.i64.wrap (y : Int)=y:=ae rfl (by omega)
 have na : ¬ (a : Int) < 0:=by omega
 have nb : ¬ (b : Int) < 0:=by omega
 refine start hC (nf:=N733) rfl rfl ?_
 simp [N733,hd0]
 refine aa k1 (.inl rfl) ?_
 simp
 refine aa k2 (.inl rfl) ?_
 simp
 refine aa k3 (.inl rfl) ?_
 simp [g0',t1,t2,w1,w2]
 refine ⟨ah (by decide +kernel),?_⟩
 by_cases c1 : 1073741824 < x
 ·have c1' : (1073741824 : Int) < x:=by omega
  simp [c1,c1']
 ·have c1' : ¬ (1073741824 : Int) < x:=by omega
  by_cases c2 : 1073741824 < y
  ·have c2' : (1073741824 : Int) < y:=by omega
   simp [c1,c1',c2,c2']
  ·have c2' : ¬ (1073741824 : Int) < y:=by omega
   simp [c1,c1',c2,c2',w3,w4,na,nb]
end Go.Gv

set_option maxRecDepth 4000
namespace Go.Gv
def pS (m : Msh) (i : Nat) : List D:=[.int .i64 (spA m i).x,.int .i64 (spA m i).y,.int .i64 (spB m i).x,.int .i64 (spB m i).y,.int .i64 (spC m i).x,.int .i64 (spC m i).y]
theorem bC (m : Msh) (i : Nat) : pS m i=[.int .i64 (spA m i).x,.int .i64 (spA m i).y,.int .i64 (spB m i).x,.int .i64 (spB m i).y,.int .i64 (spC m i).x,.int .i64 (spC m i).y]:=_root_.id rfl
def mz (m : Msh) (a b : Pnt) (k : Nat) : List Nat:=(List.range k).filter fun i=>eq m i a b
theorem iH (m : Msh) (a b : Pnt) (k : Nat) : mz m a b (k + 1)=mz m a b k++(if eq m k a b=true then [k] else []):=by
 unfold mz
 rw [List.range_succ,List.filter_append]
 congr 1
 by_cases h : eq m k a b=true
 ·simp [h]
 ·simp [h]
theorem lG (m : Msh) (a b : Pnt) (k : Nat) : (mz m a b k).length <= k:=by
 unfold mz
 have:=List.length_filter_le (fun i=>eq m i a b) (List.range k)
 simpa using this
def gP (m : Msh) (a b : Pnt) (k : Nat) : List (List D):=(mz m a b k).map fun (i : Nat)=>[D.int .i64 ((i : Nat) : Int)]
theorem oE (m : Msh) (a b : Pnt) (k : Nat) : (gP m a b k).length=(mz m a b k).length:=by simp [gP]
theorem oD (m : Msh) (a b : Pnt) (k : Nat) : ∀ e ∈ gP m a b k,e.length=1 /\ ∀ c ∈ e,aw c=true:=by
 intro e he
 obtain ⟨i,_,rfl⟩:=List.mem_map.1 he
 simp
theorem t7 (m : Msh) (a b : Pnt) (k : Nat) : (gP m a b k).map (fun e=>e.map aR)=gP m a b k:=by
 unfold gP
 rw [List.map_map]
 exact List.map_congr_left fun i _=>by simp
def cI (m : Msh) (a b : Pnt) : Int:=if aF m=true then dR a b else 1
variable {C : CC} (hC : aA prog C)
include hC
set_option maxHeartbeats 1000000 in
theorem mo (m : Msh) (i : Nat) (hi : i < m.f.length) (h : inS m (fce m i)=true) : C 710 [.agg (aY m),.agg (bx (fce m i))] (.agg (pS m i)) []:=by
 obtain ⟨⟨a1,a2⟩,⟨b1,b2⟩,⟨c1,c2⟩⟩:=ki h
 unfold pS spA spB spC spt
 generalize fce m i=f at *
 rw [getElem!_pos m.s _ a2,getElem!_pos m.s _ b2,getElem!_pos m.s _ c2]
 refine start hC (nf:=N710) rfl rfl ?_
 simp [N710,ab,aP]
 refine au Nat (fun k=>[(2,.ptr [slx m.sn (m.s.map ft),slx m.fn (m.f.map bx)]),(4,.adr (.r 10064) 0 0),(5,.adr (.r 10080) 0 0),(14,.ref (.r 10224) 0 3),(15,.int .i64 3),(16,.int .i64 k),(10064,.blk 6 [[.int .i64 0,.int .i64 0,.int .i64 0,.int .i64 0,.int .i64 0,.int .i64 0]]),
  (10080,.blk 6 [([.int .i64 m.s[f.a.toNat].x,.int .i64 m.s[f.a.toNat].y,.int .i64 m.s[f.b.toNat].x,.int .i64 m.s[f.b.toNat].y,.int .i64 m.s[f.c.toNat].x,.int .i64 m.s[f.c.toNat].y] : List D).take (2 * k)++List.replicate (6 - 2 * k) (.int .i64 0)]),(10224,.blk 1 [[.int .i64 f.a],[.int .i64 f.b],[.int .i64 f.c]])]) (fun k=>k <= 3) (fun k=>3 - k) 0 (by simp) (by simp [List.replicate]) ?_
 rintro k hk
 rcases (by omega : k=0 \/ k=1 \/ k=2 \/ k=3) with rfl | rfl | rfl | rfl
 ·have w : IntKind.wrap .i64 (1 : Int)=1:=by decide
  simp [a1,a2,bq,w,List.replicate]
  refine ⟨ah (by decide +kernel),1,?_⟩
  simp [List.replicate]
 ·have w : IntKind.wrap .i64 (2 : Int)=2:=by decide
  simp [b1,b2,bq,w,List.replicate]
  refine ⟨ah (by decide +kernel),2,?_⟩
  simp [List.replicate]
 ·have w : IntKind.wrap .i64 (3 : Int)=3:=by decide
  simp [c1,c2,bq,w,List.replicate]
  refine ⟨ah (by decide +kernel),3,?_⟩
  simp [List.replicate]
 ·simp [List.replicate]
theorem jE (dec : Nat -> List UInt8) (hI : ∀ n : Nat,n < 100 -> C 127 [.int .i64 n] (.str (dec n)) []) (m : Msh) (hz : bW m=true -> m.s.length <= 100 /\ m.f.length <= 100) (a b : Pnt) : C 708 [.ptr (aY m),.agg (ptD a),.agg (ptD b)] (.int .i64 (cI m a b)) []:=by
 have ka:=fp hC a
 have kb:=fp hC b
 have km:=oZ hC dec hI m hz
 simp only [ptD] at ka kb
 simp only [ab] at km
 refine start hC (nf:=N708) rfl rfl ?_
 unfold cI dR
 simp [N708,ptD,ab]
 refine aa km (.inl rfl) ?_
 cases h0 : aF m
 ·simp
 simp
 refine aa ka (.inl rfl) ?_
 cases h1 : okP a
 ·simp
 simp
 refine aa kb (.inl rfl) ?_
 cases h2 : okP b
 ·simp
 simp
 by_cases h3 : a.1=b.1
 ·by_cases h4 : a.2=b.2
  ·simp [h3,h4,Prod.ext h3 h4]
  ·have hne : ¬ a=b:=fun e=>h4 (by rw [e])
   simp [h3,h4,hne]
 ·have hne : ¬ a=b:=fun e=>h3 (by rw [e])
  simp [h3,hne]
set_option maxHeartbeats 2000000 in
theorem xa (m : Msh) (hv : aF m=true) (i : Nat) (hi : i < m.f.length) {a b : Pnt} (ha : okP a=true) (hb : okP b=true) (hab : a ≠ b) : C 709 [.agg (pS m i),.agg (ptD a),.agg (ptD b)] (.bool (eq m i a b)) []:=by
 have i1:=mX hC m hv i hi a ha
 have i2:=mX hC m hv i hi b hb
 have k0:=iE hC ha hb (bf hv hi 0) (bf hv hi 1) hab (gq hv hi 0 (by omega))
 have k1:=iE hC ha hb (bf hv hi 1) (bf hv hi 2) hab (gq hv hi 1 (by omega))
 have k2:=iE hC ha hb (bf hv hi 2) (bf hv hi 0) hab (gq hv hi 2 (by omega))
 have e0 : gr a b (cnr m i 0) (cnr m i 1)=cw m i 0 a b:=rfl
 have e1 : gr a b (cnr m i 1) (cnr m i 2)=cw m i 1 a b:=rfl
 have e2 : gr a b (cnr m i 2) (cnr m i 0)=cw m i 2 a b:=rfl
 rw [e0] at k0
 rw [e1] at k1
 rw [e2] at k2
 have c0 : cnr m i 0=ptS (spA m i):=rfl
 have c1 : cnr m i 1=ptS (spB m i):=rfl
 have c2 : cnr m i 2=ptS (spC m i):=rfl
 rw [c0,c1] at k0
 rw [c1,c2] at k1
 rw [c2,c0] at k2
 have o1:=qY m i a
 have o2:=qY m i b
 obtain ⟨r,hr⟩ : ∃ r,r=eq m i a b:=⟨_,rfl⟩
 rw [<- hr]
 unfold eq at hr
 rw [<- o1,<- o2] at hr
 have hr' : r=(decide (0 <= oN m i a) || decide (0 <= oN m i b) || (decide (0 < cw m i 0 a b) || decide (0 < cw m i 1 a b) || decide (0 < cw m i 2 a b))):=by
  rw [hr];simp [List.range,List.range.loop,Bool.or_assoc]
 clear hr o1 o2 e0 e1 e2 c0 c1 c2
 generalize oN m i a=x at *
 generalize oN m i b=y at *
 generalize cw m i 0 a b=z0 at *
 generalize cw m i 1 a b=z1 at *
 generalize cw m i 2 a b=z2 at *
 simp only [ptD,ptS] at i1 i2 k0 k1 k2
 have w1 : IntKind.wrap .i64 (1 : Int)=1:=by decide
 have w2 : IntKind.wrap .i64 (2 : Int)=2:=by decide
 have w3 : IntKind.wrap .i64 (3 : Int)=3:=by decide
 refine start hC (nf:=N709) rfl rfl ?_
 simp [N709,ptD,bC]
 refine au Nat (fun k=>[(3,.ptr (pS m i)),(4,.ptr (ptD a)),(5,.ptr (ptD b)),(16,.ref (.r 10256) 0 2),(17,.int .i64 2),(18,.int .i64 k),(10256,.blk 2 [ptD a,ptD b])]) (fun k=>k <= 2 /\ (0 < k -> ¬ 0 <= x) /\ (1 < k -> ¬ 0 <= y)) (fun k=>2 - k) 0 (by simp) (by simp [bC,ptD]) ?_
 rintro k ⟨hk,g1,g2⟩
 rcases (by omega : k=0 \/ k=1 \/ k=2) with rfl | rfl | rfl
 ·simp [ptD,bC]
  refine aa i1 (.inl rfl) ?_
  simp
  refine al (fun h1=>?_) (fun h1=>?_) <;> simp at h1
  ·simp [hr',h1]
  ·simp [w1,show ¬ 0 <= x by omega]
   exact ⟨1,by simp [bC,ptD];try omega⟩
 ·have gx:=g1 (by omega)
  simp [ptD,bC]
  refine aa i2 (.inl rfl) ?_
  simp
  refine al (fun h1=>?_) (fun h1=>?_) <;> simp at h1
  ·simp [hr',h1]
  ·simp [w2,show ¬ 0 <= y by omega]
   exact ⟨2,by simp [bC,ptD];try omega⟩
 ·have gx:=g1 (by omega)
  have gy:=g2 (by omega)
  simp
  refine au Nat (fun k=>[(3,.ptr (pS m i)),(4,.ptr (ptD a)),(5,.ptr (ptD b)),(40,.int .i64 k)]) (fun k=>k <= 3 /\ (0 < k -> ¬ 0 < z0) /\ (1 < k -> ¬ 0 < z1) /\ (2 < k -> ¬ 0 < z2)) (fun k=>3 - k) 0 (by simp) (by simp [bC,ptD]) ?_
  rintro k ⟨hk,j0,j1,j2⟩
  rcases (by omega : k=0 \/ k=1 \/ k=2 \/ k=3) with rfl | rfl | rfl | rfl
  ·simp [ptD,bC,w1]
   refine aa k0 (.inl rfl) ?_
   simp
   refine ⟨ah (by decide +kernel),?_⟩
   refine al (fun h1=>?_) (fun h1=>?_) <;> simp at h1
   ·simp [hr',h1]
   ·simp [show ¬ 0 < z0 by omega,w1]
    exact ⟨1,by simp [bC,ptD];try omega⟩
  ·simp [ptD,bC,w2]
   refine aa k1 (.inl rfl) ?_
   simp
   refine ⟨ah (by decide +kernel),?_⟩
   refine al (fun h1=>?_) (fun h1=>?_) <;> simp at h1
   ·simp [hr',h1]
   ·simp [show ¬ 0 < z1 by omega,w2]
    exact ⟨2,by simp [bC,ptD];try omega⟩
  ·simp [ptD,bC,w3]
   refine aa k2 (.inl rfl) ?_
   simp
   refine ⟨ah (by decide +kernel),?_⟩
   refine al (fun h1=>?_) (fun h1=>?_) <;> simp at h1
   ·simp [hr',h1]
   ·simp [show ¬ 0 < z2 by omega,w3]
    exact ⟨3,by simp [bC,ptD];try omega⟩
  ·have h0:=j0 (by omega)
   have h1:=j1 (by omega)
   have h2:=j2 (by omega)
   simp [hr',gx,gy,h0,h1,h2]
end Go.Gv

set_option maxRecDepth 4000
namespace Go.Gv
theorem ox {x z : Int} (h0 : ¬ z=0) (h1 : ¬ z < 0) (h2 : ¬ x < 0) (h3 : ¬ z < x) : cA x z=mkE x z /\ cy x z=mkQ x z:=by
 have e : cA x z=mkE x z:=by
  unfold cA mkE cR
  rw [if_neg h0,if_neg h1,if_neg (by simp only [not_or];exact ⟨h2,h3⟩)]
 refine ⟨e,?_⟩
 unfold cy mkQ
 rw [e]
 unfold cR
 rw [if_neg h1]
theorem ow {x z : Int} (h0 : ¬ z=0) (h1 : z < 0) (h2 : ¬ -x < 0) (h3 : ¬ -z < -x) : cA x z=mkE (-x) (-z) /\ cy x z=mkQ (-x) (-z):=by
 have e : cA x z=mkE (-x) (-z):=by
  unfold cA mkE cR
  rw [if_neg h0,if_pos h1,if_neg (by simp only [not_or];exact ⟨h2,h3⟩)]
 refine ⟨e,?_⟩
 unfold cy mkQ
 rw [e]
 unfold cR
 rw [if_pos h1]
theorem gX {x z : Int} (h0 : ¬ z=0) (h : if z < 0 then -x < 0 \/ -z < -x else x < 0 \/ z < x) : cA x z=2:=by
 unfold cA cR
 rw [if_neg h0,if_pos]
 split at h <;> rename_i h1
 ·rw [if_pos h1];exact h
 ·rw [if_neg h1];exact h
theorem fM {x z : Int} (h : cA x z ≠ 0) : cy x z=(0,0):=by unfold cy;rw [if_neg h]
variable {C : CC} (hC : aA prog C)
include hC
set_option maxHeartbeats 1000000 in
theorem tE {a b c d : Pnt} (ha : okP a=true) (hb : okP b=true) (hc : okP c=true) (hd : okP d=true) (hab : a ≠ b) (hcd : c ≠ d) : C 712 [.agg (ptD a),.agg (ptD b),.agg (ptD c),.agg (ptD d)] (.tup [.agg [.int .i64 (cy (ao c d a) (ao c d a - ao c d b)).1,.int .i64 (cy (ao c d a) (ao c d a - ao c d b)).2],.int .i64 (cA (ao c d a) (ao c d a - ao c d b))]) []:=by
 have ka:=qo hC false [a,b,c,d] (by simp)
 have t1:=eS hC hc hd ha
 have t2:=eS hC hc hd hb
 have b1:=ev hc hd ha
 have b2:=ev hc hd hb
 have n1 : ¬ (a.1=b.1 /\ a.2=b.2):=fun e=>hab (Prod.ext e.1 e.2)
 have n2 : ¬ (c.1=d.1 /\ c.2=d.2):=fun e=>hcd (Prod.ext e.1 e.2)
 have n1' : (decide (a.1=b.1) && decide (a.2=b.2))=false:=by
  rw [Bool.eq_false_iff];simp;exact fun e1 e2=>n1 ⟨e1,e2⟩
 have n2' : (decide (c.1=d.1) && decide (c.2=d.2))=false:=by
  rw [Bool.eq_false_iff];simp;exact fun e1 e2=>n2 ⟨e1,e2⟩
 simp [ha,hb,hc,hd] at ka
 simp only [ptD] at ka t1 t2
 obtain ⟨x,hx⟩ : ∃ x,x=ao c d a:=⟨_,rfl⟩
 obtain ⟨y,hy⟩ : ∃ y,y=ao c d b:=⟨_,rfl⟩
 rw [<- hx] at b1 t1 ⊢
 rw [<- hy] at b2 t2 ⊢
 clear hx hy
 have km : ∀ n d : Int,0 <= n /\ n <= 4611686018427387904 -> 0 < d /\ d <= 4611686018427387904 -> C 733 [.int .i64 n,.int .i64 d] (.tup [.agg [.int .i64 (mkQ n d).1,.int .i64 (mkQ n d).2],.int .i64 (mkE n d)]) []:=fun n d h1 h2=>AQ hC n d h1 h2
 have w : IntKind.wrap .i64 (x - y)=x - y:=ae rfl (by omega)
 have w1 : IntKind.wrap .i64 (-x)=-x:=ae rfl (by omega)
 have w2 : IntKind.wrap .i64 (-(x - y))=-(x - y):=ae rfl (by omega)
 refine start hC (nf:=N712) rfl rfl ?_
 simp [N712,ptD]
 refine aa ka (.inl rfl) ?_
 simp [n1',n2']
 refine aa t1 (.inl rfl) ?_
 simp
 refine aa t2 (.inl rfl) ?_
 simp [w]
 obtain ⟨z,hz⟩ : ∃ z,z=x - y:=⟨_,rfl⟩
 rw [<- hz] at w2 ⊢
 by_cases h0 : z=0
 ·have e : cA x z=16:=by unfold cA;rw [if_pos h0]
  rw [e,fM (by rw [e];decide)]
  simp [h0]
 by_cases h1 : z < 0
 ·by_cases h2 : -x < 0
  ·have e:=gX (x:=x) h0 (by rw [if_pos h1];exact .inl h2)
   rw [e,fM (by rw [e];decide)]
   simp [h0,h1,w1,w2,show 0 < x by omega]
  ·by_cases h3 : -z < -x
   ·have e:=gX (x:=x) h0 (by rw [if_pos h1];exact .inr h3)
    rw [e,fM (by rw [e];decide)]
    simp [h0,h1,w1,w2,show ¬ 0 < x by omega,show x < z by omega]
   ·obtain ⟨e1,e2⟩:=ow h0 h1 h2 h3
    rw [e1,e2]
    simp [h0,h1,w1,w2,show ¬ 0 < x by omega,show ¬ x < z by omega]
    refine aa (km (-x) (-z) (by omega) (by omega)) (.inl rfl) ?_
    simp
 ·by_cases h2 : x < 0
  ·have e:=gX (x:=x) h0 (by rw [if_neg h1];exact .inl h2)
   rw [e,fM (by rw [e];decide)]
   simp [h0,h1,h2]
  ·by_cases h3 : z < x
   ·have e:=gX (x:=x) h0 (by rw [if_neg h1];exact .inr h3)
    rw [e,fM (by rw [e];decide)]
    simp [h0,h1,h2,h3]
   ·obtain ⟨e1,e2⟩:=ox h0 h1 h2 h3
    rw [e1,e2]
    simp [h0,h1,h2,h3]
    refine aa (km x z (by omega) (by omega)) (.inl rfl) ?_
    simp
set_option maxHeartbeats 1000000 in
theorem pA (dec : Nat -> List UInt8) (hI : ∀ n : Nat,n < 100 -> C 127 [.int .i64 n] (.str (dec n)) []) (m : Msh) (hz : bW m=true -> m.s.length <= 100 /\ m.f.length <= 100) (a b : Pnt) (h0 : cI m a b=0) : C 682 [.agg (aY m),.agg (ptD a),.agg (ptD b)] (.tup [.sl (gP m a b m.f.length),.int .i64 0]) []:=by
 have kl:=jE hC dec hI m hz a b
 rw [h0] at kl
 have hv : aF m=true:=by
  unfold cI at h0
  by_cases h : aF m=true
  ·exact h
  ·rw [if_neg h] at h0;cases h0
 have h1 : dR a b=0:=by unfold cI at h0;rwa [if_pos hv] at h0
 have hab : okP a=true /\ okP b=true /\ a ≠ b:=by
  unfold dR at h1
  split at h1
  ·rename_i h
   refine ⟨h.1,h.2,fun e=>?_⟩
   rw [if_pos e] at h1;cases h1
  ·cases h1
 obtain ⟨oa,ob,hne⟩:=hab
 have hfl:=(dM hv).2
 simp only [ab,ptD] at kl
 refine start hC (nf:=N682) rfl rfl ?_
 simp [N682,ptD,ab]
 refine aa kl (.inl rfl) ?_
 obtain ⟨R,hR⟩ : ∃ R,R=gP m a b:=⟨_,rfl⟩
 have hR0 : R 0=[]:=by rw [hR];rfl
 have hRl : ∀ i,(R i).length <= i:=fun i=>by rw [hR,oE];exact lG m a b i
 have hRp : ∀ i,eq m i a b=true -> R (i + 1)=R i++[[.int .i64 (i : Int)]]:=fun i h=>by rw [hR];unfold gP;rw [iH,if_pos h];simp
 have hRn : ∀ i,eq m i a b=false -> R (i + 1)=R i:=fun i h=>by rw [hR];unfold gP;rw [iH,if_neg (by simp [h])];simp
 have hRv : ∀ i,(R i).map (fun e=>e.map aR)=R i:=fun i=>by rw [hR];exact t7 m a b i
 have hRc : ∀ i,∀ e ∈ R i,e.length=1 /\ ∀ c ∈ e,aw c=true:=fun i=>by rw [hR];exact oD m a b i
 rw [<- hR]
 simp
 refine au Nat (fun i=>[(3,.ptr (aY m)),(4,.ptr (ptD a)),(5,.ptr (ptD b)),(9,.ref (.r 10144) 0 (R i).length),(19,slx m.fn (m.f.map bx)),(20,.int .i64 m.f.length),(21,.int .i64 i),(10144,.blk 1 (R i))])
  (fun i=>i <= m.f.length) (fun i=>m.f.length - i) 0 (by simp) (by simp [ab,ptD,hR0]) ?_
 rintro i hi
 simp
 refine al (fun h1=>?_) (fun h1=>?_) <;> simp at h1 <;> simp [h1]
 ·have hw : IntKind.wrap .i64 ((i : Int) + 1)=((i + 1 : Nat) : Int):=ae (by omega) (by omega)
  have kc:=mo hC m i h1 (gi hv h1)
  have km:=xa hC m hv i h1 oa ob hne
  have hRi:=hRl i
  simp only [ab,aP] at kc
  simp only [ptD] at km
  simp [ab,ptD,h1,aP]
  refine aa kc (.inr rfl) ?_
  simp [ab,ptD]
  refine aa km (.inl rfl) ?_
  cases hb : eq m i a b
  ·simp
   refine ⟨ah (by decide +kernel),?_⟩
   simp [hw]
   exact ⟨i + 1,by omega,by omega,by simp [ab,ptD,hRn i hb]⟩
  ·have hq:=hRc i
   simp [hw]
   refine ⟨ah (by decide +kernel),?_⟩
   exact ⟨by omega,i + 1,by omega,by omega,by simp [ab,ptD,hRp i hb]⟩
 ·have : i=m.f.length:=by omega
  subst this
  simp [hRv]
theorem sR (dec : Nat -> List UInt8) (hI : ∀ n : Nat,n < 100 -> C 127 [.int .i64 n] (.str (dec n)) []) (m : Msh) (hz : bW m=true -> m.s.length <= 100 /\ m.f.length <= 100) (a b : Pnt) (h0 : cI m a b ≠ 0) : C 682 [.agg (aY m),.agg (ptD a),.agg (ptD b)] (.tup [.nils,.int .i64 (cI m a b)]) []:=by
 have kl:=jE hC dec hI m hz a b
 simp only [ab,ptD] at kl
 refine start hC (nf:=N682) rfl rfl ?_
 simp [N682,ptD,ab]
 refine aa kl (.inl rfl) ?_
 simp [h0]
end Go.Gv

set_option maxRecDepth 4000
namespace Go.Gv
def fqR (L : List Frq) : List (List D):=L.map fqD
theorem bi (L : List Frq) : (fqR L).length=L.length:=by simp [fqR]
theorem lr {L : List Frq} {j : Nat} (h : j < L.length) : (fqR L)[j]? = some [.int .i64 L[j].1.1,.int .i64 L[j].1.2]:=by simp [fqR,h,fqD]
theorem wR {L : List Frq} {j : Nat} (x : Frq) : (fqR L).set j [.int .i64 x.1.1,.int .i64 x.1.2]=fqR (L.set j x):=by simp [fqR,fqD]
theorem oI (L : List Frq) (k : Nat) : (fqR L).take k=fqR (L.take k):=by simp [fqR]
theorem gA (L : List Frq) : ∀ e ∈ fqR L,∀ c ∈ e,aw c=true:=by
 intro e he c hc
 obtain ⟨x,_,rfl⟩:=List.mem_map.1 he
 simp [fqD] at hc
 rcases hc with rfl | rfl <;> rfl
theorem jB (L : List Frq) : ∀ e ∈ fqR L,∀ c ∈ e,bk c=true:=by
 intro e he c hc
 obtain ⟨x,_,rfl⟩:=List.mem_map.1 he
 simp [fqD] at hc
 rcases hc with rfl | rfl <;> rfl
theorem d4 (L : List Frq) : ∀ e ∈ fqR L,e.length=2:=by
 intro e he
 obtain ⟨x,_,rfl⟩:=List.mem_map.1 he
 rfl
def vR (C : CC) : Prop:=∀ L : List Frq,L.length < 2 ^ 62 -> (∀ x y : Frq,C 714 [.agg (fqD x),.agg (fqD y)] (.int .i64 (fqC x y)) []) -> C 713 [.own 2 (fqR L),.fn 714 []] .any [.own 2 (fqR (lm fqC L)),.nilp]
section
variable {α : Type} [DecidableEq α]
theorem oy : ∀ (l : List α) (x : α),ddL (l++[x])=if l.getLast? = some x then ddL l else ddL l++[x]
 | [],x=>by simp [ddL]
 | [y],x=>by
  simp only [List.cons_append,List.nil_append,fW,List.getLast?_singleton,Option.some.injEq]
  by_cases e : y=x
  ·rw [if_pos e,if_pos e];subst e;rfl
  ·rw [if_neg e,if_neg e];rfl
 | y::z::r,x=>by
  have ih:=oy (z::r) x
  have e0 : y::z::r++[x]=y::z::(r++[x]):=rfl
  have e1 : z::r++[x]=z::(r++[x]):=rfl
  have e2 : (y::z::r).getLast? = (z::r).getLast?:=rfl
  rw [e0,fW,<- e1,ih,e2,fW]
  by_cases e : y=z
  ·rw [if_pos e,if_pos e]
  ·rw [if_neg e,if_neg e]
   split
   ·rfl
   ·rfl
theorem oz (l : List α) {m : Nat} (hm : m < l.length) (h0 : 0 < m) : ddL (l.take (m + 1))=if l[m - 1]=l[m] then ddL (l.take m) else ddL (l.take m)++[l[m]]:=by
 have e : l.take (m + 1)=l.take m++[l[m]]:=by rw [List.take_succ_eq_append_getElem hm]
 have e2 : (l.take m).getLast? = some l[m - 1]:=by
  rw [List.getLast?_eq_getElem?]
  simp only [List.length_take,Nat.min_eq_left (Nat.le_of_lt hm)]
  rw [List.getElem?_take_of_lt (by omega),List.getElem?_eq_getElem (by omega)]
 rw [e,oy,e2]
 simp only [Option.some.injEq]
end
variable {C : CC} (hC : aA prog C)
include hC
theorem ne (q : Frq) : C 722 [.agg (fqD q)] (.bool true) []:=by
 obtain ⟨h1,h2,h3,h4,h5⟩:=q.2
 have k1:=qC hC q.1.1 (by omega)
 have wu : IntKind.u64.wrap q.1.2=(q.1.2.natAbs : Int):=by
  have e1 : IntKind.u64.signed=false:=rfl
  have e3 : (2 ^ IntKind.u64.bits : Int)=18446744073709551616:=rfl
  unfold IntKind.wrap
  simp only [e1,e3,Bool.false_and]
  simp
  omega
 have k3:=ov hC q.1.1.natAbs q.1.2.natAbs (by omega) (by omega)
 rw [h5] at k3
 refine start hC (nf:=N722) rfl rfl ?_
 simp [N722,fqD,show 1 <= q.1.2 by omega,h2,h3,h4]
 refine aa k1 (.inl rfl) ?_
 simp
 rw [wu]
 refine aa k3 (.inl rfl) ?_
 simp
 exact ah (by decide +kernel)
theorem xC (x y : Frq) : C 690 [.agg (fqD x),.agg (fqD y)] (.tup [.int .i64 (fqC x y),.int .i64 0]) []:=by
 obtain ⟨h1,h2,h3,h4,h5⟩:=x.2
 obtain ⟨g1,g2,g3,g4,g5⟩:=y.2
 have k1:=ne hC x
 have k2:=ne hC y
 simp only [fqD] at k1 k2
 have m1 : -1152921504606846976 <= x.1.1 * y.1.2 /\ x.1.1 * y.1.2 <= 1152921504606846976:=by
  have a1:=Int.mul_le_mul_of_nonneg_right h4 (show 0 <= y.1.2 by omega)
  have a2:=Int.mul_le_mul_of_nonneg_right h3 (show 0 <= y.1.2 by omega)
  omega
 have m2 : -1152921504606846976 <= y.1.1 * x.1.2 /\ y.1.1 * x.1.2 <= 1152921504606846976:=by
  have a1:=Int.mul_le_mul_of_nonneg_right g4 (show 0 <= x.1.2 by omega)
  have a2:=Int.mul_le_mul_of_nonneg_right g3 (show 0 <= x.1.2 by omega)
  omega
 unfold fqC
 generalize hu : x.1.1 * y.1.2=u at *
 generalize hv : y.1.1 * x.1.2=v at *
 have w1 : IntKind.wrap .i64 u=u:=ae rfl (by omega)
 have w2 : IntKind.wrap .i64 v=v:=ae rfl (by omega)
 have w3 : IntKind.wrap .i64 (u - v)=u - v:=ae rfl (by omega)
 refine start hC (nf:=N690) rfl rfl ?_
 simp [N690,fqD]
 refine aa k1 (.inl rfl) ?_
 simp
 refine aa k2 (.inl rfl) ?_
 simp [hu,hv,w1,w2,w3]
 by_cases c1 : u < v
 ·simp [c1,show u - v < 0 by omega]
 ·by_cases c2 : v < u
  ·simp [c1,c2,show ¬ u - v < 0 by omega,show 0 < u - v by omega]
  ·simp [c1,c2,show ¬ u - v < 0 by omega,show ¬ 0 < u - v by omega]
theorem BJ (x y : Frq) : C 714 [.agg (fqD x),.agg (fqD y)] (.int .i64 (fqC x y)) []:=by
 have k1:=xC hC x y
 simp only [fqD] at k1
 refine start hC (nf:=N714) rfl rfl ?_
 simp [N714,fqD]
 refine aa k1 (.inl rfl) ?_
 simp
set_option maxHeartbeats 1000000 in
theorem wc (L : List Frq) (hl : L.length < 2 ^ 40) : C 715 [.own 2 (fqR L)] .any [.own 2 (fqR (ddL L)),.nils,.nils]:=by
 refine BH hC (nf:=N715) rfl rfl (by simp) (by omega) ?_
 simp [N715,bi]
 refine al (fun h=>?_) (fun h=>?_) <;> simp at h
 ·simp [h,bi]
  have e : ddL L=L:=by
   match L,h with
   | [],_=>rfl
   | [x],_=>rfl
   | x::y::r,h=>simp at h;omega
  rw [e]
  exact ⟨jB L,List.take_of_length_le (by rw [bi];exact Nat.le_refl _)⟩
 ·simp [h]
  refine au Nat (fun k=>[(0,.ref (.r 10015) 0 L.length),(3,.int .i64 k),(10015,.blk 2 (fqR L))]) (fun k=>1 <= k /\ k <= L.length /\ ddL (L.take k)=L.take k) (fun k=>L.length - k) 1 ⟨by omega,by omega,?_⟩ (by simp) ?_
  ·match L,h with
   | x::r,h=>simp [ddL]
  rintro k ⟨h1,h2,h3⟩
  simp
  refine al (fun h4=>?_) (fun h4=>?_) <;> simp at h4
  ·have hw : IntKind.wrap .i64 ((k : Int) - 1)=((k - 1 : Nat) : Int):=by
    rw [show (k : Int) - 1=((k - 1 : Nat) : Int) by omega]
    exact ae (by omega) (by omega)
   have hw2 : IntKind.wrap .i64 ((k : Int) + 1)=((k + 1 : Nat) : Int):=ae (by omega) (by omega)
   simp [h4,hw,bB (lr h4),bB (lr (show k - 1 < L.length by omega))]
   refine ⟨by omega,ah (by decide +kernel),?_⟩
   have ht:=oz L h4 (by omega)
   refine al (fun h5=>?_) (fun h5=>?_)
   ·have h6 : L[k - 1]=L[k]:=by
     simp only [Bool.and_eq_true,decide_eq_true_eq] at h5
     exact Subtype.ext (Prod.ext h5.1.symm h5.2.symm)
    rw [if_pos h6,h3] at ht
    have h5' : (decide (L[k].1.1=L[k - 1].1.1) && decide (L[k].1.2=L[k - 1].1.2))=true:=h5
    rw [h5']
    clear h5 h5'
    simp [h4,h2,bi]
    refine au (Nat × Nat × List Frq) (fun s=>[(0,.ref (.r 10015) 0 L.length),(3,.int .i64 s.2.1),(4,.ref (.r 10015) k (L.length - k)),(5,.int .i64 s.1),(10015,.blk 2 (fqR s.2.2))])
     (fun s=>1 <= s.1 /\ s.1 + k <= L.length /\ k <= s.2.1 /\ s.2.1 + 1 <= k + s.1 /\ s.2.2.length=L.length /\ s.2.2.take s.2.1=ddL (L.take (k + s.1)) /\ ∀ j,k + s.1 <= j + 1 -> s.2.2[j]? = L[j]?)
     (fun s=>L.length - s.1) (1,k,L) ⟨by simp,by simp;omega,by simp,by simp,rfl,by simp [ht],by simp⟩ (by simp) ?_
    rintro ⟨j,q,W⟩ ⟨a1,a2,a3,a4,a5,a6,a7⟩
    simp only at a1 a2 a3 a4 a5 a6 a7
    simp
    refine al (fun h7=>?_) (fun h7=>?_) <;> simp at h7
    ·have hkj : k + j < L.length:=by omega
     have w1 : W[k + j]? = L[k + j]?:=a7 _ (by omega)
     have w2 : W[k + (j - 1)]? = L[k + (j - 1)]?:=a7 _ (by omega)
     have g1 : (fqR W)[k + j]? = some [.int .i64 L[k + j].1.1,.int .i64 L[k + j].1.2]:=by
      unfold fqR
      rw [List.getElem?_map,w1,List.getElem?_eq_getElem hkj];rfl
     have g2 : (fqR W)[k + (j - 1)]? = some [.int .i64 L[k + (j - 1)].1.1,.int .i64 L[k + (j - 1)].1.2]:=by
      unfold fqR
      rw [List.getElem?_map,w2,List.getElem?_eq_getElem (show k + (j - 1) < L.length by omega)];rfl
     have hv : IntKind.wrap .i64 ((j : Int) - 1)=((j - 1 : Nat) : Int):=ae (by omega) (by omega)
     have hv2 : IntKind.wrap .i64 ((j : Int) + 1)=((j + 1 : Nat) : Int):=ae (by omega) (by omega)
     have hv3 : IntKind.wrap .i64 ((q : Int) + 1)=((q + 1 : Nat) : Int):=ae (by omega) (by omega)
     simp [h7,hv,bB g1,bB g2]
     refine ⟨by omega,ah (by decide +kernel),?_⟩
     have ht2:=oz L hkj (by omega)
     refine al (fun h8=>?_) (fun h8=>?_)
     ·have hne : L[k + j - 1] ≠ L[k + j]:=fun e=>by
       have e2 : L[k + (j - 1)]=L[k + j]:=by
        rw [<- e]
        congr 1
        omega
       rw [e2] at h8
       simp at h8
      rw [if_neg hne] at ht2
      rw [h8]
      have hq : q < L.length:=by omega
      have hqW : q < W.length:=by omega
      have e9 : (fqR W)[q]'(by rw [bi];exact hqW)=[.int .i64 W[q].1.1,.int .i64 W[q].1.2]:=(List.getElem?_eq_some_iff.1 (lr hqW)).2
      simp [h7,hv,hv2,hv3,bB g1,bi,a5,hq,e9]
      refine ⟨j + 1,q + 1,W.set q L[k + j],⟨by omega,by omega,by omega,by omega,by simp [a5],?_,fun i hi=>?_⟩,by omega,by omega,by omega,wR _⟩
      ·rw [List.take_succ_eq_append_getElem (by simp;exact hqW),List.take_set_of_le (Nat.le_refl _),a6,show k + (j + 1)=k + j + 1 by omega,ht2]
       simp
      ·rw [List.getElem?_set,if_neg (by omega)]
       exact a7 i (by omega)
     ·have heq : L[k + j - 1]=L[k + j]:=by
       have e2 : L[k + j]=L[k + (j - 1)]:=by
        simp only [Bool.or_eq_false_iff,Bool.not_eq_false',decide_eq_true_eq] at h8
        exact Subtype.ext (Prod.ext h8.1 h8.2)
       rw [e2]
       congr 1
       omega
      rw [if_pos heq] at ht2
      rw [h8]
      simp [h7,hv2]
      exact ⟨j + 1,q,W,⟨by omega,by omega,by omega,by omega,a5,by rw [a6,show k + (j + 1)=k + j + 1 by omega,ht2],fun i hi=>a7 i (by omega)⟩,by omega,rfl,by omega,rfl⟩
    ·have hj : k + j=L.length:=by omega
     have a6' : W.take q=ddL L:=by rw [a6,hj,List.take_length]
     have hq : q < L.length:=by omega
     have hqW : q <= W.length:=by omega
     simp [h7,bi,a5]
     have hz : (df (fqR W) q (L.length - q) [.int .i64 0,.int .i64 0]).length=L.length:=by rw [iX (by rw [bi];omega),bi,a5]
     refine ⟨by omega,by omega,gA W,by omega,jB _,by omega,?_⟩
     unfold df
     rw [List.append_assoc,List.take_append_of_le_length (by simp [bi];omega),List.take_take,Nat.min_self,oI,a6']
   ·have h6 : L[k - 1] ≠ L[k]:=fun e=>by
     rw [e] at h5
     simp at h5
    rw [if_neg h6,h3] at ht
    rw [h5]
    simp [h4,hw2]
    exact ⟨k + 1,by refine ⟨by omega,by omega,?_⟩;rw [ht,List.take_succ_eq_append_getElem h4],by omega,rfl⟩
  ·have ek : k=L.length:=by omega
   subst ek
   rw [List.take_length] at h3
   simp [h3,bi]
   exact ⟨jB L,List.take_of_length_le (by rw [bi];exact Nat.le_refl _)⟩
end Go.Gv

set_option maxRecDepth 4000
namespace Go.Gv
def prK (m : Msh) (a b : Pnt) (i k : Nat) : Int × Int:=(ao (cnr m i k) (cnr m i ((k + 1) % 3)) a,ao (cnr m i k) (cnr m i ((k + 1) % 3)) b)
theorem qR {m : Msh} {a b : Pnt} {i k : Nat} (h : cw m i k a b=2) : cdK m a b i k=[prK m a b i k]:=by unfold cdK;rw [if_pos h];rfl
theorem vW {m : Msh} {a b : Pnt} {i k : Nat} (h : ¬ cw m i k a b=2) : cdK m a b i k=[]:=by unfold cdK;rw [if_neg h]
theorem rg {m : Msh} {a b : Pnt} {i k n : Nat} (h : cw m i k a b=2) (hi : i < n) (hk : k < 3) : prK m a b i k ∈ cdL m a b n :=
 List.mem_flatMap.2 ⟨i,List.mem_range.2 hi,List.mem_flatMap.2 ⟨k,List.mem_range.2 hk,by rw [qR h];simp⟩⟩
def cdP (m : Msh) (a b : Pnt) (i k : Nat) : List (Int × Int):=cdL m a b i++cdF m a b i k
theorem d7 (m : Msh) (a b : Pnt) (i : Nat) : cdP m a b i 0=cdL m a b i:=by simp [cdP,tp]
theorem iA (m : Msh) (a b : Pnt) (i : Nat) : cdP m a b i 3=cdL m a b (i + 1):=(oo m a b i).symm
theorem gm {m : Msh} {a b : Pnt} {i k : Nat} (h : ¬ cw m i k a b=2) : cdP m a b i (k + 1)=cdP m a b i k:=by unfold cdP;rw [lE,vW h,List.append_nil]
theorem fA {m : Msh} {a b : Pnt} {i k : Nat} (h : cw m i k a b=2) : cdP m a b i (k + 1)=cdP m a b i k++[prK m a b i k]:=by unfold cdP;rw [lE,qR h,List.append_assoc]
theorem lp (m : Msh) (a b : Pnt) (i k : Nat) : (cdP m a b i k).length <= 3 * i + k:=by
 have h1:=ju m a b i
 have h2:=nr m a b i k
 unfold cdP
 rw [List.length_append]
 omega
def fqP (m : Msh) (a b : Pnt) (i k : Nat) : List (List D):=fqR (fqs (cdP m a b i k))
theorem nI (m : Msh) (a b : Pnt) (i k : Nat) : (fqP m a b i k).length=(cdP m a b i k).length:=by simp [fqP,fqR,fqs]
theorem nJ {m : Msh} {a b : Pnt} {i k : Nat} (h : cw m i k a b=2) (hc : cA (prK m a b i k).1 ((prK m a b i k).1 - (prK m a b i k).2)=0) : fqP m a b i (k + 1)=fqP m a b i k++[[.int .i64 (cy (prK m a b i k).1 ((prK m a b i k).1 - (prK m a b i k).2)).1,.int .i64 (cy (prK m a b i k).1 ((prK m a b i k).1 - (prK m a b i k).2)).2]]:=by
 unfold fqP
 rw [fA h,lK]
 have e : (f7 (cy (prK m a b i k).1 ((prK m a b i k).1 - (prK m a b i k).2))).1=cy (prK m a b i k).1 ((prK m a b i k).1 - (prK m a b i k).2):=im (jh hc).1
 simp [fqR,fqs,fqD,e]
theorem uh (L : List Frq) : (fqR L).map (fun e=>e.map aR)=fqR L:=by
 unfold fqR
 rw [List.map_map]
 exact List.map_congr_left fun x _=>by simp [fqD]
def lc (l : List (Int × Int)) : Bool:=l.all dx
theorem sc (m : Msh) (a b : Pnt) (i : Nat) : fqP m a b i 3=fqP m a b (i + 1) 0:=by unfold fqP;rw [iA,d7]
def gJ (m : Msh) (a b : Pnt) : D:=if (cdL m a b m.f.length).all dx=true then .sl (fqR (iY m a b)) else .nils
def dU (m : Msh) (a b : Pnt) : Int:=if (cdL m a b m.f.length).all dx=true then 0 else 5
variable {C : CC} (hC : aA prog C)
include hC
theorem vt (dec : Nat -> List UInt8) (hI : ∀ n : Nat,n < 100 -> C 127 [.int .i64 n] (.str (dec n)) []) (m : Msh) (hz : bW m=true -> m.s.length <= 100 /\ m.f.length <= 100) (a b : Pnt) (h0 : cI m a b ≠ 0) : C 683 [.agg (aY m),.agg (ptD a),.agg (ptD b)] (.tup [.nils,.int .i64 (cI m a b)]) []:=by
 have kl:=jE hC dec hI m hz a b
 simp only [ab,ptD] at kl
 refine start hC (nf:=N683) rfl rfl ?_
 simp [N683,ptD,ab]
 refine aa kl (.inl rfl) ?_
 simp [h0]
set_option maxHeartbeats 4000000 in
theorem rD (hS : vR C) (dec : Nat -> List UInt8) (hI : ∀ n : Nat,n < 100 -> C 127 [.int .i64 n] (.str (dec n)) []) (m : Msh) (hz : bW m=true -> m.s.length <= 100 /\ m.f.length <= 100) (a b : Pnt) (h0 : cI m a b=0) : C 683 [.agg (aY m),.agg (ptD a),.agg (ptD b)] (.tup [gJ m a b,.int .i64 (dU m a b)]) []:=by
 have kl:=jE hC dec hI m hz a b
 rw [h0] at kl
 have hv : aF m=true:=by
  unfold cI at h0
  by_cases h : aF m=true
  ·exact h
  ·rw [if_neg h] at h0;cases h0
 have h1 : dR a b=0:=by unfold cI at h0;rwa [if_pos hv] at h0
 have hab : okP a=true /\ okP b=true /\ a ≠ b:=by
  unfold dR at h1
  split at h1
  ·rename_i h
   refine ⟨h.1,h.2,fun e=>?_⟩
   rw [if_pos e] at h1;cases h1
  ·cases h1
 obtain ⟨oa,ob,hne⟩:=hab
 have hfl:=(dM hv).2
 simp only [ab,ptD] at kl
 have hgood : (cdL m a b m.f.length).all dx=true -> gJ m a b=.sl (fqR (iY m a b)) /\ dU m a b=0:=fun h=>⟨by unfold gJ;rw [if_pos h],by unfold dU;rw [if_pos h]⟩
 have hbad : ∀ i k,cw m i k a b=2 -> i < m.f.length -> k < 3 -> ¬ cA (prK m a b i k).1 ((prK m a b i k).1 - (prK m a b i k).2)=0 -> gJ m a b=.nils /\ dU m a b=5 /\ cA (prK m a b i k).1 ((prK m a b i k).1 - (prK m a b i k).2)=5:=fun i k h hi hk hc=>by
  have hm:=rg h hi hk
  have hn : ¬ (cdL m a b m.f.length).all dx=true:=fun h2=>by
   have:=List.all_eq_true.1 h2 _ hm
   unfold dx at this
   exact hc (of_decide_eq_true this)
  exact ⟨by unfold gJ;rw [if_neg hn],by unfold dU;rw [if_neg hn],(tq hm).resolve_left hc⟩
 obtain ⟨d1,hd1⟩ : ∃ d1,d1=gJ m a b:=⟨_,rfl⟩
 obtain ⟨e1,he1⟩ : ∃ e1,e1=dU m a b:=⟨_,rfl⟩
 rw [<- hd1] at hgood hbad
 rw [<- he1] at hgood hbad
 rw [<- hd1,<- he1]
 clear hd1 he1
 have w1 : IntKind.wrap .i64 (1 : Int)=1:=by decide
 have w2 : IntKind.wrap .i64 (2 : Int)=2:=by decide
 have w3 : IntKind.wrap .i64 (3 : Int)=3:=by decide
 refine start hC (nf:=N683) rfl rfl ?_
 simp [N683,ptD,ab]
 refine aa kl (.inl rfl) ?_
 simp
 refine au Nat (fun i=>[(3,.ptr (aY m)),(4,.ptr (ptD a)),(5,.ptr (ptD b)),(9,.ref (.r 10144) 0 (fqP m a b i 0).length),(27,slx m.fn (m.f.map bx)),(28,.int .i64 m.f.length),(29,.int .i64 i),(10144,.blk 2 (fqP m a b i 0))])
  (fun i=>i <= m.f.length /\ lc (cdL m a b i)=true) (fun i=>m.f.length - i) 0 (by simp [jv,lc]) (by simp [ab,ptD,fqP,d7,jv,fqs,fqR]) ?_
 rintro i ⟨hi,hall⟩
 simp
 refine al (fun h1=>?_) (fun h1=>?_) <;> simp at h1 <;> simp [h1]
 ·have hw : IntKind.wrap .i64 ((i : Int) + 1)=((i + 1 : Nat) : Int):=ae (by omega) (by omega)
  have kc:=mo hC m i h1 (gi hv h1)
  simp only [ab,aP] at kc
  simp [ab,ptD,h1,aP]
  refine aa kc (.inr rfl) ?_
  simp [bC]
  refine au Nat (fun k=>[(3,.ptr (aY m)),(4,.ptr (ptD a)),(5,.ptr (ptD b)),(9,.ref (.r 10144) 0 (fqP m a b i k).length),(12,.adr (.r 10192) 0 0),(27,slx m.fn (m.f.map bx)),(28,.int .i64 m.f.length),(29,.int .i64 i),(36,.int .i64 k),(10144,.blk 2 (fqP m a b i k)),(10192,.blk 6 [pS m i])])
   (fun k=>k <= 3 /\ lc (cdP m a b i k)=true) (fun k=>3 - k) 0 (by simp [d7,hall]) (by simp [ab,ptD,bC]) ?_
  rintro k ⟨hk,hallk⟩
  rcases (by omega : k=0 \/ k=1 \/ k=2 \/ k=3) with rfl | rfl | rfl | rfl
  ·have kx:=iE hC oa ob (bf hv h1 0) (bf hv h1 1) hne (gq hv h1 0 (by omega))
   have kt:=tE hC oa ob (bf hv h1 0) (bf hv h1 1) hne (gq hv h1 0 (by omega))
   have e0 : gr a b (cnr m i 0) (cnr m i 1)=cw m i 0 a b:=rfl
   have e3 : ao (cnr m i 0) (cnr m i 1) a=(prK m a b i 0).1:=rfl
   have e4 : ao (cnr m i 0) (cnr m i 1) b=(prK m a b i 0).2:=rfl
   have c0 : cnr m i 0=ptS (spA m i):=rfl
   have c1 : cnr m i 1=ptS (spB m i):=rfl
   rw [e0] at kx
   rw [e3,e4] at kt
   rw [c0,c1] at kx kt
   simp only [ptD,ptS] at kx kt
   have hlen:=lp m a b i 0
   have hq2:=nJ (m:=m) (a:=a) (b:=b) (i:=i) (k:=0)
   have hp2:=fA (m:=m) (a:=a) (b:=b) (i:=i) (k:=0)
   have hpn:=gm (m:=m) (a:=a) (b:=b) (i:=i) (k:=0)
   have hb0:=hbad i 0
   simp [ptD,bC,w1]
   refine ⟨ah (by decide +kernel),?_⟩
   generalize cw m i 0 a b=z at *
   generalize hqq : prK m a b i 0=pr at *
   refine aa kx (.inl rfl) ?_
   by_cases hz2 : z=2
   ·simp [hz2]
    refine aa kt (.inl rfl) ?_
    by_cases hc0 : cA pr.1 (pr.1 - pr.2)=0
    ·have hcc:=jh hc0
     simp [hc0,w1]
     refine ⟨by rw [nI];omega,1,⟨by omega,?_⟩,by omega,?_⟩
     ·rw [hp2 hz2]
      unfold lc at hallk ⊢
      rw [List.all_append,hallk]
      simp [dx,hc0]
     ·simp [ptD,ab,bC,hq2 hz2 hc0]
    ·obtain ⟨b1,b2,b3⟩:=hb0 hz2 h1 (by omega) hc0
     simp [hc0,b1,b2,b3]
   ·simp [hz2,w1]
    refine ⟨1,⟨by omega,?_⟩,by omega,?_⟩
    ·rw [hpn hz2];exact hallk
    ·have hq : fqP m a b i (0 + 1)=fqP m a b i 0:=by unfold fqP;rw [hpn hz2]
     simp [ptD,ab,bC,hq]
  ·have kx:=iE hC oa ob (bf hv h1 1) (bf hv h1 2) hne (gq hv h1 1 (by omega))
   have kt:=tE hC oa ob (bf hv h1 1) (bf hv h1 2) hne (gq hv h1 1 (by omega))
   have e0 : gr a b (cnr m i 1) (cnr m i 2)=cw m i 1 a b:=rfl
   have e3 : ao (cnr m i 1) (cnr m i 2) a=(prK m a b i 1).1:=rfl
   have e4 : ao (cnr m i 1) (cnr m i 2) b=(prK m a b i 1).2:=rfl
   have c0 : cnr m i 1=ptS (spB m i):=rfl
   have c1 : cnr m i 2=ptS (spC m i):=rfl
   rw [e0] at kx
   rw [e3,e4] at kt
   rw [c0,c1] at kx kt
   simp only [ptD,ptS] at kx kt
   have hlen:=lp m a b i 1
   have hq2:=nJ (m:=m) (a:=a) (b:=b) (i:=i) (k:=1)
   have hp2:=fA (m:=m) (a:=a) (b:=b) (i:=i) (k:=1)
   have hpn:=gm (m:=m) (a:=a) (b:=b) (i:=i) (k:=1)
   have hb0:=hbad i 1
   simp [ptD,bC,w2]
   refine ⟨ah (by decide +kernel),?_⟩
   generalize cw m i 1 a b=z at *
   generalize hqq : prK m a b i 1=pr at *
   refine aa kx (.inl rfl) ?_
   by_cases hz2 : z=2
   ·simp [hz2]
    refine aa kt (.inl rfl) ?_
    by_cases hc0 : cA pr.1 (pr.1 - pr.2)=0
    ·have hcc:=jh hc0
     simp [hc0,w2]
     refine ⟨by rw [nI];omega,2,⟨by omega,?_⟩,by omega,?_⟩
     ·rw [hp2 hz2]
      unfold lc at hallk ⊢
      rw [List.all_append,hallk]
      simp [dx,hc0]
     ·simp [ptD,ab,bC,hq2 hz2 hc0]
    ·obtain ⟨b1,b2,b3⟩:=hb0 hz2 h1 (by omega) hc0
     simp [hc0,b1,b2,b3]
   ·simp [hz2,w2]
    refine ⟨2,⟨by omega,?_⟩,by omega,?_⟩
    ·rw [hpn hz2];exact hallk
    ·have hq : fqP m a b i (1 + 1)=fqP m a b i 1:=by unfold fqP;rw [hpn hz2]
     simp [ptD,ab,bC,hq]
  ·have kx:=iE hC oa ob (bf hv h1 2) (bf hv h1 0) hne (gq hv h1 2 (by omega))
   have kt:=tE hC oa ob (bf hv h1 2) (bf hv h1 0) hne (gq hv h1 2 (by omega))
   have e0 : gr a b (cnr m i 2) (cnr m i 0)=cw m i 2 a b:=rfl
   have e3 : ao (cnr m i 2) (cnr m i 0) a=(prK m a b i 2).1:=rfl
   have e4 : ao (cnr m i 2) (cnr m i 0) b=(prK m a b i 2).2:=rfl
   have c0 : cnr m i 2=ptS (spC m i):=rfl
   have c1 : cnr m i 0=ptS (spA m i):=rfl
   rw [e0] at kx
   rw [e3,e4] at kt
   rw [c0,c1] at kx kt
   simp only [ptD,ptS] at kx kt
   have hlen:=lp m a b i 2
   have hq2:=nJ (m:=m) (a:=a) (b:=b) (i:=i) (k:=2)
   have hp2:=fA (m:=m) (a:=a) (b:=b) (i:=i) (k:=2)
   have hpn:=gm (m:=m) (a:=a) (b:=b) (i:=i) (k:=2)
   have hb0:=hbad i 2
   simp [ptD,bC,w3]
   refine ⟨ah (by decide +kernel),?_⟩
   generalize cw m i 2 a b=z at *
   generalize hqq : prK m a b i 2=pr at *
   refine aa kx (.inl rfl) ?_
   by_cases hz2 : z=2
   ·simp [hz2]
    refine aa kt (.inl rfl) ?_
    by_cases hc0 : cA pr.1 (pr.1 - pr.2)=0
    ·have hcc:=jh hc0
     simp [hc0,w3]
     refine ⟨by rw [nI];omega,3,⟨by omega,?_⟩,by omega,?_⟩
     ·rw [hp2 hz2]
      unfold lc at hallk ⊢
      rw [List.all_append,hallk]
      simp [dx,hc0]
     ·simp [ptD,ab,bC,hq2 hz2 hc0]
    ·obtain ⟨b1,b2,b3⟩:=hb0 hz2 h1 (by omega) hc0
     simp [hc0,b1,b2,b3]
   ·simp [hz2,w3]
    refine ⟨3,⟨by omega,?_⟩,by omega,?_⟩
    ·rw [hpn hz2];exact hallk
    ·have hq : fqP m a b i (2 + 1)=fqP m a b i 2:=by unfold fqP;rw [hpn hz2]
     simp [ptD,ab,bC,hq]
  ·rw [iA] at hallk
   simp [hw]
   exact ⟨i + 1,⟨by omega,hallk⟩,by omega,by simp [ab,ptD,sc]⟩
 ·have : i=m.f.length:=by omega
  subst this
  obtain ⟨g1,g2⟩:=hgood hall
  have k1:=hS (fqs (cdL m a b m.f.length)) (by have:=ju m a b m.f.length;simp [fqs];omega) (BJ hC)
  have k2:=wc hC (lm fqC (fqs (cdL m a b m.f.length))) (by rw [iy];have:=ju m a b m.f.length;simp [fqs];omega)
  have e0 : fqP m a b m.f.length 0=fqR (fqs (cdL m a b m.f.length)):=by unfold fqP;rw [d7]
  have e2 : iY m a b=ddL (lm fqC (fqs (cdL m a b m.f.length))):=rfl
  rw [e0,g1,g2,e2]
  generalize fqs (cdL m a b m.f.length)=L at *
  simp [bi]
  refine ⟨gA L,?_⟩
  refine rP k1 (.inl rfl) (by simp [bi,iy]) (fun e he=>⟨d4 _ e he,gA _ e he⟩) ?_
  simp [bi,iy]
  have e : List.take L.length (fqR (lm fqC L))=fqR (lm fqC L):=List.take_of_length_le (by rw [bi,iy];exact Nat.le_refl _)
  rw [e]
  refine ⟨jB _,?_⟩
  refine wx k2 (fun e he=>⟨d4 _ e he,jB _ e he⟩) ?_
  simp [bi]
  rw [uh,List.take_of_length_le (by rw [bi];exact Nat.le_refl _)]
end Go.Gv

set_option maxRecDepth 4000
namespace Go.Gv
def xo (a b : Pnt) (n : Int) : D:=if jg (dR a b) n []=0 then .sl ((jK a b n.toNat).map fun x=>ptD x) else .nils
theorem tv {a b : Pnt} {n : Int} {ls : List Int} {e : Int} (h : jg e n ls=0) : e=0 /\ 1 <= n /\ n <= 999 /\ ls.all lh=true:=by
 unfold jg at h
 split at h
 ·rename_i h0
  split at h
  ·rename_i h1;exact ⟨h0,h1.1.1,h1.1.2,h1.2⟩
  ·cases h
 ·rename_i h0;exact absurd h h0
theorem lR {a b : Pnt} (h : dR a b=0) : okP a=true /\ okP b=true /\ a ≠ b:=by
 unfold dR at h
 split at h
 ·rename_i h1
  refine ⟨h1.1,h1.2,fun e=>?_⟩
  rw [if_pos e] at h;cases h
 ·cases h
theorem oS {m : Msh} {a b : Pnt} (h : cI m a b=0) : aF m=true /\ dR a b=0:=by
 unfold cI at h
 by_cases hv : aF m=true
 ·rw [if_pos hv] at h;exact ⟨hv,h⟩
 ·rw [if_neg hv] at h;cases h
variable {C : CC} (hC : aA prog C)
include hC
theorem xw (a b : Pnt) : C 705 [.agg (ptD a),.agg (ptD b)] (.int .i64 (dR a b)) []:=by
 have ka:=m8 hC a
 have kb:=m8 hC b
 simp only [ptD] at ka kb
 refine start hC (nf:=N705) rfl rfl ?_
 unfold dR
 simp [N705,ptD]
 refine aa ka (.inl rfl) ?_
 cases h1 : okP a
 ·simp
 simp
 refine aa kb (.inl rfl) ?_
 cases h2 : okP b
 ·simp
 simp
 by_cases h3 : a.1=b.1
 ·by_cases h4 : a.2=b.2
  ·simp [h3,h4,Prod.ext h3 h4]
  ·have hne : ¬ a=b:=fun e=>h4 (by rw [e])
   simp [h3,h4,hne]
 ·have hne : ¬ a=b:=fun e=>h3 (by rw [e])
  simp [h3,hne]
theorem uR (m : Msh) (hz : bW m=true -> m.s.length <= 100 /\ m.f.length <= 100) (a b : Pnt) : C 684 [.agg (aY m),.agg (ptD a),.agg (ptD b)] (.int .i64 (cI m a b)) []:=by
 have k1:=uS hC m hz
 have k2:=xw hC a b
 simp only [ab] at k1
 simp only [ptD] at k2
 refine start hC (nf:=N684) rfl rfl ?_
 unfold cI
 simp [N684,ptD,ab]
 refine aa k1 (.inl rfl) ?_
 cases h1 : aF m
 ·simp
 simp
 refine aa k2 (.inl rfl) ?_
 simp
theorem tz (dec : Nat -> List UInt8) (hI : ∀ n : Nat,n < 100 -> C 127 [.int .i64 n] (.str (dec n)) []) (m : Msh) (hz : bW m=true -> m.s.length <= 100 /\ m.f.length <= 100) (a b : Pnt) (n : Int) (c : Bool) (ls : List Int) (hl : ls.length < 2 ^ 62) : C 703 [.ptr (aY m),.agg (ptD a),.agg (ptD b),.int .i64 n,slx c (ls.map fun n=>[.int .i64 n])] (.int .i64 (jg (cI m a b) n ls)) []:=by
 have k1:=jE hC dec hI m hz a b
 have k2:=pC hC c ls hl
 simp only [ptD,ab] at k1
 refine start hC (nf:=N703) rfl rfl ?_
 unfold jg
 simp [N703,ptD,ab]
 refine aa k1 (.inl rfl) ?_
 clear k1
 generalize cI m a b=e
 simp
 by_cases h : e=0
 ·subst h
  simp
  by_cases h1 : n < 1
  ·simp [h1,show ¬ 1 <= n by omega]
  ·by_cases h2 : 999 < n
   ·simp [h1,h2,show ¬ n <= 999 by omega]
   ·simp [h1,h2,show 1 <= n by omega,show n <= 999 by omega]
    refine aa k2 (.inl rfl) ?_
    cases h3 : ls.all lh
    ·simp at h3 ⊢
    ·simp at h3 ⊢
     omega
 ·simp [h]
theorem sS (a b : Pnt) (n : Int) : C 678 [.agg (ptD a),.agg (ptD b),.int .i64 n] (.tup [xo a b n,.int .i64 (jg (dR a b) n [])]) []:=by
 have k1:=tx hC a b n
 simp only [ptD] at k1
 unfold xo
 refine start hC (nf:=N678) rfl rfl ?_
 simp [N678,ptD]
 refine aa k1 (.inl rfl) ?_
 by_cases h : jg (dR a b) n []=0
 ·obtain ⟨g0,g1,g2,_⟩:=tv (a:=a) (b:=b) h
  obtain ⟨ha,hb,_⟩:=lR g0
  obtain ⟨N,rfl⟩ : ∃ N : Nat,n=N:=⟨n.toNat,by omega⟩
  have k2:=kG hC a b ha hb N (by omega) (by omega)
  simp only [ptD] at k2
  simp [h]
  refine aa k2 (.inr rfl) ?_
  simp [ptD]
  exact h
 ·simp [h]
theorem wL (b b' : Bool) (xs : List Pnt) (hx : xs.length < 2 ^ 62) : C 680 [slx b (xs.map fun x=>ptD x),slx b' (xs.map fun x=>ptD x)] (.bool true) []:=by
 refine start hC (nf:=N680) rfl rfl ?_
 simp [N680]
 refine au Nat (fun i=>[(0,slx b (xs.map fun x=>ptD x)),(1,slx b' (xs.map fun x=>ptD x)),(12,.int .i64 xs.length),(13,.int .i64 i)])
  (fun i=>i <= xs.length) (fun i=>xs.length - i) 0 (by simp) (by simp) ?_
 rintro i hi
 simp
 refine al (fun h1=>?_) (fun h1=>?_) <;> simp at h1 <;> simp [h1]
 have hw : IntKind.wrap .i64 ((i : Int) + 1)=((i + 1 : Nat) : Int):=ae (by omega) (by omega)
 simp [h1,ptD,hw]
 exact ⟨ah (by decide +kernel),i + 1,by omega,by omega,rfl⟩
theorem Ar (b b' : Bool) (xs : List Pnt) (hx : xs.length < 2 ^ 62) : C 687 [slx b (xs.map fun x=>ptD x),slx b' (xs.map fun x=>ptD x)] (.bool true) []:=by
 refine start hC (nf:=N687) rfl rfl ?_
 simp [N687]
 refine au Nat (fun i=>[(0,slx b (xs.map fun x=>ptD x)),(1,slx b' (xs.map fun x=>ptD x)),(12,.int .i64 xs.length),(13,.int .i64 i)])
  (fun i=>i <= xs.length) (fun i=>xs.length - i) 0 (by simp) (by simp) ?_
 rintro i hi
 simp
 refine al (fun h1=>?_) (fun h1=>?_) <;> simp at h1 <;> simp [h1]
 have hw : IntKind.wrap .i64 ((i : Int) + 1)=((i + 1 : Nat) : Int):=ae (by omega) (by omega)
 simp [h1,ptD,hw]
 exact ⟨ah (by decide +kernel),i + 1,by omega,by omega,rfl⟩
theorem nC (b b' : Bool) (xs : List Frq) (hx : xs.length < 2 ^ 62) : C 687 [slx b (fqR xs),slx b' (fqR xs)] (.bool true) []:=by
 have e : fqR xs=(xs.map fun x=>(x.1 : Pnt)).map fun x=>ptD x:=by
  unfold fqR
  rw [List.map_map]
  rfl
 rw [e]
 exact Ar hC b b' _ (by rw [List.length_map];exact hx)
end Go.Gv

set_option maxRecDepth 4000
namespace Go.Gv
def spD (s : Int × Int) : List D:=[.int .i64 s.1,.int .i64 s.2]
def lvP (m : Msh) (p : Pnt) : Int × Int:=(loF m (eC m p).toNat p,hiF m (eC m p).toNat p)
def lvT (m : Msh) (a b : Pnt) (n k : Nat) : List (Int × Int):=(List.range k).map fun i=>lvP m (atL a b n i)
def i5 (m : Msh) (a b : Pnt) (n k : Nat) : Bool:=(List.range k).all fun i=>decide (onE m (atL a b n i)=0)
def lvR (m : Msh) (a b : Pnt) (n k : Nat) : List (List D):=(lvT m a b n k).map spD
theorem jF (m : Msh) (a b : Pnt) (n k : Nat) : (lvR m a b n k).length=k:=by simp [lvR,lvT]
theorem oY (m : Msh) (a b : Pnt) (n : Nat) : lvR m a b n 0=[]:=rfl
theorem oX (m : Msh) (a b : Pnt) (n k : Nat) : lvR m a b n (k + 1)=lvR m a b n k++[[.int .i64 (lvP m (atL a b n k)).1,.int .i64 (lvP m (atL a b n k)).2]]:=by simp [lvR,lvT,List.range_succ,spD]
theorem Jm (l : List (Int × Int)) : (l.map spD).map (fun e=>e.map aR)=l.map spD:=by
 rw [List.map_map]
 exact List.map_congr_left fun x _=>by simp [spD]
theorem mT (m : Msh) (a b : Pnt) (n k : Nat) : i5 m a b n (k + 1)=(i5 m a b n k && decide (onE m (atL a b n k)=0)):=by simp [i5,List.range_succ]
theorem nM {m : Msh} {a b : Pnt} {n k i : Nat} (h : i5 m a b n k=true) (hi : i < k) : onE m (atL a b n i)=0:=by
 have:=List.all_eq_true.1 h i (List.mem_range.2 hi)
 exact of_decide_eq_true this
theorem Bm {m : Msh} {p : Pnt} (hv : aF m=true) (hp : okP p=true) (h : ¬ onE m p=0) : onE m p=12:=by
 unfold onE at h ⊢
 rw [if_pos ⟨hv,hp⟩] at h ⊢
 split
 ·rfl
 ·rename_i h1;rw [if_neg h1] at h;exact absurd rfl h
theorem pe (a b : Pnt) (n : Nat) : (jK a b n).length=n + 1:=by simp [jK]
theorem pd (a b : Pnt) (n : Nat) {k : Nat} (h : k < (jK a b n).length) : (jK a b n)[k]=atL a b n k:=by simp [jK]
def lvD (m : Msh) (a b : Pnt) (n : Nat) : D:=if i5 m a b n (n + 1)=true then .sl (lvR m a b n (n + 1)) else .nils
def lvE (m : Msh) (a b : Pnt) (n : Nat) : Int:=if i5 m a b n (n + 1)=true then 0 else 12
variable {C : CC} (hC : aA prog C)
include hC
set_option maxHeartbeats 1000000 in
theorem BL (dec : Nat -> List UInt8) (hI : ∀ n : Nat,n < 100 -> C 127 [.int .i64 n] (.str (dec n)) []) (m : Msh) (hz : bW m=true -> m.s.length <= 100 /\ m.f.length <= 100) (hv : aF m=true) (a b : Pnt) (ha : okP a=true) (hb : okP b=true) (n : Nat) (h1 : 1 <= n) (h2 : n <= 999) : C 726 [.agg (aY m),.agg (ptD a),.agg (ptD b),.int .i64 n] (.tup [lvD m a b n,.int .i64 (lvE m a b n)]) []:=by
 have k1:=kG hC a b ha hb n h1 h2
 have hPl:=pe a b n
 have hPg:=fun k (h : k < (jK a b n).length)=>pd a b n h
 have hgood : i5 m a b n (n + 1)=true -> lvD m a b n=.sl (lvR m a b n (n + 1)) /\ lvE m a b n=0:=fun h=>⟨by unfold lvD;rw [if_pos h],by unfold lvE;rw [if_pos h]⟩
 have hbad : ∀ k,k <= n -> ¬ onE m (atL a b n k)=0 -> lvD m a b n=.nils /\ lvE m a b n=12:=fun k hk h=>by
  have hn : ¬ i5 m a b n (n + 1)=true:=fun h3=>h (nM h3 (by omega))
  exact ⟨by unfold lvD;rw [if_neg hn],by unfold lvE;rw [if_neg hn]⟩
 obtain ⟨d1,hd1⟩ : ∃ d1,d1=lvD m a b n:=⟨_,rfl⟩
 obtain ⟨e1,he1⟩ : ∃ e1,e1=lvE m a b n:=⟨_,rfl⟩
 rw [<- hd1] at hgood hbad
 rw [<- he1] at hgood hbad
 rw [<- hd1,<- he1]
 clear hd1 he1
 have hlv:=fun k=>oQ hC dec hI m hz (atL a b n k)
 generalize jK a b n=P at *
 simp only [ptD,ab] at k1 hlv
 refine start hC (nf:=N726) rfl rfl ?_
 simp [N726,ptD,ab]
 refine aa k1 (.inr rfl) ?_
 simp [hPl]
 refine au Nat (fun k=>[(4,.ptr (aY m)),(10,.ref (.r 10160) 0 k),(18,.sl (P.map fun x=>ptD x)),(19,.int .i64 ((n + 1 : Nat) : Int)),(20,.int .i64 k),(10160,.blk 2 (lvR m a b n k))])
  (fun k=>k <= n + 1 /\ i5 m a b n k=true) (fun k=>n + 1 - k) 0 (by simp [i5]) (by simp [ab,ptD,oY]) ?_
 rintro k ⟨hk,hall⟩
 simp
 refine al (fun h3=>?_) (fun h3=>?_) <;> simp at h3
 ·have hw : IntKind.wrap .i64 ((k : Int) + 1)=((k + 1 : Nat) : Int):=ae (by omega) (by omega)
  have hkP : k < P.length:=by omega
  have hpk:=hPg k hkP
  have kl:=hlv k
  have hlen:=jF m a b n k
  have hss:=oX m a b n k
  have hsk:=mT m a b n k
  by_cases h0 : onE m (atL a b n k)=0
  ·rw [if_pos h0] at kl
   simp [h3,hkP,hpk,ptD,ab]
   refine aa kl (.inl rfl) ?_
   simp [hw]
   have hsv : lvR m a b n k++[[.int .i64 (loF m (eC m (atL a b n k)).toNat (atL a b n k)),.int .i64 (hiF m (eC m (atL a b n k)).toNat (atL a b n k))]]=lvR m a b n (k + 1):=by rw [hss];rfl
   have htk : List.take k (lvR m a b n k)=lvR m a b n k:=List.take_of_length_le (by omega)
   refine ⟨by omega,by omega,k + 1,⟨by omega,by rw [hsk,hall,decide_eq_true h0];rfl⟩,by omega,by simp [ab],?_⟩
   simp [htk,hsv]
  ·rw [if_neg h0] at kl
   obtain ⟨g1,g2⟩:=hbad k (by omega) h0
   have h12:=Bm hv (tk ha hb (show 0 < n by omega) (show k <= n by omega)) h0
   rw [h12] at kl
   simp only [wz] at kl
   simp [h3,hkP,hpk,ptD,ab]
   refine aa kl (.inl rfl) ?_
   simp [g1,g2]
 ·have ek : k=n + 1:=by omega
  subst ek
  have hlen:=jF m a b n (n + 1)
  obtain ⟨g1,g2⟩:=hgood hall
  have hV : (lvR m a b n (n + 1)).map (fun e=>e.map aR)=lvR m a b n (n + 1):=Jm _
  simp [h3,g1,g2,hV]
  exact ⟨by omega,(List.take_of_length_le (by omega)).symm⟩
set_option maxHeartbeats 1000000 in
theorem x9 (dec : Nat -> List UInt8) (hI : ∀ n : Nat,n < 100 -> C 127 [.int .i64 n] (.str (dec n)) []) (m : Msh) (hz : bW m=true -> m.s.length <= 100 /\ m.f.length <= 100) (hv : aF m=true) (a b : Pnt) (ha : okP a=true) (hb : okP b=true) (n : Nat) (h1 : 1 <= n) (h2 : n <= 999) (hok : i5 m a b n (n + 1)=true) : C 726 [.agg (aY m),.agg (ptD a),.agg (ptD b),.int .i64 n] (.tup [.own 2 (lvR m a b n (n + 1)),.int .i64 0]) [.nils]:=by
 have k1:=kG hC a b ha hb n h1 h2
 have hPl:=pe a b n
 have hPg:=fun k (h : k < (jK a b n).length)=>pd a b n h
 have hlv:=fun k=>oQ hC dec hI m hz (atL a b n k)
 generalize jK a b n=P at *
 simp only [ptD,ab] at k1 hlv
 refine BG hC (nf:=N726) rfl rfl (by simp [okR]) ?_
 simp [N726,ptD,ab]
 refine aa k1 (.inr rfl) ?_
 simp [hPl]
 refine au Nat (fun k=>[(4,.ptr (aY m)),(10,.ref (.r 10160) 0 k),(18,.sl (P.map fun x=>ptD x)),(19,.int .i64 ((n + 1 : Nat) : Int)),(20,.int .i64 k),(10160,.blk 2 (lvR m a b n k))])
  (fun k=>k <= n + 1 /\ i5 m a b n k=true) (fun k=>n + 1 - k) 0 (by simp [i5]) (by simp [ab,ptD,oY]) ?_
 rintro k ⟨hk,hall⟩
 simp
 refine al (fun h3=>?_) (fun h3=>?_) <;> simp at h3
 ·have hw : IntKind.wrap .i64 ((k : Int) + 1)=((k + 1 : Nat) : Int):=ae (by omega) (by omega)
  have hkP : k < P.length:=by omega
  have hpk:=hPg k hkP
  have kl:=hlv k
  have hlen:=jF m a b n k
  have hss:=oX m a b n k
  have hsk:=mT m a b n k
  by_cases h0 : onE m (atL a b n k)=0
  ·rw [if_pos h0] at kl
   simp [h3,hkP,hpk,ptD,ab]
   refine aa kl (.inl rfl) ?_
   simp [hw]
   have hsv : lvR m a b n k++[[.int .i64 (loF m (eC m (atL a b n k)).toNat (atL a b n k)),.int .i64 (hiF m (eC m (atL a b n k)).toNat (atL a b n k))]]=lvR m a b n (k + 1):=by rw [hss];rfl
   have htk : List.take k (lvR m a b n k)=lvR m a b n k:=List.take_of_length_le (by omega)
   refine ⟨by omega,by omega,k + 1,⟨by omega,by rw [hsk,hall,decide_eq_true h0];rfl⟩,by omega,by simp [ab],?_⟩
   simp [htk,hsv]
  ·rw [if_neg h0] at kl
   exact absurd (nM hok (by omega)) h0
 ·have ek : k=n + 1:=by omega
  subst ek
  have hlen:=jF m a b n (n + 1)
  simp [h3]
  omega
end Go.Gv

set_option maxRecDepth 4000
namespace Go.Gv
def O7 (o s : Int × Int) : Int × Int:=(min o.1 s.1,min o.2 s.2)
def lsK (l : List (Int × Int)) (k : Nat) : Int × Int:=(l.take k).foldl O7 (l.headD (0,0))
def lsF (l : List (Int × Int)) : Int × Int:=lsK l l.length
theorem uz (l : List (Int × Int)) : lsK l 0=l.headD (0,0):=rfl
theorem uy (l : List (Int × Int)) {k : Nat} (h : k < l.length) : lsK l (k + 1)=(min (lsK l k).1 l[k].1,min (lsK l k).2 l[k].2):=by
 unfold lsK
 rw [List.take_succ_eq_append_getElem h,List.foldl_append]
 rfl
def cvP (m : Msh) (a b : Pnt) (n : Nat) (up dn : Int) (k : Nat) : Int × Int :=
 ((lvP m (atL a b n k)).1 - (up - -((dn - up) * k) / n),(lvP m (atL a b n k)).2 - (up + (dn - up) * k / n))
def cvT (m : Msh) (a b : Pnt) (n : Nat) (up dn : Int) (k : Nat) : List (Int × Int):=(List.range (n + 1)).map fun i=>if i < k then cvP m a b n up dn i else lvP m (atL a b n i)
def cvL (m : Msh) (a b : Pnt) (n : Nat) (up dn : Int) : List (Int × Int):=(List.range (n + 1)).map (cvP m a b n up dn)
theorem wo (m : Msh) (a b : Pnt) (n : Nat) (up dn : Int) (k : Nat) : (cvT m a b n up dn k).length=n + 1:=by simp [cvT]
theorem tG (m : Msh) (a b : Pnt) (n : Nat) (up dn : Int) : cvT m a b n up dn 0=lvT m a b n (n + 1):=by simp [cvT,lvT]
theorem wm (m : Msh) (a b : Pnt) (n : Nat) (up dn : Int) : cvT m a b n up dn (n + 1)=cvL m a b n up dn:=by
 unfold cvT cvL
 exact List.map_congr_left fun i hi=>by rw [if_pos (List.mem_range.1 hi)]
theorem wn (m : Msh) (a b : Pnt) (n : Nat) (up dn : Int) {k : Nat} (h : k < n + 1) : (cvT m a b n up dn k)[k]? = some (lvP m (atL a b n k)):=by simp [cvT,h]
theorem wt (m : Msh) (a b : Pnt) (n : Nat) (up dn : Int) (k : Nat) : (cvT m a b n up dn k).set k (cvP m a b n up dn k)=cvT m a b n up dn (k + 1):=by
 apply List.ext_getElem?
 intro i
 rw [List.getElem?_set]
 unfold cvT
 simp only [List.getElem?_map,List.length_map,List.length_range]
 by_cases hi : i < n + 1
 ·by_cases hk : k=i
  ·subst hk
   simp [hi]
  ·simp [hk,hi]
   by_cases h2 : i < k
   ·simp [h2,show i < k + 1 by omega]
   ·simp [h2,show ¬ i < k + 1 by omega]
 ·have : (List.range (n + 1))[i]? = none:=List.getElem?_eq_none (by simp;omega)
  rw [this]
  by_cases hk : k=i
  ·subst hk;simp [hi]
  ·simp [hk]
theorem AP {m : Msh} {p : Pnt} (h : onE m p=0) : (-4194304 <= (lvP m p).1 /\ (lvP m p).1 <= 4194304) /\ -4194304 <= (lvP m p).2 /\ (lvP m p).2 <= 4194304:=by
 obtain ⟨hv,hp,hf⟩:=qk h
 obtain ⟨hi,ho⟩:=nG hf
 have hO : OnF m (eC m p).toNat p:=qm hv hi hp ho
 exact ⟨hO.lo,hO.hi⟩
variable {C : CC} (hC : aA prog C)
include hC
set_option maxHeartbeats 1000000 in
theorem wZ (b : Bool) (l : List (Int × Int)) (h0 : 0 < l.length) (hl : l.length < 2 ^ 40) : C 727 [slx b (l.map spD)] (.agg (spD (lsF l))) []:=by
 have e0 : l.headD (0,0)=l[0]:=by
  cases l with
  | nil=>simp at h0
  | cons x r=>rfl
 have e1 : l.head?.getD (0,0)=l[0]:=by
  cases l with
  | nil=>simp at h0
  | cons x r=>rfl
 refine start hC (nf:=N727) rfl rfl ?_
 simp [N727,spD,h0]
 refine au Nat (fun k=>[(2,.adr (.r 10032) 0 0),(3,.adr (.r 10048) 0 0),(9,slx b (l.map spD)),(10,.int .i64 l.length),(11,.int .i64 k),(10032,.blk 2 [[.int .i64 0,.int .i64 0]]),(10048,.blk 2 [[.int .i64 (lsK l k).1,.int .i64 (lsK l k).2]])])
  (fun k=>k <= l.length) (fun k=>l.length - k) 0 (by simp) (by simp [uz,e1,spD]) ?_
 rintro k hk
 simp
 refine al (fun h3=>?_) (fun h3=>?_) <;> simp at h3
 ·have hw : IntKind.wrap .i64 ((k : Int) + 1)=((k + 1 : Nat) : Int):=ae (by omega) (by omega)
  have hs:=uy l h3
  simp [h3,spD,mnE]
  refine ⟨ah (by decide +kernel),?_⟩
  simp [hw]
  exact ⟨k + 1,by omega,by omega,by simp [hs]⟩
 ·have ek : k=l.length:=by omega
  subst ek
  simp [lsF]
end Go.Gv

set_option maxRecDepth 4000
namespace Go.Gv
def cvS (m : Msh) (a b : Pnt) (n : Nat) (up dn : Int) : Int × Int:=if i5 m a b n (n + 1)=true then lsF (cvL m a b n up dn) else (0,0)
def cvR (m : Msh) (a b : Pnt) (n : Nat) (up dn : Int) (k : Nat) : List (List D):=(cvT m a b n up dn k).map spD
theorem wk (m : Msh) (a b : Pnt) (n : Nat) (up dn : Int) (k : Nat) : (cvR m a b n up dn k).length=n + 1:=by simp [cvR,wo]
theorem wj (m : Msh) (a b : Pnt) (n : Nat) (up dn : Int) {k : Nat} (h : k < n + 1) : (cvR m a b n up dn k)[k]? = some [.int .i64 (lvP m (atL a b n k)).1,.int .i64 (lvP m (atL a b n k)).2]:=by
 unfold cvR
 rw [List.getElem?_map,wn m a b n up dn h]
 rfl
theorem wl (m : Msh) (a b : Pnt) (n : Nat) (up dn : Int) (k : Nat) : (cvR m a b n up dn k).set k [.int .i64 (cvP m a b n up dn k).1,.int .i64 (cvP m a b n up dn k).2]=cvR m a b n up dn (k + 1):=by
 unfold cvR
 rw [<- wt,List.map_set]
 rfl
theorem tF (m : Msh) (a b : Pnt) (n : Nat) (up dn : Int) : cvR m a b n up dn 0=lvR m a b n (n + 1):=by unfold cvR lvR;rw [tG]
theorem wi (m : Msh) (a b : Pnt) (n : Nat) (up dn : Int) : cvR m a b n up dn (n + 1)=(cvL m a b n up dn).map spD:=by unfold cvR;rw [wm]
theorem oB {x c B : Int} (hc : 0 < c) (h : -B <= x /\ x <= B) : -B - 1 <= x / c /\ x / c <= B:=by
 have b:=pB hc h
 rw [zM hc]
 split <;> omega
variable {C : CC} (hC : aA prog C)
include hC
set_option maxHeartbeats 2000000 in
theorem wh (dec : Nat -> List UInt8) (hI : ∀ n : Nat,n < 100 -> C 127 [.int .i64 n] (.str (dec n)) []) (m : Msh) (hz : bW m=true -> m.s.length <= 100 /\ m.f.length <= 100) (hv : aF m=true) (a b : Pnt) (ha : okP a=true) (hb : okP b=true) (n : Nat) (h1 : 1 <= n) (h2 : n <= 999) (up dn : Int) (hu : lh up=true) (hd : lh dn=true) : C 723 [.agg (aY m),.agg (ptD a),.agg (ptD b),.int .i64 n,.int .i64 up,.int .i64 dn] (.tup [.agg (spD (cvS m a b n up dn)),.int .i64 (lvE m a b n)]) []:=by
 simp only [lh,Bool.and_eq_true,decide_eq_true_eq] at hu hd
 by_cases hok : i5 m a b n (n + 1)=true
 rotate_left
 ·have k1:=BL hC dec hI m hz hv a b ha hb n h1 h2
  have e1 : lvE m a b n=12:=by unfold lvE;rw [if_neg hok]
  have e2 : lvD m a b n=.nils:=by unfold lvD;rw [if_neg hok]
  have e3 : cvS m a b n up dn=(0,0):=by unfold cvS;rw [if_neg hok]
  rw [e1,e2] at k1
  rw [e1,e3]
  simp only [ab,ptD] at k1
  refine start hC (nf:=N723) rfl rfl ?_
  simp [N723,ab,ptD]
  refine rN k1 ?_
  simp [spD]
 have k1:=x9 hC dec hI m hz hv a b ha hb n h1 h2 hok
 have e1 : lvE m a b n=0:=by unfold lvE;rw [if_pos hok]
 have e3 : cvS m a b n up dn=lsF (cvL m a b n up dn):=by unfold cvS;rw [if_pos hok]
 rw [e1,e3]
 simp only [ab,ptD] at k1
 have ws : IntKind.wrap .i64 (dn - up)=dn - up:=ae rfl (by omega)
 refine start hC (nf:=N723) rfl rfl ?_
 simp [N723,ab,ptD]
 refine rO k1 rfl ?_
 simp [dy,aM,db,jF]
 refine au Nat (fun k=>[(3,.int .i64 n),(4,.int .i64 up),(5,.int .i64 dn),(12,.adr (.r 10192) 0 0),(14,.ref (.r 10224) 0 (n + 1)),(33,.int .i64 ((n + 1 : Nat) : Int)),(34,.int .i64 k),(10192,.blk 2 [[.int .i64 0,.int .i64 0]]),(10224,.blk 2 (cvR m a b n up dn k))])
  (fun k=>k <= n + 1) (fun k=>n + 1 - k) 0 (by simp) (by simp [tF]) ?_
 rintro k hk
 simp
 refine al (fun h3=>?_) (fun h3=>?_) <;> simp at h3
 ·have hw : IntKind.wrap .i64 ((k : Int) + 1)=((k + 1 : Nat) : Int):=ae (by omega) (by omega)
  have hkn : k < n + 1:=by omega
  have hlen:=wk m a b n up dn k
  have hg:=wj m a b n up dn hkn
  have hset:=wl m a b n up dn k
  obtain ⟨bl,bh⟩:=AP (nM hok hkn)
  have m1:=fo (a:=dn - up) (b:=(k : Int)) (k:=8388608) (l:=999) (by omega) (by omega) (by omega) (by omega)
  have w1 : IntKind.wrap .i64 ((dn - up) * k)=(dn - up) * k:=ae rfl (by omega)
  have w2 : IntKind.wrap .i64 (-((dn - up) * k))=-((dn - up) * k):=ae rfl (by omega)
  have f1:=jR hC ((dn - up) * k) n (by omega) (by omega)
  have f2:=jR hC (-((dn - up) * k)) n (by omega) (by omega)
  have q1:=oB (x:=(dn - up) * k) (c:=(n : Int)) (B:=8380219392) (by omega) (by omega)
  have q2:=oB (x:=-((dn - up) * k)) (c:=(n : Int)) (B:=8380219392) (by omega) (by omega)
  have hc : cvP m a b n up dn k=((lvP m (atL a b n k)).1 - (up - -((dn - up) * k) / n),(lvP m (atL a b n k)).2 - (up + (dn - up) * k / n)):=rfl
  rw [hc] at hset
  generalize hp : (dn - up) * (k : Int)=p at *
  generalize p / (n : Int)=x at *
  generalize -p / (n : Int)=y at *
  generalize lvP m (atL a b n k)=v at *
  have w3 : IntKind.wrap .i64 (up + x)=up + x:=ae rfl (by omega)
  have w4 : IntKind.wrap .i64 (up - y)=up - y:=ae rfl (by omega)
  have w5 : IntKind.wrap .i64 (v.1 - (up - y))=v.1 - (up - y):=ae rfl (by omega)
  have w6 : IntKind.wrap .i64 (v.2 - (up + x))=v.2 - (up + x):=ae rfl (by omega)
  simp [h3,ws,hp,w1,w2]
  refine aa f1 (.inl rfl) ?_
  simp [w2,w3]
  refine aa f2 (.inl rfl) ?_
  have hge : (cvR m a b n up dn k)[k]'(by omega)=[.int .i64 v.1,.int .i64 v.2]:=(List.getElem?_eq_some_iff.1 hg).2
  simp at hset
  simp [w3,w4,bB hg,w5,w6,hkn,hw,hlen,hge]
  exact ⟨ah (by decide +kernel),k + 1,by omega,by omega,by omega,hset⟩
 ·have ek : k=n + 1:=by omega
  subst ek
  have kl:=wZ hC false (cvL m a b n up dn) (by simp [cvL]) (by simp [cvL];omega)
  have hlen : (cvL m a b n up dn).length=n + 1:=by simp [cvL]
  rw [wi]
  simp at kl
  generalize cvL m a b n up dn=L at *
  simp [h3]
  refine ⟨by omega,?_⟩
  have hV : List.take (n + 1) (List.map ((fun e=>List.map aR e) ∘ spD) L)=List.map spD L:=by
   rw [List.take_of_length_le (by simp;omega)]
   exact List.map_congr_left fun x _=>by simp [spD]
  rw [hV]
  refine aa kl (.inl rfl) ?_
  simp [spD]
def we (m : Msh) (a b : Pnt) (n up dn : Int) : Int:=if jg (cI m a b) n [up,dn]=0 then lvE m a b n.toNat else jg (cI m a b) n [up,dn]
def wg (m : Msh) (a b : Pnt) (n up dn : Int) : Int × Int:=if jg (cI m a b) n [up,dn]=0 then cvS m a b n.toNat up dn else (0,0)
theorem vr (dec : Nat -> List UInt8) (hI : ∀ n : Nat,n < 100 -> C 127 [.int .i64 n] (.str (dec n)) []) (m : Msh) (hz : bW m=true -> m.s.length <= 100 /\ m.f.length <= 100) (a b : Pnt) (n up dn : Int) : C 691 [.agg (aY m),.agg (ptD a),.agg (ptD b),.int .i64 n,.int .i64 up,.int .i64 dn] (.tup [.agg (spD (wg m a b n up dn)),.int .i64 (we m a b n up dn)]) []:=by
 have k1:=tz hC dec hI m hz a b n false [up,dn] (by simp)
 unfold wg we
 by_cases h : jg (cI m a b) n [up,dn]=0
 ·obtain ⟨g0,g1,g2,g3⟩:=tv (a:=a) (b:=b) h
  obtain ⟨hv,hl⟩:=oS g0
  obtain ⟨ha,hb,_⟩:=lR hl
  simp only [List.all_cons,List.all_nil,Bool.and_true,Bool.and_eq_true] at g3
  obtain ⟨N,rfl⟩ : ∃ N : Nat,n=N:=⟨n.toNat,by omega⟩
  have k2:=wh hC dec hI m hz hv a b ha hb N (by omega) (by omega) up dn g3.1 g3.2
  rw [if_pos h,if_pos h,Int.toNat_natCast]
  rw [h] at k1
  simp only [ab,ptD] at k1 k2
  simp at k1
  refine start hC (nf:=N691) rfl rfl ?_
  simp [N691,ab,ptD]
  refine aa k1 (.inl rfl) ?_
  simp
  refine aa k2 (.inl rfl) ?_
  simp [spD]
 ·rw [if_neg h,if_neg h]
  simp only [ab,ptD] at k1
  simp at k1
  refine start hC (nf:=N691) rfl rfl ?_
  simp [N691,ab,ptD]
  refine aa k1 (.inl rfl) ?_
  simp [h,spD]
end Go.Gv

set_option maxRecDepth 4000
namespace Go.Gv
def exT : Msh:=⟨false,[⟨0,0,90⟩,⟨30,0,90⟩,⟨30,30,90⟩,⟨0,30,90⟩],false,[⟨0,1,2,0⟩,⟨0,2,3,0⟩]⟩
theorem F3 : aF exT=true:=by decide +kernel
theorem tY : cI exT (20,0) (0,20)=0:=by rw [cI,F3];decide
theorem F0 : mz exT (20,0) (0,20) 2=[0,1]:=by decide +kernel
theorem yJ : cdL exT (20,0) (0,20) 2=[(600,-600),(-600,600)]:=by decide +kernel
theorem t6 : (cdL exT (20,0) (0,20) exT.f.length).all dx=true:=by
 rw [show exT.f.length=2 from rfl,yJ];decide +kernel
theorem F2 : fqs (cdL exT (20,0) (0,20) exT.f.length)=[f7 (1,2),f7 (1,2)]:=by
 rw [show exT.f.length=2 from rfl,yJ]
 unfold fqs
 simp only [List.map_cons,List.map_nil]
 rw [show cy 600 (600 - -600)=(1,2) by decide +kernel,show cy (-600) (-600 - 600)=(1,2) by decide +kernel]
theorem wM : iY exT (20,0) (0,20)=[f7 (1,2)]:=by
 unfold iY
 rw [F2]
 exact qQ cV (List.pairwise_singleton _ _) (by simp)
theorem tX : fqR [f7 (1,2)]=[[.int .i64 1,.int .i64 2]]:=by
 have : (f7 (1,2)).1=(1,2):=im (by unfold ug;decide)
 simp [fqR,fqD,this]
theorem F1 : jK (20,0) (0,20) 2=[(20,0),(10,10),(0,20)]:=by decide +kernel
theorem yK : jg (dR (20,0) (0,20)) 2 []=0:=by decide +kernel
theorem yL : jg (cI exT (20,0) (0,20)) 2 [10,20]=0:=by rw [tY];decide +kernel
theorem tZ : i5 exT (20,0) (0,20) 2 3=true:=by decide +kernel
theorem As : lsF (cvL exT (20,0) (0,20) 2 10 20)=(70,70):=by decide +kernel
end Go.Gv

set_option maxRecDepth 4000
namespace Go.Gv
variable {C : CC} (hC : aA prog C)
include hC
theorem tV (b b' : Bool) (xs ys : List Int) (hx : xs.length < 2 ^ 62) (hy : ys.length < 2 ^ 62) : C 19 [slx b (xs.map fun n=>[.int .i64 n]),slx b' (ys.map fun n=>[.int .i64 n])] (.bool (decide (xs=ys))) []:=by
 refine start hC (nf:=N19) rfl rfl ?_
 simp [N19]
 refine al (fun h=>?_) (fun h=>?_) <;> simp at h <;> simp [h]
 ·rintro rfl;exact h rfl
 have h' : xs.length=ys.length:=by omega
 refine au Nat (fun i=>[(0,slx b (xs.map fun n=>[.int .i64 n])),(1,slx b' (ys.map fun n=>[.int .i64 n])),(12,.int .i64 ys.length),(13,.int .i64 i)])
  (fun i=>i <= ys.length /\ ∀ k,k < i -> xs[k]? = ys[k]?) (fun i=>ys.length - i) 0 (by simp) (by simp) ?_
 rintro i ⟨hi,hok⟩
 simp
 refine al (fun h1=>?_) (fun h1=>?_) <;> simp at h1 <;> simp [h1]
 ·have hw : IntKind.wrap .i64 ((i : Int) + 1)=((i + 1 : Nat) : Int):=ae (by omega) (by omega)
  have hx1 : i < xs.length:=by omega
  simp [h1,hx1]
  refine ⟨ah (by decide +kernel),?_⟩
  refine al (fun h2=>?_) (fun h2=>?_) <;> simp [h1,hx1] at h2 <;> simp [h1,hx1,h2,hw]
  ·rintro rfl
   exact h2 rfl
  ·refine ⟨i + 1,⟨by omega,fun k hk=>?_⟩,by omega,rfl⟩
   rcases Nat.lt_succ_iff_lt_or_eq.1 hk with h5 | rfl
   ·exact hok k h5
   ·rw [List.getElem?_eq_getElem h1,List.getElem?_eq_getElem hx1,h2]
 ·refine List.ext_getElem? fun k=>?_
  rcases Nat.lt_or_ge k i with h2 | h2
  ·exact hok k h2
  ·rw [List.getElem?_eq_none (by omega),List.getElem?_eq_none (by omega)]
theorem pW : C 702 [] (.agg (aY exT)) []:=by
 refine start hC (nf:=N702) rfl rfl ?_
 simp [N702,ab,exT,bq,aP]
set_option maxHeartbeats 2000000 in
theorem tn (hS : vR C) (dec : Nat -> List UInt8) (hI : ∀ n : Nat,n < 100 -> C 127 [.int .i64 n] (.str (dec n)) []) : C 677 [] (.bool true) []:=by
 have hz : bW exT=true -> exT.s.length <= 100 /\ exT.f.length <= 100:=fun _=>by simp [exT]
 have ke:=pW hC
 have k1:=pA hC dec hI exT hz (20,0) (0,20) tY
 have k2:=rD hC hS dec hI exT hz (20,0) (0,20) tY
 have k3:=sS hC (20,0) (0,20) 2
 have k4:=vr hC dec hI exT hz (20,0) (0,20) 2 10 20
 have q1:=tV hC false false [0,1] [0,1] (by simp) (by simp)
 have q2:=nC hC false false [f7 (1,2)] (by simp)
 have q3:=wL hC false false [(20,0),(10,10),(0,20)] (by simp)
 have e1 : gP exT (20,0) (0,20) exT.f.length=[[.int .i64 0],[.int .i64 1]]:=by
  unfold gP
  rw [show exT.f.length=2 from rfl,F0];rfl
 have e2 : gJ exT (20,0) (0,20)=.sl [[.int .i64 1,.int .i64 2]]:=by unfold gJ;rw [if_pos t6,wM,tX]
 have e3 : dU exT (20,0) (0,20)=0:=by unfold dU;rw [if_pos t6]
 have e4 : xo (20,0) (0,20) 2=.sl [[.int .i64 20,.int .i64 0],[.int .i64 10,.int .i64 10],[.int .i64 0,.int .i64 20]]:=by
  unfold xo
  rw [if_pos yK,show (2 : Int).toNat=2 from rfl,F1];rfl
 have e5 : we exT (20,0) (0,20) 2 10 20=0:=by
  unfold we lvE
  rw [if_pos yL,show (2 : Int).toNat + 1=3 from rfl,show (2 : Int).toNat=2 from rfl,if_pos tZ]
 have e6 : wg exT (20,0) (0,20) 2 10 20=(70,70):=by
  unfold wg cvS
  rw [if_pos yL,show (2 : Int).toNat + 1=3 from rfl,show (2 : Int).toNat=2 from rfl,if_pos tZ,As]
 rw [e1] at k1
 rw [e2,e3] at k2
 rw [e4,yK] at k3
 rw [e5,e6] at k4
 rw [tX] at q2
 simp [exT,ab,bq,aP,ptD,spD] at ke k1 k2 k3 k4 q1 q2 q3
 refine start hC (nf:=N677) rfl rfl ?_
 simp [N677]
 refine aa ke (.inr rfl) ?_
 simp
 refine aa k1 (.inr rfl) ?_
 simp
 refine ⟨ah (by decide +kernel),?_⟩
 refine aa ke (.inr rfl) ?_
 simp
 refine aa k2 (.inr rfl) ?_
 simp
 refine ⟨ah (by decide +kernel),?_⟩
 refine aa k3 (.inr rfl) ?_
 simp
 refine aa ke (.inr rfl) ?_
 simp
 refine aa k4 (.inl rfl) ?_
 simp
 refine ⟨ah (by decide +kernel),?_⟩
 refine aa q1 (.inl rfl) ?_
 simp
 refine aa q2 (.inl rfl) ?_
 simp
 refine aa q3 (.inl rfl) ?_
 simp
end Go.Gv

set_option maxRecDepth 4000
namespace Go.Gv
def fa (n : Int) : Int:=if n < 0 then -1 else if 0 < n then 1 else 0
theorem va (x y : Int) : decide (fa x * fa y < 0)=((decide (x < 0) && decide (0 < y)) || (decide (0 < x) && decide (y < 0))):=by
 unfold fa
 by_cases h1 : x < 0
 ·by_cases h2 : y < 0
  ·simp [h1,h2,show ¬ 0 < y by omega,show ¬ 0 < x by omega]
  ·by_cases h3 : 0 < y
   ·simp [h1,h2,h3]
   ·simp [h1,h2,h3]
 ·by_cases h4 : 0 < x
  ·by_cases h2 : y < 0
   ·simp [h1,h2,h4]
   ·by_cases h3 : 0 < y
    ·simp [h1,h2,h3,h4]
    ·simp [h1,h2,h3,h4]
  ·simp [h1,h4]
theorem nW (x : Int) : -1 <= fa x /\ fa x <= 1:=by
 unfold fa
 split
 ·omega
 ·split <;> omega
variable {C : CC} (hC : aA prog C)
include hC
theorem xx (n : Int) : C 735 [.int .i64 n] (.int .i64 (fa n)) []:=by
 refine start hC (nf:=N735) rfl rfl ?_
 unfold fa
 simp [N735]
 by_cases h1 : n < 0
 ·simp [h1]
 ·by_cases h2 : 0 < n
  ·simp [h1,h2]
  ·simp [h1,h2]
theorem rj (n a b : Int) : C 749 [.int .i64 n,.int .i64 a,.int .i64 b] (.bool (decide (min a b <= n) && decide (n <= max a b))) []:=by
 refine start hC (nf:=N749) rfl rfl ?_
 simp [N749]
 by_cases h1 : a <= n
 ·by_cases h2 : n <= b
  ·have e : (decide (min a b <= n) && decide (n <= max a b))=true:=by simp;omega
   rw [e]
   simp [h1,h2]
  ·by_cases h3 : b <= n
   ·by_cases h4 : n <= a
    ·have e : (decide (min a b <= n) && decide (n <= max a b))=true:=by simp;omega
     rw [e]
     simp [h1,h2,h3,h4]
    ·have e : (decide (min a b <= n) && decide (n <= max a b))=false:=by rw [Bool.eq_false_iff];simp;omega
     rw [e]
     simp [h1,h2,h3,h4]
   ·omega
 ·by_cases h3 : b <= n
  ·by_cases h4 : n <= a
   ·have e : (decide (min a b <= n) && decide (n <= max a b))=true:=by simp;omega
    rw [e]
    simp [h1,h3,h4]
   ·omega
  ·have e : (decide (min a b <= n) && decide (n <= max a b))=false:=by rw [Bool.eq_false_iff];simp;omega
   rw [e]
   simp [h1,h3]
theorem nP {a b p : Pnt} (ha : okP a=true) (hb : okP b=true) (hp : okP p=true) : C 736 [.agg (ptD p),.agg (ptD a),.agg (ptD b)] (.bool (onG a b p)) []:=by
 have k0:=d6 hC ha hb hp
 have k1:=rj hC p.1 a.1 b.1
 have k2:=rj hC p.2 a.2 b.2
 have e : onG a b p=(decide (ao a b p=0) && (decide (min a.1 b.1 <= p.1) && decide (p.1 <= max a.1 b.1)) && (decide (min a.2 b.2 <= p.2) && decide (p.2 <= max a.2 b.2))):=by
  unfold onG
  simp only [Bool.and_assoc]
 rw [e]
 generalize (decide (min a.1 b.1 <= p.1) && decide (p.1 <= max a.1 b.1))=x at *
 generalize (decide (min a.2 b.2 <= p.2) && decide (p.2 <= max a.2 b.2))=y at *
 simp only [ptD] at k0
 refine start hC (nf:=N736) rfl rfl ?_
 simp [N736,ptD]
 refine aa k0 (.inl rfl) ?_
 by_cases h0 : ao a b p=0
 ·simp [h0]
  refine aa k1 (.inl rfl) ?_
  cases x
  ·simp
  ·simp
   refine aa k2 (.inl rfl) ?_
   simp [h0]
 ·simp [h0]
theorem xt (x y : Frq) : C 737 [.agg (fqD x),.agg (fqD y)] (.int .i64 (fqC x y)) []:=by
 obtain ⟨h1,h2,h3,h4,h5⟩:=x.2
 obtain ⟨g1,g2,g3,g4,g5⟩:=y.2
 have m1 : -1152921504606846976 <= x.1.1 * y.1.2 /\ x.1.1 * y.1.2 <= 1152921504606846976:=by
  have a1:=Int.mul_le_mul_of_nonneg_right h4 (show 0 <= y.1.2 by omega)
  have a2:=Int.mul_le_mul_of_nonneg_right h3 (show 0 <= y.1.2 by omega)
  omega
 have m2 : -1152921504606846976 <= y.1.1 * x.1.2 /\ y.1.1 * x.1.2 <= 1152921504606846976:=by
  have a1:=Int.mul_le_mul_of_nonneg_right g4 (show 0 <= x.1.2 by omega)
  have a2:=Int.mul_le_mul_of_nonneg_right g3 (show 0 <= x.1.2 by omega)
  omega
 unfold fqC
 generalize hu : x.1.1 * y.1.2=u at *
 generalize hv : y.1.1 * x.1.2=v at *
 have w1 : IntKind.wrap .i64 u=u:=ae rfl (by omega)
 have w2 : IntKind.wrap .i64 v=v:=ae rfl (by omega)
 refine start hC (nf:=N737) rfl rfl ?_
 simp [N737,fqD,hu,hv,w1,w2]
 by_cases c1 : u < v
 ·simp [c1]
 ·by_cases c2 : v < u
  ·simp [c1,c2]
  ·simp [c1,c2]
set_option maxHeartbeats 1000000 in
theorem f9 {a b c d : Pnt} (ha : okP a=true) (hb : okP b=true) (hc : okP c=true) (hd : okP d=true) : C 716 [.agg (ptD a),.agg (ptD b),.agg (ptD c),.agg (ptD d)] (.int .i64 (gr a b c d)) []:=by
 have t1:=d6 hC ha hb hc
 have t2:=d6 hC ha hb hd
 have t3:=d6 hC hc hd ha
 have t4:=d6 hC hc hd hb
 have o1:=nP hC hc hd ha
 have o2:=nP hC hc hd hb
 have o3:=nP hC ha hb hc
 have o4:=nP hC ha hb hd
 have s:=fun n=>xx hC n
 have p1 : decide (fa (ao a b c) * fa (ao a b d) < 0)=apG a b c d:=by rw [va];rfl
 have p2 : decide (fa (ao c d a) * fa (ao c d b) < 0)=apG c d a b:=by rw [va];rfl
 have b1:=nW (ao a b c)
 have b2:=nW (ao a b d)
 have b3:=nW (ao c d a)
 have b4:=nW (ao c d b)
 have m1:=fo (a:=fa (ao a b c)) (b:=fa (ao a b d)) (k:=1) (l:=1) (by omega) (by omega) (by omega) (by omega)
 have m2:=fo (a:=fa (ao c d a)) (b:=fa (ao c d b)) (k:=1) (l:=1) (by omega) (by omega) (by omega) (by omega)
 have w1 : IntKind.wrap .i64 (fa (ao a b c) * fa (ao a b d))=fa (ao a b c) * fa (ao a b d):=ae rfl (by omega)
 have w2 : IntKind.wrap .i64 (fa (ao c d a) * fa (ao c d b))=fa (ao c d a) * fa (ao c d b):=ae rfl (by omega)
 simp only [ptD] at t1 t2 t3 t4 o1 o2 o3 o4
 unfold gr
 refine start hC (nf:=N716) rfl rfl ?_
 simp [N716,ptD]
 refine aa t1 (.inl rfl) ?_
 simp
 refine aa (s _) (.inl rfl) ?_
 simp
 refine aa t2 (.inl rfl) ?_
 simp
 refine aa (s _) (.inl rfl) ?_
 simp
 refine ⟨ah (by decide +kernel),?_⟩
 refine aa t3 (.inl rfl) ?_
 simp
 refine aa (s _) (.inl rfl) ?_
 simp
 refine aa t4 (.inl rfl) ?_
 simp
 refine aa (s _) (.inl rfl) ?_
 simp [w1,w2,p1,p2]
 refine ⟨ah (by decide +kernel),?_⟩
 clear p1
 generalize apG a b c d=x1 at *
 generalize apG c d a b=x2 at *
 generalize onG a b c=y1 at *
 generalize onG a b d=y2 at *
 generalize onG c d a=y3 at *
 generalize onG c d b=y4 at *
 cases x1
 ·simp
  refine aa o1 (.inl rfl) ?_
  cases y3
  ·simp
   refine aa o2 (.inl rfl) ?_
   cases y4
   ·simp
    refine aa o3 (.inl rfl) ?_
    cases y1
    ·simp
     refine aa o4 (.inl rfl) ?_
     cases y2 <;> simp
    ·simp
   ·simp
  ·simp
 ·cases x2
  ·simp [w2,p2]
   refine aa o1 (.inl rfl) ?_
   cases y3
   ·simp
    refine aa o2 (.inl rfl) ?_
    cases y4
    ·simp
     refine aa o3 (.inl rfl) ?_
     cases y1
     ·simp
      refine aa o4 (.inl rfl) ?_
      cases y2 <;> simp
     ·simp
    ·simp
   ·simp
  ·simp [w2,p2]
end Go.Gv

set_option maxRecDepth 4000
namespace Go.Gv
theorem vx (a c d : Pnt) : (c.1 - a.1) * (d.2 - c.2) - (c.2 - a.2) * (d.1 - c.1)=ao c d a:=by unfold ao;grind
theorem vw (a b c d : Pnt) : (b.1 - a.1) * (d.2 - c.2) - (b.2 - a.2) * (d.1 - c.1)=ao c d a - ao c d b:=by unfold ao;grind
variable {C : CC} (hC : aA prog C)
include hC
set_option maxHeartbeats 2000000 in
theorem qt {a b c d : Pnt} (ha : okP a=true) (hb : okP b=true) (hc : okP c=true) (hd : okP d=true) : C 717 [.agg (ptD a),.agg (ptD b),.agg (ptD c),.agg (ptD d)] (.tup [.agg [.int .i64 (cy (ao c d a) (ao c d a - ao c d b)).1,.int .i64 (cy (ao c d a) (ao c d a - ao c d b)).2],.int .i64 (cA (ao c d a) (ao c d a - ao c d b))]) []:=by
 have oa:=cm ha
 have ob:=cm hb
 have oc:=cm hc
 have od:=cm hd
 have b1:=ev hc hd ha
 have b2:=ev hc hd hb
 have f1:=vx a c d
 have f2:=vw a b c d
 have m1:=fo (a:=c.1 - a.1) (b:=d.2 - c.2) (k:=33554432) (l:=33554432) (by omega) (by omega) (by omega) (by omega)
 have m2:=fo (a:=c.2 - a.2) (b:=d.1 - c.1) (k:=33554432) (l:=33554432) (by omega) (by omega) (by omega) (by omega)
 have m3:=fo (a:=b.1 - a.1) (b:=d.2 - c.2) (k:=33554432) (l:=33554432) (by omega) (by omega) (by omega) (by omega)
 have m4:=fo (a:=b.2 - a.2) (b:=d.1 - c.1) (k:=33554432) (l:=33554432) (by omega) (by omega) (by omega) (by omega)
 have v1 : IntKind.wrap .i64 (c.1 - a.1)=c.1 - a.1:=ae rfl (by omega)
 have v2 : IntKind.wrap .i64 (d.2 - c.2)=d.2 - c.2:=ae rfl (by omega)
 have v3 : IntKind.wrap .i64 (c.2 - a.2)=c.2 - a.2:=ae rfl (by omega)
 have v4 : IntKind.wrap .i64 (d.1 - c.1)=d.1 - c.1:=ae rfl (by omega)
 have v5 : IntKind.wrap .i64 (b.1 - a.1)=b.1 - a.1:=ae rfl (by omega)
 have v6 : IntKind.wrap .i64 (b.2 - a.2)=b.2 - a.2:=ae rfl (by omega)
 have u1 : IntKind.wrap .i64 ((c.1 - a.1) * (d.2 - c.2))=(c.1 - a.1) * (d.2 - c.2):=ae rfl (by omega)
 have u2 : IntKind.wrap .i64 ((c.2 - a.2) * (d.1 - c.1))=(c.2 - a.2) * (d.1 - c.1):=ae rfl (by omega)
 have u3 : IntKind.wrap .i64 ((b.1 - a.1) * (d.2 - c.2))=(b.1 - a.1) * (d.2 - c.2):=ae rfl (by omega)
 have u4 : IntKind.wrap .i64 ((b.2 - a.2) * (d.1 - c.1))=(b.2 - a.2) * (d.1 - c.1):=ae rfl (by omega)
 obtain ⟨x,hx⟩ : ∃ x,x=ao c d a:=⟨_,rfl⟩
 obtain ⟨y,hy⟩ : ∃ y,y=ao c d b:=⟨_,rfl⟩
 rw [<- hx] at b1 f1 f2 ⊢
 rw [<- hy] at b2 f2 ⊢
 clear hx hy
 have w : IntKind.wrap .i64 (x - y)=x - y:=ae rfl (by omega)
 have w0 : IntKind.wrap .i64 x=x:=ae rfl (by omega)
 have w1 : IntKind.wrap .i64 (-x)=-x:=ae rfl (by omega)
 have w2 : IntKind.wrap .i64 (-(x - y))=-(x - y):=ae rfl (by omega)
 refine start hC (nf:=N717) rfl rfl ?_
 simp [N717,ptD,v1,v2,v3,v4,v5,v6,u1,u2,u3,u4,f1,f2,w,w0]
 obtain ⟨z,hz⟩ : ∃ z,z=x - y:=⟨_,rfl⟩
 rw [<- hz] at w2 ⊢
 by_cases h0 : z=0
 ·have e : cA x z=16:=by unfold cA;rw [if_pos h0]
  rw [e,fM (by rw [e];decide)]
  simp [h0]
 by_cases h1 : z < 0
 ·by_cases h2 : -x < 0
  ·have e:=gX (x:=x) h0 (by rw [if_pos h1];exact .inl h2)
   rw [e,fM (by rw [e];decide)]
   simp [h0,h1,w1,w2,show 0 < x by omega]
  ·by_cases h3 : -z < -x
   ·have e:=gX (x:=x) h0 (by rw [if_pos h1];exact .inr h3)
    rw [e,fM (by rw [e];decide)]
    simp [h0,h1,w1,w2,show ¬ 0 < x by omega,show x < z by omega]
   ·obtain ⟨e1,e2⟩:=ow h0 h1 h2 h3
    rw [e1,e2]
    simp [h0,h1,w1,w2,show ¬ 0 < x by omega,show ¬ x < z by omega]
    obtain ⟨N,hN⟩ : ∃ N : Nat,-x=(N : Int):=⟨(-x).toNat,by omega⟩
    obtain ⟨D,hD⟩ : ∃ D : Nat,-z=(D : Int):=⟨(-z).toNat,by omega⟩
    rw [hN,hD]
    have hN2 : N <= 4503599627370496:=by omega
    have hD2 : D <= 4503599627370496:=by omega
    have hD0 : 0 < D:=by omega
    have g0 : 0 < Nat.gcd N D:=Nat.gcd_pos_of_pos_right _ hD0
    have hE : mkE (N : Int) D=if 1073741824 < ((N / Nat.gcd N D : Nat) : Int) \/ 1073741824 < ((D / Nat.gcd N D : Nat) : Int) then 5 else 0:=rfl
    have hQ : mkQ (N : Int) D=if mkE (N : Int) D=0 then (((N / Nat.gcd N D : Nat) : Int),((D / Nat.gcd N D : Nat) : Int)) else (0,0):=rfl
    have q1 : (N : Int).tdiv ((Nat.gcd N D : Nat) : Int)=((N / Nat.gcd N D : Nat) : Int):=by rw [Int.tdiv_eq_ediv_of_nonneg (by omega)];rfl
    have q2 : (D : Int).tdiv ((Nat.gcd N D : Nat) : Int)=((D / Nat.gcd N D : Nat) : Int):=by rw [Int.tdiv_eq_ediv_of_nonneg (by omega)];rfl
    have q3 : (N : Int) / ((Nat.gcd N D : Nat) : Int)=((N / Nat.gcd N D : Nat) : Int):=rfl
    have q4 : (D : Int) / ((Nat.gcd N D : Nat) : Int)=((D / Nat.gcd N D : Nat) : Int):=rfl
    have l1:=Nat.div_le_self N (Nat.gcd N D)
    have l2:=Nat.div_le_self D (Nat.gcd N D)
    generalize N / Nat.gcd N D=P at *
    generalize D / Nat.gcd N D=Q at *
    have y1 : IntKind.wrap .i64 (P : Int)=(P : Int):=ae rfl (by omega)
    have y2 : IntKind.wrap .i64 (Q : Int)=(Q : Int):=ae rfl (by omega)
    rw [hQ,hE]
    refine au (Nat × Nat) (fun s=>[(8,.adr (.r 10128) 0 0),(10,.int .i64 N),(11,.int .i64 D),(12,.int .i64 s.1),(13,.int .i64 s.2),(10128,.blk 2 [[.int .i64 0,.int .i64 0]])]) (fun s=>Nat.gcd s.1 s.2=Nat.gcd N D /\ s.1 <= 4503599627370496 /\ s.2 <= 4503599627370496) (fun s=>s.2) (N,D) ⟨rfl,hN2,hD2⟩ (by simp) ?_
    rintro ⟨u,v⟩ ⟨hg,hu,hv⟩
    simp only at hg hu hv
    simp
    by_cases hv0 : v=0
    ·subst hv0
     rw [Nat.gcd_zero_right] at hg
     subst hg
     have hDn : ¬ D=0:=by omega
     by_cases p1 : 1073741824 < (P : Int)
     ·simp [q3,q4,y1,y2,hDn,p1]
     ·by_cases p2 : 1073741824 < (Q : Int)
      ·simp [q3,q4,y1,y2,hDn,p1,p2]
      ·simp [q3,q4,y1,y2,hDn,p1,p2]
       exact ah (by decide +kernel)
    ·have hlt:=Nat.mod_lt u (show 0 < v by omega)
     have tm : (u : Int).tmod (v : Int)=((u % v : Nat) : Int):=by rw [Int.tmod_eq_emod_of_nonneg (by omega)];rfl
     have hgr : Nat.gcd v (u % v)=Nat.gcd N D:=by rw [<- hg,Nat.gcd_comm u v,Nat.gcd_rec v u,Nat.gcd_comm]
     simp [hv0,show 0 < v by omega,tm]
     exact ⟨ah (by decide +kernel),v,u % v,⟨hgr,hv,by omega⟩,hlt,rfl,rfl⟩
 ·by_cases h2 : x < 0
  ·have e:=gX (x:=x) h0 (by rw [if_neg h1];exact .inl h2)
   rw [e,fM (by rw [e];decide)]
   simp [h0,h1,h2]
  ·by_cases h3 : z < x
   ·have e:=gX (x:=x) h0 (by rw [if_neg h1];exact .inr h3)
    rw [e,fM (by rw [e];decide)]
    simp [h0,h1,h2,h3]
   ·obtain ⟨e1,e2⟩:=ox h0 h1 h2 h3
    rw [e1,e2]
    simp [h0,h1,h2,h3]
    obtain ⟨N,hN⟩ : ∃ N : Nat,x=(N : Int):=⟨x.toNat,by omega⟩
    obtain ⟨D,hD⟩ : ∃ D : Nat,z=(D : Int):=⟨z.toNat,by omega⟩
    rw [hN,hD]
    have hN2 : N <= 4503599627370496:=by omega
    have hD2 : D <= 4503599627370496:=by omega
    have hD0 : 0 < D:=by omega
    have g0 : 0 < Nat.gcd N D:=Nat.gcd_pos_of_pos_right _ hD0
    have hE : mkE (N : Int) D=if 1073741824 < ((N / Nat.gcd N D : Nat) : Int) \/ 1073741824 < ((D / Nat.gcd N D : Nat) : Int) then 5 else 0:=rfl
    have hQ : mkQ (N : Int) D=if mkE (N : Int) D=0 then (((N / Nat.gcd N D : Nat) : Int),((D / Nat.gcd N D : Nat) : Int)) else (0,0):=rfl
    have q1 : (N : Int).tdiv ((Nat.gcd N D : Nat) : Int)=((N / Nat.gcd N D : Nat) : Int):=by rw [Int.tdiv_eq_ediv_of_nonneg (by omega)];rfl
    have q2 : (D : Int).tdiv ((Nat.gcd N D : Nat) : Int)=((D / Nat.gcd N D : Nat) : Int):=by rw [Int.tdiv_eq_ediv_of_nonneg (by omega)];rfl
    have q3 : (N : Int) / ((Nat.gcd N D : Nat) : Int)=((N / Nat.gcd N D : Nat) : Int):=rfl
    have q4 : (D : Int) / ((Nat.gcd N D : Nat) : Int)=((D / Nat.gcd N D : Nat) : Int):=rfl
    have l1:=Nat.div_le_self N (Nat.gcd N D)
    have l2:=Nat.div_le_self D (Nat.gcd N D)
    generalize N / Nat.gcd N D=P at *
    generalize D / Nat.gcd N D=Q at *
    have y1 : IntKind.wrap .i64 (P : Int)=(P : Int):=ae rfl (by omega)
    have y2 : IntKind.wrap .i64 (Q : Int)=(Q : Int):=ae rfl (by omega)
    rw [hQ,hE]
    refine au (Nat × Nat) (fun s=>[(8,.adr (.r 10128) 0 0),(10,.int .i64 N),(11,.int .i64 D),(12,.int .i64 s.1),(13,.int .i64 s.2),(10128,.blk 2 [[.int .i64 0,.int .i64 0]])]) (fun s=>Nat.gcd s.1 s.2=Nat.gcd N D /\ s.1 <= 4503599627370496 /\ s.2 <= 4503599627370496) (fun s=>s.2) (N,D) ⟨rfl,hN2,hD2⟩ (by simp) ?_
    rintro ⟨u,v⟩ ⟨hg,hu,hv⟩
    simp only at hg hu hv
    simp
    by_cases hv0 : v=0
    ·subst hv0
     rw [Nat.gcd_zero_right] at hg
     subst hg
     have hDn : ¬ D=0:=by omega
     by_cases p1 : 1073741824 < (P : Int)
     ·simp [q3,q4,y1,y2,hDn,p1]
     ·by_cases p2 : 1073741824 < (Q : Int)
      ·simp [q3,q4,y1,y2,hDn,p1,p2]
      ·simp [q3,q4,y1,y2,hDn,p1,p2]
       exact ah (by decide +kernel)
    ·have hlt:=Nat.mod_lt u (show 0 < v by omega)
     have tm : (u : Int).tmod (v : Int)=((u % v : Nat) : Int):=by rw [Int.tmod_eq_emod_of_nonneg (by omega)];rfl
     have hgr : Nat.gcd v (u % v)=Nat.gcd N D:=by rw [<- hg,Nat.gcd_comm u v,Nat.gcd_rec v u,Nat.gcd_comm]
     simp [hv0,show 0 < v by omega,tm]
     exact ⟨ah (by decide +kernel),v,u % v,⟨hgr,hv,by omega⟩,hlt,rfl,rfl⟩
end Go.Gv

set_option maxRecDepth 4000
namespace Go.Gv
variable {C : CC} (hC : aA prog C)
include hC
set_option maxHeartbeats 2000000 in
theorem sB (m : Msh) (hv : aF m=true) (i : Nat) (hi : i < m.f.length) {a b : Pnt} (ha : okP a=true) (hb : okP b=true) : C 719 [.agg (aY m),.int .i64 i,.agg (ptD a),.agg (ptD b)] (.bool (eq m i a b)) []:=by
 have o1:=zy hC m hv i hi a ha
 have o2:=zy hC m hv i hi b hb
 have kt:=qq hC m hv i hi
 have k0:=f9 hC ha hb (bf hv hi 0) (bf hv hi 1)
 have k1:=f9 hC ha hb (bf hv hi 1) (bf hv hi 2)
 have k2:=f9 hC ha hb (bf hv hi 2) (bf hv hi 0)
 have e0 : gr a b (cnr m i 0) (cnr m i 1)=cw m i 0 a b:=rfl
 have e1 : gr a b (cnr m i 1) (cnr m i 2)=cw m i 1 a b:=rfl
 have e2 : gr a b (cnr m i 2) (cnr m i 0)=cw m i 2 a b:=rfl
 rw [e0] at k0
 rw [e1] at k1
 rw [e2] at k2
 have c0 : cnr m i 0=ptS (spA m i):=rfl
 have c1 : cnr m i 1=ptS (spB m i):=rfl
 have c2 : cnr m i 2=ptS (spC m i):=rfl
 rw [c0,c1] at k0
 rw [c1,c2] at k1
 rw [c2,c0] at k2
 have et : tr3 m i=[ptD (ptS (spA m i)),ptD (ptS (spB m i)),ptD (ptS (spC m i))]:=rfl
 rw [et] at kt
 obtain ⟨r,hr⟩ : ∃ r,r=eq m i a b:=⟨_,rfl⟩
 rw [<- hr]
 unfold eq at hr
 have hr' : r=(decide (osF m i a < 0) || decide (osF m i b < 0) || (decide (0 < cw m i 0 a b) || decide (0 < cw m i 1 a b) || decide (0 < cw m i 2 a b))):=by
  rw [hr];simp [List.range,List.range.loop,Bool.or_assoc]
 clear hr e0 e1 e2 c0 c1 c2 et
 generalize osF m i a=x at *
 generalize osF m i b=y at *
 generalize cw m i 0 a b=z0 at *
 generalize cw m i 1 a b=z1 at *
 generalize cw m i 2 a b=z2 at *
 simp only [ptD,ptS,ab,aP] at o1 o2 kt k0 k1 k2
 have w1 : IntKind.wrap .i64 (1 : Int)=1:=by decide
 have w2 : IntKind.wrap .i64 (2 : Int)=2:=by decide
 have w3 : IntKind.wrap .i64 (3 : Int)=3:=by decide
 refine start hC (nf:=N719) rfl rfl ?_
 simp [N719,ptD,ab]
 refine aa o1 (.inl rfl) ?_
 by_cases h1 : x < 0
 ·simp [hr',h1]
 simp [h1]
 refine aa o2 (.inl rfl) ?_
 by_cases h2 : y < 0
 ·simp [hr',h1,h2]
 simp [h2,hi,aP]
 refine aa kt (.inr rfl) ?_
 simp
 refine ⟨ah (by decide +kernel),?_⟩
 refine au Nat (fun k=>[(6,.ptr (ptD a)),(7,.ptr (ptD b)),(9,.sl [ptD (ptS (spA m i)),ptD (ptS (spB m i)),ptD (ptS (spC m i))]),(10,.int .i64 k)]) (fun k=>k <= 3 /\ (0 < k -> ¬ 0 < z0) /\ (1 < k -> ¬ 0 < z1) /\ (2 < k -> ¬ 0 < z2)) (fun k=>3 - k) 0 (by simp) (by simp [ptD,ptS]) ?_
 rintro k ⟨hk,j0,j1,j2⟩
 rcases (by omega : k=0 \/ k=1 \/ k=2 \/ k=3) with rfl | rfl | rfl | rfl
 ·simp [ptD,ptS,w1]
  refine aa k0 (.inl rfl) ?_
  simp
  refine ⟨ah (by decide +kernel),?_⟩
  refine al (fun h3=>?_) (fun h3=>?_) <;> simp at h3
  ·simp [hr',h3]
  ·simp [show ¬ 0 < z0 by omega,w1]
   exact ⟨1,by simp [ptD];try omega⟩
 ·simp [ptD,ptS,w2]
  refine aa k1 (.inl rfl) ?_
  simp
  refine ⟨ah (by decide +kernel),?_⟩
  refine al (fun h3=>?_) (fun h3=>?_) <;> simp at h3
  ·simp [hr',h3]
  ·simp [show ¬ 0 < z1 by omega,w2]
   exact ⟨2,by simp [ptD];try omega⟩
 ·simp [ptD,ptS,w3]
  refine aa k2 (.inl rfl) ?_
  simp
  refine ⟨ah (by decide +kernel),?_⟩
  refine al (fun h3=>?_) (fun h3=>?_) <;> simp at h3
  ·simp [hr',h3]
  ·simp [show ¬ 0 < z2 by omega,w3]
   exact ⟨3,by simp [ptD];try omega⟩
 ·have h3:=j0 (by omega)
  have h4:=j1 (by omega)
  have h5:=j2 (by omega)
  simp [hr',h1,h2,h3,h4,h5]
set_option maxHeartbeats 1000000 in
theorem qu (m : Msh) (hv : aF m=true) {a b : Pnt} (ha : okP a=true) (hb : okP b=true) : C 686 [.agg (aY m),.agg (ptD a),.agg (ptD b)] (.sl (gP m a b m.f.length)) []:=by
 have hfl:=(dM hv).2
 have kp:=fun i hi=>sB hC m hv i hi ha hb
 obtain ⟨R,hR⟩ : ∃ R,R=gP m a b:=⟨_,rfl⟩
 have hR0 : R 0=[]:=by rw [hR];rfl
 have hRl : ∀ i,(R i).length <= i:=fun i=>by rw [hR,oE];exact lG m a b i
 have hRp : ∀ i,eq m i a b=true -> R (i + 1)=R i++[[.int .i64 (i : Int)]]:=fun i h=>by rw [hR];unfold gP;rw [iH,if_pos h];simp
 have hRn : ∀ i,eq m i a b=false -> R (i + 1)=R i:=fun i h=>by rw [hR];unfold gP;rw [iH,if_neg (by simp [h])];simp
 have hRv : ∀ i,(R i).map (fun e=>e.map aR)=R i:=fun i=>by rw [hR];exact t7 m a b i
 have hRc : ∀ i,∀ e ∈ R i,e.length=1 /\ ∀ c ∈ e,aw c=true:=fun i=>by rw [hR];exact oD m a b i
 rw [<- hR]
 simp only [ab,ptD] at kp
 refine start hC (nf:=N686) rfl rfl ?_
 simp [N686,ptD,ab]
 refine au Nat (fun i=>[(3,.ptr (aY m)),(4,.ptr (ptD a)),(5,.ptr (ptD b)),(7,.ref (.r 10112) 0 (R i).length),(8,.int .i64 i),(10112,.blk 1 (R i))])
  (fun i=>i <= m.f.length) (fun i=>m.f.length - i) 0 (by simp) (by simp [ab,ptD,hR0]) ?_
 rintro i hi
 simp [ab]
 refine al (fun h1=>?_) (fun h1=>?_) <;> simp at h1 <;> simp [h1]
 ·have hw : IntKind.wrap .i64 ((i : Int) + 1)=((i + 1 : Nat) : Int):=ae (by omega) (by omega)
  have k1:=kp i h1
  have hRi:=hRl i
  simp [ptD]
  refine aa k1 (.inl rfl) ?_
  cases hq : eq m i a b
  ·simp [hw]
   exact ⟨i + 1,by omega,by omega,by simp [ab,ptD,hRn i hq]⟩
  ·have hc:=hRc i
   simp [hw]
   exact ⟨by omega,i + 1,by omega,by omega,by simp [ab,ptD,hRp i hq]⟩
 ·have : i=m.f.length:=by omega
  subst this
  simp [hRv]
end Go.Gv

set_option maxRecDepth 4000
namespace Go.Gv
theorem rQ (M : List Frq) (x : Frq) : l7 fqC (lD fqC M) x=lD fqC (M++[x]):=(qQ cV (l9 cV (gU cV M) x) fun y=>by rw [jL cV,ol];simp).symm
theorem om (M : List Frq) : (lD fqC M).length <= M.length:=by
 unfold lD
 have : ∀ l : List Frq,(ddL l).length <= l.length:=fun l=>by
  induction l with
  | nil=>simp [ddL]
  | cons x l ih =>
   cases l with
   | nil=>simp [ddL]
   | cons y r =>
    rw [fW]
    split
    ·simp only [List.length_cons] at ih ⊢;omega
    ·simp only [List.length_cons] at ih ⊢;omega
 exact Nat.le_trans (this _) (by rw [iy];exact Nat.le_refl _)
theorem xq {W : List Frq} (hs : gR fqC W) (x : Frq) {at' : Nat} (h1 : at' <= W.length) (h2 : ∀ (j : Nat) (h : j < W.length),at' <= j -> fqC x W[j] < 0) (h3 : ∀ (h : at' - 1 < W.length),0 < at' -> fqC W[at' - 1] x < 0) : l7 fqC W x=W.take at'++x::W.drop at':=by
 have hc:=cV
 have hpw:=List.pairwise_iff_getElem.1 hs
 have hlt : ∀ y ∈ W.take at',fqC y x < 0:=fun y hy=>by
  obtain ⟨j,hj,rfl⟩:=List.mem_iff_getElem.1 hy
  have hj' : j < at':=by simp at hj;omega
  have hjw : j < W.length:=by omega
  rw [List.getElem_take]
  have h4:=h3 (by omega) (by omega)
  by_cases e : j=at' - 1
  ·subst e;exact h4
  ·exact hc.trans _ _ _ (hpw j (at' - 1) hjw (by omega) (by omega)) h4
 have hgt : ∀ y ∈ W.drop at',fqC x y < 0:=fun y hy=>by
  obtain ⟨j,hj,rfl⟩:=List.mem_iff_getElem.1 hy
  rw [List.getElem_drop]
  exact h2 _ _ (by omega)
 refine (l9 hc hs x).unique hc (List.pairwise_append.2 ⟨hs.sublist (List.take_sublist _ _),List.pairwise_cons.2 ⟨hgt,hs.sublist (List.drop_sublist _ _)⟩,fun a ha b hb=>?_⟩) fun y=>?_
 ·rcases List.mem_cons.1 hb with rfl | hb
  ·exact hlt a ha
  ·exact hc.trans _ _ _ (hlt a ha) (hgt b hb)
 ·rw [jL hc,List.mem_append,List.mem_cons]
  conv=>lhs;rw [<- List.take_append_drop at' W,List.mem_append]
  constructor
  ·rintro ((h | h) | h)
   ·exact .inl h
   ·exact .inr (.inr h)
   ·exact .inr (.inl h)
  ·rintro (h | h | h)
   ·exact .inl (.inl h)
   ·exact .inr h
   ·exact .inl (.inr h)
theorem m6 {W : List Frq} (hs : gR fqC W) (x : Frq) {k : Nat} (h1 : k <= W.length) (h2 : ∀ (j : Nat) (h : j < W.length),j < k -> fqC W[j] x < 0) (h3 : ∀ (h : k < W.length),¬ fqC W[k] x < 0 /\ W[k] ≠ x) : l7 fqC W x=W.take k++x::W.drop k:=by
 have hpw:=List.pairwise_iff_getElem.1 hs
 refine xq hs x h1 (fun j hj hkj=>?_) (fun h h0=>h2 _ h (by omega))
 have hk : k < W.length:=by omega
 obtain ⟨g1,g2⟩:=h3 hk
 have hx : fqC x W[k] < 0:=by
  have h4:=cV.anti W[k] x
  have h5 : fqC W[k] x ≠ 0:=fun e=>g2 (cV.eq0 _ _ e)
  omega
 by_cases e : j=k
 ·subst e;exact hx
 ·exact cV.trans _ _ _ hx (hpw k j hk hj (by omega))
theorem ui (L : List Frq) (k : Nat) : (fqR L).drop k=fqR (L.drop k):=by simp [fqR]
theorem wQ (L M : List Frq) : fqR L++fqR M=fqR (L++M):=by simp [fqR]
theorem m7 {W : List Frq} {i : Nat} (h1 : i <= W.length) (x : Frq) : List.take (min i W.length + 1 + (W.length - i)) (List.take (min i W.length + 1) (List.take (min i W.length) (List.take i (List.map (fun e=>List.map aR e) (fqR W)))++[[D.int IntKind.i64 x.1.1,D.int IntKind.i64 x.1.2]])++List.drop i (List.take W.length (List.map (fun e=>List.map aR e) (fqR W))))=fqR (List.take i W++x::List.drop i W):=by
 rw [uh,Nat.min_eq_left h1,List.take_take,Nat.min_self,List.take_of_length_le (l:=fqR W) (i:=W.length) (by rw [bi];exact Nat.le_refl _),oI,ui]
 have e1 : List.take (i + 1) (fqR (W.take i)++[[D.int IntKind.i64 x.1.1,D.int IntKind.i64 x.1.2]])=fqR (W.take i++[x]):=by
  rw [List.take_of_length_le (by simp [bi];omega)]
  simp [fqR,fqD]
 rw [e1,wQ,List.take_of_length_le (by simp [bi];omega)]
 simp
variable {C : CC} (hC : aA prog C)
include hC
set_option maxHeartbeats 2000000 in
theorem nQ (W : List Frq) (x : Frq) (hs : gR fqC W) (hW : W.length < 2 ^ 40) : C 718 [slx true (fqR W),.agg (fqD x)] (.sl (fqR (l7 fqC W x))) []:=by
 by_cases hE : W=[]
 ·subst hE
  have e0 : slx true (fqR [])=.nils:=rfl
  have e1 : l7 fqC [] x=[x]:=rfl
  rw [e0,e1]
  refine start hC (nf:=N718) rfl rfl ?_
  simp [N718,fqD]
  refine au Nat (fun i=>[(0,.nils),(3,.ptr (fqD x)),(5,.int .i64 0)]) (fun i=>True) (fun i=>0) 0 trivial (by simp [fqD]) ?_
  rintro i _
  simp
  simp [fqR,fqD]
  exact ⟨ah (by decide +kernel),ah (by decide +kernel)⟩
 ·have hlen:=bi W
  have hW0 : 0 < W.length:=List.length_pos_iff.2 hE
  have e0 : slx true (fqR W)=.sl (fqR W):=by
   cases W with
   | nil=>exact absurd rfl hE
   | cons y r=>rfl
  have kc:=fun y=>xt hC y x
  simp only [fqD] at kc
  rw [e0]
  refine start hC (nf:=N718) rfl rfl ?_
  simp [N718,fqD]
  refine au Nat (fun i=>[(0,.sl (fqR W)),(3,.ptr (fqD x)),(5,.int .i64 i)]) (fun i=>i <= W.length /\ ∀ (j : Nat) (h : j < W.length),j < i -> fqC W[j] x < 0) (fun i=>W.length - i) 0 (by simp) (by simp [fqD]) ?_
  rintro i ⟨hi,hlt⟩
  simp [bi]
  refine al (fun h1=>?_) (fun h1=>?_) <;> simp at h1
  ·have hw : IntKind.wrap .i64 ((i : Int) + 1)=((i + 1 : Nat) : Int):=ae (by omega) (by omega)
   have hg:=lr h1
   have k1:=kc W[i]
   simp [h1,cD hg,bB hg,fqD]
   refine aa k1 (.inl rfl) ?_
   by_cases hc : fqC W[i] x < 0
   ·simp [hc]
    refine ⟨ah (by decide +kernel),?_⟩
    simp [hw]
    exact ⟨i + 1,⟨by omega,fun j hj hji=>by
     by_cases e : j=i
     ·subst e;exact hc
     ·exact hlt j hj (by omega)⟩,by omega,by omega⟩
   ·simp [hc]
    refine ⟨ah (by decide +kernel),?_⟩
    by_cases hq : W[i].1.1=x.1.1 /\ W[i].1.2=x.1.2
    ·have hx : x ∈ W:=by
      have e : W[i]=x:=Subtype.ext (Prod.ext hq.1 hq.2)
      rw [<- e];exact List.getElem_mem _
     have hp:=xp cV hs hx
     have hV : List.take W.length (List.map (fun e=>List.map aR e) (fqR W))=fqR W:=by
      rw [uh,List.take_of_length_le (by rw [bi];exact Nat.le_refl _)]
     simp [bi,h1,cD hg,bB hg,hq.1,hq.2,hp,hV]
     try exact ah (by decide +kernel)
    ·have hp:=m6 hs x hi hlt (fun _=>⟨hc,fun e=>hq (by rw [e];exact ⟨rfl,rfl⟩)⟩)
     have hqb : (decide (W[i].1.1=x.1.1) && decide (W[i].1.2=x.1.2))=false:=by
      rw [Bool.eq_false_iff];simp;exact fun e1 e2=>hq ⟨e1,e2⟩
     simp [bi,h1,cD hg,bB hg,hqb,fqD]
     exact ⟨ah (by decide +kernel),d4 W,hi,fun e he=>⟨d4 W e (List.mem_of_mem_take he),gA W e (List.mem_of_mem_take he)⟩,by omega,by omega,d4 W,hi,fun e he=>⟨d4 W e (List.mem_of_mem_take (List.mem_of_mem_drop he)),gA W e (List.mem_of_mem_take (List.mem_of_mem_drop he))⟩,by omega,by rw [hp];exact m7 hi x⟩
  ·simp [show ¬ i < W.length by omega]
   refine ⟨ah (by decide +kernel),?_⟩
   simp [bi,show ¬ i < W.length by omega,fqD]
   have hp:=m6 hs x hi hlt (fun h=>absurd h (by omega))
   exact ⟨ah (by decide +kernel),d4 W,hi,fun e he=>⟨d4 W e (List.mem_of_mem_take he),gA W e (List.mem_of_mem_take he)⟩,by omega,by omega,d4 W,hi,fun e he=>⟨d4 W e (List.mem_of_mem_take (List.mem_of_mem_drop he)),gA W e (List.mem_of_mem_take (List.mem_of_mem_drop he))⟩,by omega,by rw [hp];exact m7 hi x⟩
end Go.Gv

set_option maxRecDepth 4000
namespace Go.Gv
def cnQ (m : Msh) (a b : Pnt) (i k : Nat) : List Frq:=lD fqC (fqs (cdP m a b i k))
theorem ve : slx true []=.nils:=rfl
theorem qD {L : List (List D)} (h : L ≠ []) : slx true L=.sl L:=by
 cases L with
 | nil=>exact absurd rfl h
 | cons x r=>rfl
theorem nv (m : Msh) (a b : Pnt) (i k : Nat) : (cnQ m a b i k).length <= 3 * i + k:=by
 have h1:=om (fqs (cdP m a b i k))
 have h2:=lp m a b i k
 have h3 : (fqs (cdP m a b i k)).length=(cdP m a b i k).length:=by simp [fqs]
 unfold cnQ
 omega
theorem nw {m : Msh} {a b : Pnt} {i k : Nat} (h : ¬ cw m i k a b=2) : cnQ m a b i (k + 1)=cnQ m a b i k:=by unfold cnQ;rw [gm h]
theorem lq {m : Msh} {a b : Pnt} {i k : Nat} (h : cw m i k a b=2) : cnQ m a b i (k + 1)=l7 fqC (cnQ m a b i k) (f7 (cy (prK m a b i k).1 ((prK m a b i k).1 - (prK m a b i k).2))):=by
 unfold cnQ
 rw [fA h,lK,rQ]
 rfl
theorem pQ {m : Msh} {a b : Pnt} {i k : Nat} (h : cw m i k a b=2) : fqR (cnQ m a b i (k + 1)) ≠ []:=by
 have hm : f7 (cy (prK m a b i k).1 ((prK m a b i k).1 - (prK m a b i k).2)) ∈ cnQ m a b i (k + 1):=by
  rw [lq h,jL cV];exact .inr rfl
 intro e
 have : cnQ m a b i (k + 1)=[]:=by
  unfold fqR at e
  exact List.map_eq_nil_iff.1 e
 rw [this] at hm
 cases hm
theorem rU (m : Msh) (a b : Pnt) (i : Nat) : cnQ m a b i 3=cnQ m a b (i + 1) 0:=by unfold cnQ;rw [iA,d7]
variable {C : CC} (hC : aA prog C)
include hC
set_option maxHeartbeats 4000000 in
theorem xu (m : Msh) (hv : aF m=true) {a b : Pnt} (oa : okP a=true) (ob : okP b=true) : C 685 [.agg (aY m),.agg (ptD a),.agg (ptD b)] (.tup [if (cdL m a b m.f.length).all dx=true then slx true (fqR (iY m a b)) else .nils,.int .i64 (dU m a b)]) []:=by
 have hfl:=(dM hv).2
 have hgood : (cdL m a b m.f.length).all dx=true -> (if (cdL m a b m.f.length).all dx=true then slx true (fqR (iY m a b)) else .nils)=slx true (fqR (iY m a b)) /\ dU m a b=0:=fun h=>⟨by rw [if_pos h],by unfold dU;rw [if_pos h]⟩
 have hbad : ∀ i k,cw m i k a b=2 -> i < m.f.length -> k < 3 -> ¬ cA (prK m a b i k).1 ((prK m a b i k).1 - (prK m a b i k).2)=0 -> (if (cdL m a b m.f.length).all dx=true then slx true (fqR (iY m a b)) else .nils)=.nils /\ dU m a b=5 /\ cA (prK m a b i k).1 ((prK m a b i k).1 - (prK m a b i k).2)=5:=fun i k h hi hk hc=>by
  have hm:=rg h hi hk
  have hn : ¬ (cdL m a b m.f.length).all dx=true:=fun h2=>by
   have:=List.all_eq_true.1 h2 _ hm
   unfold dx at this
   exact hc (of_decide_eq_true this)
  exact ⟨by rw [if_neg hn],by unfold dU;rw [if_neg hn],(tq hm).resolve_left hc⟩
 obtain ⟨d1,hd1⟩ : ∃ d1,d1=(if (cdL m a b m.f.length).all dx=true then slx true (fqR (iY m a b)) else D.nils):=⟨_,rfl⟩
 obtain ⟨e1,he1⟩ : ∃ e1,e1=dU m a b:=⟨_,rfl⟩
 rw [<- hd1] at hgood hbad
 rw [<- he1] at hgood hbad
 rw [<- hd1,<- he1]
 clear hd1 he1
 have w1 : IntKind.wrap .i64 (1 : Int)=1:=by decide
 have w2 : IntKind.wrap .i64 (2 : Int)=2:=by decide
 have w3 : IntKind.wrap .i64 (3 : Int)=3:=by decide
 refine start hC (nf:=N685) rfl rfl ?_
 simp [N685,ptD,ab]
 refine au Nat (fun i=>[(3,.ptr (aY m)),(4,.ptr (ptD a)),(5,.ptr (ptD b)),(8,slx true (fqR (cnQ m a b i 0))),(9,.int .i64 i)])
  (fun i=>i <= m.f.length /\ lc (cdL m a b i)=true) (fun i=>m.f.length - i) 0 (by simp [jv,lc]) (by simp [ab,ptD,cnQ,d7,jv,fqs,fqR,lD,lm,ddL,ve]) ?_
 rintro i ⟨hi,hall⟩
 simp [ab]
 refine al (fun h1=>?_) (fun h1=>?_) <;> simp at h1 <;> simp [h1]
 ·have hw : IntKind.wrap .i64 ((i : Int) + 1)=((i + 1 : Nat) : Int):=ae (by omega) (by omega)
  have kt:=qq hC m hv i h1
  have et : tr3 m i=[ptD (ptS (spA m i)),ptD (ptS (spB m i)),ptD (ptS (spC m i))]:=rfl
  rw [et] at kt
  simp only [ab,aP,ptD,ptS] at kt
  simp [aP]
  refine aa kt (.inr rfl) ?_
  simp
  refine ⟨ah (by decide +kernel),?_⟩
  refine au Nat (fun k=>[(3,.ptr (aY m)),(4,.ptr (ptD a)),(5,.ptr (ptD b)),(8,slx true (fqR (cnQ m a b i k))),(9,.int .i64 i),(10,.sl [ptD (ptS (spA m i)),ptD (ptS (spB m i)),ptD (ptS (spC m i))]),(11,.int .i64 k)])
   (fun k=>k <= 3 /\ lc (cdP m a b i k)=true) (fun k=>3 - k) 0 (by simp [d7,hall]) (by simp [ab,ptD,ptS]) ?_
  rintro k ⟨hk,hallk⟩
  rcases (by omega : k=0 \/ k=1 \/ k=2 \/ k=3) with rfl | rfl | rfl | rfl
  ·have kx:=f9 hC oa ob (bf hv h1 0) (bf hv h1 1)
   have kt2:=qt hC oa ob (bf hv h1 0) (bf hv h1 1)
   have e0 : gr a b (cnr m i 0) (cnr m i 1)=cw m i 0 a b:=rfl
   have e3 : ao (cnr m i 0) (cnr m i 1) a=(prK m a b i 0).1:=rfl
   have e4 : ao (cnr m i 0) (cnr m i 1) b=(prK m a b i 0).2:=rfl
   have c0 : cnr m i 0=ptS (spA m i):=rfl
   have c1 : cnr m i 1=ptS (spB m i):=rfl
   rw [e0] at kx
   rw [e3,e4] at kt2
   rw [c0,c1] at kx kt2
   simp only [ptD,ptS] at kx kt2
   have hlen:=nv m a b i 0
   have hp2:=fA (m:=m) (a:=a) (b:=b) (i:=i) (k:=0)
   have hpn:=gm (m:=m) (a:=a) (b:=b) (i:=i) (k:=0)
   have hn2:=lq (m:=m) (a:=a) (b:=b) (i:=i) (k:=0)
   have hne:=pQ (m:=m) (a:=a) (b:=b) (i:=i) (k:=0)
   have hnn:=nw (m:=m) (a:=a) (b:=b) (i:=i) (k:=0)
   have hb0:=hbad i 0
   have hsrt : gR fqC (cnQ m a b i 0):=gU cV _
   simp [ptD,ptS,w1]
   generalize cw m i 0 a b=z at *
   generalize prK m a b i 0=pr at *
   refine aa kx (.inl rfl) ?_
   simp
   refine ⟨ah (by decide +kernel),?_⟩
   by_cases hz2 : z=2
   ·simp [hz2,ptD,ptS,w1]
    refine aa kt2 (.inl rfl) ?_
    by_cases hc0 : cA pr.1 (pr.1 - pr.2)=0
    ·have hval : (f7 (cy pr.1 (pr.1 - pr.2))).1=cy pr.1 (pr.1 - pr.2):=im (jh hc0).1
     have kp:=nQ hC (cnQ m a b i 0) (f7 (cy pr.1 (pr.1 - pr.2))) hsrt (by omega)
     rw [<- hn2 hz2] at kp
     simp only [fqD,hval] at kp
     simp [hc0]
     refine ⟨ah (by decide +kernel),?_⟩
     refine aa kp (.inr rfl) ?_
     simp [w1]
     refine ⟨1,⟨by omega,?_⟩,by omega,?_⟩
     ·rw [hp2 hz2]
      unfold lc at hallk ⊢
      rw [List.all_append,hallk]
      simp [dx,hc0]
     ·simp [ptD,ab,qD (hne hz2)]
    ·obtain ⟨b1,b2,b3⟩:=hb0 hz2 h1 (by omega) hc0
     simp [hc0,b1,b2,b3]
     try exact ah (by decide +kernel)
   ·simp [hz2,w1]
    refine ⟨1,⟨by omega,?_⟩,by omega,?_⟩
    ·rw [hpn hz2];exact hallk
    ·simp [ptD,ptS,ab,hnn hz2]
  ·have kx:=f9 hC oa ob (bf hv h1 1) (bf hv h1 2)
   have kt2:=qt hC oa ob (bf hv h1 1) (bf hv h1 2)
   have e0 : gr a b (cnr m i 1) (cnr m i 2)=cw m i 1 a b:=rfl
   have e3 : ao (cnr m i 1) (cnr m i 2) a=(prK m a b i 1).1:=rfl
   have e4 : ao (cnr m i 1) (cnr m i 2) b=(prK m a b i 1).2:=rfl
   have c0 : cnr m i 1=ptS (spB m i):=rfl
   have c1 : cnr m i 2=ptS (spC m i):=rfl
   rw [e0] at kx
   rw [e3,e4] at kt2
   rw [c0,c1] at kx kt2
   simp only [ptD,ptS] at kx kt2
   have hlen:=nv m a b i 1
   have hp2:=fA (m:=m) (a:=a) (b:=b) (i:=i) (k:=1)
   have hpn:=gm (m:=m) (a:=a) (b:=b) (i:=i) (k:=1)
   have hn2:=lq (m:=m) (a:=a) (b:=b) (i:=i) (k:=1)
   have hne:=pQ (m:=m) (a:=a) (b:=b) (i:=i) (k:=1)
   have hnn:=nw (m:=m) (a:=a) (b:=b) (i:=i) (k:=1)
   have hb0:=hbad i 1
   have hsrt : gR fqC (cnQ m a b i 1):=gU cV _
   simp [ptD,ptS,w2]
   generalize cw m i 1 a b=z at *
   generalize prK m a b i 1=pr at *
   refine aa kx (.inl rfl) ?_
   simp
   refine ⟨ah (by decide +kernel),?_⟩
   by_cases hz2 : z=2
   ·simp [hz2,ptD,ptS,w2]
    refine aa kt2 (.inl rfl) ?_
    by_cases hc0 : cA pr.1 (pr.1 - pr.2)=0
    ·have hval : (f7 (cy pr.1 (pr.1 - pr.2))).1=cy pr.1 (pr.1 - pr.2):=im (jh hc0).1
     have kp:=nQ hC (cnQ m a b i 1) (f7 (cy pr.1 (pr.1 - pr.2))) hsrt (by omega)
     rw [<- hn2 hz2] at kp
     simp only [fqD,hval] at kp
     simp [hc0]
     refine ⟨ah (by decide +kernel),?_⟩
     refine aa kp (.inr rfl) ?_
     simp [w2]
     refine ⟨2,⟨by omega,?_⟩,by omega,?_⟩
     ·rw [hp2 hz2]
      unfold lc at hallk ⊢
      rw [List.all_append,hallk]
      simp [dx,hc0]
     ·simp [ptD,ab,qD (hne hz2)]
    ·obtain ⟨b1,b2,b3⟩:=hb0 hz2 h1 (by omega) hc0
     simp [hc0,b1,b2,b3]
     try exact ah (by decide +kernel)
   ·simp [hz2,w2]
    refine ⟨2,⟨by omega,?_⟩,by omega,?_⟩
    ·rw [hpn hz2];exact hallk
    ·simp [ptD,ptS,ab,hnn hz2]
  ·have kx:=f9 hC oa ob (bf hv h1 2) (bf hv h1 0)
   have kt2:=qt hC oa ob (bf hv h1 2) (bf hv h1 0)
   have e0 : gr a b (cnr m i 2) (cnr m i 0)=cw m i 2 a b:=rfl
   have e3 : ao (cnr m i 2) (cnr m i 0) a=(prK m a b i 2).1:=rfl
   have e4 : ao (cnr m i 2) (cnr m i 0) b=(prK m a b i 2).2:=rfl
   have c0 : cnr m i 2=ptS (spC m i):=rfl
   have c1 : cnr m i 0=ptS (spA m i):=rfl
   rw [e0] at kx
   rw [e3,e4] at kt2
   rw [c0,c1] at kx kt2
   simp only [ptD,ptS] at kx kt2
   have hlen:=nv m a b i 2
   have hp2:=fA (m:=m) (a:=a) (b:=b) (i:=i) (k:=2)
   have hpn:=gm (m:=m) (a:=a) (b:=b) (i:=i) (k:=2)
   have hn2:=lq (m:=m) (a:=a) (b:=b) (i:=i) (k:=2)
   have hne:=pQ (m:=m) (a:=a) (b:=b) (i:=i) (k:=2)
   have hnn:=nw (m:=m) (a:=a) (b:=b) (i:=i) (k:=2)
   have hb0:=hbad i 2
   have hsrt : gR fqC (cnQ m a b i 2):=gU cV _
   simp [ptD,ptS,w3]
   generalize cw m i 2 a b=z at *
   generalize prK m a b i 2=pr at *
   refine aa kx (.inl rfl) ?_
   simp
   refine ⟨ah (by decide +kernel),?_⟩
   by_cases hz2 : z=2
   ·simp [hz2,ptD,ptS,w3]
    refine aa kt2 (.inl rfl) ?_
    by_cases hc0 : cA pr.1 (pr.1 - pr.2)=0
    ·have hval : (f7 (cy pr.1 (pr.1 - pr.2))).1=cy pr.1 (pr.1 - pr.2):=im (jh hc0).1
     have kp:=nQ hC (cnQ m a b i 2) (f7 (cy pr.1 (pr.1 - pr.2))) hsrt (by omega)
     rw [<- hn2 hz2] at kp
     simp only [fqD,hval] at kp
     simp [hc0]
     refine ⟨ah (by decide +kernel),?_⟩
     refine aa kp (.inr rfl) ?_
     simp [w3]
     refine ⟨3,⟨by omega,?_⟩,by omega,?_⟩
     ·rw [hp2 hz2]
      unfold lc at hallk ⊢
      rw [List.all_append,hallk]
      simp [dx,hc0]
     ·simp [ptD,ab,qD (hne hz2)]
    ·obtain ⟨b1,b2,b3⟩:=hb0 hz2 h1 (by omega) hc0
     simp [hc0,b1,b2,b3]
     try exact ah (by decide +kernel)
   ·simp [hz2,w3]
    refine ⟨3,⟨by omega,?_⟩,by omega,?_⟩
    ·rw [hpn hz2];exact hallk
    ·simp [ptD,ptS,ab,hnn hz2]
  ·rw [iA] at hallk
   simp [hw]
   exact ⟨i + 1,⟨by omega,hallk⟩,by omega,by simp [ab,ptD,rU]⟩
 ·have : i=m.f.length:=by omega
  subst this
  obtain ⟨g1,g2⟩:=hgood hall
  have e2 : cnQ m a b m.f.length 0=iY m a b:=by unfold cnQ iY;rw [d7]
  rw [e2]
  simp [g1,g2]
  try trace_state
end Go.Gv

set_option maxRecDepth 4000
namespace Go.Gv
def si (m : Msh) : Bool:=(decide ((60 : Int) < (m.s.length : Int)) && decide ((m.s.length : Int) <= 2000)) || (decide ((60 : Int) < (m.f.length : Int)) && decide ((m.f.length : Int) <= 4000)) || decide ((2010 : Int) < (m.s.length : Int)) || decide ((4010 : Int) < (m.f.length : Int))
theorem AM {m : Msh} (h : si m=false) : bW m=true -> m.s.length <= 100 /\ m.f.length <= 100:=by
 intro hs
 unfold si at h
 unfold bW at hs
 simp only [Bool.or_eq_false_iff,Bool.and_eq_false_iff,decide_eq_false_iff_not,Bool.and_eq_true,decide_eq_true_eq] at h hs
 omega
variable {C : CC} (hC : aA prog C)
include hC
theorem ur (m : Msh) : C 681 [.agg (aY m)] (.bool (si m)) []:=by
 obtain ⟨L,eL⟩ : ∃ L,L=si m:=⟨_,rfl⟩
 rw [<- eL]
 unfold si at eL
 refine start hC (nf:=N681) rfl rfl ?_
 simp [N681,ab]
 by_cases a1 : (60 : Int) < (m.s.length : Int) <;> by_cases a2 : (m.s.length : Int) <= 2000 <;> by_cases b1 : (60 : Int) < (m.f.length : Int) <;> by_cases b2 : (m.f.length : Int) <= 4000 <;> by_cases c : (2010 : Int) < (m.s.length : Int) <;> by_cases d : (4010 : Int) < (m.f.length : Int) <;> first | omega | (simp only [a1,a2,b1,b2,c,d,decide_true,decide_false,Bool.and_true,Bool.true_and,Bool.and_false,Bool.false_and,Bool.or_true,Bool.true_or,Bool.or_false,Bool.false_or] at eL;subst eL;simp [a1,a2,b1,b2,c,d])
set_option maxHeartbeats 2000000 in
theorem k9 (hS : vR C) (dec : Nat -> List UInt8) (hI : ∀ n : Nat,n < 100 -> C 127 [.int .i64 n] (.str (dec n)) []) (m : Msh) (a b : Pnt) : C 670 [.agg (aY m),.agg (ptD a),.agg (ptD b)] (.bool true) []:=by
 have k0:=tn hC hS dec hI
 have kl:=ur hC m
 simp only [ab] at kl
 refine start hC (nf:=N670) rfl rfl ?_
 simp [N670,ab,ptD]
 refine aa k0 (.inl rfl) ?_
 simp
 refine aa kl (.inl rfl) ?_
 cases hl : si m
 rotate_left
 ·simp
 have hz:=AM hl
 have kg:=uR hC m hz a b
 by_cases h0 : cI m a b=0
 ·obtain ⟨hv,hle⟩:=oS h0
  obtain ⟨ha,hb,hne⟩:=lR hle
  have k1:=pA hC dec hI m hz a b h0
  have k2:=rD hC hS dec hI m hz a b h0
  have k3:=xu hC m hv ha hb
  have k4:=qu hC m hv ha hb
  rw [h0] at kg
  simp only [ab,ptD] at k1 k2 k3 k4 kg
  simp [ab,ptD]
  refine aa k1 (.inr rfl) ?_
  simp
  refine aa k2 (.inr rfl) ?_
  have eL : gP m a b m.f.length=((mz m a b m.f.length).map fun (i : Nat)=>(i : Int)).map fun n=>[.int .i64 n]:=by
   unfold gP
   rw [List.map_map]
   rfl
  have hL : ((mz m a b m.f.length).map fun (i : Nat)=>(i : Int)).length < 2 ^ 62:=by
   have:=lG m a b m.f.length
   have:=(dM hv).2
   simp
   omega
  have q1:=tV hC false false _ _ hL hL
  rw [<- eL] at q1
  have hcl : (iY m a b).length < 2 ^ 62:=by
   have h1:=om (fqs (cdL m a b m.f.length))
   have h2:=ju m a b m.f.length
   have h3 : (fqs (cdL m a b m.f.length)).length=(cdL m a b m.f.length).length:=by simp [fqs]
   have h4:=(dM hv).2
   unfold iY
   omega
  have q2:=nC hC false true (iY m a b) hcl
  simp at q1 q2
  by_cases hok : (cdL m a b m.f.length).all dx=true
  ·have e1 : gJ m a b=.sl (fqR (iY m a b)):=by unfold gJ;rw [if_pos hok]
   have e2 : dU m a b=0:=by unfold dU;rw [if_pos hok]
   rw [if_pos hok,e2] at k3
   rw [e1,e2]
   simp
   refine aa kg (.inl rfl) ?_
   simp
   refine aa k3 (.inr rfl) ?_
   simp
   refine aa k4 (.inr rfl) ?_
   simp
   refine aa q1 (.inl rfl) ?_
   simp
   refine aa q2 (.inl rfl) ?_
   simp
  ·have e1 : gJ m a b=.nils:=by unfold gJ;rw [if_neg hok]
   have e2 : dU m a b=5:=by unfold dU;rw [if_neg hok]
   have q3:=nC hC true true [] (by simp)
   have e3 : slx true (fqR [])=.nils:=rfl
   rw [e3] at q3
   rw [if_neg hok,e2] at k3
   rw [e1,e2]
   simp
   refine aa kg (.inl rfl) ?_
   simp
   refine aa k3 (.inr rfl) ?_
   simp
   refine aa k4 (.inr rfl) ?_
   simp
   refine aa q1 (.inl rfl) ?_
   simp
   refine aa q3 (.inl rfl) ?_
   simp
 ·have k1:=sR hC dec hI m hz a b h0
  have k2:=vt hC dec hI m hz a b h0
  simp only [ab,ptD] at k1 k2 kg
  simp [ab,ptD]
  refine aa k1 (.inr rfl) ?_
  simp
  refine aa k2 (.inr rfl) ?_
  simp
  refine aa kg (.inl rfl) ?_
  simp [h0]
end Go.Gv
