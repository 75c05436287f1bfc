/-
  Texts of the proof: Z10, Z11, J3, J4, J5, J6, J7, J8, J9, J10, J11, J12, J13, J14, J15, J16, J22a, J23, J24, J25, J26, J27, J28, J29, J30, J33.
-/
import Derived.Test.YteaonmajblajnaaGreatDoorX7
import Derived.Test.YteaonmajblajnaaGreatDoorX6
set_option linter.all false
namespace Go.Gv
theorem iY (x : Int) : (gh x 0=-1 /\ x < 0) \/ (gh x 0=0 /\ x=0) \/ (gh x 0=1 /\ 0 < x):=by
 unfold gh
 split
 ·exact .inl ⟨rfl,‹_›⟩
 ·split
  ·exact .inr (.inr ⟨rfl,‹_›⟩)
  ·exact .inr (.inl ⟨rfl,by omega⟩)
def mn2 (x y : Int) : Int:=if y < x then y else x
def mx2 (x y : Int) : Int:=if x < y then y else x
def oM (m : Msh) (i : Nat) (p : Pnt) : Int:=mn2 (mn2 (mn2 1 (gh (tn0 m i p) 0)) (gh (tn1 m i p) 0)) (gh (tn2 m i p) 0)
theorem ri (m : Msh) (i : Nat) (p : Pnt) : decide (0 <= oM m i p)=decide (osF m i p < 0):=by
 rw [decide_eq_decide]
 have h0:=iY (tn0 m i p)
 have h1:=iY (tn1 m i p)
 have h2:=iY (tn2 m i p)
 have hc:=sD m i p
 unfold oM mn2
 generalize gh (tn0 m i p) 0=a at *
 generalize gh (tn1 m i p) 0=b at *
 generalize gh (tn2 m i p) 0=c at *
 constructor
 ·intro h
  split at h <;> split at h <;> split at h <;> omega
 ·intro h
  split <;> split <;> split <;> omega
variable {C : CC} (hC : aw prog C)
include hC
theorem eX {a b c : Pnt} (ha : okP a=true) (hb : okP b=true) (hc : okP c=true) : C 360 [.agg (ptD a),.agg (ptD b),.agg (ptD c)] (.int .i64 (aF a b c)) []:=by
 have:=cI ha
 have:=cI hb
 have:=cI hc
 have h4:=jE ha hb hc
 refine start hC (nf:=N360) rfl rfl ?_
 have w1 : IntKind.wrap .i64 (b.1 - a.1)=b.1 - a.1:=ae rfl (by omega)
 have w2 : IntKind.wrap .i64 (c.2 - a.2)=c.2 - a.2:=ae rfl (by omega)
 have w3 : IntKind.wrap .i64 (b.2 - a.2)=b.2 - a.2:=ae rfl (by omega)
 have w4 : IntKind.wrap .i64 (c.1 - a.1)=c.1 - a.1:=ae rfl (by omega)
 have w5 : IntKind.wrap .i64 ((b.1 - a.1) * (c.2 - a.2))=(b.1 - a.1) * (c.2 - a.2):=ae rfl (by omega)
 have w6 : IntKind.wrap .i64 ((b.2 - a.2) * (c.1 - a.1))=(b.2 - a.2) * (c.1 - a.1):=ae rfl (by omega)
 have w7 : IntKind.wrap .i64 ((b.1 - a.1) * (c.2 - a.2) - (b.2 - a.2) * (c.1 - a.1))=aF a b c:=ae rfl (by rw [aF];omega)
 simp [N360,ptD,w1,w2,w3,w4,w5,w6,w7]
theorem xO (p : Pnt) : C 361 [.agg (ptD p)] (.bool (!okP p)) []:=by
 have k:=fp hC p
 simp only [ptD] at k
 refine start hC (nf:=N361) rfl rfl ?_
 simp [N361,ptD]
 refine aa k (.inl rfl) ?_
 simp
theorem qu (b : Bool) (ps : List Pnt) (hp : ps.length < 2 ^ 62) : C 359 [slx b (ps.map fun x=>ptD x)] (.bool (ps.all okP)) []:=by
 have k2:=oK hC (b:=b) (xs:=ps) (g:=361) (cs:=[]) (fun x=>!okP x) hp (fun x _=>xO hC x)
 have e : (ps.any fun x=>!okP x)=!ps.all okP:=by rw [List.all_eq_not_any_not,Bool.not_not]
 rw [e] at k2
 refine start hC (nf:=N359) rfl rfl ?_
 simp [N359]
 refine aa k2 (.inl rfl) ?_
 simp
set_option maxHeartbeats 4000000 in
theorem m8 (m : Msh) (hv : aC m=true) (i : Nat) (hi : i < m.f.length) (p : Pnt) (hp : okP p=true) :
  C 355 [.agg (ptD p),.agg (ptD (ptS (spA m i))),.agg (ptD (ptS (spB m i))),.agg (ptD (ptS (spC m i)))] (.tup [.int .i64 (oM m i p),.int .i64 0]) []:=by
 obtain ⟨oa,ob,oc⟩:=me hv hi
 have hd : 0 < db m i:=(lh hv hi).2
 have ka:=qu hC false [p,ptS (spA m i),ptS (spB m i),ptS (spC m i)] (by simp)
 have kd : C 360 [.agg (ptD (ptS (spA m i))),.agg (ptD (ptS (spB m i))),.agg (ptD (ptS (spC m i)))] (.int .i64 (db m i)) []:=eX hC oa ob oc
 have t0 : C 360 [.agg (ptD (ptS (spA m i))),.agg (ptD (ptS (spB m i))),.agg (ptD p)] (.int .i64 (tn0 m i p)) []:=eX hC oa ob hp
 have t1 : C 360 [.agg (ptD (ptS (spB m i))),.agg (ptD (ptS (spC m i))),.agg (ptD p)] (.int .i64 (tn1 m i p)) []:=eX hC ob oc hp
 have t2 : C 360 [.agg (ptD (ptS (spC m i))),.agg (ptD (ptS (spA m i))),.agg (ptD p)] (.int .i64 (tn2 m i p)) []:=eX hC oc oa hp
 have cd:=il hC (db m i) 0
 have c0:=il hC (tn0 m i p) 0
 have c1:=il hC (tn1 m i p) 0
 have c2:=il hC (tn2 m i p) 0
 rw [show gh (db m i) 0=1 by have:=iY (db m i);omega] at cd
 simp [oa,ob,oc,hp] at ka
 have g0:=iY (tn0 m i p)
 have g1:=iY (tn1 m i p)
 have g2:=iY (tn2 m i p)
 unfold oM
 obtain ⟨x0,h0⟩ : ∃ x,x=gh (tn0 m i p) 0:=⟨_,rfl⟩
 obtain ⟨x1,h1⟩ : ∃ x,x=gh (tn1 m i p) 0:=⟨_,rfl⟩
 obtain ⟨x2,h2⟩ : ∃ x,x=gh (tn2 m i p) 0:=⟨_,rfl⟩
 rw [<- h0] at c0 g0 ⊢
 rw [<- h1] at c1 g1 ⊢
 rw [<- h2] at c2 g2 ⊢
 have e0 : IntKind.wrap .i64 x0=x0:=ae rfl (by omega)
 have e1 : IntKind.wrap .i64 x1=x1:=ae rfl (by omega)
 have e2 : IntKind.wrap .i64 x2=x2:=ae rfl (by omega)
 have w1 : IntKind.wrap .i64 1=1:=by decide
 have w2 : IntKind.wrap .i64 2=2:=by decide
 have w3 : IntKind.wrap .i64 3=3:=by decide
 clear g0 g1 g2 h0 h1 h2
 obtain ⟨A,hA⟩ : ∃ A,A=ptS (spA m i):=⟨_,rfl⟩
 obtain ⟨B,hB⟩ : ∃ A,A=ptS (spB m i):=⟨_,rfl⟩
 obtain ⟨Z,hZ⟩ : ∃ A,A=ptS (spC m i):=⟨_,rfl⟩
 rw [<- hA,<- hB,<- hZ] at ka kd ⊢
 rw [<- hA,<- hB] at t0
 rw [<- hB,<- hZ] at t1
 rw [<- hA,<- hZ] at t2
 clear hA hB hZ
 simp only [ptD] at ka kd t0 t1 t2
 refine start hC (nf:=N355) rfl rfl ?_
 simp [N355,ptD]
 refine aa ka (.inl rfl) ?_
 simp
 refine aa kd (.inl rfl) ?_
 simp
 refine aa cd (.inl rfl) ?_
 simp
 refine av Nat (fun k=>[(4,.ptr (ptD p)),(10,.int .i64 1),(11,.int .i64 (if k=0 then 1 else if k=1 then mn2 1 x0 else if k=2 then mn2 (mn2 1 x0) x1 else mn2 (mn2 (mn2 1 x0) x1) x2)),(37,.agg [.int .i64 A.1,.int .i64 A.2,.int .i64 B.1,.int .i64 B.2,.int .i64 B.1,.int .i64 B.2,.int .i64 Z.1,.int .i64 Z.2,.int .i64 Z.1,.int .i64 Z.2,.int .i64 A.1,.int .i64 A.2]),(38,.int .i64 k)]) (fun k=>k <= 3) (fun k=>3 - k) 0 (by simp) (by simp [ptD]) ?_
 rintro k hk
 rcases (by omega : k=0 \/ k=1 \/ k=2 \/ k=3) with rfl | rfl | rfl | rfl
 ·simp [ptD,w1]
  refine aa t0 (.inl rfl) ?_
  simp
  refine aa c0 (.inl rfl) ?_
  simp [e0]
  exact ⟨1,by omega,by omega,by simp [ptD,w1,mn2]⟩
 ·simp [ptD,w2]
  refine aa t1 (.inl rfl) ?_
  simp
  refine aa c1 (.inl rfl) ?_
  simp [e1]
  exact ⟨2,by omega,by omega,by simp [ptD,w2,mn2]⟩
 ·simp [ptD,w3]
  refine aa t2 (.inl rfl) ?_
  simp
  refine aa c2 (.inl rfl) ?_
  simp [e2]
  exact ⟨3,by omega,by omega,by simp [ptD,w3,mn2]⟩
 ·simp
end Go.Gv

namespace Go.Gv
def mnZ (m : Msh) (i : Nat) : Int:=mn2 (mn2 (spA m i).z (spB m i).z) (spC m i).z
def mxZ (m : Msh) (i : Nat) : Int:=mx2 (mx2 (spA m i).z (spB m i).z) (spC m i).z
variable {C : CC} (hC : aw prog C)
include hC
end Go.Gv

namespace Go.Gv
def lr (a b c d : Pnt) : Int:=if (apG a b c d && apG c d a b)=true then 2 else if (onG a b c || onG a b d || onG c d a || onG c d b)=true then 1 else 0
def cnr (m : Msh) (i k : Nat) : Pnt:=if k=0 then ptS (spA m i) else if k=1 then ptS (spB m i) else ptS (spC m i)
def eA (m : Msh) (i k : Nat) (a b : Pnt) : Int:=lr a b (cnr m i k) (cnr m i ((k + 1) % 3))
def gZ (m : Msh) (i : Nat) (a b : Pnt) : Bool:=decide (osF m i a < 0) || decide (osF m i b < 0) || (List.range 3).any fun k=>decide (0 < eA m i k a b)
def Qr (m : Msh) (a b : Pnt) : List Nat:=(List.range m.f.length).filter fun i=>gZ m i a b
theorem qL (a b : Pnt) : aF a b a=0 /\ aF a b b=0:=by unfold aF;constructor <;> grind
theorem gi {m : Msh} (hv : aC m=true) {i : Nat} (hi : i < m.f.length) (k : Nat) (hk : k < 3) : cnr m i k ≠ cnr m i ((k + 1) % 3):=by
 have hd : 0 < db m i:=(lh hv hi).2
 unfold db at hd
 intro e
 rcases (by omega : k=0 \/ k=1 \/ k=2) with rfl | rfl | rfl
 ·simp only [cnr] at e;simp at e;rw [e] at hd;have:=(qL (ptS (spB m i)) (ptS (spC m i))).1;unfold aF at hd;simp at hd
 ·simp only [cnr] at e;simp at e;rw [e] at hd;rw [(qL _ _).2] at hd;omega
 ·simp only [cnr] at e;simp at e;rw [e] at hd;rw [(qL _ _).1] at hd;omega
theorem cQ {m : Msh} (hv : aC m=true) {i : Nat} (hi : i < m.f.length) (k : Nat) : okP (cnr m i k)=true:=by
 obtain ⟨h1,h2,h3⟩:=me hv hi
 unfold cnr
 split
 ·exact h1
 ·split
  ·exact h2
  ·exact h3
def atL (a b : Pnt) (n k : Nat) : Pnt:=(a.1 + (b.1 - a.1) * k / n,a.2 + (b.2 - a.2) * k / n)
def jv (a b : Pnt) (n : Nat) : List Pnt:=(List.range (n + 1)).map (atL a b n)
def dR (a b : Pnt) : Int:=if okP a=true /\ okP b=true then (if a=b then 25 else 0) else 1
theorem ra {x : Int} {n k : Nat} {B : Int} (hn : 0 < n) (hk : k <= n) (hB : -B <= x /\ x <= B) : min 0 x <= x * k / n /\ x * k / n <= max 0 x:=by
 have hn' : (0 : Int) < n:=by omega
 constructor
 ·apply (Int.le_ediv_iff_mul_le hn').2
  rcases Int.le_total 0 x with h | h
  ·have:=Int.mul_nonneg h (show (0 : Int) <= k by omega)
   rw [Int.min_eq_left h];omega
  ·rw [Int.min_eq_right h]
   have:=Int.mul_nonneg (show 0 <= -x by omega) (show (0 : Int) <= (n : Int) - k by omega)
   have e : -x * ((n : Int) - k)=x * k - x * n:=by rw [Int.neg_mul,Int.mul_sub];omega
   omega
 ·rcases Int.le_total 0 x with h | h
  ·rw [Int.max_eq_right h]
   exact Int.ediv_le_of_le_mul hn' (Int.mul_le_mul_of_nonneg_left (by omega) h)
  ·rw [Int.max_eq_left h]
   refine Int.ediv_le_of_le_mul hn' ?_
   have:=Int.mul_nonneg (show 0 <= -x by omega) (show (0 : Int) <= k by omega)
   have e : -x * (k : Int)=-(x * k):=Int.neg_mul _ _
   omega
theorem tr {a b : Pnt} (ha : okP a=true) (hb : okP b=true) {n k : Nat} (hn : 0 < n) (hk : k <= n) : okP (atL a b n k)=true:=by
 simp only [okP,Bool.and_eq_true,decide_eq_true_eq] at ha hb ⊢
 have h1:=ra (x:=b.1 - a.1) (B:=33554432) hn hk (by omega)
 have h2:=ra (x:=b.2 - a.2) (B:=33554432) hn hk (by omega)
 simp only [atL]
 omega
end Go.Gv

namespace Go.Gv
def uu (q : Int × Int) : Prop:=0 < q.2 /\ q.2 <= 1073741824 /\ -1073741824 <= q.1 /\ q.1 <= 1073741824 /\ Nat.gcd q.1.natAbs q.2.natAbs=1
instance (q : Int × Int) : Decidable (uu q):=by unfold uu;infer_instance
def kS (q : Int × Int) : Frq:=if h : uu q then ⟨q,h⟩ else ⟨(0,1),by decide⟩
theorem oZ {q : Int × Int} (h : uu q) : (kS q).1=q:=by unfold kS;exact congrArg Subtype.val (dif_pos h)
def cdK (m : Msh) (a b : Pnt) (i k : Nat) : List (Int × Int):=if eA m i k a b=2 then [(aF (cnr m i k) (cnr m i ((k + 1) % 3)) a,aF (cnr m i k) (cnr m i ((k + 1) % 3)) b)] else []
def cdF (m : Msh) (a b : Pnt) (i k : Nat) : List (Int × Int):=(List.range k).flatMap (cdK m a b i)
def cdL (m : Msh) (a b : Pnt) (i : Nat) : List (Int × Int):=(List.range i).flatMap fun i=>cdF m a b i 3
def iS (p : Int × Int) : Bool:=decide (da p.1 (p.1 - p.2)=0)
def fqs (l : List (Int × Int)) : List Frq:=l.map fun p=>kS (dN p.1 (p.1 - p.2))
def tL (m : Msh) (a b : Pnt) : List Frq:=tv fqC (fqs (cdL m a b m.f.length))
theorem tz (m : Msh) (a b : Pnt) (i : Nat) : cdF m a b i 0=[]:=rfl
theorem lp (m : Msh) (a b : Pnt) (i k : Nat) : cdF m a b i (k + 1)=cdF m a b i k++cdK m a b i k:=by simp [cdF,List.range_succ]
theorem ou (m : Msh) (a b : Pnt) : cdL m a b 0=[]:=rfl
theorem ot (m : Msh) (a b : Pnt) (i : Nat) : cdL m a b (i + 1)=cdL m a b i++cdF m a b i 3:=by simp [cdL,List.range_succ]
theorem qb (l l' : List (Int × Int)) : fqs (l++l')=fqs l++fqs l':=by simp [fqs]
theorem wt (m : Msh) (a b : Pnt) (i k : Nat) : (cdK m a b i k).length <= 1:=by unfold cdK;split <;> simp
theorem ny (m : Msh) (a b : Pnt) (i : Nat) : ∀ k,(cdF m a b i k).length <= k
 | 0=>by simp [cdF]
 | k + 1=>by rw [lp,List.length_append];have:=ny m a b i k;have:=wt m a b i k;omega
theorem kY (m : Msh) (a b : Pnt) : ∀ i,(cdL m a b i).length <= 3 * i
 | 0=>by simp [cdL]
 | i + 1=>by rw [ot,List.length_append];have:=kY m a b i;have:=ny m a b i 3;omega
theorem Gc {a b c d : Pnt} (h : lr a b c d=2) : (aF c d a < 0 /\ 0 < aF c d b) \/ (0 < aF c d a /\ aF c d b < 0):=by
 unfold lr at h
 split at h
 ·rename_i h1
  simp only [apG,Bool.and_eq_true,Bool.or_eq_true,decide_eq_true_eq] at h1
  exact h1.2
 ·split at h <;> omega
theorem xx {m : Msh} {a b : Pnt} {n : Nat} {p : Int × Int} (h : p ∈ cdL m a b n) : ∃ i k,i < n /\ k < 3 /\ eA m i k a b=2 /\ p=(aF (cnr m i k) (cnr m i ((k + 1) % 3)) a,aF (cnr m i k) (cnr m i ((k + 1) % 3)) b):=by
 simp only [cdL,List.mem_flatMap,List.mem_range,cdF] at h
 obtain ⟨i,hi,k,hk,h⟩:=h
 unfold cdK at h
 split at h
 ·rename_i h2
  exact ⟨i,k,hi,hk,h2,by simpa using h⟩
 ·simp at h
theorem wx {m : Msh} {a b : Pnt} {n : Nat} {p : Int × Int} (h : p ∈ cdL m a b n) : (p.1 < 0 /\ 0 < p.2) \/ (0 < p.1 /\ p.2 < 0):=by
 obtain ⟨i,k,_,_,h2,rfl⟩:=xx h
 exact Gc h2
theorem AA {m : Msh} {a b : Pnt} {n : Nat} {p : Int × Int} (h : p ∈ cdL m a b n) : da p.1 (p.1 - p.2)=0 \/ da p.1 (p.1 - p.2)=5:=(tM (wx h)).2.1
def omF (q : Frq) : Frq:=kS (q.1.2 - q.1.1,q.1.2)
def Qp (q : Frq) : Prop:=0 <= q.1.1 /\ q.1.1 <= q.1.2
end Go.Gv

set_option maxRecDepth 4000
namespace Go.Gv
theorem zp {x q c : Int} (hc : 0 < c) (h1 : q * c <= x) (h2 : x < q * c + c) : x / c=q:=by
 apply Int.le_antisymm
 ·have:=(Int.ediv_lt_iff_lt_mul hc (a:=x) (b:=q + 1)).2 (by rw [Int.add_mul];omega)
  omega
 ·exact (Int.le_ediv_iff_mul_le hc).2 h1
theorem Al {x c : Int} (hc : 0 < c) : x / c=if x.tmod c < 0 then x.tdiv c - 1 else x.tdiv c:=by
 have e:=Int.mul_tdiv_add_tmod x c
 have e2 : c * x.tdiv c=x.tdiv c * c:=Int.mul_comm _ _
 have l:=Int.tmod_lt_of_pos x hc
 have g : -c < x.tmod c:=by
  have:=Int.tmod_lt_of_pos (-x) hc
  rw [Int.neg_tmod] at this
  omega
 split
 ·exact zp hc (by rw [Int.sub_mul];omega) (by rw [Int.sub_mul];omega)
 ·exact zp hc (by omega) (by omega)
theorem pD {x c B : Int} (hc : 0 < c) (h : -B <= x /\ x <= B) : -B <= x.tdiv c /\ x.tdiv c <= B:=by
 have e:=Int.mul_tdiv_add_tmod x c
 rcases Int.le_total 0 x with h0 | h0
 ·have h1:=Int.tdiv_nonneg h0 (Int.le_of_lt hc)
  have h2 : x.tdiv c <= x:=Int.tdiv_le_self c h0
  omega
 ·have h1:=Int.tdiv_nonneg (show 0 <= -x by omega) (Int.le_of_lt hc)
  have h2 : (-x).tdiv c <= -x:=Int.tdiv_le_self c (by omega)
  rw [Int.neg_tdiv] at h1 h2
  omega
def iO (n : Int) : Bool:=decide (-4194304 <= n) && decide (n <= 4194304)
def dU (e : Int) (n : Int) (ls : List Int) : Int:=if e=0 then (if (1 <= n /\ n <= 999) /\ ls.all iO=true then 0 else 2) else e
def ptR (a b : Pnt) (n k : Nat) : List (List D):=(List.range k).map fun i=>ptD (atL a b n i)
def ptE (a b : Pnt) (n k : Nat) : List (List D):=if k=0 then List.replicate (n + 1) [.int .i64 0,.int .i64 0] else ptR a b n k
theorem rA (a b : Pnt) (n k : Nat) : (ptR a b n k).length=k:=by simp [ptR]
theorem pc (a b : Pnt) (n k : Nat) : (ptE a b n k).take k=ptR a b n k:=by
 unfold ptE
 split
 ·rename_i h;subst h;simp [ptR]
 ·exact List.take_of_length_le (by rw [rA];exact Nat.le_refl _)
theorem uZ (a b : Pnt) (n k : Nat) : k <= (ptE a b n k).length:=by
 unfold ptE
 split
 ·simp_all
 ·rw [rA];exact Nat.le_refl _
theorem u7 (a b : Pnt) (n k : Nat) : ptR a b n (k + 1)=ptR a b n k++[ptD (atL a b n k)]:=by simp [ptR,List.range_succ]
theorem u5 (a b : Pnt) (n k : Nat) : ptE a b n (k + 1)=ptR a b n k++[ptD (atL a b n k)]:=by
 unfold ptE;rw [if_neg (by omega),u7]
theorem u6 (a b : Pnt) (n : Nat) : ptE a b n 0=List.replicate (n + 1) [.int .i64 0,.int .i64 0]:=by simp [ptE]
theorem xS (a b : Pnt) (n k : Nat) : ∀ e ∈ ptR a b n k,e.length=2 /\ ∀ c ∈ e,au c=true:=by
 intro e he
 obtain ⟨i,_,rfl⟩:=List.mem_map.1 he
 simp [ptD]
theorem JJ (a b : Pnt) (n k : Nat) : (ptR a b n k).map (fun e=>e.map aR)=ptR a b n k:=by
 unfold ptR
 rw [List.map_map]
 exact List.map_congr_left fun i _=>by simp [ptD]
theorem xR (a b : Pnt) (n : Nat) : ptR a b n (n + 1)=(jv a b n).map fun x=>ptD x:=by simp [ptR,jv]
variable {C : CC} (hC : aw prog C)
include hC
theorem jD (x : Int) (c : Int) (hc : 0 < c) (hx : -4611686018427387904 <= x /\ x <= 4611686018427387904) : C 730 [.int .i64 x,.int .i64 c] (.int .i64 (x / c)) []:=by
 have hc0 : ¬ c=0:=by omega
 have b:=pD hc hx
 have w1 : IntKind.wrap .i64 (x.tdiv c)=x.tdiv c:=ae rfl (by omega)
 have w2 : IntKind.wrap .i64 (x.tdiv c - 1)=x.tdiv c - 1:=ae rfl (by omega)
 rw [Al hc]
 refine start hC (nf:=N730) rfl rfl ?_
 simp [N730,hc0,w1]
 by_cases h : x.tmod c < 0
 ·simp [h,w2]
 ·simp [h]
theorem sX (n : Int) : C 740 [.int .i64 n] (.bool (!iO n)) []:=by
 refine start hC (nf:=N740) rfl rfl ?_
 simp [N740,iO]
 by_cases h : n < -4194304
 ·simp [h]
 ·simp [h]
  rw [Bool.eq_iff_iff]
  simp
  omega
theorem pE (b : Bool) (ls : List Int) (hl : ls.length < 2 ^ 62) : C 729 [slx b (ls.map fun n=>[.int .i64 n])] (.bool (ls.all iO)) []:=by
 have k:=lA hC (b:=b) (xs:=ls) (g:=740) (cs:=[]) (fun n=>!iO n) hl (fun x _=>sX hC x)
 have e : (ls.any fun x=>!iO x)=!ls.all iO:=by rw [List.all_eq_not_any_not,Bool.not_not]
 rw [e] at k
 refine start hC (nf:=N729) rfl rfl ?_
 simp [N729]
 refine aa k (.inl rfl) ?_
 simp
theorem xr (a b : Pnt) : C 708 [.nilp,.agg (ptD a),.agg (ptD b)] (.int .i64 (dR a b)) []:=by
 have ka:=fp hC a
 have kb:=fp hC b
 simp only [ptD] at ka kb
 refine start hC (nf:=N708) rfl rfl ?_
 unfold dR
 simp [N708,ptD]
 refine aa ka (.inl rfl) ?_
 cases h1 : okP a
 ·simp
 simp
 refine aa kb (.inl rfl) ?_
 cases h2 : okP b
 ·simp
 simp
 by_cases h3 : a.1=b.1
 ·by_cases h4 : a.2=b.2
  ·simp [h3,h4,Prod.ext h3 h4]
  ·have hne : ¬ a=b:=fun e=>h4 (by rw [e])
   simp [h3,h4,hne]
 ·have hne : ¬ a=b:=fun e=>h3 (by rw [e])
  simp [h3,hne]
theorem tF (a b : Pnt) (n : Int) : C 703 [.nilp,.agg (ptD a),.agg (ptD b),.int .i64 n,.nils] (.int .i64 (dU (dR a b) n [])) []:=by
 have k1:=xr hC a b
 have k2:=pE hC true [] (by simp)
 simp only [ptD] at k1
 refine start hC (nf:=N703) rfl rfl ?_
 unfold dU
 simp [N703,ptD]
 refine aa k1 (.inl rfl) ?_
 clear k1
 generalize dR a b=e
 simp
 by_cases h : e=0
 ·subst h
  simp
  by_cases h1 : n < 1
  ·simp [h1,show ¬ 1 <= n by omega]
  ·by_cases h2 : 999 < n
   ·simp [h1,h2,show ¬ n <= 999 by omega]
   ·simp [h1,h2,show 1 <= n by omega,show n <= 999 by omega]
    simp at k2
    refine aa k2 (.inl rfl) ?_
    simp
    omega
 ·simp [h]
set_option maxHeartbeats 1000000 in
theorem j8 (a b : Pnt) (ha : okP a=true) (hb : okP b=true) (n : Nat) (h1 : 1 <= n) (h2 : n <= 999) : C 704 [.agg (ptD a),.agg (ptD b),.int .i64 n] (.sl ((jv a b n).map fun x=>ptD x)) []:=by
 have ba:=cI ha
 have bb:=cI hb
 have w0 : IntKind.wrap .i64 ((n : Int) + 1)=((n + 1 : Nat) : Int):=ae (by omega) (by omega)
 have w1 : IntKind.wrap .i64 (b.1 - a.1)=b.1 - a.1:=ae rfl (by omega)
 have w2 : IntKind.wrap .i64 (b.2 - a.2)=b.2 - a.2:=ae rfl (by omega)
 refine start hC (nf:=N704) rfl rfl ?_
 simp [N704,ptD,w0]
 refine ⟨by omega,by omega,?_⟩
 refine av Nat (fun k=>[(2,.int .i64 n),(3,.ptr (ptD a)),(4,.ptr (ptD b)),(7,.ref (.r 10112) 0 k),(10112,.blk 2 (ptE a b n k)),(13,.int .i64 ((n + 1 : Nat) : Int)),(14,.int .i64 k)]) (fun k=>k <= n + 1) (fun k=>n + 1 - k) 0 (by simp) (by simp [ptD,u6]) ?_
 intro k hk
 simp
 refine al (fun h=>?_) (fun h=>?_) <;> simp at h
 ·have hw : IntKind.wrap .i64 ((k : Int) + 1)=((k + 1 : Nat) : Int):=ae (by omega) (by omega)
  have hk' : k <= n:=by omega
  have m1:=jY (a:=b.1 - a.1) (b:=(k : Int)) (k:=33554432) (l:=999) (by omega) (by omega) (by omega) (by omega)
  have m2:=jY (a:=b.2 - a.2) (b:=(k : Int)) (k:=33554432) (l:=999) (by omega) (by omega) (by omega) (by omega)
  have w3 : IntKind.wrap .i64 ((b.1 - a.1) * k)=(b.1 - a.1) * k:=ae rfl (by omega)
  have w4 : IntKind.wrap .i64 ((b.2 - a.2) * k)=(b.2 - a.2) * k:=ae rfl (by omega)
  have f1:=jD hC ((b.1 - a.1) * k) n (by omega) (by omega)
  have f2:=jD hC ((b.2 - a.2) * k) n (by omega) (by omega)
  have ho:=cI (tr ha hb (show 0 < n by omega) hk')
  have w5 : IntKind.wrap .i64 (a.1 + (b.1 - a.1) * k / n)=(atL a b n k).1:=ae rfl (by omega)
  have w6 : IntKind.wrap .i64 (a.2 + (b.2 - a.2) * k / n)=(atL a b n k).2:=ae rfl (by omega)
  have hle:=uZ a b n k
  have hss:=u5 a b n k
  have htk:=pc a b n k
  have hpc:=xS a b n k
  simp [h,ptD,w1,w2,w3,w4]
  refine aa f1 (.inl rfl) ?_
  simp [w5,w2,w4]
  refine aa f2 (.inl rfl) ?_
  simp [w6]
  refine ⟨hle,by omega,ai (by decide +kernel),k + 1,by omega,by omega,rfl,?_,hw⟩
  rw [htk,hss];rfl
 ·have ek : k=n + 1:=by omega
  subst ek
  simp [h]
  refine ⟨uZ a b n (n + 1),?_⟩
  rw [<- List.map_take,pc,JJ,xR]
  rfl
end Go.Gv

set_option maxRecDepth 4000
namespace Go.Gv
def fqD (q : Frq) : List D:=[.int .i64 q.1.1,.int .i64 q.1.2]
theorem mnE (x y : Int) : (if y < x then y else x)=min x y:=by split <;> omega
theorem mxE (x y : Int) : (if x < y then y else x)=max x y:=by split <;> omega
def mkE (n d : Int) : Int:=if 1073741824 < n / Nat.gcd n.natAbs d.natAbs \/ 1073741824 < d / Nat.gcd n.natAbs d.natAbs then 5 else 0
def mkQ (n d : Int) : Int × Int:=if mkE n d=0 then (n / Nat.gcd n.natAbs d.natAbs,d / Nat.gcd n.natAbs d.natAbs) else (0,0)
variable {C : CC} (hC : aw prog C)
include hC
theorem xM {a b p : Pnt} (ha : okP a=true) (hb : okP b=true) (hp : okP p=true) : C 732 [.agg (ptD a),.agg (ptD b),.agg (ptD p)] (.bool (onG a b p)) []:=by
 have k:=eX hC ha hb hp
 simp only [ptD] at k
 refine start hC (nf:=N732) rfl rfl ?_
 simp [N732,ptD]
 refine aa k (.inl rfl) ?_
 unfold onG
 by_cases h0 : aF a b p=0
 ·simp [h0,mnE,mxE]
  by_cases h1 : min a.1 b.1 <= p.1
  ·by_cases h2 : p.1 <= max a.1 b.1
   ·by_cases h3 : min a.2 b.2 <= p.2
    ·by_cases h4 : p.2 <= max a.2 b.2
     ·simp [mnE,mxE,h0,h1,h2,h3,h4]
     ·simp [mnE,mxE,h0,h1,h2,h3,h4]
    ·simp [mnE,mxE,h0,h1,h2,h3]
   ·simp [mnE,mxE,h0,h1,h2]
  ·simp [mnE,mxE,h0,h1]
 ·simp [h0]
theorem qR {a b p q : Pnt} (ha : okP a=true) (hb : okP b=true) (hp : okP p=true) (hq : okP q=true) : C 731 [.agg (ptD a),.agg (ptD b),.agg (ptD p),.agg (ptD q)] (.bool (apG a b p q)) []:=by
 have k1:=eX hC ha hb hp
 have k2:=eX hC ha hb hq
 simp only [ptD] at k1 k2
 refine start hC (nf:=N731) rfl rfl ?_
 simp [N731,ptD]
 refine aa k1 (.inl rfl) ?_
 simp
 refine aa k2 (.inl rfl) ?_
 simp
 refine ⟨ai (by decide +kernel),?_⟩
 unfold apG
 generalize aF a b p=x
 generalize aF a b q=y
 by_cases h1 : x < 0
 ·by_cases h2 : 0 < y
  ·simp [h1,h2]
  ·simp [h1,h2,show ¬ 0 < x by omega]
 ·by_cases h3 : 0 < x
  ·simp [h1,h3]
  ·simp [h1,h3]
set_option maxHeartbeats 1000000 in
theorem io {a b c d : Pnt} (ha : okP a=true) (hb : okP b=true) (hc : okP c=true) (hd : okP d=true) (hab : a ≠ b) (hcd : c ≠ d) : C 711 [.agg (ptD a),.agg (ptD b),.agg (ptD c),.agg (ptD d)] (.tup [.int .i64 (lr a b c d),.int .i64 0]) []:=by
 have ka:=qu hC false [a,b,c,d] (by simp)
 have p1:=qR hC ha hb hc hd
 have p2:=qR hC hc hd ha hb
 have o1:=xM hC ha hb hc
 have o2:=xM hC ha hb hd
 have o3:=xM hC hc hd ha
 have o4:=xM hC hc hd hb
 have n1 : ¬ (a.1=b.1 /\ a.2=b.2):=fun e=>hab (Prod.ext e.1 e.2)
 have n2 : ¬ (c.1=d.1 /\ c.2=d.2):=fun e=>hcd (Prod.ext e.1 e.2)
 have n1' : (decide (a.1=b.1) && decide (a.2=b.2))=false:=by
  rw [Bool.eq_false_iff];simp;exact fun e1 e2=>n1 ⟨e1,e2⟩
 have n2' : (decide (c.1=d.1) && decide (c.2=d.2))=false:=by
  rw [Bool.eq_false_iff];simp;exact fun e1 e2=>n2 ⟨e1,e2⟩
 simp [ha,hb,hc,hd] at ka
 simp only [ptD] at ka p1 p2 o1 o2 o3 o4
 unfold lr
 generalize apG a b c d=x1 at *
 generalize apG c d a b=x2 at *
 generalize onG a b c=y1 at *
 generalize onG a b d=y2 at *
 generalize onG c d a=y3 at *
 generalize onG c d b=y4 at *
 refine start hC (nf:=N711) rfl rfl ?_
 simp [N711,ptD]
 refine aa ka (.inl rfl) ?_
 simp [n1',n2']
 refine aa p1 (.inl rfl) ?_
 cases x1
 ·simp
  refine aa o1 (.inl rfl) ?_
  cases y1
  ·simp
   refine aa o2 (.inl rfl) ?_
   cases y2
   ·simp
    refine aa o3 (.inl rfl) ?_
    cases y3
    ·simp
     refine aa o4 (.inl rfl) ?_
     cases y4 <;> simp
    ·simp
   ·simp
  ·simp
 ·simp
  refine aa p2 (.inl rfl) ?_
  cases x2
  ·simp
   refine aa o1 (.inl rfl) ?_
   cases y1
   ·simp
    refine aa o2 (.inl rfl) ?_
    cases y2
    ·simp
     refine aa o3 (.inl rfl) ?_
     cases y3
     ·simp
      refine aa o4 (.inl rfl) ?_
      cases y4 <;> simp
     ·simp
    ·simp
   ·simp
  ·simp
theorem ox (a b : Nat) (ha : a < 18446744073709551616) (hb : b < 18446744073709551616) : C 738 [.int .u64 a,.int .u64 b] (.int .u64 ((Nat.gcd a b : Nat) : Int)) []:=by
 refine start hC (nf:=N738) rfl rfl ?_
 simp [N738]
 refine av (Nat × Nat) (fun s=>[(0,.int .u64 s.1),(1,.int .u64 s.2)]) (fun s=>s.1 < 18446744073709551616 /\ s.2 < 18446744073709551616 /\ Nat.gcd s.1 s.2=Nat.gcd a b) (fun s=>s.2) (a,b) ⟨ha,hb,rfl⟩ (by simp) ?_
 rintro ⟨x,y⟩ ⟨h1,h2,h3⟩
 simp only at h1 h2 h3
 simp
 by_cases hy : y=0
 ·subst hy
  rw [Nat.gcd_zero_right] at h3
  simp [h3]
 ·have hm : (x : Int).tmod (y : Int)=((x % y : Nat) : Int):=by rw [Int.tmod_eq_emod_of_nonneg (by omega)];rfl
  simp [hy,hm]
  refine ⟨ai (by decide +kernel),y,x % y,⟨h2,by have:=Nat.mod_lt x (show 0 < y by omega);omega,?_⟩,Nat.mod_lt x (by omega),rfl,rfl⟩
  rw [Nat.gcd_comm,<- Nat.gcd_rec,Nat.gcd_comm];exact h3
theorem qG (n : Int) (h : -4611686018427387904 <= n /\ n <= 4611686018427387904) : C 739 [.int .i64 n] (.int .u64 (n.natAbs : Int)) []:=by
 refine start hC (nf:=N739) rfl rfl ?_
 have e1 : IntKind.u64.signed=false:=rfl
 have e3 : (2 ^ IntKind.u64.bits : Int)=18446744073709551616:=rfl
 by_cases hn : n < 0
 ·have w1 : IntKind.u64.wrap n=n + 18446744073709551616:=by
   unfold IntKind.wrap
   simp only [e1,e3,Bool.false_and]
   simp;omega
  have w2 : IntKind.u64.wrap (-(n + 18446744073709551616))=-n:=by
   unfold IntKind.wrap
   simp only [e1,e3,Bool.false_and]
   simp;omega
  have e : (n.natAbs : Int)=-n:=by omega
  simp [N739,hn,w1,w2]
  omega
 ·have w1 : IntKind.u64.wrap n=n:=by
   unfold IntKind.wrap
   simp only [e1,e3,Bool.false_and]
   simp;omega
  simp [N739,hn,w1]
  omega
set_option maxHeartbeats 1000000 in
theorem Bs (n d : Int) (hn : 0 <= n /\ n <= 4611686018427387904) (hd : 0 < d /\ d <= 4611686018427387904) : C 733 [.int .i64 n,.int .i64 d] (.tup [.agg [.int .i64 (mkQ n d).1,.int .i64 (mkQ n d).2],.int .i64 (mkE n d)]) []:=by
 obtain ⟨a,rfl⟩:=Int.eq_ofNat_of_zero_le hn.1
 obtain ⟨b,rfl⟩:=Int.eq_ofNat_of_zero_le (show 0 <= d by omega)
 have k1:=qG hC a (by omega)
 have k2:=qG hC b (by omega)
 have k3:=ox hC a b (by omega) (by omega)
 simp only [Int.natAbs_natCast] at k1 k2
 have g0 : 0 < Nat.gcd a b:=Nat.gcd_pos_of_pos_right _ (by omega)
 have g0' : ¬ Nat.gcd a b=0:=by omega
 have hd0 : ¬ b=0:=by omega
 have gb : Nat.gcd a b <= b:=Nat.le_of_dvd (by omega) (Nat.gcd_dvd_right _ _)
 have la:=Nat.div_le_self a (Nat.gcd a b)
 have lb:=Nat.div_le_self b (Nat.gcd a b)
 have t1 : (a : Int).tdiv ((Nat.gcd a b : Nat) : Int)=((a / Nat.gcd a b : Nat) : Int):=by rw [Int.tdiv_eq_ediv_of_nonneg (by omega)];rfl
 have t2 : (b : Int).tdiv ((Nat.gcd a b : Nat) : Int)=((b / Nat.gcd a b : Nat) : Int):=by rw [Int.tdiv_eq_ediv_of_nonneg (by omega)];rfl
 have q1 : (a : Int) / ((Nat.gcd a b : Nat) : Int)=((a / Nat.gcd a b : Nat) : Int):=rfl
 have q2 : (b : Int) / ((Nat.gcd a b : Nat) : Int)=((b / Nat.gcd a b : Nat) : Int):=rfl
 have hE : mkE (a : Int) b=if 1073741824 < ((a / Nat.gcd a b : Nat) : Int) \/ 1073741824 < ((b / Nat.gcd a b : Nat) : Int) then 5 else 0:=by
  unfold mkE
  simp only [Int.natAbs_natCast,q1,q2]
 have hQ : mkQ (a : Int) b=if mkE (a : Int) b=0 then (((a / Nat.gcd a b : Nat) : Int),((b / Nat.gcd a b : Nat) : Int)) else (0,0):=by
  unfold mkQ
  simp only [Int.natAbs_natCast,q1,q2]
 rw [hQ,hE]
 clear hQ hE q1 q2
 generalize a / Nat.gcd a b=x at *
 generalize b / Nat.gcd a b=y at *
 generalize Nat.gcd a b=g at *
 have e1 : IntKind.u64.signed=false:=rfl
 have e3 : (2 ^ IntKind.u64.bits : Int)=18446744073709551616:=rfl
 have w1 : IntKind.u64.wrap (x : Int)=x:=by
  unfold IntKind.wrap
  simp only [e1,e3,Bool.false_and]
  simp;omega
 have w2 : IntKind.u64.wrap (y : Int)=y:=by
  unfold IntKind.wrap
  simp only [e1,e3,Bool.false_and]
  simp;omega
 have w3 : IntKind.i64.wrap (x : Int)=x:=ae rfl (by omega)
 have w4 : IntKind.i64.wrap (y : Int)=y:=ae rfl (by omega)
 have na : ¬ (a : Int) < 0:=by omega
 have nb : ¬ (b : Int) < 0:=by omega
 refine start hC (nf:=N733) rfl rfl ?_
 simp [N733,hd0]
 refine aa k1 (.inl rfl) ?_
 simp
 refine aa k2 (.inl rfl) ?_
 simp
 refine aa k3 (.inl rfl) ?_
 simp [g0',t1,t2,w1,w2]
 refine ⟨ai (by decide +kernel),?_⟩
 by_cases c1 : 1073741824 < x
 ·have c1' : (1073741824 : Int) < x:=by omega
  simp [c1,c1']
 ·have c1' : ¬ (1073741824 : Int) < x:=by omega
  by_cases c2 : 1073741824 < y
  ·have c2' : (1073741824 : Int) < y:=by omega
   simp [c1,c1',c2,c2']
  ·have c2' : ¬ (1073741824 : Int) < y:=by omega
   simp [c1,c1',c2,c2',w3,w4,na,nb]
end Go.Gv

set_option maxRecDepth 4000
namespace Go.Gv
def pU (m : Msh) (i : Nat) : List D:=[.int .i64 (spA m i).x,.int .i64 (spA m i).y,.int .i64 (spB m i).x,.int .i64 (spB m i).y,.int .i64 (spC m i).x,.int .i64 (spC m i).y]
theorem bC (m : Msh) (i : Nat) : pU m i=[.int .i64 (spA m i).x,.int .i64 (spA m i).y,.int .i64 (spB m i).x,.int .i64 (spB m i).y,.int .i64 (spC m i).x,.int .i64 (spC m i).y]:=_root_.id rfl
def oF (m : Msh) (a b : Pnt) (k : Nat) : List Nat:=(List.range k).filter fun i=>gZ m i a b
theorem mR (m : Msh) (a b : Pnt) (k : Nat) : oF m a b (k + 1)=oF m a b k++(if gZ m k a b=true then [k] else []):=by
 unfold oF
 rw [List.range_succ,List.filter_append]
 congr 1
 by_cases h : gZ m k a b=true
 ·simp [h]
 ·simp [h]
theorem ui (m : Msh) (a b : Pnt) (k : Nat) : (oF m a b k).length <= k:=by
 unfold oF
 have:=List.length_filter_le (fun i=>gZ m i a b) (List.range k)
 simpa using this
def kQ (m : Msh) (a b : Pnt) (k : Nat) : List (List D):=(oF m a b k).map fun (i : Nat)=>[D.int .i64 ((i : Nat) : Int)]
theorem uh (m : Msh) (a b : Pnt) (k : Nat) : (kQ m a b k).length=(oF m a b k).length:=by simp [kQ]
theorem ug (m : Msh) (a b : Pnt) (k : Nat) : ∀ e ∈ kQ m a b k,e.length=1 /\ ∀ c ∈ e,au c=true:=by
 intro e he
 obtain ⟨i,_,rfl⟩:=List.mem_map.1 he
 simp
theorem A3 (m : Msh) (a b : Pnt) (k : Nat) : (kQ m a b k).map (fun e=>e.map aR)=kQ m a b k:=by
 unfold kQ
 rw [List.map_map]
 exact List.map_congr_left fun i _=>by simp
def bS (m : Msh) (a b : Pnt) : Int:=if aC m=true then dR a b else 1
variable {C : CC} (hC : aw prog C)
include hC
set_option maxHeartbeats 1000000 in
theorem ml (m : Msh) (i : Nat) (hi : i < m.f.length) (h : inS m (fce m i)=true) : C 710 [.agg (aZ m),.agg (aY (fce m i))] (.agg (pU m i)) []:=by
 obtain ⟨⟨a1,a2⟩,⟨b1,b2⟩,⟨c1,c2⟩⟩:=gm h
 unfold pU spA spB spC spt
 generalize fce m i=f at *
 rw [getElem!_pos m.s _ a2,getElem!_pos m.s _ b2,getElem!_pos m.s _ c2]
 refine start hC (nf:=N710) rfl rfl ?_
 simp [N710,ab,aX]
 refine av Nat (fun k=>[(2,.ptr [slx m.sn (m.s.map bk),slx m.fn (m.f.map aY)]),(4,.adr (.r 10064) 0 0),(5,.adr (.r 10080) 0 0),(14,.ref (.r 10224) 0 3),(15,.int .i64 3),(16,.int .i64 k),(10064,.blk 6 [[.int .i64 0,.int .i64 0,.int .i64 0,.int .i64 0,.int .i64 0,.int .i64 0]]),
  (10080,.blk 6 [([.int .i64 m.s[f.a.toNat].x,.int .i64 m.s[f.a.toNat].y,.int .i64 m.s[f.b.toNat].x,.int .i64 m.s[f.b.toNat].y,.int .i64 m.s[f.c.toNat].x,.int .i64 m.s[f.c.toNat].y] : List D).take (2 * k)++List.replicate (6 - 2 * k) (.int .i64 0)]),(10224,.blk 1 [[.int .i64 f.a],[.int .i64 f.b],[.int .i64 f.c]])]) (fun k=>k <= 3) (fun k=>3 - k) 0 (by simp) (by simp [List.replicate]) ?_
 rintro k hk
 rcases (by omega : k=0 \/ k=1 \/ k=2 \/ k=3) with rfl | rfl | rfl | rfl
 ·have w : IntKind.wrap .i64 (1 : Int)=1:=by decide
  simp [a1,a2,bq,w,List.replicate]
  refine ⟨ai (by decide +kernel),1,?_⟩
  simp [List.replicate]
 ·have w : IntKind.wrap .i64 (2 : Int)=2:=by decide
  simp [b1,b2,bq,w,List.replicate]
  refine ⟨ai (by decide +kernel),2,?_⟩
  simp [List.replicate]
 ·have w : IntKind.wrap .i64 (3 : Int)=3:=by decide
  simp [c1,c2,bq,w,List.replicate]
  refine ⟨ai (by decide +kernel),3,?_⟩
  simp [List.replicate]
 ·simp [List.replicate]
theorem nU (dec : Nat -> List UInt8) (hI : ∀ n : Nat,n < 100 -> C 127 [.int .i64 n] (.str (dec n)) []) (m : Msh) (hz : bL m=true -> m.s.length <= 100 /\ m.f.length <= 100) (a b : Pnt) : C 708 [.ptr (aZ m),.agg (ptD a),.agg (ptD b)] (.int .i64 (bS m a b)) []:=by
 have ka:=fp hC a
 have kb:=fp hC b
 have km:=lJ hC dec hI m hz
 simp only [ptD] at ka kb
 simp only [ab] at km
 refine start hC (nf:=N708) rfl rfl ?_
 unfold bS dR
 simp [N708,ptD,ab]
 refine aa km (.inl rfl) ?_
 cases h0 : aC m
 ·simp
 simp
 refine aa ka (.inl rfl) ?_
 cases h1 : okP a
 ·simp
 simp
 refine aa kb (.inl rfl) ?_
 cases h2 : okP b
 ·simp
 simp
 by_cases h3 : a.1=b.1
 ·by_cases h4 : a.2=b.2
  ·simp [h3,h4,Prod.ext h3 h4]
  ·have hne : ¬ a=b:=fun e=>h4 (by rw [e])
   simp [h3,h4,hne]
 ·have hne : ¬ a=b:=fun e=>h3 (by rw [e])
  simp [h3,hne]
set_option maxHeartbeats 2000000 in
theorem xw (m : Msh) (hv : aC m=true) (i : Nat) (hi : i < m.f.length) {a b : Pnt} (ha : okP a=true) (hb : okP b=true) (hab : a ≠ b) : C 709 [.agg (pU m i),.agg (ptD a),.agg (ptD b)] (.bool (gZ m i a b)) []:=by
 have i1:=m8 hC m hv i hi a ha
 have i2:=m8 hC m hv i hi b hb
 have k0:=io hC ha hb (cQ hv hi 0) (cQ hv hi 1) hab (gi hv hi 0 (by omega))
 have k1:=io hC ha hb (cQ hv hi 1) (cQ hv hi 2) hab (gi hv hi 1 (by omega))
 have k2:=io hC ha hb (cQ hv hi 2) (cQ hv hi 0) hab (gi hv hi 2 (by omega))
 have e0 : lr a b (cnr m i 0) (cnr m i 1)=eA m i 0 a b:=rfl
 have e1 : lr a b (cnr m i 1) (cnr m i 2)=eA m i 1 a b:=rfl
 have e2 : lr a b (cnr m i 2) (cnr m i 0)=eA m i 2 a b:=rfl
 rw [e0] at k0
 rw [e1] at k1
 rw [e2] at k2
 have c0 : cnr m i 0=ptS (spA m i):=rfl
 have c1 : cnr m i 1=ptS (spB m i):=rfl
 have c2 : cnr m i 2=ptS (spC m i):=rfl
 rw [c0,c1] at k0
 rw [c1,c2] at k1
 rw [c2,c0] at k2
 have o1:=ri m i a
 have o2:=ri m i b
 obtain ⟨r,hr⟩ : ∃ r,r=gZ m i a b:=⟨_,rfl⟩
 rw [<- hr]
 unfold gZ at hr
 rw [<- o1,<- o2] at hr
 have hr' : r=(decide (0 <= oM m i a) || decide (0 <= oM m i b) || (decide (0 < eA m i 0 a b) || decide (0 < eA m i 1 a b) || decide (0 < eA m i 2 a b))):=by
  rw [hr];simp [List.range,List.range.loop,Bool.or_assoc]
 clear hr o1 o2 e0 e1 e2 c0 c1 c2
 generalize oM m i a=x at *
 generalize oM m i b=y at *
 generalize eA m i 0 a b=z0 at *
 generalize eA m i 1 a b=z1 at *
 generalize eA m i 2 a b=z2 at *
 simp only [ptD,ptS] at i1 i2 k0 k1 k2
 have w1 : IntKind.wrap .i64 (1 : Int)=1:=by decide
 have w2 : IntKind.wrap .i64 (2 : Int)=2:=by decide
 have w3 : IntKind.wrap .i64 (3 : Int)=3:=by decide
 refine start hC (nf:=N709) rfl rfl ?_
 simp [N709,ptD,bC]
 refine av Nat (fun k=>[(3,.ptr (pU m i)),(4,.ptr (ptD a)),(5,.ptr (ptD b)),(16,.ref (.r 10256) 0 2),(17,.int .i64 2),(18,.int .i64 k),(10256,.blk 2 [ptD a,ptD b])]) (fun k=>k <= 2 /\ (0 < k -> ¬ 0 <= x) /\ (1 < k -> ¬ 0 <= y)) (fun k=>2 - k) 0 (by simp) (by simp [bC,ptD]) ?_
 rintro k ⟨hk,g1,g2⟩
 rcases (by omega : k=0 \/ k=1 \/ k=2) with rfl | rfl | rfl
 ·simp [ptD,bC]
  refine aa i1 (.inl rfl) ?_
  simp
  refine al (fun h1=>?_) (fun h1=>?_) <;> simp at h1
  ·simp [hr',h1]
  ·simp [w1,show ¬ 0 <= x by omega]
   exact ⟨1,by simp [bC,ptD];try omega⟩
 ·have gx:=g1 (by omega)
  simp [ptD,bC]
  refine aa i2 (.inl rfl) ?_
  simp
  refine al (fun h1=>?_) (fun h1=>?_) <;> simp at h1
  ·simp [hr',h1]
  ·simp [w2,show ¬ 0 <= y by omega]
   exact ⟨2,by simp [bC,ptD];try omega⟩
 ·have gx:=g1 (by omega)
  have gy:=g2 (by omega)
  simp
  refine av Nat (fun k=>[(3,.ptr (pU m i)),(4,.ptr (ptD a)),(5,.ptr (ptD b)),(40,.int .i64 k)]) (fun k=>k <= 3 /\ (0 < k -> ¬ 0 < z0) /\ (1 < k -> ¬ 0 < z1) /\ (2 < k -> ¬ 0 < z2)) (fun k=>3 - k) 0 (by simp) (by simp [bC,ptD]) ?_
  rintro k ⟨hk,j0,j1,j2⟩
  rcases (by omega : k=0 \/ k=1 \/ k=2 \/ k=3) with rfl | rfl | rfl | rfl
  ·simp [ptD,bC,w1]
   refine aa k0 (.inl rfl) ?_
   simp
   refine ⟨ai (by decide +kernel),?_⟩
   refine al (fun h1=>?_) (fun h1=>?_) <;> simp at h1
   ·simp [hr',h1]
   ·simp [show ¬ 0 < z0 by omega,w1]
    exact ⟨1,by simp [bC,ptD];try omega⟩
  ·simp [ptD,bC,w2]
   refine aa k1 (.inl rfl) ?_
   simp
   refine ⟨ai (by decide +kernel),?_⟩
   refine al (fun h1=>?_) (fun h1=>?_) <;> simp at h1
   ·simp [hr',h1]
   ·simp [show ¬ 0 < z1 by omega,w2]
    exact ⟨2,by simp [bC,ptD];try omega⟩
  ·simp [ptD,bC,w3]
   refine aa k2 (.inl rfl) ?_
   simp
   refine ⟨ai (by decide +kernel),?_⟩
   refine al (fun h1=>?_) (fun h1=>?_) <;> simp at h1
   ·simp [hr',h1]
   ·simp [show ¬ 0 < z2 by omega,w3]
    exact ⟨3,by simp [bC,ptD];try omega⟩
  ·have h0:=j0 (by omega)
   have h1:=j1 (by omega)
   have h2:=j2 (by omega)
   simp [hr',gx,gy,h0,h1,h2]
end Go.Gv

set_option maxRecDepth 4000
namespace Go.Gv
theorem tK {x z : Int} (h0 : ¬ z=0) (h1 : ¬ z < 0) (h2 : ¬ x < 0) (h3 : ¬ z < x) : da x z=mkE x z /\ dN x z=mkQ x z:=by
 have e : da x z=mkE x z:=by
  unfold da mkE cR
  rw [if_neg h0,if_neg h1,if_neg (by simp only [not_or];exact ⟨h2,h3⟩)]
 refine ⟨e,?_⟩
 unfold dN mkQ
 rw [e]
 unfold cR
 rw [if_neg h1]
theorem tJ {x z : Int} (h0 : ¬ z=0) (h1 : z < 0) (h2 : ¬ -x < 0) (h3 : ¬ -z < -x) : da x z=mkE (-x) (-z) /\ dN x z=mkQ (-x) (-z):=by
 have e : da x z=mkE (-x) (-z):=by
  unfold da mkE cR
  rw [if_neg h0,if_pos h1,if_neg (by simp only [not_or];exact ⟨h2,h3⟩)]
 refine ⟨e,?_⟩
 unfold dN mkQ
 rw [e]
 unfold cR
 rw [if_pos h1]
theorem nD {x z : Int} (h0 : ¬ z=0) (h : if z < 0 then -x < 0 \/ -z < -x else x < 0 \/ z < x) : da x z=2:=by
 unfold da cR
 rw [if_neg h0,if_pos]
 split at h <;> rename_i h1
 ·rw [if_pos h1];exact h
 ·rw [if_neg h1];exact h
theorem lu {x z : Int} (h : da x z ≠ 0) : dN x z=(0,0):=by unfold dN;rw [if_neg h]
variable {C : CC} (hC : aw prog C)
include hC
set_option maxHeartbeats 1000000 in
theorem tN {a b c d : Pnt} (ha : okP a=true) (hb : okP b=true) (hc : okP c=true) (hd : okP d=true) (hab : a ≠ b) (hcd : c ≠ d) : C 712 [.agg (ptD a),.agg (ptD b),.agg (ptD c),.agg (ptD d)] (.tup [.agg [.int .i64 (dN (aF c d a) (aF c d a - aF c d b)).1,.int .i64 (dN (aF c d a) (aF c d a - aF c d b)).2],.int .i64 (da (aF c d a) (aF c d a - aF c d b))]) []:=by
 have ka:=qu hC false [a,b,c,d] (by simp)
 have t1:=eX hC hc hd ha
 have t2:=eX hC hc hd hb
 have b1:=ga hc hd ha
 have b2:=ga hc hd hb
 have n1 : ¬ (a.1=b.1 /\ a.2=b.2):=fun e=>hab (Prod.ext e.1 e.2)
 have n2 : ¬ (c.1=d.1 /\ c.2=d.2):=fun e=>hcd (Prod.ext e.1 e.2)
 have n1' : (decide (a.1=b.1) && decide (a.2=b.2))=false:=by
  rw [Bool.eq_false_iff];simp;exact fun e1 e2=>n1 ⟨e1,e2⟩
 have n2' : (decide (c.1=d.1) && decide (c.2=d.2))=false:=by
  rw [Bool.eq_false_iff];simp;exact fun e1 e2=>n2 ⟨e1,e2⟩
 simp [ha,hb,hc,hd] at ka
 simp only [ptD] at ka t1 t2
 obtain ⟨x,hx⟩ : ∃ x,x=aF c d a:=⟨_,rfl⟩
 obtain ⟨y,hy⟩ : ∃ y,y=aF c d b:=⟨_,rfl⟩
 rw [<- hx] at b1 t1 ⊢
 rw [<- hy] at b2 t2 ⊢
 clear hx hy
 have km : ∀ n d : Int,0 <= n /\ n <= 4611686018427387904 -> 0 < d /\ d <= 4611686018427387904 -> C 733 [.int .i64 n,.int .i64 d] (.tup [.agg [.int .i64 (mkQ n d).1,.int .i64 (mkQ n d).2],.int .i64 (mkE n d)]) []:=fun n d h1 h2=>Bs hC n d h1 h2
 have w : IntKind.wrap .i64 (x - y)=x - y:=ae rfl (by omega)
 have w1 : IntKind.wrap .i64 (-x)=-x:=ae rfl (by omega)
 have w2 : IntKind.wrap .i64 (-(x - y))=-(x - y):=ae rfl (by omega)
 refine start hC (nf:=N712) rfl rfl ?_
 simp [N712,ptD]
 refine aa ka (.inl rfl) ?_
 simp [n1',n2']
 refine aa t1 (.inl rfl) ?_
 simp
 refine aa t2 (.inl rfl) ?_
 simp [w]
 obtain ⟨z,hz⟩ : ∃ z,z=x - y:=⟨_,rfl⟩
 rw [<- hz] at w2 ⊢
 by_cases h0 : z=0
 ·have e : da x z=16:=by unfold da;rw [if_pos h0]
  rw [e,lu (by rw [e];decide)]
  simp [h0]
 by_cases h1 : z < 0
 ·by_cases h2 : -x < 0
  ·have e:=nD (x:=x) h0 (by rw [if_pos h1];exact .inl h2)
   rw [e,lu (by rw [e];decide)]
   simp [h0,h1,w1,w2,show 0 < x by omega]
  ·by_cases h3 : -z < -x
   ·have e:=nD (x:=x) h0 (by rw [if_pos h1];exact .inr h3)
    rw [e,lu (by rw [e];decide)]
    simp [h0,h1,w1,w2,show ¬ 0 < x by omega,show x < z by omega]
   ·obtain ⟨e1,e2⟩:=tJ h0 h1 h2 h3
    rw [e1,e2]
    simp [h0,h1,w1,w2,show ¬ 0 < x by omega,show ¬ x < z by omega]
    refine aa (km (-x) (-z) (by omega) (by omega)) (.inl rfl) ?_
    simp
 ·by_cases h2 : x < 0
  ·have e:=nD (x:=x) h0 (by rw [if_neg h1];exact .inl h2)
   rw [e,lu (by rw [e];decide)]
   simp [h0,h1,h2]
  ·by_cases h3 : z < x
   ·have e:=nD (x:=x) h0 (by rw [if_neg h1];exact .inr h3)
    rw [e,lu (by rw [e];decide)]
    simp [h0,h1,h2,h3]
   ·obtain ⟨e1,e2⟩:=tK h0 h1 h2 h3
    rw [e1,e2]
    simp [h0,h1,h2,h3]
    refine aa (km x z (by omega) (by omega)) (.inl rfl) ?_
    simp
set_option maxHeartbeats 1000000 in
theorem vM (dec : Nat -> List UInt8) (hI : ∀ n : Nat,n < 100 -> C 127 [.int .i64 n] (.str (dec n)) []) (m : Msh) (hz : bL m=true -> m.s.length <= 100 /\ m.f.length <= 100) (a b : Pnt) (h0 : bS m a b=0) : C 682 [.agg (aZ m),.agg (ptD a),.agg (ptD b)] (.tup [.sl (kQ m a b m.f.length),.int .i64 0]) []:=by
 have kl:=nU hC dec hI m hz a b
 rw [h0] at kl
 have hv : aC m=true:=by
  unfold bS at h0
  by_cases h : aC m=true
  ·exact h
  ·rw [if_neg h] at h0;cases h0
 have h1 : dR a b=0:=by unfold bS at h0;rwa [if_pos hv] at h0
 have hab : okP a=true /\ okP b=true /\ a ≠ b:=by
  unfold dR at h1
  split at h1
  ·rename_i h
   refine ⟨h.1,h.2,fun e=>?_⟩
   rw [if_pos e] at h1;cases h1
  ·cases h1
 obtain ⟨oa,ob,hne⟩:=hab
 have hfl:=(ii hv).2
 simp only [ab,ptD] at kl
 refine start hC (nf:=N682) rfl rfl ?_
 simp [N682,ptD,ab]
 refine aa kl (.inl rfl) ?_
 obtain ⟨R,hR⟩ : ∃ R,R=kQ m a b:=⟨_,rfl⟩
 have hR0 : R 0=[]:=by rw [hR];rfl
 have hRl : ∀ i,(R i).length <= i:=fun i=>by rw [hR,uh];exact ui m a b i
 have hRp : ∀ i,gZ m i a b=true -> R (i + 1)=R i++[[.int .i64 (i : Int)]]:=fun i h=>by rw [hR];unfold kQ;rw [mR,if_pos h];simp
 have hRn : ∀ i,gZ m i a b=false -> R (i + 1)=R i:=fun i h=>by rw [hR];unfold kQ;rw [mR,if_neg (by simp [h])];simp
 have hRv : ∀ i,(R i).map (fun e=>e.map aR)=R i:=fun i=>by rw [hR];exact A3 m a b i
 have hRc : ∀ i,∀ e ∈ R i,e.length=1 /\ ∀ c ∈ e,au c=true:=fun i=>by rw [hR];exact ug m a b i
 rw [<- hR]
 simp
 refine av Nat (fun i=>[(3,.ptr (aZ m)),(4,.ptr (ptD a)),(5,.ptr (ptD b)),(9,.ref (.r 10144) 0 (R i).length),(19,slx m.fn (m.f.map aY)),(20,.int .i64 m.f.length),(21,.int .i64 i),(10144,.blk 1 (R i))])
  (fun i=>i <= m.f.length) (fun i=>m.f.length - i) 0 (by simp) (by simp [ab,ptD,hR0]) ?_
 rintro i hi
 simp
 refine al (fun h1=>?_) (fun h1=>?_) <;> simp at h1 <;> simp [h1]
 ·have hw : IntKind.wrap .i64 ((i : Int) + 1)=((i + 1 : Nat) : Int):=ae (by omega) (by omega)
  have kc:=ml hC m i h1 (ev hv h1)
  have km:=xw hC m hv i h1 oa ob hne
  have hRi:=hRl i
  simp only [ab,aX] at kc
  simp only [ptD] at km
  simp [ab,ptD,h1,aX]
  refine aa kc (.inr rfl) ?_
  simp [ab,ptD]
  refine aa km (.inl rfl) ?_
  cases hb : gZ m i a b
  ·simp
   refine ⟨ai (by decide +kernel),?_⟩
   simp [hw]
   exact ⟨i + 1,by omega,by omega,by simp [ab,ptD,hRn i hb]⟩
  ·have hq:=hRc i
   simp [hw]
   refine ⟨ai (by decide +kernel),?_⟩
   exact ⟨by omega,i + 1,by omega,by omega,by simp [ab,ptD,hRp i hb]⟩
 ·have : i=m.f.length:=by omega
  subst this
  simp [hRv]
end Go.Gv

set_option maxRecDepth 4000
namespace Go.Gv
def fqR (L : List Frq) : List (List D):=L.map fqD
theorem cr (L : List Frq) : (fqR L).length=L.length:=by simp [fqR]
theorem nR {L : List Frq} {j : Nat} (h : j < L.length) : (fqR L)[j]? = some [.int .i64 L[j].1.1,.int .i64 L[j].1.2]:=by simp [fqR,h,fqD]
theorem xg {L : List Frq} {j : Nat} (x : Frq) : (fqR L).set j [.int .i64 x.1.1,.int .i64 x.1.2]=fqR (L.set j x):=by simp [fqR,fqD]
theorem uv (L : List Frq) (k : Nat) : (fqR L).take k=fqR (L.take k):=by simp [fqR]
theorem nO (L : List Frq) : ∀ e ∈ fqR L,∀ c ∈ e,au c=true:=by
 intro e he c hc
 obtain ⟨x,_,rfl⟩:=List.mem_map.1 he
 simp [fqD] at hc
 rcases hc with rfl | rfl <;> rfl
theorem jn (L : List Frq) : ∀ e ∈ fqR L,∀ c ∈ e,bi c=true:=by
 intro e he c hc
 obtain ⟨x,_,rfl⟩:=List.mem_map.1 he
 simp [fqD] at hc
 rcases hc with rfl | rfl <;> rfl
theorem rg (L : List Frq) : ∀ e ∈ fqR L,e.length=2:=by
 intro e he
 obtain ⟨x,_,rfl⟩:=List.mem_map.1 he
 rfl
def wi (C : CC) : Prop:=∀ L : List Frq,L.length < 2 ^ 62 -> (∀ x y : Frq,C 714 [.agg (fqD x),.agg (fqD y)] (.int .i64 (fqC x y)) []) -> C 713 [.own 2 (fqR L),.fn 714 []] .any [.own 2 (fqR (mg fqC L)),.nilp]
section
variable {α : Type} [DecidableEq α]
theorem oB : ∀ (l : List α) (x : α),ddL (l++[x])=if l.getLast? = some x then ddL l else ddL l++[x]
 | [],x=>by simp [ddL]
 | [y],x=>by
  simp only [List.cons_append,List.nil_append,gM,List.getLast?_singleton,Option.some.injEq]
  by_cases e : y=x
  ·rw [if_pos e,if_pos e];subst e;rfl
  ·rw [if_neg e,if_neg e];rfl
 | y::z::r,x=>by
  have ih:=oB (z::r) x
  have e0 : y::z::r++[x]=y::z::(r++[x]):=rfl
  have e1 : z::r++[x]=z::(r++[x]):=rfl
  have e2 : (y::z::r).getLast? = (z::r).getLast?:=rfl
  rw [e0,gM,<- e1,ih,e2,gM]
  by_cases e : y=z
  ·rw [if_pos e,if_pos e]
  ·rw [if_neg e,if_neg e]
   split
   ·rfl
   ·rfl
theorem oC (l : List α) {m : Nat} (hm : m < l.length) (h0 : 0 < m) : ddL (l.take (m + 1))=if l[m - 1]=l[m] then ddL (l.take m) else ddL (l.take m)++[l[m]]:=by
 have e : l.take (m + 1)=l.take m++[l[m]]:=by rw [List.take_succ_eq_append_getElem hm]
 have e2 : (l.take m).getLast? = some l[m - 1]:=by
  rw [List.getLast?_eq_getElem?]
  simp only [List.length_take,Nat.min_eq_left (Nat.le_of_lt hm)]
  rw [List.getElem?_take_of_lt (by omega),List.getElem?_eq_getElem (by omega)]
 rw [e,oB,e2]
 simp only [Option.some.injEq]
end
variable {C : CC} (hC : aw prog C)
include hC
theorem nj (q : Frq) : C 722 [.agg (fqD q)] (.bool true) []:=by
 obtain ⟨h1,h2,h3,h4,h5⟩:=q.2
 have k1:=qG hC q.1.1 (by omega)
 have wu : IntKind.u64.wrap q.1.2=(q.1.2.natAbs : Int):=by
  have e1 : IntKind.u64.signed=false:=rfl
  have e3 : (2 ^ IntKind.u64.bits : Int)=18446744073709551616:=rfl
  unfold IntKind.wrap
  simp only [e1,e3,Bool.false_and]
  simp
  omega
 have k3:=ox hC q.1.1.natAbs q.1.2.natAbs (by omega) (by omega)
 rw [h5] at k3
 refine start hC (nf:=N722) rfl rfl ?_
 simp [N722,fqD,show 1 <= q.1.2 by omega,h2,h3,h4]
 refine aa k1 (.inl rfl) ?_
 simp
 rw [wu]
 refine aa k3 (.inl rfl) ?_
 simp
 exact ai (by decide +kernel)
theorem x4 (x y : Frq) : C 690 [.agg (fqD x),.agg (fqD y)] (.tup [.int .i64 (fqC x y),.int .i64 0]) []:=by
 obtain ⟨h1,h2,h3,h4,h5⟩:=x.2
 obtain ⟨g1,g2,g3,g4,g5⟩:=y.2
 have k1:=nj hC x
 have k2:=nj hC y
 simp only [fqD] at k1 k2
 have m1 : -1152921504606846976 <= x.1.1 * y.1.2 /\ x.1.1 * y.1.2 <= 1152921504606846976:=by
  have a1:=Int.mul_le_mul_of_nonneg_right h4 (show 0 <= y.1.2 by omega)
  have a2:=Int.mul_le_mul_of_nonneg_right h3 (show 0 <= y.1.2 by omega)
  omega
 have m2 : -1152921504606846976 <= y.1.1 * x.1.2 /\ y.1.1 * x.1.2 <= 1152921504606846976:=by
  have a1:=Int.mul_le_mul_of_nonneg_right g4 (show 0 <= x.1.2 by omega)
  have a2:=Int.mul_le_mul_of_nonneg_right g3 (show 0 <= x.1.2 by omega)
  omega
 unfold fqC
 generalize hu : x.1.1 * y.1.2=u at *
 generalize hv : y.1.1 * x.1.2=v at *
 have w1 : IntKind.wrap .i64 u=u:=ae rfl (by omega)
 have w2 : IntKind.wrap .i64 v=v:=ae rfl (by omega)
 have w3 : IntKind.wrap .i64 (u - v)=u - v:=ae rfl (by omega)
 refine start hC (nf:=N690) rfl rfl ?_
 simp [N690,fqD]
 refine aa k1 (.inl rfl) ?_
 simp
 refine aa k2 (.inl rfl) ?_
 simp [hu,hv,w1,w2,w3]
 by_cases c1 : u < v
 ·simp [c1,show u - v < 0 by omega]
 ·by_cases c2 : v < u
  ·simp [c1,c2,show ¬ u - v < 0 by omega,show 0 < u - v by omega]
  ·simp [c1,c2,show ¬ u - v < 0 by omega,show ¬ 0 < u - v by omega]
theorem Ct (x y : Frq) : C 714 [.agg (fqD x),.agg (fqD y)] (.int .i64 (fqC x y)) []:=by
 have k1:=x4 hC x y
 simp only [fqD] at k1
 refine start hC (nf:=N714) rfl rfl ?_
 simp [N714,fqD]
 refine aa k1 (.inl rfl) ?_
 simp
set_option maxHeartbeats 1000000 in
theorem wE (L : List Frq) (hl : L.length < 2 ^ 40) : C 715 [.own 2 (fqR L)] .any [.own 2 (fqR (ddL L)),.nils,.nils]:=by
 refine Cr hC (nf:=N715) rfl rfl (by simp) (by omega) ?_
 simp [N715,cr]
 refine al (fun h=>?_) (fun h=>?_) <;> simp at h
 ·simp [h,cr]
  have e : ddL L=L:=by
   match L,h with
   | [],_=>rfl
   | [x],_=>rfl
   | x::y::r,h=>simp at h;omega
  rw [e]
  exact ⟨jn L,List.take_of_length_le (by rw [cr];exact Nat.le_refl _)⟩
 ·simp [h]
  refine av Nat (fun k=>[(0,.ref (.r 10015) 0 L.length),(3,.int .i64 k),(10015,.blk 2 (fqR L))]) (fun k=>1 <= k /\ k <= L.length /\ ddL (L.take k)=L.take k) (fun k=>L.length - k) 1 ⟨by omega,by omega,?_⟩ (by simp) ?_
  ·match L,h with
   | x::r,h=>simp [ddL]
  rintro k ⟨h1,h2,h3⟩
  simp
  refine al (fun h4=>?_) (fun h4=>?_) <;> simp at h4
  ·have hw : IntKind.wrap .i64 ((k : Int) - 1)=((k - 1 : Nat) : Int):=by
    rw [show (k : Int) - 1=((k - 1 : Nat) : Int) by omega]
    exact ae (by omega) (by omega)
   have hw2 : IntKind.wrap .i64 ((k : Int) + 1)=((k + 1 : Nat) : Int):=ae (by omega) (by omega)
   simp [h4,hw,bO (nR h4),bO (nR (show k - 1 < L.length by omega))]
   refine ⟨by omega,ai (by decide +kernel),?_⟩
   have ht:=oC L h4 (by omega)
   refine al (fun h5=>?_) (fun h5=>?_)
   ·have h6 : L[k - 1]=L[k]:=by
     simp only [Bool.and_eq_true,decide_eq_true_eq] at h5
     exact Subtype.ext (Prod.ext h5.1.symm h5.2.symm)
    rw [if_pos h6,h3] at ht
    have h5' : (decide (L[k].1.1=L[k - 1].1.1) && decide (L[k].1.2=L[k - 1].1.2))=true:=h5
    rw [h5']
    clear h5 h5'
    simp [h4,h2,cr]
    refine av (Nat × Nat × List Frq) (fun s=>[(0,.ref (.r 10015) 0 L.length),(3,.int .i64 s.2.1),(4,.ref (.r 10015) k (L.length - k)),(5,.int .i64 s.1),(10015,.blk 2 (fqR s.2.2))])
     (fun s=>1 <= s.1 /\ s.1 + k <= L.length /\ k <= s.2.1 /\ s.2.1 + 1 <= k + s.1 /\ s.2.2.length=L.length /\ s.2.2.take s.2.1=ddL (L.take (k + s.1)) /\ ∀ j,k + s.1 <= j + 1 -> s.2.2[j]? = L[j]?)
     (fun s=>L.length - s.1) (1,k,L) ⟨by simp,by simp;omega,by simp,by simp,rfl,by simp [ht],by simp⟩ (by simp) ?_
    rintro ⟨j,q,W⟩ ⟨a1,a2,a3,a4,a5,a6,a7⟩
    simp only at a1 a2 a3 a4 a5 a6 a7
    simp
    refine al (fun h7=>?_) (fun h7=>?_) <;> simp at h7
    ·have hkj : k + j < L.length:=by omega
     have w1 : W[k + j]? = L[k + j]?:=a7 _ (by omega)
     have w2 : W[k + (j - 1)]? = L[k + (j - 1)]?:=a7 _ (by omega)
     have g1 : (fqR W)[k + j]? = some [.int .i64 L[k + j].1.1,.int .i64 L[k + j].1.2]:=by
      unfold fqR
      rw [List.getElem?_map,w1,List.getElem?_eq_getElem hkj];rfl
     have g2 : (fqR W)[k + (j - 1)]? = some [.int .i64 L[k + (j - 1)].1.1,.int .i64 L[k + (j - 1)].1.2]:=by
      unfold fqR
      rw [List.getElem?_map,w2,List.getElem?_eq_getElem (show k + (j - 1) < L.length by omega)];rfl
     have hv : IntKind.wrap .i64 ((j : Int) - 1)=((j - 1 : Nat) : Int):=ae (by omega) (by omega)
     have hv2 : IntKind.wrap .i64 ((j : Int) + 1)=((j + 1 : Nat) : Int):=ae (by omega) (by omega)
     have hv3 : IntKind.wrap .i64 ((q : Int) + 1)=((q + 1 : Nat) : Int):=ae (by omega) (by omega)
     simp [h7,hv,bO g1,bO g2]
     refine ⟨by omega,ai (by decide +kernel),?_⟩
     have ht2:=oC L hkj (by omega)
     refine al (fun h8=>?_) (fun h8=>?_)
     ·have hne : L[k + j - 1] ≠ L[k + j]:=fun e=>by
       have e2 : L[k + (j - 1)]=L[k + j]:=by
        rw [<- e]
        congr 1
        omega
       rw [e2] at h8
       simp at h8
      rw [if_neg hne] at ht2
      rw [h8]
      have hq : q < L.length:=by omega
      have hqW : q < W.length:=by omega
      have e9 : (fqR W)[q]'(by rw [cr];exact hqW)=[.int .i64 W[q].1.1,.int .i64 W[q].1.2]:=(List.getElem?_eq_some_iff.1 (nR hqW)).2
      simp [h7,hv,hv2,hv3,bO g1,cr,a5,hq,e9]
      refine ⟨j + 1,q + 1,W.set q L[k + j],⟨by omega,by omega,by omega,by omega,by simp [a5],?_,fun i hi=>?_⟩,by omega,by omega,by omega,xg _⟩
      ·rw [List.take_succ_eq_append_getElem (by simp;exact hqW),List.take_set_of_le (Nat.le_refl _),a6,show k + (j + 1)=k + j + 1 by omega,ht2]
       simp
      ·rw [List.getElem?_set,if_neg (by omega)]
       exact a7 i (by omega)
     ·have heq : L[k + j - 1]=L[k + j]:=by
       have e2 : L[k + j]=L[k + (j - 1)]:=by
        simp only [Bool.or_eq_false_iff,Bool.not_eq_false',decide_eq_true_eq] at h8
        exact Subtype.ext (Prod.ext h8.1 h8.2)
       rw [e2]
       congr 1
       omega
      rw [if_pos heq] at ht2
      rw [h8]
      simp [h7,hv2]
      exact ⟨j + 1,q,W,⟨by omega,by omega,by omega,by omega,a5,by rw [a6,show k + (j + 1)=k + j + 1 by omega,ht2],fun i hi=>a7 i (by omega)⟩,by omega,rfl,by omega,rfl⟩
    ·have hj : k + j=L.length:=by omega
     have a6' : W.take q=ddL L:=by rw [a6,hj,List.take_length]
     have hq : q < L.length:=by omega
     have hqW : q <= W.length:=by omega
     simp [h7,cr,a5]
     have hz : (di (fqR W) q (L.length - q) [.int .i64 0,.int .i64 0]).length=L.length:=by rw [iL (by rw [cr];omega),cr,a5]
     refine ⟨by omega,by omega,nO W,by omega,jn _,by omega,?_⟩
     unfold di
     rw [List.append_assoc,List.take_append_of_le_length (by simp [cr];omega),List.take_take,Nat.min_self,uv,a6']
   ·have h6 : L[k - 1] ≠ L[k]:=fun e=>by
     rw [e] at h5
     simp at h5
    rw [if_neg h6,h3] at ht
    rw [h5]
    simp [h4,hw2]
    exact ⟨k + 1,by refine ⟨by omega,by omega,?_⟩;rw [ht,List.take_succ_eq_append_getElem h4],by omega,rfl⟩
  ·have ek : k=L.length:=by omega
   subst ek
   rw [List.take_length] at h3
   simp [h3,cr]
   exact ⟨jn L,List.take_of_length_le (by rw [cr];exact Nat.le_refl _)⟩
end Go.Gv

set_option maxRecDepth 4000
namespace Go.Gv
def prK (m : Msh) (a b : Pnt) (i k : Nat) : Int × Int:=(aF (cnr m i k) (cnr m i ((k + 1) % 3)) a,aF (cnr m i k) (cnr m i ((k + 1) % 3)) b)
theorem qX {m : Msh} {a b : Pnt} {i k : Nat} (h : eA m i k a b=2) : cdK m a b i k=[prK m a b i k]:=by unfold cdK;rw [if_pos h];rfl
theorem wv {m : Msh} {a b : Pnt} {i k : Nat} (h : ¬ eA m i k a b=2) : cdK m a b i k=[]:=by unfold cdK;rw [if_neg h]
theorem xQ {m : Msh} {a b : Pnt} {i k n : Nat} (h : eA m i k a b=2) (hi : i < n) (hk : k < 3) : prK m a b i k ∈ cdL m a b n :=
 List.mem_flatMap.2 ⟨i,List.mem_range.2 hi,List.mem_flatMap.2 ⟨k,List.mem_range.2 hk,by rw [qX h];simp⟩⟩
def cdP (m : Msh) (a b : Pnt) (i k : Nat) : List (Int × Int):=cdL m a b i++cdF m a b i k
theorem jg (m : Msh) (a b : Pnt) (i : Nat) : cdP m a b i 0=cdL m a b i:=by simp [cdP,tz]
theorem mH (m : Msh) (a b : Pnt) (i : Nat) : cdP m a b i 3=cdL m a b (i + 1):=(ot m a b i).symm
theorem nB {m : Msh} {a b : Pnt} {i k : Nat} (h : ¬ eA m i k a b=2) : cdP m a b i (k + 1)=cdP m a b i k:=by unfold cdP;rw [lp,wv h,List.append_nil]
theorem kZ {m : Msh} {a b : Pnt} {i k : Nat} (h : eA m i k a b=2) : cdP m a b i (k + 1)=cdP m a b i k++[prK m a b i k]:=by unfold cdP;rw [lp,qX h,List.append_assoc]
theorem nA (m : Msh) (a b : Pnt) (i k : Nat) : (cdP m a b i k).length <= 3 * i + k:=by
 have h1:=kY m a b i
 have h2:=ny m a b i k
 unfold cdP
 rw [List.length_append]
 omega
def fqP (m : Msh) (a b : Pnt) (i k : Nat) : List (List D):=fqR (fqs (cdP m a b i k))
theorem nP (m : Msh) (a b : Pnt) (i k : Nat) : (fqP m a b i k).length=(cdP m a b i k).length:=by simp [fqP,fqR,fqs]
theorem nQ {m : Msh} {a b : Pnt} {i k : Nat} (h : eA m i k a b=2) (hc : da (prK m a b i k).1 ((prK m a b i k).1 - (prK m a b i k).2)=0) : fqP m a b i (k + 1)=fqP m a b i k++[[.int .i64 (dN (prK m a b i k).1 ((prK m a b i k).1 - (prK m a b i k).2)).1,.int .i64 (dN (prK m a b i k).1 ((prK m a b i k).1 - (prK m a b i k).2)).2]]:=by
 unfold fqP
 rw [kZ h,qb]
 have e : (kS (dN (prK m a b i k).1 ((prK m a b i k).1 - (prK m a b i k).2))).1=dN (prK m a b i k).1 ((prK m a b i k).1 - (prK m a b i k).2):=oZ (nE hc).1
 simp [fqR,fqs,fqD,e]
theorem GP (L : List Frq) : (fqR L).map (fun e=>e.map aR)=fqR L:=by
 unfold fqR
 rw [List.map_map]
 exact List.map_congr_left fun x _=>by simp [fqD]
def rQ (l : List (Int × Int)) : Bool:=l.all iS
theorem sk (m : Msh) (a b : Pnt) (i : Nat) : fqP m a b i 3=fqP m a b (i + 1) 0:=by unfold fqP;rw [mH,jg]
def kz (m : Msh) (a b : Pnt) : D:=if (cdL m a b m.f.length).all iS=true then .sl (fqR (tL m a b)) else .nils
def kA (m : Msh) (a b : Pnt) : Int:=if (cdL m a b m.f.length).all iS=true then 0 else 5
variable {C : CC} (hC : aw prog C)
include hC
set_option maxHeartbeats 4000000 in
theorem yA (hS : wi C) (dec : Nat -> List UInt8) (hI : ∀ n : Nat,n < 100 -> C 127 [.int .i64 n] (.str (dec n)) []) (m : Msh) (hz : bL m=true -> m.s.length <= 100 /\ m.f.length <= 100) (a b : Pnt) (h0 : bS m a b=0) : C 683 [.agg (aZ m),.agg (ptD a),.agg (ptD b)] (.tup [kz m a b,.int .i64 (kA m a b)]) []:=by
 have kl:=nU hC dec hI m hz a b
 rw [h0] at kl
 have hv : aC m=true:=by
  unfold bS at h0
  by_cases h : aC m=true
  ·exact h
  ·rw [if_neg h] at h0;cases h0
 have h1 : dR a b=0:=by unfold bS at h0;rwa [if_pos hv] at h0
 have hab : okP a=true /\ okP b=true /\ a ≠ b:=by
  unfold dR at h1
  split at h1
  ·rename_i h
   refine ⟨h.1,h.2,fun e=>?_⟩
   rw [if_pos e] at h1;cases h1
  ·cases h1
 obtain ⟨oa,ob,hne⟩:=hab
 have hfl:=(ii hv).2
 simp only [ab,ptD] at kl
 have hgood : (cdL m a b m.f.length).all iS=true -> kz m a b=.sl (fqR (tL m a b)) /\ kA m a b=0:=fun h=>⟨by unfold kz;rw [if_pos h],by unfold kA;rw [if_pos h]⟩
 have hbad : ∀ i k,eA m i k a b=2 -> i < m.f.length -> k < 3 -> ¬ da (prK m a b i k).1 ((prK m a b i k).1 - (prK m a b i k).2)=0 -> kz m a b=.nils /\ kA m a b=5 /\ da (prK m a b i k).1 ((prK m a b i k).1 - (prK m a b i k).2)=5:=fun i k h hi hk hc=>by
  have hm:=xQ h hi hk
  have hn : ¬ (cdL m a b m.f.length).all iS=true:=fun h2=>by
   have:=List.all_eq_true.1 h2 _ hm
   unfold iS at this
   exact hc (of_decide_eq_true this)
  exact ⟨by unfold kz;rw [if_neg hn],by unfold kA;rw [if_neg hn],(AA hm).resolve_left hc⟩
 obtain ⟨d1,hd1⟩ : ∃ d1,d1=kz m a b:=⟨_,rfl⟩
 obtain ⟨e1,he1⟩ : ∃ e1,e1=kA m a b:=⟨_,rfl⟩
 rw [<- hd1] at hgood hbad
 rw [<- he1] at hgood hbad
 rw [<- hd1,<- he1]
 clear hd1 he1
 have w1 : IntKind.wrap .i64 (1 : Int)=1:=by decide
 have w2 : IntKind.wrap .i64 (2 : Int)=2:=by decide
 have w3 : IntKind.wrap .i64 (3 : Int)=3:=by decide
 refine start hC (nf:=N683) rfl rfl ?_
 simp [N683,ptD,ab]
 refine aa kl (.inl rfl) ?_
 simp
 refine av Nat (fun i=>[(3,.ptr (aZ m)),(4,.ptr (ptD a)),(5,.ptr (ptD b)),(9,.ref (.r 10144) 0 (fqP m a b i 0).length),(27,slx m.fn (m.f.map aY)),(28,.int .i64 m.f.length),(29,.int .i64 i),(10144,.blk 2 (fqP m a b i 0))])
  (fun i=>i <= m.f.length /\ rQ (cdL m a b i)=true) (fun i=>m.f.length - i) 0 (by simp [ou,rQ]) (by simp [ab,ptD,fqP,jg,ou,fqs,fqR]) ?_
 rintro i ⟨hi,hall⟩
 simp
 refine al (fun h1=>?_) (fun h1=>?_) <;> simp at h1 <;> simp [h1]
 ·have hw : IntKind.wrap .i64 ((i : Int) + 1)=((i + 1 : Nat) : Int):=ae (by omega) (by omega)
  have kc:=ml hC m i h1 (ev hv h1)
  simp only [ab,aX] at kc
  simp [ab,ptD,h1,aX]
  refine aa kc (.inr rfl) ?_
  simp [bC]
  refine av Nat (fun k=>[(3,.ptr (aZ m)),(4,.ptr (ptD a)),(5,.ptr (ptD b)),(9,.ref (.r 10144) 0 (fqP m a b i k).length),(12,.adr (.r 10192) 0 0),(27,slx m.fn (m.f.map aY)),(28,.int .i64 m.f.length),(29,.int .i64 i),(36,.int .i64 k),(10144,.blk 2 (fqP m a b i k)),(10192,.blk 6 [pU m i])])
   (fun k=>k <= 3 /\ rQ (cdP m a b i k)=true) (fun k=>3 - k) 0 (by simp [jg,hall]) (by simp [ab,ptD,bC]) ?_
  rintro k ⟨hk,hallk⟩
  rcases (by omega : k=0 \/ k=1 \/ k=2 \/ k=3) with rfl | rfl | rfl | rfl
  ·have kx:=io hC oa ob (cQ hv h1 0) (cQ hv h1 1) hne (gi hv h1 0 (by omega))
   have kt:=tN hC oa ob (cQ hv h1 0) (cQ hv h1 1) hne (gi hv h1 0 (by omega))
   have e0 : lr a b (cnr m i 0) (cnr m i 1)=eA m i 0 a b:=rfl
   have e3 : aF (cnr m i 0) (cnr m i 1) a=(prK m a b i 0).1:=rfl
   have e4 : aF (cnr m i 0) (cnr m i 1) b=(prK m a b i 0).2:=rfl
   have c0 : cnr m i 0=ptS (spA m i):=rfl
   have c1 : cnr m i 1=ptS (spB m i):=rfl
   rw [e0] at kx
   rw [e3,e4] at kt
   rw [c0,c1] at kx kt
   simp only [ptD,ptS] at kx kt
   have hlen:=nA m a b i 0
   have hq2:=nQ (m:=m) (a:=a) (b:=b) (i:=i) (k:=0)
   have hp2:=kZ (m:=m) (a:=a) (b:=b) (i:=i) (k:=0)
   have hpn:=nB (m:=m) (a:=a) (b:=b) (i:=i) (k:=0)
   have hb0:=hbad i 0
   simp [ptD,bC,w1]
   refine ⟨ai (by decide +kernel),?_⟩
   generalize eA m i 0 a b=z at *
   generalize hqq : prK m a b i 0=pr at *
   refine aa kx (.inl rfl) ?_
   by_cases hz2 : z=2
   ·simp [hz2]
    refine aa kt (.inl rfl) ?_
    by_cases hc0 : da pr.1 (pr.1 - pr.2)=0
    ·have hcc:=nE hc0
     simp [hc0,w1]
     refine ⟨by rw [nP];omega,1,⟨by omega,?_⟩,by omega,?_⟩
     ·rw [hp2 hz2]
      unfold rQ at hallk ⊢
      rw [List.all_append,hallk]
      simp [iS,hc0]
     ·simp [ptD,ab,bC,hq2 hz2 hc0]
    ·obtain ⟨b1,b2,b3⟩:=hb0 hz2 h1 (by omega) hc0
     simp [hc0,b1,b2,b3]
   ·simp [hz2,w1]
    refine ⟨1,⟨by omega,?_⟩,by omega,?_⟩
    ·rw [hpn hz2];exact hallk
    ·have hq : fqP m a b i (0 + 1)=fqP m a b i 0:=by unfold fqP;rw [hpn hz2]
     simp [ptD,ab,bC,hq]
  ·have kx:=io hC oa ob (cQ hv h1 1) (cQ hv h1 2) hne (gi hv h1 1 (by omega))
   have kt:=tN hC oa ob (cQ hv h1 1) (cQ hv h1 2) hne (gi hv h1 1 (by omega))
   have e0 : lr a b (cnr m i 1) (cnr m i 2)=eA m i 1 a b:=rfl
   have e3 : aF (cnr m i 1) (cnr m i 2) a=(prK m a b i 1).1:=rfl
   have e4 : aF (cnr m i 1) (cnr m i 2) b=(prK m a b i 1).2:=rfl
   have c0 : cnr m i 1=ptS (spB m i):=rfl
   have c1 : cnr m i 2=ptS (spC m i):=rfl
   rw [e0] at kx
   rw [e3,e4] at kt
   rw [c0,c1] at kx kt
   simp only [ptD,ptS] at kx kt
   have hlen:=nA m a b i 1
   have hq2:=nQ (m:=m) (a:=a) (b:=b) (i:=i) (k:=1)
   have hp2:=kZ (m:=m) (a:=a) (b:=b) (i:=i) (k:=1)
   have hpn:=nB (m:=m) (a:=a) (b:=b) (i:=i) (k:=1)
   have hb0:=hbad i 1
   simp [ptD,bC,w2]
   refine ⟨ai (by decide +kernel),?_⟩
   generalize eA m i 1 a b=z at *
   generalize hqq : prK m a b i 1=pr at *
   refine aa kx (.inl rfl) ?_
   by_cases hz2 : z=2
   ·simp [hz2]
    refine aa kt (.inl rfl) ?_
    by_cases hc0 : da pr.1 (pr.1 - pr.2)=0
    ·have hcc:=nE hc0
     simp [hc0,w2]
     refine ⟨by rw [nP];omega,2,⟨by omega,?_⟩,by omega,?_⟩
     ·rw [hp2 hz2]
      unfold rQ at hallk ⊢
      rw [List.all_append,hallk]
      simp [iS,hc0]
     ·simp [ptD,ab,bC,hq2 hz2 hc0]
    ·obtain ⟨b1,b2,b3⟩:=hb0 hz2 h1 (by omega) hc0
     simp [hc0,b1,b2,b3]
   ·simp [hz2,w2]
    refine ⟨2,⟨by omega,?_⟩,by omega,?_⟩
    ·rw [hpn hz2];exact hallk
    ·have hq : fqP m a b i (1 + 1)=fqP m a b i 1:=by unfold fqP;rw [hpn hz2]
     simp [ptD,ab,bC,hq]
  ·have kx:=io hC oa ob (cQ hv h1 2) (cQ hv h1 0) hne (gi hv h1 2 (by omega))
   have kt:=tN hC oa ob (cQ hv h1 2) (cQ hv h1 0) hne (gi hv h1 2 (by omega))
   have e0 : lr a b (cnr m i 2) (cnr m i 0)=eA m i 2 a b:=rfl
   have e3 : aF (cnr m i 2) (cnr m i 0) a=(prK m a b i 2).1:=rfl
   have e4 : aF (cnr m i 2) (cnr m i 0) b=(prK m a b i 2).2:=rfl
   have c0 : cnr m i 2=ptS (spC m i):=rfl
   have c1 : cnr m i 0=ptS (spA m i):=rfl
   rw [e0] at kx
   rw [e3,e4] at kt
   rw [c0,c1] at kx kt
   simp only [ptD,ptS] at kx kt
   have hlen:=nA m a b i 2
   have hq2:=nQ (m:=m) (a:=a) (b:=b) (i:=i) (k:=2)
   have hp2:=kZ (m:=m) (a:=a) (b:=b) (i:=i) (k:=2)
   have hpn:=nB (m:=m) (a:=a) (b:=b) (i:=i) (k:=2)
   have hb0:=hbad i 2
   simp [ptD,bC,w3]
   refine ⟨ai (by decide +kernel),?_⟩
   generalize eA m i 2 a b=z at *
   generalize hqq : prK m a b i 2=pr at *
   refine aa kx (.inl rfl) ?_
   by_cases hz2 : z=2
   ·simp [hz2]
    refine aa kt (.inl rfl) ?_
    by_cases hc0 : da pr.1 (pr.1 - pr.2)=0
    ·have hcc:=nE hc0
     simp [hc0,w3]
     refine ⟨by rw [nP];omega,3,⟨by omega,?_⟩,by omega,?_⟩
     ·rw [hp2 hz2]
      unfold rQ at hallk ⊢
      rw [List.all_append,hallk]
      simp [iS,hc0]
     ·simp [ptD,ab,bC,hq2 hz2 hc0]
    ·obtain ⟨b1,b2,b3⟩:=hb0 hz2 h1 (by omega) hc0
     simp [hc0,b1,b2,b3]
   ·simp [hz2,w3]
    refine ⟨3,⟨by omega,?_⟩,by omega,?_⟩
    ·rw [hpn hz2];exact hallk
    ·have hq : fqP m a b i (2 + 1)=fqP m a b i 2:=by unfold fqP;rw [hpn hz2]
     simp [ptD,ab,bC,hq]
  ·rw [mH] at hallk
   simp [hw]
   exact ⟨i + 1,⟨by omega,hallk⟩,by omega,by simp [ab,ptD,sk]⟩
 ·have : i=m.f.length:=by omega
  subst this
  obtain ⟨g1,g2⟩:=hgood hall
  have k1:=hS (fqs (cdL m a b m.f.length)) (by have:=kY m a b m.f.length;simp [fqs];omega) (Ct hC)
  have k2:=wE hC (mg fqC (fqs (cdL m a b m.f.length))) (by rw [jA];have:=kY m a b m.f.length;simp [fqs];omega)
  have e0 : fqP m a b m.f.length 0=fqR (fqs (cdL m a b m.f.length)):=by unfold fqP;rw [jg]
  have e2 : tL m a b=ddL (mg fqC (fqs (cdL m a b m.f.length))):=rfl
  rw [e0,g1,g2,e2]
  generalize fqs (cdL m a b m.f.length)=L at *
  simp [cr]
  refine ⟨nO L,?_⟩
  refine rX k1 (.inl rfl) (by simp [cr,jA]) (fun e he=>⟨rg _ e he,nO _ e he⟩) ?_
  simp [cr,jA]
  have e : List.take L.length (fqR (mg fqC L))=fqR (mg fqC L):=List.take_of_length_le (by rw [cr,jA];exact Nat.le_refl _)
  rw [e]
  refine ⟨jn _,?_⟩
  refine wQ k2 (fun e he=>⟨rg _ e he,jn _ e he⟩) ?_
  simp [cr]
  rw [GP,List.take_of_length_le (by rw [cr];exact Nat.le_refl _)]
end Go.Gv

set_option maxRecDepth 4000
namespace Go.Gv
def xT (a b : Pnt) (n : Int) : D:=if dU (dR a b) n []=0 then .sl ((jv a b n.toNat).map fun x=>ptD x) else .nils
theorem pS {a b : Pnt} {n : Int} {ls : List Int} {e : Int} (h : dU e n ls=0) : e=0 /\ 1 <= n /\ n <= 999 /\ ls.all iO=true:=by
 unfold dU at h
 split at h
 ·rename_i h0
  split at h
  ·rename_i h1;exact ⟨h0,h1.1.1,h1.1.2,h1.2⟩
  ·cases h
 ·rename_i h0;exact absurd h h0
theorem lH {a b : Pnt} (h : dR a b=0) : okP a=true /\ okP b=true /\ a ≠ b:=by
 unfold dR at h
 split at h
 ·rename_i h1
  refine ⟨h1.1,h1.2,fun e=>?_⟩
  rw [if_pos e] at h;cases h
 ·cases h
theorem lI {m : Msh} {a b : Pnt} (h : bS m a b=0) : aC m=true /\ dR a b=0:=by
 unfold bS at h
 by_cases hv : aC m=true
 ·rw [if_pos hv] at h;exact ⟨hv,h⟩
 ·rw [if_neg hv] at h;cases h
variable {C : CC} (hC : aw prog C)
include hC
theorem xV (a b : Pnt) : C 705 [.agg (ptD a),.agg (ptD b)] (.int .i64 (dR a b)) []:=by
 have ka:=ng hC a
 have kb:=ng hC b
 simp only [ptD] at ka kb
 refine start hC (nf:=N705) rfl rfl ?_
 unfold dR
 simp [N705,ptD]
 refine aa ka (.inl rfl) ?_
 cases h1 : okP a
 ·simp
 simp
 refine aa kb (.inl rfl) ?_
 cases h2 : okP b
 ·simp
 simp
 by_cases h3 : a.1=b.1
 ·by_cases h4 : a.2=b.2
  ·simp [h3,h4,Prod.ext h3 h4]
  ·have hne : ¬ a=b:=fun e=>h4 (by rw [e])
   simp [h3,h4,hne]
 ·have hne : ¬ a=b:=fun e=>h3 (by rw [e])
  simp [h3,hne]
theorem va (m : Msh) (hz : bL m=true -> m.s.length <= 100 /\ m.f.length <= 100) (a b : Pnt) : C 684 [.agg (aZ m),.agg (ptD a),.agg (ptD b)] (.int .i64 (bS m a b)) []:=by
 have k1:=vb hC m hz
 have k2:=xV hC a b
 simp only [ab] at k1
 simp only [ptD] at k2
 refine start hC (nf:=N684) rfl rfl ?_
 unfold bS
 simp [N684,ptD,ab]
 refine aa k1 (.inl rfl) ?_
 cases h1 : aC m
 ·simp
 simp
 refine aa k2 (.inl rfl) ?_
 simp
theorem oy (dec : Nat -> List UInt8) (hI : ∀ n : Nat,n < 100 -> C 127 [.int .i64 n] (.str (dec n)) []) (m : Msh) (hz : bL m=true -> m.s.length <= 100 /\ m.f.length <= 100) (a b : Pnt) (n : Int) (c : Bool) (ls : List Int) (hl : ls.length < 2 ^ 62) : C 703 [.ptr (aZ m),.agg (ptD a),.agg (ptD b),.int .i64 n,slx c (ls.map fun n=>[.int .i64 n])] (.int .i64 (dU (bS m a b) n ls)) []:=by
 have k1:=nU hC dec hI m hz a b
 have k2:=pE hC c ls hl
 simp only [ptD,ab] at k1
 refine start hC (nf:=N703) rfl rfl ?_
 unfold dU
 simp [N703,ptD,ab]
 refine aa k1 (.inl rfl) ?_
 clear k1
 generalize bS m a b=e
 simp
 by_cases h : e=0
 ·subst h
  simp
  by_cases h1 : n < 1
  ·simp [h1,show ¬ 1 <= n by omega]
  ·by_cases h2 : 999 < n
   ·simp [h1,h2,show ¬ n <= 999 by omega]
   ·simp [h1,h2,show 1 <= n by omega,show n <= 999 by omega]
    refine aa k2 (.inl rfl) ?_
    cases h3 : ls.all iO
    ·simp at h3 ⊢
    ·simp at h3 ⊢
     omega
 ·simp [h]
theorem sW (a b : Pnt) (n : Int) : C 678 [.agg (ptD a),.agg (ptD b),.int .i64 n] (.tup [xT a b n,.int .i64 (dU (dR a b) n [])]) []:=by
 have k1:=tF hC a b n
 simp only [ptD] at k1
 unfold xT
 refine start hC (nf:=N678) rfl rfl ?_
 simp [N678,ptD]
 refine aa k1 (.inl rfl) ?_
 by_cases h : dU (dR a b) n []=0
 ·obtain ⟨g0,g1,g2,_⟩:=pS (a:=a) (b:=b) h
  obtain ⟨ha,hb,_⟩:=lH g0
  obtain ⟨N,rfl⟩ : ∃ N : Nat,n=N:=⟨n.toNat,by omega⟩
  have k2:=j8 hC a b ha hb N (by omega) (by omega)
  simp only [ptD] at k2
  simp [h]
  refine aa k2 (.inr rfl) ?_
  simp [ptD]
  exact h
 ·simp [h]
theorem xc (b b' : Bool) (xs : List Pnt) (hx : xs.length < 2 ^ 62) : C 680 [slx b (xs.map fun x=>ptD x),slx b' (xs.map fun x=>ptD x)] (.bool true) []:=by
 refine start hC (nf:=N680) rfl rfl ?_
 simp [N680]
 refine av Nat (fun i=>[(0,slx b (xs.map fun x=>ptD x)),(1,slx b' (xs.map fun x=>ptD x)),(12,.int .i64 xs.length),(13,.int .i64 i)])
  (fun i=>i <= xs.length) (fun i=>xs.length - i) 0 (by simp) (by simp) ?_
 rintro i hi
 simp
 refine al (fun h1=>?_) (fun h1=>?_) <;> simp at h1 <;> simp [h1]
 have hw : IntKind.wrap .i64 ((i : Int) + 1)=((i + 1 : Nat) : Int):=ae (by omega) (by omega)
 simp [h1,ptD,hw]
 exact ⟨ai (by decide +kernel),i + 1,by omega,by omega,rfl⟩
theorem AZ (b b' : Bool) (xs : List Pnt) (hx : xs.length < 2 ^ 62) : C 687 [slx b (xs.map fun x=>ptD x),slx b' (xs.map fun x=>ptD x)] (.bool true) []:=by
 refine start hC (nf:=N687) rfl rfl ?_
 simp [N687]
 refine av Nat (fun i=>[(0,slx b (xs.map fun x=>ptD x)),(1,slx b' (xs.map fun x=>ptD x)),(12,.int .i64 xs.length),(13,.int .i64 i)])
  (fun i=>i <= xs.length) (fun i=>xs.length - i) 0 (by simp) (by simp) ?_
 rintro i hi
 simp
 refine al (fun h1=>?_) (fun h1=>?_) <;> simp at h1 <;> simp [h1]
 have hw : IntKind.wrap .i64 ((i : Int) + 1)=((i + 1 : Nat) : Int):=ae (by omega) (by omega)
 simp [h1,ptD,hw]
 exact ⟨ai (by decide +kernel),i + 1,by omega,by omega,rfl⟩
theorem xb (b b' : Bool) (xs : List Frq) (hx : xs.length < 2 ^ 62) : C 687 [slx b (fqR xs),slx b' (fqR xs)] (.bool true) []:=by
 have e : fqR xs=(xs.map fun x=>(x.1 : Pnt)).map fun x=>ptD x:=by
  unfold fqR
  rw [List.map_map]
  rfl
 rw [e]
 exact AZ hC b b' _ (by rw [List.length_map];exact hx)
end Go.Gv

set_option maxRecDepth 4000
namespace Go.Gv
def spD (s : Int × Int) : List D:=[.int .i64 s.1,.int .i64 s.2]
def lvP (m : Msh) (p : Pnt) : Int × Int:=(loF m (cu m p).toNat p,hiF m (cu m p).toNat p)
def lvT (m : Msh) (a b : Pnt) (n k : Nat) : List (Int × Int):=(List.range k).map fun i=>lvP m (atL a b n i)
def dS (m : Msh) (a b : Pnt) (n k : Nat) : Bool:=(List.range k).all fun i=>decide (onE m (atL a b n i)=0)
def lvR (m : Msh) (a b : Pnt) (n k : Nat) : List (List D):=(lvT m a b n k).map spD
theorem jq (m : Msh) (a b : Pnt) (n k : Nat) : (lvR m a b n k).length=k:=by simp [lvR,lvT]
theorem oW (m : Msh) (a b : Pnt) (n : Nat) : lvR m a b n 0=[]:=rfl
theorem oV (m : Msh) (a b : Pnt) (n k : Nat) : lvR m a b n (k + 1)=lvR m a b n k++[[.int .i64 (lvP m (atL a b n k)).1,.int .i64 (lvP m (atL a b n k)).2]]:=by simp [lvR,lvT,List.range_succ,spD]
theorem Ah (l : List (Int × Int)) : (l.map spD).map (fun e=>e.map aR)=l.map spD:=by
 rw [List.map_map]
 exact List.map_congr_left fun x _=>by simp [spD]
theorem mZ (m : Msh) (a b : Pnt) (n k : Nat) : dS m a b n (k + 1)=(dS m a b n k && decide (onE m (atL a b n k)=0)):=by simp [dS,List.range_succ]
theorem fD {m : Msh} {a b : Pnt} {n k i : Nat} (h : dS m a b n k=true) (hi : i < k) : onE m (atL a b n i)=0:=by
 have:=List.all_eq_true.1 h i (List.mem_range.2 hi)
 exact of_decide_eq_true this
theorem BY {m : Msh} {p : Pnt} (hv : aC m=true) (hp : okP p=true) (h : ¬ onE m p=0) : onE m p=12:=by
 unfold onE at h ⊢
 rw [if_pos ⟨hv,hp⟩] at h ⊢
 split
 ·rfl
 ·rename_i h1;rw [if_neg h1] at h;exact absurd rfl h
theorem pf (a b : Pnt) (n : Nat) : (jv a b n).length=n + 1:=by simp [jv]
theorem pe (a b : Pnt) (n : Nat) {k : Nat} (h : k < (jv a b n).length) : (jv a b n)[k]=atL a b n k:=by simp [jv]
def lvD (m : Msh) (a b : Pnt) (n : Nat) : D:=if dS m a b n (n + 1)=true then .sl (lvR m a b n (n + 1)) else .nils
def lvE (m : Msh) (a b : Pnt) (n : Nat) : Int:=if dS m a b n (n + 1)=true then 0 else 12
variable {C : CC} (hC : aw prog C)
include hC
set_option maxHeartbeats 1000000 in
theorem vO (dec : Nat -> List UInt8) (hI : ∀ n : Nat,n < 100 -> C 127 [.int .i64 n] (.str (dec n)) []) (m : Msh) (hz : bL m=true -> m.s.length <= 100 /\ m.f.length <= 100) (hv : aC m=true) (a b : Pnt) (ha : okP a=true) (hb : okP b=true) (n : Nat) (h1 : 1 <= n) (h2 : n <= 999) : C 726 [.agg (aZ m),.agg (ptD a),.agg (ptD b),.int .i64 n] (.tup [lvD m a b n,.int .i64 (lvE m a b n)]) []:=by
 have k1:=j8 hC a b ha hb n h1 h2
 have hPl:=pf a b n
 have hPg:=fun k (h : k < (jv a b n).length)=>pe a b n h
 have hgood : dS m a b n (n + 1)=true -> lvD m a b n=.sl (lvR m a b n (n + 1)) /\ lvE m a b n=0:=fun h=>⟨by unfold lvD;rw [if_pos h],by unfold lvE;rw [if_pos h]⟩
 have hbad : ∀ k,k <= n -> ¬ onE m (atL a b n k)=0 -> lvD m a b n=.nils /\ lvE m a b n=12:=fun k hk h=>by
  have hn : ¬ dS m a b n (n + 1)=true:=fun h3=>h (fD h3 (by omega))
  exact ⟨by unfold lvD;rw [if_neg hn],by unfold lvE;rw [if_neg hn]⟩
 obtain ⟨d1,hd1⟩ : ∃ d1,d1=lvD m a b n:=⟨_,rfl⟩
 obtain ⟨e1,he1⟩ : ∃ e1,e1=lvE m a b n:=⟨_,rfl⟩
 rw [<- hd1] at hgood hbad
 rw [<- he1] at hgood hbad
 rw [<- hd1,<- he1]
 clear hd1 he1
 have hlv:=fun k=>oP hC dec hI m hz (atL a b n k)
 generalize jv a b n=P at *
 simp only [ptD,ab] at k1 hlv
 refine start hC (nf:=N726) rfl rfl ?_
 simp [N726,ptD,ab]
 refine aa k1 (.inr rfl) ?_
 simp [hPl]
 refine av Nat (fun k=>[(4,.ptr (aZ m)),(10,.ref (.r 10160) 0 k),(18,.sl (P.map fun x=>ptD x)),(19,.int .i64 ((n + 1 : Nat) : Int)),(20,.int .i64 k),(10160,.blk 2 (lvR m a b n k))])
  (fun k=>k <= n + 1 /\ dS m a b n k=true) (fun k=>n + 1 - k) 0 (by simp [dS]) (by simp [ab,ptD,oW]) ?_
 rintro k ⟨hk,hall⟩
 simp
 refine al (fun h3=>?_) (fun h3=>?_) <;> simp at h3
 ·have hw : IntKind.wrap .i64 ((k : Int) + 1)=((k + 1 : Nat) : Int):=ae (by omega) (by omega)
  have hkP : k < P.length:=by omega
  have hpk:=hPg k hkP
  have kl:=hlv k
  have hlen:=jq m a b n k
  have hss:=oV m a b n k
  have hsk:=mZ m a b n k
  by_cases h0 : onE m (atL a b n k)=0
  ·rw [if_pos h0] at kl
   simp [h3,hkP,hpk,ptD,ab]
   refine aa kl (.inl rfl) ?_
   simp [hw]
   have hsv : lvR m a b n k++[[.int .i64 (loF m (cu m (atL a b n k)).toNat (atL a b n k)),.int .i64 (hiF m (cu m (atL a b n k)).toNat (atL a b n k))]]=lvR m a b n (k + 1):=by rw [hss];rfl
   have htk : List.take k (lvR m a b n k)=lvR m a b n k:=List.take_of_length_le (by omega)
   refine ⟨by omega,by omega,k + 1,⟨by omega,by rw [hsk,hall,decide_eq_true h0];rfl⟩,by omega,by simp [ab],?_⟩
   simp [htk,hsv]
  ·rw [if_neg h0] at kl
   obtain ⟨g1,g2⟩:=hbad k (by omega) h0
   have h12:=BY hv (tr ha hb (show 0 < n by omega) (show k <= n by omega)) h0
   rw [h12] at kl
   simp only [wz] at kl
   simp [h3,hkP,hpk,ptD,ab]
   refine aa kl (.inl rfl) ?_
   simp [g1,g2]
 ·have ek : k=n + 1:=by omega
  subst ek
  have hlen:=jq m a b n (n + 1)
  obtain ⟨g1,g2⟩:=hgood hall
  have hV : (lvR m a b n (n + 1)).map (fun e=>e.map aR)=lvR m a b n (n + 1):=Ah _
  simp [h3,g1,g2,hV]
  exact ⟨by omega,(List.take_of_length_le (by omega)).symm⟩
set_option maxHeartbeats 1000000 in
theorem yB (dec : Nat -> List UInt8) (hI : ∀ n : Nat,n < 100 -> C 127 [.int .i64 n] (.str (dec n)) []) (m : Msh) (hz : bL m=true -> m.s.length <= 100 /\ m.f.length <= 100) (hv : aC m=true) (a b : Pnt) (ha : okP a=true) (hb : okP b=true) (n : Nat) (h1 : 1 <= n) (h2 : n <= 999) (hok : dS m a b n (n + 1)=true) : C 726 [.agg (aZ m),.agg (ptD a),.agg (ptD b),.int .i64 n] (.tup [.own 2 (lvR m a b n (n + 1)),.int .i64 0]) [.nils]:=by
 have k1:=j8 hC a b ha hb n h1 h2
 have hPl:=pf a b n
 have hPg:=fun k (h : k < (jv a b n).length)=>pe a b n h
 have hlv:=fun k=>oP hC dec hI m hz (atL a b n k)
 generalize jv a b n=P at *
 simp only [ptD,ab] at k1 hlv
 refine vK hC (nf:=N726) rfl rfl (by simp [okR]) ?_
 simp [N726,ptD,ab]
 refine aa k1 (.inr rfl) ?_
 simp [hPl]
 refine av Nat (fun k=>[(4,.ptr (aZ m)),(10,.ref (.r 10160) 0 k),(18,.sl (P.map fun x=>ptD x)),(19,.int .i64 ((n + 1 : Nat) : Int)),(20,.int .i64 k),(10160,.blk 2 (lvR m a b n k))])
  (fun k=>k <= n + 1 /\ dS m a b n k=true) (fun k=>n + 1 - k) 0 (by simp [dS]) (by simp [ab,ptD,oW]) ?_
 rintro k ⟨hk,hall⟩
 simp
 refine al (fun h3=>?_) (fun h3=>?_) <;> simp at h3
 ·have hw : IntKind.wrap .i64 ((k : Int) + 1)=((k + 1 : Nat) : Int):=ae (by omega) (by omega)
  have hkP : k < P.length:=by omega
  have hpk:=hPg k hkP
  have kl:=hlv k
  have hlen:=jq m a b n k
  have hss:=oV m a b n k
  have hsk:=mZ m a b n k
  by_cases h0 : onE m (atL a b n k)=0
  ·rw [if_pos h0] at kl
   simp [h3,hkP,hpk,ptD,ab]
   refine aa kl (.inl rfl) ?_
   simp [hw]
   have hsv : lvR m a b n k++[[.int .i64 (loF m (cu m (atL a b n k)).toNat (atL a b n k)),.int .i64 (hiF m (cu m (atL a b n k)).toNat (atL a b n k))]]=lvR m a b n (k + 1):=by rw [hss];rfl
   have htk : List.take k (lvR m a b n k)=lvR m a b n k:=List.take_of_length_le (by omega)
   refine ⟨by omega,by omega,k + 1,⟨by omega,by rw [hsk,hall,decide_eq_true h0];rfl⟩,by omega,by simp [ab],?_⟩
   simp [htk,hsv]
  ·rw [if_neg h0] at kl
   exact absurd (fD hok (by omega)) h0
 ·have ek : k=n + 1:=by omega
  subst ek
  have hlen:=jq m a b n (n + 1)
  simp [h3]
  omega
end Go.Gv

set_option maxRecDepth 4000
namespace Go.Gv
def kU (o s : Int × Int) : Int × Int:=(min o.1 s.1,min o.2 s.2)
def lsK (l : List (Int × Int)) (k : Nat) : Int × Int:=(l.take k).foldl kU (l.headD (0,0))
def lsF (l : List (Int × Int)) : Int × Int:=lsK l l.length
theorem uJ (l : List (Int × Int)) : lsK l 0=l.headD (0,0):=rfl
theorem uI (l : List (Int × Int)) {k : Nat} (h : k < l.length) : lsK l (k + 1)=(min (lsK l k).1 l[k].1,min (lsK l k).2 l[k].2):=by
 unfold lsK
 rw [List.take_succ_eq_append_getElem h,List.foldl_append]
 rfl
def cvP (m : Msh) (a b : Pnt) (n : Nat) (up dn : Int) (k : Nat) : Int × Int :=
 ((lvP m (atL a b n k)).1 - (up - -((dn - up) * k) / n),(lvP m (atL a b n k)).2 - (up + (dn - up) * k / n))
def cvT (m : Msh) (a b : Pnt) (n : Nat) (up dn : Int) (k : Nat) : List (Int × Int):=(List.range (n + 1)).map fun i=>if i < k then cvP m a b n up dn i else lvP m (atL a b n i)
def cvL (m : Msh) (a b : Pnt) (n : Nat) (up dn : Int) : List (Int × Int):=(List.range (n + 1)).map (cvP m a b n up dn)
theorem wM (m : Msh) (a b : Pnt) (n : Nat) (up dn : Int) (k : Nat) : (cvT m a b n up dn k).length=n + 1:=by simp [cvT]
theorem tP (m : Msh) (a b : Pnt) (n : Nat) (up dn : Int) : cvT m a b n up dn 0=lvT m a b n (n + 1):=by simp [cvT,lvT]
theorem wK (m : Msh) (a b : Pnt) (n : Nat) (up dn : Int) : cvT m a b n up dn (n + 1)=cvL m a b n up dn:=by
 unfold cvT cvL
 exact List.map_congr_left fun i hi=>by rw [if_pos (List.mem_range.1 hi)]
theorem wL (m : Msh) (a b : Pnt) (n : Nat) (up dn : Int) {k : Nat} (h : k < n + 1) : (cvT m a b n up dn k)[k]? = some (lvP m (atL a b n k)):=by simp [cvT,h]
theorem wO (m : Msh) (a b : Pnt) (n : Nat) (up dn : Int) (k : Nat) : (cvT m a b n up dn k).set k (cvP m a b n up dn k)=cvT m a b n up dn (k + 1):=by
 apply List.ext_getElem?
 intro i
 rw [List.getElem?_set]
 unfold cvT
 simp only [List.getElem?_map,List.length_map,List.length_range]
 by_cases hi : i < n + 1
 ·by_cases hk : k=i
  ·subst hk
   simp [hi]
  ·simp [hk,hi]
   by_cases h2 : i < k
   ·simp [h2,show i < k + 1 by omega]
   ·simp [h2,show ¬ i < k + 1 by omega]
 ·have : (List.range (n + 1))[i]? = none:=List.getElem?_eq_none (by simp;omega)
  rw [this]
  by_cases hk : k=i
  ·subst hk;simp [hi]
  ·simp [hk]
theorem qq {m : Msh} {p : Pnt} (h : onE m p=0) : (-4194304 <= (lvP m p).1 /\ (lvP m p).1 <= 4194304) /\ -4194304 <= (lvP m p).2 /\ (lvP m p).2 <= 4194304:=by
 obtain ⟨hv,hp,hf⟩:=i8 h
 obtain ⟨hi,ho⟩:=gl hf
 have hO : OnF m (cu m p).toNat p:=jZ hv hi hp ho
 exact ⟨hO.lo,hO.hi⟩
variable {C : CC} (hC : aw prog C)
include hC
set_option maxHeartbeats 1000000 in
theorem xp (b : Bool) (l : List (Int × Int)) (h0 : 0 < l.length) (hl : l.length < 2 ^ 40) : C 727 [slx b (l.map spD)] (.agg (spD (lsF l))) []:=by
 have e0 : l.headD (0,0)=l[0]:=by
  cases l with
  | nil=>simp at h0
  | cons x r=>rfl
 have e1 : l.head?.getD (0,0)=l[0]:=by
  cases l with
  | nil=>simp at h0
  | cons x r=>rfl
 refine start hC (nf:=N727) rfl rfl ?_
 simp [N727,spD,h0]
 refine av Nat (fun k=>[(2,.adr (.r 10032) 0 0),(3,.adr (.r 10048) 0 0),(9,slx b (l.map spD)),(10,.int .i64 l.length),(11,.int .i64 k),(10032,.blk 2 [[.int .i64 0,.int .i64 0]]),(10048,.blk 2 [[.int .i64 (lsK l k).1,.int .i64 (lsK l k).2]])])
  (fun k=>k <= l.length) (fun k=>l.length - k) 0 (by simp) (by simp [uJ,e1,spD]) ?_
 rintro k hk
 simp
 refine al (fun h3=>?_) (fun h3=>?_) <;> simp at h3
 ·have hw : IntKind.wrap .i64 ((k : Int) + 1)=((k + 1 : Nat) : Int):=ae (by omega) (by omega)
  have hs:=uI l h3
  simp [h3,spD,mnE]
  refine ⟨ai (by decide +kernel),?_⟩
  simp [hw]
  exact ⟨k + 1,by omega,by omega,by simp [hs]⟩
 ·have ek : k=l.length:=by omega
  subst ek
  simp [lsF]
end Go.Gv

set_option maxRecDepth 4000
namespace Go.Gv
def cvS (m : Msh) (a b : Pnt) (n : Nat) (up dn : Int) : Int × Int:=if dS m a b n (n + 1)=true then lsF (cvL m a b n up dn) else (0,0)
def cvR (m : Msh) (a b : Pnt) (n : Nat) (up dn : Int) (k : Nat) : List (List D):=(cvT m a b n up dn k).map spD
theorem wI (m : Msh) (a b : Pnt) (n : Nat) (up dn : Int) (k : Nat) : (cvR m a b n up dn k).length=n + 1:=by simp [cvR,wM]
theorem wH (m : Msh) (a b : Pnt) (n : Nat) (up dn : Int) {k : Nat} (h : k < n + 1) : (cvR m a b n up dn k)[k]? = some [.int .i64 (lvP m (atL a b n k)).1,.int .i64 (lvP m (atL a b n k)).2]:=by
 unfold cvR
 rw [List.getElem?_map,wL m a b n up dn h]
 rfl
theorem wJ (m : Msh) (a b : Pnt) (n : Nat) (up dn : Int) (k : Nat) : (cvR m a b n up dn k).set k [.int .i64 (cvP m a b n up dn k).1,.int .i64 (cvP m a b n up dn k).2]=cvR m a b n up dn (k + 1):=by
 unfold cvR
 rw [<- wO,List.map_set]
 rfl
theorem tO (m : Msh) (a b : Pnt) (n : Nat) (up dn : Int) : cvR m a b n up dn 0=lvR m a b n (n + 1):=by unfold cvR lvR;rw [tP]
theorem wG (m : Msh) (a b : Pnt) (n : Nat) (up dn : Int) : cvR m a b n up dn (n + 1)=(cvL m a b n up dn).map spD:=by unfold cvR;rw [wK]
theorem jj {x c B : Int} (hc : 0 < c) (h : -B <= x /\ x <= B) : -B - 1 <= x / c /\ x / c <= B:=by
 have b:=pD hc h
 rw [Al hc]
 split <;> omega
variable {C : CC} (hC : aw prog C)
include hC
set_option maxHeartbeats 2000000 in
theorem wF (dec : Nat -> List UInt8) (hI : ∀ n : Nat,n < 100 -> C 127 [.int .i64 n] (.str (dec n)) []) (m : Msh) (hz : bL m=true -> m.s.length <= 100 /\ m.f.length <= 100) (hv : aC m=true) (a b : Pnt) (ha : okP a=true) (hb : okP b=true) (n : Nat) (h1 : 1 <= n) (h2 : n <= 999) (up dn : Int) (hu : iO up=true) (hd : iO dn=true) : C 723 [.agg (aZ m),.agg (ptD a),.agg (ptD b),.int .i64 n,.int .i64 up,.int .i64 dn] (.tup [.agg (spD (cvS m a b n up dn)),.int .i64 (lvE m a b n)]) []:=by
 simp only [iO,Bool.and_eq_true,decide_eq_true_eq] at hu hd
 by_cases hok : dS m a b n (n + 1)=true
 rotate_left
 ·have k1:=vO hC dec hI m hz hv a b ha hb n h1 h2
  have e1 : lvE m a b n=12:=by unfold lvE;rw [if_neg hok]
  have e2 : lvD m a b n=.nils:=by unfold lvD;rw [if_neg hok]
  have e3 : cvS m a b n up dn=(0,0):=by unfold cvS;rw [if_neg hok]
  rw [e1,e2] at k1
  rw [e1,e3]
  simp only [ab,ptD] at k1
  refine start hC (nf:=N723) rfl rfl ?_
  simp [N723,ab,ptD]
  refine rW k1 ?_
  simp [spD]
 have k1:=yB hC dec hI m hz hv a b ha hb n h1 h2 hok
 have e1 : lvE m a b n=0:=by unfold lvE;rw [if_pos hok]
 have e3 : cvS m a b n up dn=lsF (cvL m a b n up dn):=by unfold cvS;rw [if_pos hok]
 rw [e1,e3]
 simp only [ab,ptD] at k1
 have ws : IntKind.wrap .i64 (dn - up)=dn - up:=ae rfl (by omega)
 refine start hC (nf:=N723) rfl rfl ?_
 simp [N723,ab,ptD]
 refine mF k1 rfl ?_
 simp [dy,aO,de,jq]
 refine av Nat (fun k=>[(3,.int .i64 n),(4,.int .i64 up),(5,.int .i64 dn),(12,.adr (.r 10192) 0 0),(14,.ref (.r 10224) 0 (n + 1)),(33,.int .i64 ((n + 1 : Nat) : Int)),(34,.int .i64 k),(10192,.blk 2 [[.int .i64 0,.int .i64 0]]),(10224,.blk 2 (cvR m a b n up dn k))])
  (fun k=>k <= n + 1) (fun k=>n + 1 - k) 0 (by simp) (by simp [tO]) ?_
 rintro k hk
 simp
 refine al (fun h3=>?_) (fun h3=>?_) <;> simp at h3
 ·have hw : IntKind.wrap .i64 ((k : Int) + 1)=((k + 1 : Nat) : Int):=ae (by omega) (by omega)
  have hkn : k < n + 1:=by omega
  have hlen:=wI m a b n up dn k
  have hg:=wH m a b n up dn hkn
  have hset:=wJ m a b n up dn k
  obtain ⟨bl,bh⟩:=qq (fD hok hkn)
  have m1:=jY (a:=dn - up) (b:=(k : Int)) (k:=8388608) (l:=999) (by omega) (by omega) (by omega) (by omega)
  have w1 : IntKind.wrap .i64 ((dn - up) * k)=(dn - up) * k:=ae rfl (by omega)
  have w2 : IntKind.wrap .i64 (-((dn - up) * k))=-((dn - up) * k):=ae rfl (by omega)
  have f1:=jD hC ((dn - up) * k) n (by omega) (by omega)
  have f2:=jD hC (-((dn - up) * k)) n (by omega) (by omega)
  have q1:=jj (x:=(dn - up) * k) (c:=(n : Int)) (B:=8380219392) (by omega) (by omega)
  have q2:=jj (x:=-((dn - up) * k)) (c:=(n : Int)) (B:=8380219392) (by omega) (by omega)
  have hc : cvP m a b n up dn k=((lvP m (atL a b n k)).1 - (up - -((dn - up) * k) / n),(lvP m (atL a b n k)).2 - (up + (dn - up) * k / n)):=rfl
  rw [hc] at hset
  generalize hp : (dn - up) * (k : Int)=p at *
  generalize p / (n : Int)=x at *
  generalize -p / (n : Int)=y at *
  generalize lvP m (atL a b n k)=v at *
  have w3 : IntKind.wrap .i64 (up + x)=up + x:=ae rfl (by omega)
  have w4 : IntKind.wrap .i64 (up - y)=up - y:=ae rfl (by omega)
  have w5 : IntKind.wrap .i64 (v.1 - (up - y))=v.1 - (up - y):=ae rfl (by omega)
  have w6 : IntKind.wrap .i64 (v.2 - (up + x))=v.2 - (up + x):=ae rfl (by omega)
  simp [h3,ws,hp,w1,w2]
  refine aa f1 (.inl rfl) ?_
  simp [w2,w3]
  refine aa f2 (.inl rfl) ?_
  have hge : (cvR m a b n up dn k)[k]'(by omega)=[.int .i64 v.1,.int .i64 v.2]:=(List.getElem?_eq_some_iff.1 hg).2
  simp at hset
  simp [w3,w4,bO hg,w5,w6,hkn,hw,hlen,hge]
  exact ⟨ai (by decide +kernel),k + 1,by omega,by omega,by omega,hset⟩
 ·have ek : k=n + 1:=by omega
  subst ek
  have kl:=xp hC false (cvL m a b n up dn) (by simp [cvL]) (by simp [cvL];omega)
  have hlen : (cvL m a b n up dn).length=n + 1:=by simp [cvL]
  rw [wG]
  simp at kl
  generalize cvL m a b n up dn=L at *
  simp [h3]
  refine ⟨by omega,?_⟩
  have hV : List.take (n + 1) (List.map ((fun e=>List.map aR e) ∘ spD) L)=List.map spD L:=by
   rw [List.take_of_length_le (by simp;omega)]
   exact List.map_congr_left fun x _=>by simp [spD]
  rw [hV]
  refine aa kl (.inl rfl) ?_
  simp [spD]
def oz (m : Msh) (a b : Pnt) (n up dn : Int) : Int:=if dU (bS m a b) n [up,dn]=0 then lvE m a b n.toNat else dU (bS m a b) n [up,dn]
def oA (m : Msh) (a b : Pnt) (n up dn : Int) : Int × Int:=if dU (bS m a b) n [up,dn]=0 then cvS m a b n.toNat up dn else (0,0)
theorem mj (dec : Nat -> List UInt8) (hI : ∀ n : Nat,n < 100 -> C 127 [.int .i64 n] (.str (dec n)) []) (m : Msh) (hz : bL m=true -> m.s.length <= 100 /\ m.f.length <= 100) (a b : Pnt) (n up dn : Int) : C 691 [.agg (aZ m),.agg (ptD a),.agg (ptD b),.int .i64 n,.int .i64 up,.int .i64 dn] (.tup [.agg (spD (oA m a b n up dn)),.int .i64 (oz m a b n up dn)]) []:=by
 have k1:=oy hC dec hI m hz a b n false [up,dn] (by simp)
 unfold oA oz
 by_cases h : dU (bS m a b) n [up,dn]=0
 ·obtain ⟨g0,g1,g2,g3⟩:=pS (a:=a) (b:=b) h
  obtain ⟨hv,hl⟩:=lI g0
  obtain ⟨ha,hb,_⟩:=lH hl
  simp only [List.all_cons,List.all_nil,Bool.and_true,Bool.and_eq_true] at g3
  obtain ⟨N,rfl⟩ : ∃ N : Nat,n=N:=⟨n.toNat,by omega⟩
  have k2:=wF hC dec hI m hz hv a b ha hb N (by omega) (by omega) up dn g3.1 g3.2
  rw [if_pos h,if_pos h,Int.toNat_natCast]
  rw [h] at k1
  simp only [ab,ptD] at k1 k2
  simp at k1
  refine start hC (nf:=N691) rfl rfl ?_
  simp [N691,ab,ptD]
  refine aa k1 (.inl rfl) ?_
  simp
  refine aa k2 (.inl rfl) ?_
  simp [spD]
 ·rw [if_neg h,if_neg h]
  simp only [ab,ptD] at k1
  simp at k1
  refine start hC (nf:=N691) rfl rfl ?_
  simp [N691,ab,ptD]
  refine aa k1 (.inl rfl) ?_
  simp [h,spD]
end Go.Gv

set_option maxRecDepth 4000
namespace Go.Gv
def exT : Msh:=⟨false,[⟨0,0,90⟩,⟨30,0,90⟩,⟨30,30,90⟩,⟨0,30,90⟩],false,[⟨0,1,2,0⟩,⟨0,2,3,0⟩]⟩
theorem GM : aC exT=true:=by decide +kernel
theorem ud : bS exT (20,0) (0,20)=0:=by rw [bS,GM];decide
theorem GJ : oF exT (20,0) (0,20) 2=[0,1]:=by decide +kernel
theorem zu : cdL exT (20,0) (0,20) 2=[(600,-600),(-600,600)]:=by decide +kernel
theorem uf : (cdL exT (20,0) (0,20) exT.f.length).all iS=true:=by
 rw [show exT.f.length=2 from rfl,zu];decide +kernel
theorem GL : fqs (cdL exT (20,0) (0,20) exT.f.length)=[kS (1,2),kS (1,2)]:=by
 rw [show exT.f.length=2 from rfl,zu]
 unfold fqs
 simp only [List.map_cons,List.map_nil]
 rw [show dN 600 (600 - -600)=(1,2) by decide +kernel,show dN (-600) (-600 - 600)=(1,2) by decide +kernel]
theorem xd : tL exT (20,0) (0,20)=[kS (1,2)]:=by
 unfold tL
 rw [GL]
 exact wo nN (List.pairwise_singleton _ _) (by simp)
theorem uc : fqR [kS (1,2)]=[[.int .i64 1,.int .i64 2]]:=by
 have : (kS (1,2)).1=(1,2):=oZ (by unfold uu;decide)
 simp [fqR,fqD,this]
theorem GK : jv (20,0) (0,20) 2=[(20,0),(10,10),(0,20)]:=by decide +kernel
theorem zz : dU (dR (20,0) (0,20)) 2 []=0:=by decide +kernel
theorem zA : dU (bS exT (20,0) (0,20)) 2 [10,20]=0:=by rw [ud];decide +kernel
theorem ue : dS exT (20,0) (0,20) 2 3=true:=by decide +kernel
theorem A0 : lsF (cvL exT (20,0) (0,20) 2 10 20)=(70,70):=by decide +kernel
end Go.Gv

set_option maxRecDepth 4000
namespace Go.Gv
variable {C : CC} (hC : aw prog C)
include hC
theorem AY (b b' : Bool) (xs ys : List Int) (hx : xs.length < 2 ^ 62) (hy : ys.length < 2 ^ 62) : C 19 [slx b (xs.map fun n=>[.int .i64 n]),slx b' (ys.map fun n=>[.int .i64 n])] (.bool (decide (xs=ys))) []:=by
 refine start hC (nf:=N19) rfl rfl ?_
 simp [N19]
 refine al (fun h=>?_) (fun h=>?_) <;> simp at h <;> simp [h]
 ·rintro rfl;exact h rfl
 have h' : xs.length=ys.length:=by omega
 refine av Nat (fun i=>[(0,slx b (xs.map fun n=>[.int .i64 n])),(1,slx b' (ys.map fun n=>[.int .i64 n])),(12,.int .i64 ys.length),(13,.int .i64 i)])
  (fun i=>i <= ys.length /\ ∀ k,k < i -> xs[k]? = ys[k]?) (fun i=>ys.length - i) 0 (by simp) (by simp) ?_
 rintro i ⟨hi,hok⟩
 simp
 refine al (fun h1=>?_) (fun h1=>?_) <;> simp at h1 <;> simp [h1]
 ·have hw : IntKind.wrap .i64 ((i : Int) + 1)=((i + 1 : Nat) : Int):=ae (by omega) (by omega)
  have hx1 : i < xs.length:=by omega
  simp [h1,hx1]
  refine ⟨ai (by decide +kernel),?_⟩
  refine al (fun h2=>?_) (fun h2=>?_) <;> simp [h1,hx1] at h2 <;> simp [h1,hx1,h2,hw]
  ·rintro rfl
   exact h2 rfl
  ·refine ⟨i + 1,⟨by omega,fun k hk=>?_⟩,by omega,rfl⟩
   rcases Nat.lt_succ_iff_lt_or_eq.1 hk with h5 | rfl
   ·exact hok k h5
   ·rw [List.getElem?_eq_getElem h1,List.getElem?_eq_getElem hx1,h2]
 ·refine List.ext_getElem? fun k=>?_
  rcases Nat.lt_or_ge k i with h2 | h2
  ·exact hok k h2
  ·rw [List.getElem?_eq_none (by omega),List.getElem?_eq_none (by omega)]
theorem pY : C 702 [] (.agg (aZ exT)) []:=by
 refine start hC (nf:=N702) rfl rfl ?_
 simp [N702,ab,exT,bq,aX]
set_option maxHeartbeats 2000000 in
theorem tt (hS : wi C) (dec : Nat -> List UInt8) (hI : ∀ n : Nat,n < 100 -> C 127 [.int .i64 n] (.str (dec n)) []) : C 677 [] (.bool true) []:=by
 have hz : bL exT=true -> exT.s.length <= 100 /\ exT.f.length <= 100:=fun _=>by simp [exT]
 have ke:=pY hC
 have k1:=vM hC dec hI exT hz (20,0) (0,20) ud
 have k2:=yA hC hS dec hI exT hz (20,0) (0,20) ud
 have k3:=sW hC (20,0) (0,20) 2
 have k4:=mj hC dec hI exT hz (20,0) (0,20) 2 10 20
 have q1:=AY hC false false [0,1] [0,1] (by simp) (by simp)
 have q2:=xb hC false false [kS (1,2)] (by simp)
 have q3:=xc hC false false [(20,0),(10,10),(0,20)] (by simp)
 have e1 : kQ exT (20,0) (0,20) exT.f.length=[[.int .i64 0],[.int .i64 1]]:=by
  unfold kQ
  rw [show exT.f.length=2 from rfl,GJ];rfl
 have e2 : kz exT (20,0) (0,20)=.sl [[.int .i64 1,.int .i64 2]]:=by unfold kz;rw [if_pos uf,xd,uc]
 have e3 : kA exT (20,0) (0,20)=0:=by unfold kA;rw [if_pos uf]
 have e4 : xT (20,0) (0,20) 2=.sl [[.int .i64 20,.int .i64 0],[.int .i64 10,.int .i64 10],[.int .i64 0,.int .i64 20]]:=by
  unfold xT
  rw [if_pos zz,show (2 : Int).toNat=2 from rfl,GK];rfl
 have e5 : oz exT (20,0) (0,20) 2 10 20=0:=by
  unfold oz lvE
  rw [if_pos zA,show (2 : Int).toNat + 1=3 from rfl,show (2 : Int).toNat=2 from rfl,if_pos ue]
 have e6 : oA exT (20,0) (0,20) 2 10 20=(70,70):=by
  unfold oA cvS
  rw [if_pos zA,show (2 : Int).toNat + 1=3 from rfl,show (2 : Int).toNat=2 from rfl,if_pos ue,A0]
 rw [e1] at k1
 rw [e2,e3] at k2
 rw [e4,zz] at k3
 rw [e5,e6] at k4
 rw [uc] at q2
 simp [exT,ab,bq,aX,ptD,spD] at ke k1 k2 k3 k4 q1 q2 q3
 refine start hC (nf:=N677) rfl rfl ?_
 simp [N677]
 refine aa ke (.inr rfl) ?_
 simp
 refine aa k1 (.inr rfl) ?_
 simp
 refine ⟨ai (by decide +kernel),?_⟩
 refine aa ke (.inr rfl) ?_
 simp
 refine aa k2 (.inr rfl) ?_
 simp
 refine ⟨ai (by decide +kernel),?_⟩
 refine aa k3 (.inr rfl) ?_
 simp
 refine aa ke (.inr rfl) ?_
 simp
 refine aa k4 (.inl rfl) ?_
 simp
 refine ⟨ai (by decide +kernel),?_⟩
 refine aa q1 (.inl rfl) ?_
 simp
 refine aa q2 (.inl rfl) ?_
 simp
 refine aa q3 (.inl rfl) ?_
 simp
end Go.Gv

set_option maxRecDepth 4000
namespace Go.Gv
def Qw (m : Msh) : Bool:=(decide ((60 : Int) < (m.s.length : Int)) && decide ((m.s.length : Int) <= 2000)) || (decide ((60 : Int) < (m.f.length : Int)) && decide ((m.f.length : Int) <= 4000)) || decide ((2010 : Int) < (m.s.length : Int)) || decide ((4010 : Int) < (m.f.length : Int))
variable {C : CC} (hC : aw prog C)
include hC
end Go.Gv

set_option maxRecDepth 4000
namespace Go.Gv
def shS (d : Int) (s : Int × Int) : Int × Int:=(s.1 + d,s.2 + d)
theorem pw (d : Int) : ∀ (l : List (Int × Int)) (a : Int × Int),(l.map (shS d)).foldl kU (shS d a)=shS d (l.foldl kU a)
 | [],a=>rfl
 | x::r,a=>by
  have e : kU (shS d a) (shS d x)=shS d (kU a x):=by
   unfold kU shS
   ext <;> simp only <;> omega
  rw [List.map_cons,List.foldl_cons,List.foldl_cons,e]
  exact pw d r _
theorem qp (l : List (Int × Int)) : lsF l=l.foldl kU (l.headD (0,0)):=by unfold lsF lsK;rw [List.take_length]
theorem mY (d : Int) {l : List (Int × Int)} (h : l ≠ []) : lsF (l.map (shS d))=shS d (lsF l):=by
 match l,h with
 | x::r,_ =>
  rw [qp,qp]
  exact pw d (x::r) x
theorem AP (m : Msh) (a b : Pnt) (n : Nat) (up dn : Int) : cvL m a b n up dn ≠ []:=by
 intro h
 have:=congrArg List.length h
 simp [cvL] at this
theorem sa (m : Msh) (a b : Pnt) (n : Nat) (x : Int) : cvL m a b n x x=(lvT m a b n (n + 1)).map (shS (-x)):=by
 unfold cvL lvT
 rw [List.map_map]
 refine List.map_congr_left fun k _=>?_
 unfold cvP shS
 simp only [Function.comp,Int.sub_self,Int.zero_mul,Int.neg_zero,Int.zero_ediv]
 ext <;> simp only <;> omega
theorem uK (m : Msh) (a b : Pnt) (n : Nat) : lvT m a b n (n + 1) ≠ []:=by
 intro h
 have:=congrArg List.length h
 simp [lvT] at this
theorem mO (m : Msh) (a b : Pnt) (n : Nat) (x : Int) (hok : dS m a b n (n + 1)=true) : cvS m a b n x x=shS (-x) (lsF (lvT m a b n (n + 1))):=by
 unfold cvS
 rw [if_pos hok,sa,mY _ (uK m a b n)]
theorem Gf (x : Int) {d : Int} (hd : 0 < d) : x / d <= -(-x / d) /\ -(-x / d) <= x / d + 1:=by
 have e1:=Int.ediv_mul_le x (show d ≠ 0 by omega)
 have e2:=Int.lt_ediv_add_one_mul_self x hd
 have e3:=Int.ediv_mul_le (-x) (show d ≠ 0 by omega)
 have e4:=Int.lt_ediv_add_one_mul_self (-x) hd
 generalize x / d=q at *
 generalize -x / d=r at *
 constructor
 ·rcases Int.lt_or_le (-r) q with h | h
  ·exfalso
   have:=Int.mul_le_mul_of_nonneg_right (show 1 <= q + r by omega) (show 0 <= d by omega)
   rw [Int.add_mul] at this
   omega
  ·exact h
 ·rcases Int.lt_or_le (q + 1) (-r) with h | h
  ·exfalso
   have:=Int.mul_le_mul_of_nonneg_right (show q + 1 + (r + 1) <= 0 by omega) (show 0 <= d by omega)
   rw [Int.add_mul] at this
   omega
  ·exact h
theorem Bq {m : Msh} {p : Pnt} (h : onE m p=0) : (lvP m p).1 <= (lvP m p).2 /\ (lvP m p).2 <= (lvP m p).1 + 1:=by
 obtain ⟨hv,hp,hf⟩:=i8 h
 obtain ⟨hi,ho⟩:=gl hf
 have hO : OnF m (cu m p).toNat p:=jZ hv hi hp ho
 exact Gf (eq m (cu m p).toNat p) hO.d.1
def rsZ (d : Int) (s : Spt) : Spt:={ s with z:=s.z + d }
def rsM (m : Msh) (d : Int) : Msh:=⟨false,m.s.map (rsZ d),false,m.f⟩
theorem l7 (m : Msh) (d : Int) {i : Nat} (h : i < m.s.length) : spt (rsM m d) i=rsZ d (spt m i):=by
 unfold spt rsM
 simp only
 rw [getElem!_pos _ i (by simpa using h),getElem!_pos _ i h,List.getElem_map]
theorem lc (m : Msh) (d : Int) {i : Nat} (h : ¬ i < m.s.length) : spt (rsM m d) i=default /\ spt m i=default:=by
 unfold spt rsM
 simp only
 rw [getElem!_neg _ i (by simpa using h),getElem!_neg _ i h]
 exact ⟨rfl,rfl⟩
theorem jy (m : Msh) (d : Int) (i : Nat) : ptS (spt (rsM m d) i)=ptS (spt m i):=by
 by_cases h : i < m.s.length
 ·rw [l7 m d h];rfl
 ·rw [(lc m d h).1,(lc m d h).2]
theorem eN (m : Msh) (d : Int) (i : Nat) : fce (rsM m d) i=fce m i:=rfl
theorem qz (m : Msh) (d : Int) (f : Fce) : aQ (rsM m d) f=aQ m f:=by unfold aQ;rw [jy,jy,jy]
theorem l9 {m : Msh} {d : Int} (hv : aC m=true) (hr : ∀ i,i < m.s.length -> aA (rsZ d (spt m i))=true) : aC (rsM m d)=true:=by
 have hr' : ∀ i,aA (spt (rsM m d) i)=aA (spt m i):=by
  intro i
  by_cases h : i < m.s.length
  ·rw [l7 m d h,hr i h,iJ hv h]
  ·rw [(lc m d h).1,(lc m d h).2]
 have hl : (rsM m d).s.length=m.s.length:=by simp [rsM]
 have hf : (rsM m d).f=m.f:=rfl
 have hok : ∀ f,okF (rsM m d) f=okF m f:=by
  intro f
  unfold okF okc
  simp only [hl,hr']
 have e1 : cB (rsM m d)=cB m:=by funext i;unfold cB;rw [hr']
 have e2 : bB (rsM m d)=bB m:=by funext i;unfold bB fw;simp only [hr',jy]
 have e3 : cT (rsM m d)=cT m:=by funext i;unfold cT;rw [eN,hok]
 have e4 : bX (rsM m d)=bX m:=by funext i;unfold bX;rw [eN,hok,qz]
 have e5 : aq (rsM m d)=aq m:=by funext i;unfold aq;rw [eN,hok,qz]
 have e6 : bG (rsM m d)=bG m:=by funext i;unfold bG;rw [e5];rfl
 have e7 : aM (rsM m d)=aM m:=by funext i;unfold aM;rw [e5];simp only [eN,qz]
 have e8 : LL (rsM m d)=LL m:=by unfold LL;rw [e1,e2,e3,e4,e6,e7,hl,hf]
 have hs : bL (rsM m d)=bL m:=by unfold bL;rw [hl,hf]
 unfold aC at hv ⊢
 rw [hs,e8]
 exact hv
theorem Cf (m : Msh) (d : Int) (i : Nat) (p : Pnt) : osF (rsM m d) i p=osF m i p:=by
 unfold osF tn0 tn1 tn2 spA spB spC
 simp only [eN,jy]
theorem vm (m : Msh) (d : Int) (p : Pnt) : cu (rsM m d) p=cu m p:=by
 unfold cu
 simp only [Cf]
 rfl
theorem Ce {m : Msh} {d : Int} (hv : aC m=true) (hr : ∀ i,i < m.s.length -> aA (rsZ d (spt m i))=true) (p : Pnt) : onE (rsM m d) p=onE m p:=by
 unfold onE
 rw [l9 hv hr,hv,vm]
theorem n5 {m : Msh} {d : Int} (hv : aC m=true) (hr : ∀ i,i < m.s.length -> aA (rsZ d (spt m i))=true) (a b : Pnt) (n k : Nat) : dS (rsM m d) a b n k=dS m a b n k:=by
 unfold dS
 simp only [Ce hv hr]
theorem Cd {m : Msh} {d : Int} {i : Nat} (h : inS m (fce m i)=true) (p : Pnt) : eq (rsM m d) i p=eq m i p + d * db m i /\ db (rsM m d) i=db m i:=by
 obtain ⟨⟨_,b1⟩,⟨_,b2⟩,⟨_,b3⟩⟩:=gm h
 have s:=qK m i p
 have d0 : db (rsM m d) i=db m i:=by unfold db spA spB spC;simp only [eN,jy]
 have t0 : tn0 (rsM m d) i p=tn0 m i p:=by unfold tn0 spA spB;simp only [eN,jy]
 have t1 : tn1 (rsM m d) i p=tn1 m i p:=by unfold tn1 spB spC;simp only [eN,jy]
 have t2 : tn2 (rsM m d) i p=tn2 m i p:=by unfold tn2 spC spA;simp only [eN,jy]
 refine ⟨?_,d0⟩
 have z0 : (spA (rsM m d) i).z=(spA m i).z + d:=by unfold spA;rw [eN,l7 m d b1];rfl
 have z1 : (spB (rsM m d) i).z=(spB m i).z + d:=by unfold spB;rw [eN,l7 m d b2];rfl
 have z2 : (spC (rsM m d) i).z=(spC m i).z + d:=by unfold spC;rw [eN,l7 m d b3];rfl
 unfold eq
 rw [z0,z1,z2,t0,t1,t2,<- s]
 simp only [Int.add_mul,Int.mul_add]
 omega
theorem Cc {m : Msh} {d : Int} {p : Pnt} (h : onE m p=0) : lvP (rsM m d) p=shS d (lvP m p):=by
 obtain ⟨hv,hp,hf⟩:=i8 h
 obtain ⟨hi,ho⟩:=gl hf
 have hO : OnF m (cu m p).toNat p:=jZ hv hi hp ho
 have hd:=hO.d.1
 obtain ⟨e1,e2⟩:=Cd (d:=d) (ev hv hi) p
 have hd0 : db m (cu m p).toNat ≠ 0:=by omega
 unfold lvP loF hiF shS
 rw [vm,e1,e2,Int.add_mul_ediv_right _ _ hd0,show -(eq m (cu m p).toNat p + d * db m (cu m p).toNat)=-eq m (cu m p).toNat p + -d * db m (cu m p).toNat by rw [Int.neg_mul];omega,Int.add_mul_ediv_right _ _ hd0]
 ext <;> simp only <;> omega
theorem vo {m : Msh} {d : Int} {a b : Pnt} {n k : Nat} (hok : dS m a b n k=true) : lvT (rsM m d) a b n k=(lvT m a b n k).map (shS d):=by
 unfold lvT
 rw [List.map_map]
 exact List.map_congr_left fun i hi=>Cc (fD hok (List.mem_range.1 hi))
theorem Ca {m : Msh} {d : Int} (hv : aC m=true) (hr : ∀ i,i < m.s.length -> aA (rsZ d (spt m i))=true) {a b : Pnt} {n : Nat} (x : Int) (hok : dS m a b n (n + 1)=true) : cvS (rsM m d) a b n x x=shS d (cvS m a b n x x):=by
 rw [mO m a b n x hok,mO (rsM m d) a b n x (by rw [n5 hv hr];exact hok),vo hok,mY d (uK m a b n)]
 unfold shS
 ext <;> simp only <;> omega
theorem qr {m : Msh} {p : Pnt} (h : onE m p=0) {lo hi : Int} (hb : ∀ s ∈ m.s,lo <= s.z /\ s.z <= hi) : lo <= (lvP m p).1 /\ (lvP m p).2 <= hi:=by
 obtain ⟨hv,hp,hf⟩:=i8 h
 obtain ⟨hi',ho⟩:=gl hf
 have hO : OnF m (cu m p).toNat p:=jZ hv hi' hp ho
 obtain ⟨⟨_,b1⟩,⟨_,b2⟩,⟨_,b3⟩⟩:=gm (ev hv hi')
 have m1:=hb _ (List.getElem_mem b1)
 have m2:=hb _ (List.getElem_mem b2)
 have m3:=hb _ (List.getElem_mem b3)
 rw [<- getElem!_pos m.s _ b1] at m1
 rw [<- getElem!_pos m.s _ b2] at m2
 rw [<- getElem!_pos m.s _ b3] at m3
 have z0 : lo <= (spA m (cu m p).toNat).z /\ (spA m (cu m p).toNat).z <= hi:=m1
 have z1 : lo <= (spB m (cu m p).toNat).z /\ (spB m (cu m p).toNat).z <= hi:=m2
 have z2 : lo <= (spC m (cu m p).toNat).z /\ (spC m (cu m p).toNat).z <= hi:=m3
 have hd:=hO.d.1
 have t0:=hO.t0.1
 have t1:=hO.t1.1
 have t2:=hO.t2.1
 have s:=qK m (cu m p).toNat p
 unfold lvP loF hiF
 generalize (cu m p).toNat=i at *
 have n1 : lo * db m i <= eq m i p /\ eq m i p <= hi * db m i:=by
  unfold eq
  rw [<- s]
  have a1:=Int.mul_le_mul_of_nonneg_right z0.1 t1
  have a2:=Int.mul_le_mul_of_nonneg_right z1.1 t2
  have a3:=Int.mul_le_mul_of_nonneg_right z2.1 t0
  have c1:=Int.mul_le_mul_of_nonneg_right z0.2 t1
  have c2:=Int.mul_le_mul_of_nonneg_right z1.2 t2
  have c3:=Int.mul_le_mul_of_nonneg_right z2.2 t0
  simp only [Int.mul_add]
  omega
 simp only
 refine ⟨(Int.le_ediv_iff_mul_le hd).2 n1.1,?_⟩
 have : -hi <= -eq m i p / db m i:=(Int.le_ediv_iff_mul_le hd).2 (by rw [Int.neg_mul];omega)
 omega
end Go.Gv

set_option maxRecDepth 4000
namespace Go.Gv
def PR (o s : Int × Int) : Int × Int:=(max o.1 s.1,max o.2 s.2)
def hsK (l : List (Int × Int)) (k : Nat) : Int × Int:=(l.take k).foldl PR (l.headD (0,0))
def hsF (l : List (Int × Int)) : Int × Int:=hsK l l.length
def mA (m : Msh) (a b : Pnt) (n : Int) : D:=if dU (bS m a b) n []=0 then lvD m a b n.toNat else .nils
def j7 (m : Msh) (a b : Pnt) (n : Int) : Int:=if dU (bS m a b) n []=0 then lvE m a b n.toNat else dU (bS m a b) n []
def prL (m : Msh) (a b : Pnt) (n : Int) : Int × Int:=if j7 m a b n=0 then lsF (lvT m a b n.toNat (n.toNat + 1)) else (0,0)
def prH (m : Msh) (a b : Pnt) (n : Int) : Int × Int:=if j7 m a b n=0 then hsF (lvT m a b n.toNat (n.toNat + 1)) else (0,0)
theorem qJ {m : Msh} {a b : Pnt} {n : Int} (h : j7 m a b n=0) : dU (bS m a b) n []=0 /\ dS m a b n.toNat (n.toNat + 1)=true /\ mA m a b n=.sl (lvR m a b n.toNat (n.toNat + 1)):=by
 unfold j7 at h
 split at h
 ·rename_i h0
  unfold lvE at h
  split at h
  ·rename_i h1
   refine ⟨h0,h1,?_⟩
   unfold mA
   rw [if_pos h0]
   unfold lvD
   rw [if_pos h1]
  ·cases h
 ·rename_i h0;exact absurd h h0
theorem qI {m : Msh} {a b : Pnt} {n : Int} (h : j7 m a b n ≠ 0) : mA m a b n=.nils:=by
 unfold j7 at h
 unfold mA
 split
 ·rename_i h0
  rw [if_pos h0] at h
  unfold lvE at h
  unfold lvD
  split
  ·rename_i h1;rw [if_pos h1] at h;exact absurd rfl h
  ·rfl
 ·rfl
variable {C : CC} (hC : aw prog C)
include hC
theorem nq (dec : Nat -> List UInt8) (hI : ∀ n : Nat,n < 100 -> C 127 [.int .i64 n] (.str (dec n)) []) (m : Msh) (hz : bL m=true -> m.s.length <= 100 /\ m.f.length <= 100) (a b : Pnt) (n : Int) : C 695 [.agg (aZ m),.agg (ptD a),.agg (ptD b),.int .i64 n] (.tup [mA m a b n,.int .i64 (j7 m a b n)]) []:=by
 have k1:=oy hC dec hI m hz a b n true [] (by simp)
 have e0 : slx true (([] : List Int).map fun n=>[D.int .i64 n])=.nils:=rfl
 rw [e0] at k1
 unfold mA j7
 simp only [ab,ptD] at k1
 by_cases h : dU (bS m a b) n []=0
 ·obtain ⟨g0,g1,g2,g3⟩:=pS (a:=a) (b:=b) h
  obtain ⟨hv,hl⟩:=lI g0
  obtain ⟨ha,hb,_⟩:=lH hl
  obtain ⟨N,rfl⟩ : ∃ N : Nat,n=N:=⟨n.toNat,by omega⟩
  have k2:=vO hC dec hI m hz hv a b ha hb N (by omega) (by omega)
  rw [if_pos h,if_pos h,Int.toNat_natCast]
  rw [h] at k1
  simp only [ab,ptD] at k2
  obtain ⟨d1,hd1⟩ : ∃ d1,d1=lvD m a b N:=⟨_,rfl⟩
  rw [<- hd1] at k2 ⊢
  by_cases hok : dS m a b N (N + 1)=true
  ·have hd2 : d1=.sl (lvR m a b N (N + 1)):=by rw [hd1];unfold lvD;rw [if_pos hok]
   have hV : (lvR m a b N (N + 1)).map (fun e=>e.map aR)=lvR m a b N (N + 1):=Ah _
   rw [hd2] at k2 ⊢
   generalize lvR m a b N (N + 1)=R at *
   refine start hC (nf:=N695) rfl rfl ?_
   simp [N695,ab,ptD]
   refine aa k1 (.inl rfl) ?_
   simp
   refine aa k2 (.inr rfl) ?_
   simp
  ·have hd2 : d1=.nils:=by rw [hd1];unfold lvD;rw [if_neg hok]
   rw [hd2] at k2 ⊢
   refine start hC (nf:=N695) rfl rfl ?_
   simp [N695,ab,ptD]
   refine aa k1 (.inl rfl) ?_
   simp
   refine aa k2 (.inr rfl) ?_
   simp
 ·rw [if_neg h,if_neg h]
  refine start hC (nf:=N695) rfl rfl ?_
  simp [N695,ab,ptD]
  refine aa k1 (.inl rfl) ?_
  simp [h]
end Go.Gv

set_option maxRecDepth 4000
namespace Go.Gv
variable {C : CC} (hC : aw prog C)
include hC
end Go.Gv

set_option maxRecDepth 4000
namespace Go.Gv
variable {C : CC} (hC : aw prog C)
include hC
end Go.Gv

set_option maxRecDepth 4000
namespace Go.Gv
def abE (m : Msh) (a b : Pnt) (n up dn lst : Int) : Int:=if dU (bS m a b) n [up,dn,lst]=0 then lvE m a b n.toNat else dU (bS m a b) n [up,dn,lst]
def abB (m : Msh) (a b : Pnt) (n up dn lst : Int) : Bool:=if abE m a b n up dn lst=0 then decide (lst <= (cvS m a b n.toNat up dn).1) else false
variable {C : CC} (hC : aw prog C)
include hC
end Go.Gv

set_option maxRecDepth 4000
namespace Go.Gv
def vc (m : Msh) (a b : Pnt) : Bool:=decide (m.s.length <= 60) && decide (m.f.length <= 60) && decide (bS m a b=0)
theorem xW {m : Msh} {a b : Pnt} (h : vc m a b=true) : m.s.length <= 60 /\ m.f.length <= 60 /\ bS m a b=0:=by
 simp only [vc,Bool.and_eq_true,decide_eq_true_eq] at h
 exact ⟨h.1.1,h.1.2,h.2⟩
theorem sY {x : Int} (hx : 0 <= x) {c : Int} (hc : 0 < c) : 0 <= x.tmod c /\ x.tmod c < c:=⟨Int.tmod_nonneg c hx,Int.tmod_lt_of_pos x hc⟩
theorem rp {B : Int} : ∀ (l : List (Int × Int)) (a : Int × Int),((-B <= a.1 /\ a.1 <= B) /\ -B <= a.2 /\ a.2 <= B) -> (∀ s ∈ l,(-B <= s.1 /\ s.1 <= B) /\ -B <= s.2 /\ s.2 <= B) -> (-B <= (l.foldl kU a).1 /\ (l.foldl kU a).1 <= B) /\ -B <= (l.foldl kU a).2 /\ (l.foldl kU a).2 <= B
 | [],_,h,_=>h
 | x::r,a,h,hl=>by
  rw [List.foldl_cons]
  refine rp r _ ?_ (fun s hs=>hl s (List.mem_cons_of_mem _ hs))
  have:=hl x (List.mem_cons_self ..)
  unfold kU
  simp only
  omega
theorem Bp {B : Int} {l : List (Int × Int)} (h : l ≠ []) (hl : ∀ s ∈ l,(-B <= s.1 /\ s.1 <= B) /\ -B <= s.2 /\ s.2 <= B) : (-B <= (lsF l).1 /\ (lsF l).1 <= B) /\ -B <= (lsF l).2 /\ (lsF l).2 <= B:=by
 match l,h with
 | x::r,_ =>
  rw [qp]
  exact rp _ _ (hl x (List.mem_cons_self ..)) hl
theorem Br {m : Msh} {a b : Pnt} {n k : Nat} (hok : dS m a b n k=true) : ∀ s ∈ lvT m a b n k,(-4194304 <= s.1 /\ s.1 <= 4194304) /\ -4194304 <= s.2 /\ s.2 <= 4194304:=by
 intro s hs
 unfold lvT at hs
 obtain ⟨i,hi,rfl⟩:=List.mem_map.1 hs
 exact qq (fD hok (List.mem_range.1 hi))
theorem AQ {m : Msh} {a b : Pnt} {n : Nat} (hn : 0 < n) (hn2 : n <= 999) {up dn : Int} (hu : iO up=true) (hd : iO dn=true) (hok : dS m a b n (n + 1)=true) : (-1099511627776 <= (cvS m a b n up dn).1 /\ (cvS m a b n up dn).1 <= 1099511627776) /\ -1099511627776 <= (cvS m a b n up dn).2 /\ (cvS m a b n up dn).2 <= 1099511627776:=by
 simp only [iO,Bool.and_eq_true,decide_eq_true_eq] at hu hd
 unfold cvS
 rw [if_pos hok]
 refine Bp (AP m a b n up dn) (fun s hs=>?_)
 unfold cvL at hs
 obtain ⟨k,hk,rfl⟩:=List.mem_map.1 hs
 have hk':=List.mem_range.1 hk
 have b1:=qq (fD hok hk')
 have m1:=jY (a:=dn - up) (b:=(k : Int)) (k:=8388608) (l:=999) (by omega) (by omega) (by omega) (by omega)
 have q1:=jj (x:=(dn - up) * k) (c:=(n : Int)) (B:=8380219392) (by omega) (by omega)
 have q2:=jj (x:=-((dn - up) * k)) (c:=(n : Int)) (B:=8380219392) (by omega) (by omega)
 unfold cvP
 simp only
 omega
variable {C : CC} (hC : aw prog C)
include hC
theorem ve (m : Msh) (a b : Pnt) : C 688 [.agg (aZ m),.agg (ptD a),.agg (ptD b)] (.bool (vc m a b)) []:=by
 unfold vc
 by_cases h1 : m.s.length <= 60
 ·by_cases h2 : m.f.length <= 60
  ·have k:=va hC m (fun _=>by omega) a b
   simp only [ab,ptD] at k
   refine start hC (nf:=N688) rfl rfl ?_
   simp [N688,ab,ptD,show (m.s.length : Int) <= 60 by omega,show (m.f.length : Int) <= 60 by omega]
   refine aa k (.inl rfl) ?_
   simp [h1,h2]
  ·refine start hC (nf:=N688) rfl rfl ?_
   simp [N688,ab,ptD,show (m.s.length : Int) <= 60 by omega,show ¬ (m.f.length : Int) <= 60 by omega,h2]
 ·refine start hC (nf:=N688) rfl rfl ?_
  simp [N688,ab,ptD,show ¬ (m.s.length : Int) <= 60 by omega,h1]
end Go.Gv

set_option maxRecDepth 4000
namespace Go.Gv
def mvS (x y z : Int) (s : Spt) : Spt:=⟨s.x + x,s.y + y,s.z + z⟩
def mvM (m : Msh) (x y z : Int) : Msh:=⟨false,m.s.map (mvS x y z),false,m.f⟩
def pa (n : Int) : Bool:=decide (n < -67108864) || decide (67108864 < n)
def mvE (m : Msh) (x y z : Int) : Int:=if aC m=true then (if ([x,y,z].any pa)=true then 5 else if (m.s.all fun s=>aA (mvS x y z s))=true then 0 else 5) else 1
def o7 (x y z : Int) (ss : List Spt) (i : Nat) : List Spt:=(ss.take i).map (mvS x y z)++ss.drop i
def mvR (x y z : Int) (ss : List Spt) (i : Nat) : List (List D):=(o7 x y z ss i).map bk
theorem ry (x y z : Int) (ss : List Spt) (i : Nat) : (mvR x y z ss i).length=ss.length:=by simp [mvR,o7];omega
theorem uP (x y z : Int) (ss : List Spt) : mvR x y z ss 0=ss.map bk:=by simp [mvR,o7]
theorem xG (x y z : Int) (ss : List Spt) : mvR x y z ss ss.length=(ss.map (mvS x y z)).map bk:=by simp [mvR,o7]
theorem xH (x y z : Int) {ss : List Spt} {i : Nat} (h : i < ss.length) : (mvR x y z ss i)[i]? = some (bk ss[i]):=by
 unfold mvR o7
 rw [List.getElem?_map,List.getElem?_append_right (by simp;omega)]
 simp [Nat.min_eq_left (Nat.le_of_lt h),h]
theorem uQ (x y z : Int) {ss : List Spt} {i : Nat} (h : i < ss.length) : (o7 x y z ss i).set i (mvS x y z ss[i])=o7 x y z ss (i + 1):=by
 unfold o7
 rw [List.set_append_right _ _ (by simp;omega)]
 have e1 : i - ((ss.take i).map (mvS x y z)).length=0:=by simp;omega
 rw [e1,List.drop_eq_getElem_cons h,List.set_cons_zero,List.take_succ_eq_append_getElem h,List.map_append,List.append_assoc]
 rfl
theorem xI (x y z : Int) {ss : List Spt} {i : Nat} (h : i < ss.length) : (mvR x y z ss i).set i (bk (mvS x y z ss[i]))=mvR x y z ss (i + 1):=by
 unfold mvR
 rw [<- List.map_set,uQ x y z h]
theorem Cp (l : List Spt) : (l.map bk).map (fun e=>e.map aR)=l.map bk:=by
 rw [List.map_map]
 exact List.map_congr_left fun s _=>by simp [bk]
theorem A5 (l : List Fce) : (l.map aY).map (fun e=>e.map aR)=l.map aY:=by
 rw [List.map_map]
 exact List.map_congr_left fun s _=>by simp [aY]
theorem mf (l : List Spt) : ∀ e ∈ l.map bk,e.length=3 /\ ∀ c ∈ e,au c=true:=by
 intro e he
 obtain ⟨s,_,rfl⟩:=List.mem_map.1 he
 simp [bk]
theorem vI (l : List Spt) : ∀ e ∈ l.map bk,∀ c ∈ e,bi c=true:=by
 intro e he c hc
 obtain ⟨s,_,rfl⟩:=List.mem_map.1 he
 simp [bk] at hc
 rcases hc with rfl | rfl | rfl <;> rfl
theorem lv (l : List Fce) : ∀ e ∈ l.map aY,e.length=4 /\ ∀ c ∈ e,au c=true:=by
 intro e he
 obtain ⟨s,_,rfl⟩:=List.mem_map.1 he
 simp [aY]
theorem um (l : List Fce) : ∀ e ∈ l.map aY,∀ c ∈ e,bi c=true:=by
 intro e he c hc
 obtain ⟨s,_,rfl⟩:=List.mem_map.1 he
 simp [aY] at hc
 rcases hc with rfl | rfl | rfl | rfl <;> rfl
variable {C : CC} (hC : aw prog C)
include hC
theorem r5 (l : List Spt) (h2 : l.length <= 2000) (b : Bool) : C 403 [slx b (l.map bk)] .any [.own 3 (l.map bk)]:=by
 have hb : l.length * 24 <= 140737488355328:=by omega
 have hu:=vI l
 have hc:=mf l
 have hRl : (l.map bk).length=l.length:=List.length_map _
 obtain ⟨R,hR⟩ : ∃ R,R=l.map bk:=⟨_,rfl⟩
 rw [<- hR] at hu hc hRl ⊢
 refine vL hC (nf:=N403) rfl rfl ?_
 cases hbv : (b && decide (l=[]))
 ·have e : slx b R=.sl R:=by
   unfold slx
   cases b with
   | false=>simp
   | true =>
    simp at hbv
    cases l with
    | nil=>exact absurd rfl hbv
    | cons s r=>rw [hR];simp
  rw [e]
  simp [N403,hRl,hb]
  exact ⟨fun _=>⟨hc,hu⟩,fun e=>⟨⟨hu,by rw [hR,e];rfl⟩,hc,hu⟩⟩
 ·simp only [Bool.and_eq_true,decide_eq_true_eq] at hbv
  obtain ⟨rfl,rfl⟩:=hbv
  have e : slx true R=.nils:=by rw [hR];rfl
  have e2 : R=[]:=hR
  rw [e,e2]
  simp [N403]
theorem rZ (l : List Fce) (h2 : l.length <= 4000) (b : Bool) : C 404 [slx b (l.map aY)] .any [.own 4 (l.map aY)]:=by
 have hb : l.length * 32 <= 140737488355328:=by omega
 have hu:=um l
 have hc:=lv l
 have hRl : (l.map aY).length=l.length:=List.length_map _
 obtain ⟨R,hR⟩ : ∃ R,R=l.map aY:=⟨_,rfl⟩
 rw [<- hR] at hu hc hRl ⊢
 refine vL hC (nf:=N404) rfl rfl ?_
 cases hbv : (b && decide (l=[]))
 ·have e : slx b R=.sl R:=by
   unfold slx
   cases b with
   | false=>simp
   | true =>
    simp at hbv
    cases l with
    | nil=>exact absurd rfl hbv
    | cons s r=>rw [hR];simp
  rw [e]
  simp [N404,hRl,hb]
  exact ⟨fun _=>⟨hc,hu⟩,fun e=>⟨⟨hu,by rw [hR,e];rfl⟩,hc,hu⟩⟩
 ·simp only [Bool.and_eq_true,decide_eq_true_eq] at hbv
  obtain ⟨rfl,rfl⟩:=hbv
  have e : slx true R=.nils:=by rw [hR];rfl
  have e2 : R=[]:=hR
  rw [e,e2]
  simp [N404]
theorem tE (m : Msh) (h1 : m.s.length <= 2000) (h2 : m.f.length <= 4000) : C 401 [.agg (aZ m)] (.agg [.own 3 (m.s.map bk),.own 4 (m.f.map aY)]) [.nils]:=by
 have k1:=r5 hC m.s h1 m.sn
 have k2:=rZ hC m.f h2 m.fn
 refine vK hC (nf:=N401) rfl rfl rfl ?_
 simp [N401,ab]
 refine mG k1 ?_
 simp
 refine mG k2 ?_
 simp
 exact ⟨fun a ha=>(mf m.s _ (List.mem_map_of_mem ha)).2,fun a ha=>(lv m.f _ (List.mem_map_of_mem ha)).2,ai (by decide +kernel)⟩
theorem xB (n : Int) : C 400 [.int .i64 n] (.bool (pa n)) []:=by
 refine start hC (nf:=N400) rfl rfl ?_
 unfold pa
 simp [N400]
 by_cases h : n < -67108864
 ·simp [h]
 ·simp [h]
set_option maxHeartbeats 2000000 in
theorem Aq (dec : Nat -> List UInt8) (hI : ∀ n : Nat,n < 100 -> C 127 [.int .i64 n] (.str (dec n)) []) (m : Msh) (hz : bL m=true -> m.s.length <= 100 /\ m.f.length <= 100) (x y z : Int) : C 399 [.agg (aZ m),.int .i64 x,.int .i64 y,.int .i64 z] (.tup [if mvE m x y z=0 then .agg (aZ (mvM m x y z)) else .agg [.nils,.nils],.int .i64 (mvE m x y z)]) []:=by
 have k1:=lJ hC dec hI m hz
 have k2:=lA hC (b:=false) (xs:=[x,y,z]) (g:=400) (cs:=[]) pa (by simp) (fun n _=>xB hC n)
 simp only [ab] at k1
 unfold mvE
 by_cases hv : aC m=true
 rotate_left
 ·rw [Bool.not_eq_true] at hv
  rw [hv] at k1
  simp only [hv,Bool.false_eq_true,if_false]
  refine start hC (nf:=N399) rfl rfl ?_
  simp [N399,ab]
  refine aa k1 (.inl rfl) ?_
  simp
 rw [hv] at k1
 simp only [hv,if_true]
 cases ho : ([x,y,z].any pa)
 rotate_left
 ·rw [ho] at k2
  simp at k2
  simp only [if_true]
  refine start hC (nf:=N399) rfl rfl ?_
  simp [N399,ab]
  refine aa k1 (.inl rfl) ?_
  simp
  refine aa k2 (.inl rfl) ?_
  simp
 rw [ho] at k2
 simp at k2
 simp only [Bool.false_eq_true,if_false]
 have hb:=ho
 simp only [List.any_cons,List.any_nil,pa,Bool.or_false,Bool.or_eq_false_iff,decide_eq_false_iff_not] at hb
 have hsl:=ii hv
 have k3:=tE hC m hsl.1 hsl.2
 simp only [ab] at k3
 obtain ⟨E,hE⟩ : ∃ E : Int,E=if (m.s.all fun s=>aA (mvS x y z s))=true then 0 else 5:=⟨_,rfl⟩
 rw [<- hE]
 have hgood : (∀ (j : Nat) (h : j < m.s.length),aA (mvS x y z m.s[j])=true) -> E=0:=fun h=>by
  rw [hE,if_pos]
  rw [List.all_eq_true]
  intro s hs
  obtain ⟨j,hj,rfl⟩:=List.getElem_of_mem hs
  exact h j hj
 have hbad : ∀ (j : Nat) (h : j < m.s.length),aA (mvS x y z m.s[j])=false -> E=5:=fun j h hr=>by
  rw [hE,if_neg]
  intro h2
  have:=List.all_eq_true.1 h2 _ (List.getElem_mem h)
  rw [hr] at this
  cases this
 clear hE
 refine start hC (nf:=N399) rfl rfl ?_
 simp [N399,ab]
 refine aa k1 (.inl rfl) ?_
 simp
 refine aa k2 (.inl rfl) ?_
 simp
 refine mF k3 rfl ?_
 simp
 refine ⟨fun a ha=>(mf m.s _ (List.mem_map_of_mem ha)).2,fun a ha=>(lv m.f _ (List.mem_map_of_mem ha)).2,?_⟩
 refine av Nat (fun i=>[(1,.int .i64 x),(2,.int .i64 y),(3,.int .i64 z),(8,.adr (.r 10128) 0 0),(10,.adr (.r 10160) 0 0),(27,.int .i64 m.s.length),(28,.int .i64 i),(10128,.blk 2 [[.own 3 [],.own 4 []]]),(10160,.blk 2 [[.own 3 (mvR x y z m.s i),.own 4 (m.f.map aY)]])])
  (fun i=>i <= m.s.length /\ ∀ (j : Nat) (h : j < m.s.length),j < i -> aA (mvS x y z m.s[j])=true) (fun i=>m.s.length - i) 0 ⟨by omega,fun j h hj=>by omega⟩ (by simp [uP]) ?_
 rintro i ⟨hi,hall⟩
 simp
 refine al (fun h=>?_) (fun h=>?_) <;> simp at h
 ·have hw : IntKind.wrap .i64 ((i : Int) + 1)=((i + 1 : Nat) : Int):=ae (by omega) (by omega)
  have hg:=xH x y z h
  have hln:=ry x y z m.s i
  have hset:=xI x y z h
  have hrs:=iJ hv h
  have esp : m.s[i]=spt m i:=(getElem!_pos m.s i h).symm
  have hgr : aA (mvS x y z m.s[i])=true -> ∀ (j : Nat) (h : j < m.s.length),j < i + 1 -> aA (mvS x y z m.s[j])=true:=fun h1 j hj hji=>by
   rcases Nat.lt_succ_iff_lt_or_eq.1 hji with h2 | rfl
   ·exact hall j hj h2
   ·exact h1
  have hbd:=hbad i h
  rw [esp] at hg hset hgr hbd
  have hrb : (-16777216 <= (spt m i).x /\ (spt m i).x <= 16777216) /\ (-16777216 <= (spt m i).y /\ (spt m i).y <= 16777216) /\ -4194304 <= (spt m i).z /\ (spt m i).z <= 4194304:=by
   simp only [aA,Bool.and_eq_true,decide_eq_true_eq] at hrs
   omega
  have k4:=o5 hC (mvS x y z (spt m i))
  generalize spt m i=s at *
  have w1 : IntKind.wrap .i64 (s.x + x)=s.x + x:=ae rfl (by omega)
  have w2 : IntKind.wrap .i64 (s.y + y)=s.y + y:=ae rfl (by omega)
  have w3 : IntKind.wrap .i64 (s.z + z)=s.z + z:=ae rfl (by omega)
  generalize hRs : aA (mvS x y z s)=ok at *
  simp only [bk,mvS] at hg hset k4
  have hR : i < (mvR x y z m.s i).length:=by omega
  obtain ⟨_,hgi⟩:=List.getElem?_eq_some_iff.1 hg
  generalize mvR x y z m.s i=R at *
  simp [h,hln,bO hg,w1,w2,w3,hgi]
  have hg2 : (mvR x y z m.s (i + 1))[i]? = some [.int .i64 (s.x + x),.int .i64 (s.y + y),.int .i64 (s.z + z)]:=by
   rw [<- hset]
   exact List.getElem?_set_self hR
  rw [hset]
  refine ⟨ai (by decide +kernel),?_⟩
  simp [bO hg2]
  refine aa k4 (.inl rfl) ?_
  cases ok
  ·simp [hbd rfl]
  ·simp [hw]
   refine ⟨i + 1,⟨by omega,fun j hj hji=>?_⟩,by omega,by omega,rfl⟩
   have h1:=hgr rfl j hj hji
   have e : m.s[j]=spt m j:=(getElem!_pos m.s j hj).symm
   rw [e] at h1
   exact h1
 ·have ei : i=m.s.length:=by omega
  subst ei
  have e0 : E=0:=hgood (fun j hj=>hall j hj hj)
  have e2:=xG x y z m.s
  have hl:=ry x y z m.s m.s.length
  have hV : (mvR x y z m.s m.s.length).map (fun e=>e.map aR)=mvR x y z m.s m.s.length:=by rw [e2];exact Cp _
  have hfV:=A5 m.f
  have em : aZ (mvM m x y z)=[.sl (mvR x y z m.s m.s.length),.sl (m.f.map aY)]:=by rw [e2];rfl
  rw [em]
  generalize mvR x y z m.s m.s.length=R at *
  generalize m.f.map aY=FF at *
  simp [h,e0,hV,hfV]
end Go.Gv

set_option maxRecDepth 4000
namespace Go.Gv
def mnS (o s : Spt) : Spt:=if s.z < o.z then s else o
def mxS (o s : Spt) : Spt:=if o.z < s.z then s else o
def mnK (l : List Spt) (k : Nat) : Spt:=(l.take k).foldl mnS (l.headD default)
def mxK (l : List Spt) (k : Nat) : Spt:=(l.take k).foldl mxS (l.headD default)
theorem lM : ∀ (l : List Spt) (a : Spt),(l.foldl mnS a=a \/ l.foldl mnS a ∈ l) /\ (l.foldl mnS a).z <= a.z /\ ∀ s ∈ l,(l.foldl mnS a).z <= s.z
 | [],a=>⟨.inl rfl,Int.le_refl _,fun s h=>by cases h⟩
 | x::r,a=>by
  rw [List.foldl_cons]
  obtain ⟨h1,h2,h3⟩:=lM r (mnS a x)
  have e : (mnS a x=a \/ mnS a x=x) /\ (mnS a x).z <= a.z /\ (mnS a x).z <= x.z:=by
   unfold mnS
   split
   ·exact ⟨.inr rfl,by omega,by omega⟩
   ·exact ⟨.inl rfl,by omega,by omega⟩
  refine ⟨?_,by omega,fun s hs=>?_⟩
  ·rcases h1 with h1 | h1
   ·rcases e.1 with e1 | e1
    ·rw [h1];exact .inl e1
    ·rw [h1,e1];exact .inr (List.mem_cons_self ..)
   ·exact .inr (List.mem_cons_of_mem _ h1)
  ·rcases List.mem_cons.1 hs with rfl | hs
   ·omega
   ·exact h3 s hs
theorem lO : ∀ (l : List Spt) (a : Spt),(l.foldl mxS a=a \/ l.foldl mxS a ∈ l) /\ a.z <= (l.foldl mxS a).z /\ ∀ s ∈ l,s.z <= (l.foldl mxS a).z
 | [],a=>⟨.inl rfl,Int.le_refl _,fun s h=>by cases h⟩
 | x::r,a=>by
  rw [List.foldl_cons]
  obtain ⟨h1,h2,h3⟩:=lO r (mxS a x)
  have e : (mxS a x=a \/ mxS a x=x) /\ a.z <= (mxS a x).z /\ x.z <= (mxS a x).z:=by
   unfold mxS
   split
   ·exact ⟨.inr rfl,by omega,by omega⟩
   ·exact ⟨.inl rfl,by omega,by omega⟩
  refine ⟨?_,by omega,fun s hs=>?_⟩
  ·rcases h1 with h1 | h1
   ·rcases e.1 with e1 | e1
    ·rw [h1];exact .inl e1
    ·rw [h1,e1];exact .inr (List.mem_cons_self ..)
   ·exact .inr (List.mem_cons_of_mem _ h1)
  ·rcases List.mem_cons.1 hs with rfl | hs
   ·omega
   ·exact h3 s hs
theorem mU {l : List Spt} (h : 0 < l.length) : l.headD default ∈ l:=by
 cases l with
 | nil=>simp at h
 | cons x r=>simp
theorem xz {l : List Spt} (h : 0 < l.length) (k : Nat) : mnK l k ∈ l:=by
 rcases (lM (l.take k) (l.headD default)).1 with e | e
 ·unfold mnK;rw [e];exact mU h
 ·exact List.mem_of_mem_take e
theorem xJ {l : List Spt} (h : 0 < l.length) (k : Nat) : mxK l k ∈ l:=by
 rcases (lO (l.take k) (l.headD default)).1 with e | e
 ·unfold mxK;rw [e];exact mU h
 ·exact List.mem_of_mem_take e
theorem Bx {l : List Spt} : ∀ s ∈ l,(mnK l l.length).z <= s.z:=by
 unfold mnK
 rw [List.take_length]
 exact (lM l _).2.2
theorem BV {l : List Spt} : ∀ s ∈ l,s.z <= (mxK l l.length).z:=by
 unfold mxK
 rw [List.take_length]
 exact (lO l _).2.2
theorem xA {l : List Spt} (h : 0 < l.length) : mnK l 1=l[0]:=by
 cases l with
 | nil=>simp at h
 | cons x r=>simp [mnK,mnS]
theorem xK {l : List Spt} (h : 0 < l.length) : mxK l 1=l[0]:=by
 cases l with
 | nil=>simp at h
 | cons x r=>simp [mxK,mxS]
theorem uN {l : List Spt} {k : Nat} (h : k < l.length) : mnK l (k + 1)=if l[k].z < (mnK l k).z then l[k] else mnK l k:=by
 unfold mnK
 rw [List.take_succ_eq_append_getElem h,List.foldl_append]
 rfl
theorem uR {l : List Spt} {k : Nat} (h : k < l.length) : mxK l (k + 1)=if (mxK l k).z < l[k].z then l[k] else mxK l k:=by
 unfold mxK
 rw [List.take_succ_eq_append_getElem h,List.foldl_append]
 rfl
theorem I5 (m : Msh) (d : Int) : mvM m 0 0 d=rsM m d:=by
 have : mvS 0 0 d=rsZ d:=by
  funext s
  unfold mvS rsZ
  simp
 unfold mvM rsM
 rw [this]
variable {C : CC} (hC : aw prog C)
include hC
theorem pp (s t : Spt) (hs : -4194304 <= s.z /\ s.z <= 4194304) (ht : -4194304 <= t.z /\ t.z <= 4194304) : C 699 [.agg (bk s),.agg (bk t)] (.int .i64 (s.z - t.z)) []:=by
 have w : IntKind.wrap .i64 (s.z - t.z)=s.z - t.z:=ae rfl (by omega)
 refine start hC (nf:=N699) rfl rfl ?_
 simp [N699,bk,w]
theorem xy (b : Bool) (l : List Spt) (h0 : 0 < l.length) (hl : l.length < 2 ^ 40) (hz : ∀ s ∈ l,-4194304 <= s.z /\ s.z <= 4194304) : C 700 [slx b (l.map bk),.fn 699 []] (.agg (bk (mnK l l.length))) []:=by
 have e1:=xA h0
 refine start hC (nf:=N700) rfl rfl ?_
 simp [N700,bk,h0,show ¬ (l.length : Int) < 1 by omega]
 refine av Nat (fun k=>[(0,slx b (l.map bk)),(1,.fn 699 []),(4,.adr (.r 10064) 0 0),(5,.adr (.r 10080) 0 0),(6,.int .i64 k),(10064,.blk 3 [[.int .i64 0,.int .i64 0,.int .i64 0]]),(10080,.blk 3 [[.int .i64 (mnK l k).x,.int .i64 (mnK l k).y,.int .i64 (mnK l k).z]])])
  (fun k=>1 <= k /\ k <= l.length) (fun k=>l.length - k) 1 ⟨by omega,by omega⟩ (by simp [e1,bk]) ?_
 rintro k ⟨hk1,hk⟩
 simp
 refine al (fun h3=>?_) (fun h3=>?_) <;> simp at h3
 ·have hw : IntKind.wrap .i64 ((k : Int) + 1)=((k + 1 : Nat) : Int):=ae (by omega) (by omega)
  have hs:=uN h3
  have kc:=pp hC l[k] (mnK l k) (hz _ (List.getElem_mem h3)) (hz _ (xz h0 k))
  generalize mnK l k=o at *
  simp only [bk] at kc
  simp [h3,bk]
  refine aa kc (.inl rfl) ?_
  by_cases c : l[k].z < o.z
  ·rw [if_pos c] at hs
   simp [h3,bk,show l[k].z - o.z < 0 by omega,hw,c]
   exact ⟨ai (by decide +kernel),k + 1,⟨by omega,by omega⟩,by omega,by simp [hs]⟩
  ·rw [if_neg c] at hs
   simp [h3,bk,show ¬ l[k].z - o.z < 0 by omega,hw,c]
   exact ⟨ai (by decide +kernel),k + 1,⟨by omega,by omega⟩,by omega,by simp [hs]⟩
 ·have ek : k=l.length:=by omega
  subst ek
  simp [h3,bk]
theorem xu (b : Bool) (l : List Spt) (h0 : 0 < l.length) (hl : l.length < 2 ^ 40) (hz : ∀ s ∈ l,-4194304 <= s.z /\ s.z <= 4194304) : C 701 [slx b (l.map bk),.fn 699 []] (.agg (bk (mxK l l.length))) []:=by
 have e1:=xK h0
 refine start hC (nf:=N701) rfl rfl ?_
 simp [N701,bk,h0,show ¬ (l.length : Int) < 1 by omega]
 refine av Nat (fun k=>[(0,slx b (l.map bk)),(1,.fn 699 []),(4,.adr (.r 10064) 0 0),(5,.adr (.r 10080) 0 0),(6,.int .i64 k),(10064,.blk 3 [[.int .i64 0,.int .i64 0,.int .i64 0]]),(10080,.blk 3 [[.int .i64 (mxK l k).x,.int .i64 (mxK l k).y,.int .i64 (mxK l k).z]])])
  (fun k=>1 <= k /\ k <= l.length) (fun k=>l.length - k) 1 ⟨by omega,by omega⟩ (by simp [e1,bk]) ?_
 rintro k ⟨hk1,hk⟩
 simp
 refine al (fun h3=>?_) (fun h3=>?_) <;> simp at h3
 ·have hw : IntKind.wrap .i64 ((k : Int) + 1)=((k + 1 : Nat) : Int):=ae (by omega) (by omega)
  have hs:=uR h3
  have kc:=pp hC l[k] (mxK l k) (hz _ (List.getElem_mem h3)) (hz _ (xJ h0 k))
  generalize mxK l k=o at *
  simp only [bk] at kc
  simp [h3,bk]
  refine aa kc (.inl rfl) ?_
  by_cases c : o.z < l[k].z
  ·rw [if_pos c] at hs
   simp [h3,bk,show 0 < l[k].z - o.z by omega,hw,c]
   exact ⟨ai (by decide +kernel),k + 1,⟨by omega,by omega⟩,by omega,by simp [hs]⟩
  ·rw [if_neg c] at hs
   simp [h3,bk,show ¬ 0 < l[k].z - o.z by omega,hw,c]
   exact ⟨ai (by decide +kernel),k + 1,⟨by omega,by omega⟩,by omega,by simp [hs]⟩
 ·have ek : k=l.length:=by omega
  subst ek
  simp [h3,bk]
end Go.Gv

set_option maxRecDepth 4000
namespace Go.Gv
theorem xt {m : Msh} {a b : Pnt} {n : Nat} (h : dS m a b n (n + 1)=true) : 0 < m.s.length:=by
 obtain ⟨hv,hp,hf⟩:=i8 (fD (i:=0) h (by omega))
 obtain ⟨hi,ho⟩:=gl hf
 have:=gm (ev hv hi)
 omega
theorem Cb {m : Msh} {d : Int} (hv : aC m=true) (hr : ∀ i,i < m.s.length -> aA (rsZ d (spt m i))=true) (a b : Pnt) (n : Nat) : lvE (rsM m d) a b n=lvE m a b n:=by
 unfold lvE
 rw [n5 hv hr]
theorem vn {m : Msh} {d : Int} (hv : aC m=true) (hr : ∀ i,i < m.s.length -> aA (rsZ d (spt m i))=true) (a b : Pnt) : bS (rsM m d) a b=bS m a b:=by
 unfold bS
 rw [l9 hv hr,hv]
variable {C : CC} (hC : aw prog C)
include hC
set_option maxHeartbeats 8000000 in
theorem kO (hS : wi C) (dec : Nat -> List UInt8) (hI : ∀ n : Nat,n < 100 -> C 127 [.int .i64 n] (.str (dec n)) []) (m : Msh) (a b : Pnt) (n : Int) (hn : 0 <= n /\ n <= 255) (d : Int) (hd : -32768 <= d /\ d <= 32767) :
  C 676 [.agg (aZ m),.agg (ptD a),.agg (ptD b),.int .u8 n,.int .i16 d] (.bool true) []:=by
 have k0:=tt hC hS dec hI
 have kr:=ve hC m a b
 simp only [ab,ptD] at kr
 obtain ⟨r,hr⟩ : ∃ r,r=n.tmod 30:=⟨_,rfl⟩
 have br:=sY hn.1 (c:=30) (by omega)
 rw [<- hr] at br
 obtain ⟨k,hk⟩ : ∃ k : Nat,(k : Int)=1 + r:=⟨(1 + r).toNat,by omega⟩
 have wn : IntKind.wrap .i64 n=n:=ae rfl (by omega)
 have wd : IntKind.wrap .i64 d=d:=ae rfl (by omega)
 have wk : IntKind.wrap .i64 (1 + r)=k:=ae (by omega) (by omega)
 have wk1 : IntKind.wrap .i64 ((k : Int) + 1)=((k + 1 : Nat) : Int):=ae (by omega) (by omega)
 refine start hC (nf:=N676) rfl rfl ?_
 simp [N676,ab,ptD]
 refine aa k0 (.inl rfl) ?_
 simp [wn,<- hr,wk]
 refine aa kr (.inl rfl) ?_
 cases hrd : vc m a b
 ·simp
 obtain ⟨z1,z2,h0⟩:=xW hrd
 obtain ⟨hv,hle⟩:=lI h0
 have hz : bL m=true -> m.s.length <= 100 /\ m.f.length <= 100:=fun _=>by omega
 have hkr : 1 <= (k : Int) /\ (k : Int) <= 999:=by omega
 have cn : dU (bS m a b) k []=0:=by unfold dU;rw [if_pos h0,if_pos ⟨hkr,rfl⟩]
 have k1:=nq hC dec hI m hz a b k
 have e1 : j7 m a b k=lvE m a b k:=by unfold j7;rw [if_pos cn,Int.toNat_natCast]
 rw [e1] at k1
 have kM:=Aq hC dec hI m hz 0 0 d
 have hoff : ([0,0,d].any pa)=false:=by
  simp only [List.any_cons,List.any_nil,pa,Bool.or_false,Bool.or_eq_false_iff,decide_eq_false_iff_not]
  omega
 have eM : mvE m 0 0 d=if (m.s.all fun s=>aA (mvS 0 0 d s))=true then 0 else 5:=by
  unfold mvE
  rw [if_pos hv,hoff,if_neg (by decide)]
 have hdD : mA m a b k=.nils \/ ∃ R,mA m a b k=.sl R:=by
  by_cases h : j7 m a b k=0
  ·exact .inr ⟨_,(qJ h).2.2⟩
  ·exact .inl (qI h)
 by_cases hall : (m.s.all fun s=>aA (mvS 0 0 d s))=true
 rotate_left
 ·rw [if_neg hall] at eM
  rw [eM,if_neg (by decide)] at kM
  simp only [ab,ptD] at k1 kM
  rcases hdD with hdD | ⟨R,hdD⟩ <;> rw [hdD] at k1
  all_goals
   simp [ab,ptD]
   refine aa k1 (.inr rfl) ?_
   simp [wd,ab]
   refine aa kM (.inr rfl) ?_
   simp
 rw [if_pos hall] at eM
 rw [eM,if_pos rfl,I5] at kM
 have hrt : ∀ i,i < m.s.length -> aA (rsZ d (spt m i))=true:=fun i hi=>by
  have h1:=List.all_eq_true.1 hall _ (List.getElem_mem hi)
  have e : m.s[i]=spt m i:=(getElem!_pos m.s i hi).symm
  have e2 : mvS 0 0 d (spt m i)=rsZ d (spt m i):=by unfold mvS rsZ;simp
  rw [e,e2] at h1
  exact h1
 have hvr:=l9 hv hrt
 have hls : (rsM m d).s.length=m.s.length:=by simp [rsM]
 have hlf : (rsM m d).f.length=m.f.length:=rfl
 have hzr : bL (rsM m d)=true -> (rsM m d).s.length <= 100 /\ (rsM m d).f.length <= 100:=fun _=>by omega
 have elm:=vn hv hrt a b
 have ele:=Cb hv hrt a b k
 have cnr : dU (bS (rsM m d) a b) k []=0:=by rw [elm];exact cn
 have k2:=nq hC dec hI (rsM m d) hzr a b k
 have e2 : j7 (rsM m d) a b k=lvE m a b k:=by unfold j7;rw [if_pos cnr,Int.toNat_natCast,ele]
 rw [e2] at k2
 have em : aZ (rsM m d)=[.sl ((m.s.map (rsZ d)).map bk),.sl (m.f.map aY)]:=rfl
 by_cases hok : dS m a b k (k + 1)=true
 rotate_left
 ·have eE : lvE m a b k=12:=by unfold lvE;rw [if_neg hok]
  have d1 : mA m a b k=.nils:=qI (by rw [e1,eE];decide)
  have d2 : mA (rsM m d) a b k=.nils:=qI (by rw [e2,eE];decide)
  rw [eE,d1] at k1
  rw [eE,d2] at k2
  rw [em] at k2 kM
  generalize (m.s.map (rsZ d)).map bk=SS at *
  generalize hFF : m.f.map aY=FF at *
  simp only [ab,ptD,hFF] at k1 k2 kM
  simp [ab,ptD,hFF]
  refine aa k1 (.inr rfl) ?_
  simp [wd,ab,hFF]
  refine aa kM (.inr rfl) ?_
  simp [ab,ptD,hFF]
  refine aa k2 (.inr rfl) ?_
  simp
 have eE : lvE m a b k=0:=by unfold lvE;rw [if_pos hok]
 have hokr : dS (rsM m d) a b k (k + 1)=true:=by rw [n5 hv hrt];exact hok
 have eR1:=(qJ (m:=m) (a:=a) (b:=b) (n:=(k : Int)) (by rw [e1,eE])).2.2
 have eR2:=(qJ (m:=rsM m d) (a:=a) (b:=b) (n:=(k : Int)) (by rw [e2,eE])).2.2
 rw [Int.toNat_natCast] at eR1 eR2
 have s1 : lvR m a b k (k + 1)=(lvT m a b k (k + 1)).map spD:=rfl
 have s2 : lvR (rsM m d) a b k (k + 1)=((lvT m a b k (k + 1)).map (shS d)).map spD:=by unfold lvR;rw [vo hok]
 rw [s1] at eR1
 rw [s2] at eR2
 rw [eR1,eE] at k1
 rw [eR2,eE] at k2
 have hs0:=xt hok
 have hzb : ∀ s ∈ m.s,-4194304 <= s.z /\ s.z <= 4194304:=fun s hs=>by
  obtain ⟨i,hi,rfl⟩:=List.getElem_of_mem hs
  have h1:=iJ hv hi
  have e : m.s[i]=spt m i:=(getElem!_pos m.s i hi).symm
  rw [<- e] at h1
  have:=iF h1
  omega
 have k5:=xy hC m.sn m.s hs0 (by omega) hzb
 have k6:=xu hC m.sn m.s hs0 (by omega) hzb
 have hbt : ∀ s ∈ m.s,(mnK m.s m.s.length).z <= s.z /\ s.z <= (mxK m.s m.s.length).z:=fun s hs=>⟨Bx s hs,BV s hs⟩
 have hlv : ∀ s ∈ lvT m a b k (k + 1),((-4194304 <= s.1 /\ s.1 <= 4194304) /\ -4194304 <= s.2 /\ s.2 <= 4194304) /\ (s.1 <= s.2 /\ s.2 <= s.1 + 1) /\ (mnK m.s m.s.length).z <= s.1 /\ s.2 <= (mxK m.s m.s.length).z:=fun s hs=>by
  refine ⟨Br hok s hs,?_⟩
  unfold lvT at hs
  obtain ⟨i,hi,rfl⟩:=List.mem_map.1 hs
  have ho:=fD hok (List.mem_range.1 hi)
  exact ⟨Bq ho,qr ho hbt⟩
 have lz : iO 0=true:=by decide
 have c2 : dU (bS m a b) k [0,0]=0:=by unfold dU;rw [if_pos h0,if_pos ⟨hkr,by simp [lz]⟩]
 have c2r : dU (bS (rsM m d) a b) k [0,0]=0:=by rw [elm];exact c2
 have k3:=mj hC dec hI m hz a b k 0 0
 have k4:=mj hC dec hI (rsM m d) hzr a b k 0 0
 have f1 : oz m a b k 0 0=0:=by unfold oz;rw [if_pos c2,Int.toNat_natCast,eE]
 have f2 : oz (rsM m d) a b k 0 0=0:=by unfold oz;rw [if_pos c2r,Int.toNat_natCast,ele,eE]
 have f3 : oA m a b k 0 0=cvS m a b k 0 0:=by unfold oA;rw [if_pos c2,Int.toNat_natCast]
 have f4 : oA (rsM m d) a b k 0 0=shS d (cvS m a b k 0 0):=by unfold oA;rw [if_pos c2r,Int.toNat_natCast,Ca hv hrt 0 hok]
 rw [f1,f3] at k3
 rw [f2,f4] at k4
 have bc:=AQ (m:=m) (a:=a) (b:=b) (n:=k) (by omega) (by omega) lz lz hok
 have hll : (lvT m a b k (k + 1)).length=k + 1:=by simp [lvT]
 generalize lvT m a b k (k + 1)=L at *
 generalize cvS m a b k 0 0=c at *
 generalize mnK m.s m.s.length=lo at *
 generalize mxK m.s m.s.length=hi at *
 have w1 : IntKind.wrap .i64 (c.1 + d)=c.1 + d:=ae rfl (by omega)
 have w2 : IntKind.wrap .i64 (c.2 + d)=c.2 + d:=ae rfl (by omega)
 rw [em] at k2 kM k4
 generalize (m.s.map (rsZ d)).map bk=SS at *
 generalize hFF : m.f.map aY=FF at *
 have hM2 : ∀ (i : Nat) (h : i < L.length),((L.map (shS d)).map spD)[i]? = some [.int .i64 (L[i].1 + d),.int .i64 (L[i].2 + d)]:=fun i h=>by simp [h,shS,spD]
 have hM2l : ((L.map (shS d)).map spD).length=k + 1:=by simp [hll]
 generalize (L.map (shS d)).map spD=L2 at *
 simp only [ab,ptD,hFF,spD,shS,bk] at k1 k2 k3 k4 k5 k6 kM
 simp [ab,ptD,hFF]
 refine aa k1 (.inr rfl) ?_
 simp [wd,ab,hFF]
 refine aa kM (.inr rfl) ?_
 simp [ab,ptD,hFF]
 refine aa k2 (.inr rfl) ?_
 simp [hM2l,hll,wk1]
 refine aa k5 (.inl rfl) ?_
 simp
 refine aa k6 (.inl rfl) ?_
 simp
 refine ⟨ai (by decide +kernel),?_⟩
 refine av Nat (fun i=>[(4,.int .i16 d),(5,.ptr [slx m.sn (m.s.map bk),slx m.fn FF]),(6,.ptr [.int .i64 a.1,.int .i64 a.2]),(7,.ptr [.int .i64 b.1,.int .i64 b.2]),(11,.int .i64 k),(14,.adr (.r 10224) 0 0),(16,.sl L2),(19,.int .i64 lo.z),(20,.int .i64 hi.z),(99,.sl (L.map spD)),(100,.int .i64 L.length),(101,.int .i64 i),(10224,.blk 2 [[.sl SS,.sl FF]])])
  (fun i=>i <= L.length) (fun i=>L.length - i) 0 (by simp) (by simp) ?_
 intro i hi'
 simp
 refine al (fun h3=>?_) (fun h3=>?_) <;> simp at h3
 ·have hw : IntKind.wrap .i64 ((i : Int) + 1)=((i + 1 : Nat) : Int):=ae (by omega) (by omega)
  have hsi:=hlv L[i] (List.getElem_mem h3)
  have hgi:=hM2 i h3
  have hg1 : (L.map spD)[i]? = some [.int .i64 L[i].1,.int .i64 L[i].2]:=by simp [h3,spD]
  generalize L[i]=s at *
  have v1 : IntKind.wrap .i64 (s.1 + d)=s.1 + d:=ae rfl (by omega)
  have v2 : IntKind.wrap .i64 (s.2 + d)=s.2 + d:=ae rfl (by omega)
  have v3 : IntKind.wrap .i64 (s.1 + 1)=s.1 + 1:=ae rfl (by omega)
  simp [h3,cP hg1,cP hgi,wd,v1,v2,v3,show ¬ s.2 < s.1 by omega,show ¬ s.1 + 1 < s.2 by omega,show ¬ s.1 < lo.z by omega,show ¬ hi.z < s.2 by omega,hM2l]
  exact ⟨ai (by decide +kernel),i + 1,by omega,by omega,hw⟩
 ·simp [h3,ab,ptD,hFF]
  refine aa k3 (.inl rfl) ?_
  simp [ab,ptD,hFF]
  refine aa k4 (.inl rfl) ?_
  simp [wd,w1,w2]
end Go.Gv
