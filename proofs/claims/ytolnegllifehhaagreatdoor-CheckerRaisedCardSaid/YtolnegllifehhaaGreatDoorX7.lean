/-
  Texts of the proof: K1, K3, Q0, Q1, Q2, K4, K5, K6, K7, K8, K2, K9, Q3, A4, Q4, Q5, B1, B2, K10, B3, B4, B5, Q6, Q7, Q12, Q22, Q28, S0, Q29, M1, P4, M0, W1, W2, W3, W4, K11, W5, P4b, Q8, Q30, Q9, Q10, K12, M2a, K13, M2, M3, M4, P3, B6, B7, P5, M5, P1, P2, B8, P6, Q14, Q15, Q16, Q17, B9, P7, Q19, Q23, Q25, Q31, Q32, Q33, Q11, Q13, Q18, Q20, Q24, Q26, Q34, A2, A3, A5, A6, A7, A8, A9.
-/
import Derived.Test.YtolnegllifehhaaGreatDoorX6
import Derived.Test.YtolnegllifehhaaGreatDoorX5
import Derived.Lib.SlicesCompact
import Derived.Lib.Mul64
import Derived.Laws.Bits64b
import Derived.Laws.MathBits
set_option linter.all false
namespace Go.Gv
def iM (c : Int) : Bool:=(97 <= c && c <= 122) || (65 <= c && c <= 90)
def mh (c : Int) : Bool:=48 <= c && c <= 57
def f9 (c : UInt8) : Bool:=iM c.toNat || mh c.toNat || c.toNat == 95
def cZ (s : List UInt8) : Nat:=(s.takeWhile f9).length
def iA (n : Int) : Bool:=-1125899906842624 <= n && n <= 1125899906842624
def ci (s : List UInt8) : Bool:=s ≠ [] && s.length <= 20 && iM (s[0]!).toNat && cZ s == s.length
theorem sv (s : List UInt8) : cZ s <= s.length:=by unfold cZ;exact (List.takeWhile_prefix _).length_le
theorem su {α : Type} (p : α -> Bool) : ∀ (s : List α) (i : Nat) (h : i < s.length),i <= (s.takeWhile p).length -> (p s[i]=true -> i + 1 <= (s.takeWhile p).length) /\ (p s[i]=false -> i=(s.takeWhile p).length)
 | [],i,h,_=>by simp at h
 | x::s,0,h,_=>by
  constructor <;> intro h1 <;> simp at h1 <;> simp [h1]
 | x::s,i + 1,h,h2=>by
  rw [List.takeWhile_cons] at h2 ⊢
  split at h2
  ·rename_i hp
   simp only [hp,if_true,List.length_cons,List.getElem_cons_succ] at h2 ⊢
   have:=su p s i (by simpa using h) (by omega)
   exact ⟨fun e=>by have:=this.1 e;omega,fun e=>by have:=this.2 e;omega⟩
  ·simp at h2
theorem pz {s : List UInt8} {i : Nat} (h : i < s.length) (hi : i <= cZ s) : f9 s[i]=true -> i + 1 <= cZ s:=(su f9 s i h hi).1
theorem pA {s : List UInt8} {i : Nat} (h : i < s.length) (hi : i <= cZ s) : f9 s[i]=false -> i=cZ s:=(su f9 s i h hi).2
theorem ah {n m : Int} (h : n=m) (h2 : -9223372036854775808 <= m /\ m < 9223372036854775808) : IntKind.wrap .i64 n=m:=by
 subst h
 have e1 : IntKind.i64.signed=true:=rfl
 have e2 : (2 ^ (IntKind.i64.bits - 1) : Int)=9223372036854775808:=rfl
 have e3 : (2 ^ IntKind.i64.bits : Int)=18446744073709551616:=rfl
 unfold IntKind.wrap
 simp only [e1,e2,e3,Bool.true_and,decide_eq_true_eq]
 split <;> omega
variable {C : CC} (hC : aj prog C)
include hC
theorem wB (n : Int) : C 89 [.int .i64 n] (.bool (iA n)) []:=by
 refine start hC (nf:=N89) rfl rfl ?_
 simp [N89,iA]
 refine ac (fun h=>?_) (fun h=>?_) <;> simp at h <;> simp [h] <;> omega
theorem y7 (c : Int) : C 88 [.int .u8 c] (.bool (mh c)) []:=by
 refine start hC (nf:=N88) rfl rfl ?_
 simp [N88,mh]
 refine ac (fun h=>?_) (fun h=>?_) <;> simp at h <;> simp [h] <;> omega
theorem qc (c : Int) : C 70 [.int .u8 c] (.bool (iM c)) []:=by
 refine start hC (nf:=N70) rfl rfl ?_
 simp [N70,iM]
 repeat' (refine ac (fun h=>?_) (fun h=>?_) <;> simp at h <;> simp [h] <;> try omega)
theorem EK (s : List UInt8) (hs : s.length < 2 ^ 62) : C 71 [.str s] (.int .i64 (cZ s)) []:=by
 refine start hC (nf:=N71) rfl rfl ?_
 simp [N71]
 refine ar Nat (fun i=>[(0,.str s),(3,.int .i64 i)]) (fun i=>i <= cZ s) (fun i=>cZ s - i) 0 (by simp) (by simp) ?_
 intro i hi
 have hle : cZ s <= s.length:=sv s
 by_cases hl : i < s.length
 ·simp [hl]
  refine aa (qc hC _) (.inl rfl) ?_
  have hstep : f9 s[i]=true -> i + 1 <= cZ s:=pz hl hi
  have hstop : f9 s[i]=false -> i=cZ s:=pA hl hi
  simp only [f9] at hstep hstop
  have hw : IntKind.wrap .i64 ((i : Int) + 1)=((i + 1 : Nat) : Int):=ah (by omega) (by omega)
  cases h1 : iM s[i].toNat with
  | true =>
   simp [h1,hw] at hstep ⊢
   exact ⟨i + 1,by omega,by omega,rfl⟩
  | false =>
   simp [h1,hl]
   refine aa (y7 hC _) (.inl rfl) ?_
   cases h2 : mh s[i].toNat with
   | true =>
    simp [h1,h2,hw] at hstep ⊢
    exact ⟨i + 1,by omega,by omega,rfl⟩
   | false =>
    simp [hl]
    refine ac (fun h3=>?_) (fun h3=>?_) <;> simp at h3
    ·simp [hw,hl]
     have:=hstep (by simp [show s[i].toNat=95 by omega])
     exact ⟨i + 1,this,by omega,rfl⟩
    ·have h4 : ¬ s[i].toNat=95:=by omega
     simp [h1,h2,h4] at hstop ⊢
     omega
 ·simp [hl]
  have : i=cZ s:=by omega
  omega
theorem gw (s : List UInt8) : C 58 [.str s] (.bool (ci s)) []:=by
 refine start hC (nf:=N58) rfl rfl ?_
 simp [N58]
 refine ac (fun h=>?_) (fun h=>?_) <;> simp at h
 ·have hp : 0 < s.length:=List.length_pos_iff.2 h
  simp [h,hp]
  refine ac (fun h2=>?_) (fun h2=>?_) <;> simp at h2
  ·simp [h2,hp]
   refine aa (qc hC _) (.inl rfl) ?_
   simp
   refine ac (fun h3=>?_) (fun h3=>?_)
   ·simp [h3,h2]
    refine aa (EK hC s (by omega)) (.inl rfl) ?_
    simp [ci,h,h3,show s.length <= 20 by omega,hp,Int.ofNat_inj]
    rw [Bool.eq_iff_iff];simp
   ·simp [ci,h,h3,hp]
  ·simp [h2,ci]
   omega
 ·subst h
  simp [ci]
end Go.Gv

namespace Go.Gv
structure SlI where
 n : Bool
 l : List Int
 deriving Inhabited
def slI (x : SlI) : D:=slx x.n (x.l.map fun n=>[.int .i64 n])
def knD (k : Int × Int) : List D:=[.int .i64 k.1,.int .i64 k.2]
structure Sec where
 name : List UInt8
 height : Int
 price : Int
 areaN : Bool
 area : List (Int × Int)
 convN : Bool
 conv : List (Int × Int)
 deriving Inhabited
def dS (s : Sec) : List D:=[.str s.name,.int .i64 s.height,.int .i64 s.price,slx s.areaN (s.area.map knD),slx s.convN (s.conv.map knD)]
def bv {α : Type} (p : α -> Bool) (xs : List α) : Int:=match xs.findIdx? p with
 | some i=>i
 | none=>-1
theorem cq {α : Type} {p : α -> Bool} {xs : List α} {i : Nat} (hj : ∀ (j : Nat) (h : j < xs.length),j < i -> p xs[j]=false) (hi : i < xs.length) (h : p xs[i]=true) : bv p xs=i:=by
 have : xs.findIdx? p=some i:=by
  rw [List.findIdx?_eq_some_iff_getElem]
  exact ⟨hi,h,fun j hji=>by simp [hj j (by omega) hji]⟩
 simp [bv,this]
theorem cE {α : Type} {p : α -> Bool} {xs : List α} (hj : ∀ (j : Nat) (h : j < xs.length),p xs[j]=false) : bv p xs=-1:=by
 have : xs.findIdx? p=none:=by
  rw [List.findIdx?_eq_none_iff]
  intro x hx
  obtain ⟨j,h,rfl⟩:=List.mem_iff_getElem.1 hx
  exact hj j h
 simp [bv,this]
theorem dN {α : Type} (p : α -> Bool) (xs : List α) : decide (0 <= bv p xs)=xs.any p:=by
 unfold bv
 split
 ·rename_i i h
  rw [List.findIdx?_eq_some_iff_getElem] at h
  obtain ⟨h1,h2,_⟩:=h
  have : xs.any p=true:=List.any_eq_true.2 ⟨_,List.getElem_mem h1,h2⟩
  simp [this]
 ·rename_i h
  rw [List.findIdx?_eq_none_iff] at h
  have : xs.any p=false:=by rw [List.any_eq_false];intro x hx;simp [h x hx]
  simp [this]
variable {C : CC} (hC : aj prog C)
include hC
theorem wV {b : Bool} {xs : List Int} {g : Nat} {cs : List D} (p : Int -> Bool) (hs : xs.length < 2 ^ 62) (hp : ∀ x ∈ xs,C g (.int .i64 x::cs) (.bool (p x)) []) : C 35 [slx b (xs.map fun x=>[.int .i64 x]),.fn g cs] (.int .i64 (bv p xs)) []:=by
 refine start hC (nf:=N35) rfl rfl ?_
 simp [N35]
 refine ar Nat (fun i=>[(0,slx b (xs.map fun x=>[.int .i64 x])),(1,.fn g cs),(7,.int .i64 xs.length),(8,.int .i64 i)]) (fun i=>i <= xs.length /\ ∀ (j : Nat) (h : j < xs.length),j < i -> p xs[j]=false) (fun i=>xs.length - i) 0 (by simp) (by simp) ?_
 rintro i ⟨hi,hj⟩
 simp
 refine ac (fun h=>?_) (fun h=>?_) <;> simp [h] <;> simp at h
 ·have hw : IntKind.wrap .i64 ((i : Int) + 1)=((i + 1 : Nat) : Int):=ah (by omega) (by omega)
  have hc:=hp _ (List.getElem_mem h)
  simp [h,List.getElem_map] at hc ⊢
  refine aa hc (.inl rfl) ?_
  simp
  refine ac (fun h1=>?_) (fun h1=>?_) <;> simp [h1,hw]
  ·rw [cq hj h h1]
  ·refine ⟨i + 1,⟨by omega,fun j hl hjj=>?_⟩,by omega,rfl⟩
   rcases Nat.lt_succ_iff_lt_or_eq.1 hjj with h2 | rfl
   ·exact hj j hl h2
   ·exact h1
 ·rw [cE (fun j hl=>hj j hl (by omega))]
theorem pX {b : Bool} {xs : List Int} {g : Nat} {cs : List D} (p : Int -> Bool) (hs : xs.length < 2 ^ 62) (hp : ∀ x ∈ xs,C g (.int .i64 x::cs) (.bool (p x)) []) : C 11 [slx b (xs.map fun x=>[.int .i64 x]),.fn g cs] (.bool (xs.any p)) []:=by
 refine start hC (nf:=N11) rfl rfl ?_
 simp [N11]
 refine aa (wV hC p hs hp) (.inl rfl) ?_
 simp [dN]
theorem p6 {b : Bool} {xs : List Sec} {g : Nat} {cs : List D} (p : Sec -> Bool) (hs : xs.length < 2 ^ 62) (hp : ∀ x ∈ xs,C g (.agg (dS x)::cs) (.bool (p x)) []) : C 52 [slx b (xs.map fun x=>dS x),.fn g cs] (.int .i64 (bv p xs)) []:=by
 refine start hC (nf:=N52) rfl rfl ?_
 simp [N52]
 refine ar Nat (fun i=>[(0,slx b (xs.map fun x=>dS x)),(1,.fn g cs),(7,.int .i64 xs.length),(8,.int .i64 i)]) (fun i=>i <= xs.length /\ ∀ (j : Nat) (h : j < xs.length),j < i -> p xs[j]=false) (fun i=>xs.length - i) 0 (by simp) (by simp) ?_
 rintro i ⟨hi,hj⟩
 simp
 refine ac (fun h=>?_) (fun h=>?_) <;> simp [h] <;> simp at h
 ·have hw : IntKind.wrap .i64 ((i : Int) + 1)=((i + 1 : Nat) : Int):=ah (by omega) (by omega)
  have hc:=hp _ (List.getElem_mem h)
  simp [h,dS] at hc ⊢
  refine aa hc (.inl rfl) ?_
  simp
  refine ac (fun h1=>?_) (fun h1=>?_) <;> simp [h1,hw]
  ·rw [cq hj h h1]
  ·refine ⟨i + 1,⟨by omega,fun j hl hjj=>?_⟩,by omega,rfl⟩
   rcases Nat.lt_succ_iff_lt_or_eq.1 hjj with h2 | rfl
   ·exact hj j hl h2
   ·exact h1
 ·rw [cE (fun j hl=>hj j hl (by omega))]
theorem wP {b : Bool} {xs : List Sec} {g : Nat} {cs : List D} (p : Sec -> Bool) (hs : xs.length < 2 ^ 62) (hp : ∀ x ∈ xs,C g (.agg (dS x)::cs) (.bool (p x)) []) : C 45 [slx b (xs.map fun x=>dS x),.fn g cs] (.bool (xs.any p)) []:=by
 refine start hC (nf:=N45) rfl rfl ?_
 simp [N45]
 refine aa (p6 hC p hs hp) (.inl rfl) ?_
 simp [dN]
end Go.Gv

namespace Go.Gv
abbrev Edg:=Nat × Nat
def edK (e : Edg) : List D:=knD ((e.1 : Int),(e.2 : Int))
def edI (e : Edg) : Int × Int:=((e.1 : Int),(e.2 : Int))
theorem za (es : List Edg) : es.map edK=(es.map edI).map knD:=by simp [edK,edI]
def dy (l : List Nat) : List (List D):=l.map fun k : Nat=>[.int .i64 (k : Int)]
def inG (n : Nat) (es : List Edg) : Prop:=∀ e ∈ es,e.1 < n /\ e.2 < n
def nxt (n : Nat) (es : List Edg) (i : Nat) : List Nat:=(List.range n).filter fun k=>es.contains (i,k)
theorem mi {n : Nat} {es : List Edg} {i k : Nat} : k ∈ nxt n es i ↔ k < n /\ (i,k) ∈ es:=by simp [nxt]
theorem tb (n : Nat) (es : List Edg) (i : Nat) : (nxt n es i).length <= n:=by
 have:=List.length_filter_le (fun k=>es.contains (i,k)) (List.range n)
 simpa [nxt] using this
theorem lD {α : Type} {n k : Nat} {f : Nat -> α} (x : α) : ((List.range n).map f).set k x=(List.range n).map fun v=>if v=k then x else f v:=by
 apply List.ext_getElem
 ·simp
 ·intro i h1 h2
  simp only [List.getElem_set,List.getElem_map,List.getElem_range]
  by_cases e : k=i
  ·rw [if_pos e,if_pos e.symm]
  ·rw [if_neg e,if_neg (Ne.symm e)]
def tgs (es : List Edg) (i : Nat) : List Nat:=(es.filter fun e=>e.1 == i).map (·.2)
theorem sZ {es : List Edg} {i k : Nat} : k ∈ tgs es i ↔ (i,k) ∈ es:=by
 unfold tgs
 simp only [List.mem_map,List.mem_filter,beq_iff_eq]
 constructor
 ·rintro ⟨⟨a,b⟩,⟨h1,h2⟩,h3⟩
  simp only at h2 h3
  subst h2 h3
  exact h1
 ·intro h
  exact ⟨(i,k),⟨h,rfl⟩,rfl⟩
theorem yl {es : List Edg} {j : Nat} (hj : j < es.length) (v : Nat) : tgs (es.take (j + 1)) v=tgs (es.take j) v++(if es[j].1=v then [es[j].2] else []):=by
 unfold tgs
 rw [List.take_succ_eq_append_getElem hj,List.filter_append,List.map_append]
 congr 1
 by_cases h : es[j].1=v <;> simp [h]
theorem tv (es : List Edg) (i : Nat) : (tgs es i).length <= es.length:=by
 unfold tgs
 rw [List.length_map]
 exact List.length_filter_le _ _
def rW (es : List Edg) (out : List Nat) (v : Nat) : Bool:=es.all fun e=>!(e.2 == v) || out.contains e.1
theorem xN {es : List Edg} {out : List Nat} {v : Nat} : rW es out v=true ↔ ∀ u,(u,v) ∈ es -> u ∈ out:=by
 unfold rW
 simp only [List.all_eq_true,Bool.or_eq_true,Bool.not_eq_true',beq_eq_false_iff_ne,List.contains_iff_mem]
 constructor
 ·intro h u hu
  rcases h _ hu with h | h
  ·exact absurd rfl h
  ·exact h
 ·rintro h ⟨a,b⟩ he
  by_cases e : b=v
  ·subst e;exact .inr (h a he)
  ·exact .inl e
def Ax (n : Nat) (es : List Edg) (out : List Nat) : List Nat:=(List.range n).filter fun v=>!out.contains v && rW es out v
theorem xw {n : Nat} {es : List Edg} {out : List Nat} {v : Nat} : v ∈ Ax n es out ↔ v < n /\ v ∉ out /\ ∀ u,(u,v) ∈ es -> u ∈ out:=by
 simp only [Ax,List.mem_filter,List.mem_range,Bool.and_eq_true,Bool.not_eq_true',<- xN]
 simp
def MC (n : Nat) (es : List Edg) (out : List Nat) : List Nat:=match Ax n es out with
 | []=>out
 | v::_=>out++[v]
def Ma (n : Nat) (es : List Edg) : Nat -> List Nat
 | 0=>[]
 | m + 1=>MC n es (Ma n es m)
def qw (n : Nat) (es : List Edg) : List Nat:=Ma n es n
def C7 (n : Nat) (es : List Edg) (out : List Nat) (k : Nat) : Nat:=((List.range n).filter fun u=>es.contains (u,k) && !out.contains u).length
def Rq (es : List Edg) (i k : Nat) : Nat:=((List.range i).filter fun u=>es.contains (u,k)).length
end Go.Gv

namespace Go.Gv
structure SlC (C : CC) : Prop where
 sort : ∀ zs : List Int,zs.length < 2 ^ 40 -> C 366 [.own 1 (zs.map fun n=>[.int .i64 n])] .any [.own 1 ((zs.mergeSort fun x y=>decide (x <= y)).map fun n=>[.int .i64 n]),.nilp]
 compact : ∀ zs : List Int,zs.length < 2 ^ 40 -> C 523 [.own 1 (zs.map fun n=>[.int .i64 n])] .any [.own 1 ((Lib.compact zs).map fun n=>[.int .i64 n]),.nils,.nils]
 insert : ∀ (zs : List Int) (i : Nat) (x : Int),i <= zs.length -> zs.length < 2 ^ 40 -> C 519 [.own 1 (zs.map fun n=>[.int .i64 n]),.int .i64 i,.own 1 [[.int .i64 x]]] .any [.own 1 ((zs.take i++x::zs.drop i).map fun n=>[.int .i64 n]),.nils,.nils]
theorem nB : ∀ {l l' : List Int},l.Pairwise (· < ·) -> l'.Pairwise (· < ·) -> (∀ x,x ∈ l ↔ x ∈ l') -> l=l'
 | [],[],_,_,_=>rfl
 | [],b::_,_,_,h=>by simpa using (h b).2 (by simp)
 | a::_,[],_,_,h=>by simpa using (h a).1 (by simp)
 | a::l,b::l',h1,h2,h=>by
  rw [List.pairwise_cons] at h1 h2
  have e : a=b:=by
   have x1:=(h a).1 (by simp)
   have x2:=(h b).2 (by simp)
   simp only [List.mem_cons] at x1 x2
   rcases x1 with x1 | x1
   ·exact x1
   ·rcases x2 with x2 | x2
    ·exact x2.symm
    ·have:=h2.1 a x1;have:=h1.1 b x2;omega
  subst e
  congr 1
  refine nB h1.2 h2.2 fun x=>?_
  have:=h x
  simp only [List.mem_cons] at this
  constructor
  ·intro hx
   have h3:=h1.1 x hx
   rcases this.1 (.inr hx) with h4 | h4
   ·omega
   ·exact h4
  ·intro hx
   have h3:=h2.1 x hx
   rcases this.2 (.inr hx) with h4 | h4
   ·omega
   ·exact h4
theorem j7 {d : Array Int} (hs : ∀ j,0 < j -> j < d.size -> d[j - 1]! <= d[j]!) : ∀ m,m <= d.size -> (Lib.compactUpTo d m).Pairwise (· < ·) /\ (∀ x,x ∈ Lib.compactUpTo d m ↔ ∃ j,j < m /\ d[j]! = x) /\ ∀ x ∈ Lib.compactUpTo d m,x <= d[m - 1]!
 | 0,_=>by simp [Lib.compactUpTo]
 | m + 1,hm=>by
  obtain ⟨h1,h2,h3⟩:=j7 hs m (by omega)
  rw [Lib.compactUpTo_succ]
  by_cases hk : Lib.keeps d m=true
  ·rw [if_pos hk]
   have hlt : ∀ x ∈ Lib.compactUpTo d m,x < d[m]!:=fun x hx=>by
    have h4:=h3 x hx
    simp only [Lib.keeps,decide_eq_true_eq] at hk
    rcases hk with rfl | hk
    ·obtain ⟨j,hj,_⟩:=(h2 x).1 hx;omega
    ·rcases Nat.eq_zero_or_pos m with h0 | h0
     ·subst h0;obtain ⟨j,hj,_⟩:=(h2 x).1 hx;omega
     ·have:=hs m h0 (by omega);omega
   refine ⟨List.pairwise_append.2 ⟨h1,by simp,fun a ha b hb=>by simp at hb;subst hb;exact hlt a ha⟩,fun x=>?_,fun x hx=>?_⟩
   ·simp only [List.mem_append,List.mem_singleton,h2]
    constructor
    ·rintro (⟨j,hj,rfl⟩ | rfl)
     ·exact ⟨j,by omega,rfl⟩
     ·exact ⟨m,by omega,rfl⟩
    ·rintro ⟨j,hj,rfl⟩
     by_cases e : j=m
     ·exact .inr (by rw [e])
     ·exact .inl ⟨j,by omega,rfl⟩
   ·simp only [List.mem_append,List.mem_singleton] at hx
    rcases hx with hx | hx
    ·exact Int.le_of_lt (hlt x hx)
    ·rw [hx];exact Int.le_refl _
  ·rw [if_neg hk,List.append_nil]
   have hm0 : 0 < m:=by
    rcases Nat.eq_zero_or_pos m with h | h
    ·subst h;exact absurd (Lib.keeps_lt_one d 0 (by omega)) hk
    ·exact h
   have he : d[m]! = d[m - 1]!:=by
    apply Classical.byContradiction
    intro h
    exact hk (Lib.keeps_pos h)
   refine ⟨h1,fun x=>?_,fun x hx=>?_⟩
   ·rw [h2]
    constructor
    ·rintro ⟨j,hj,rfl⟩;exact ⟨j,by omega,rfl⟩
    ·rintro ⟨j,hj,rfl⟩
     by_cases e : j=m
     ·subst e;exact ⟨j - 1,by omega,he.symm⟩
     ·exact ⟨j,by omega,rfl⟩
   ·have:=h3 x hx
    simp only [Nat.add_sub_cancel,he]
    exact this
theorem oS {n : Nat} {es : List Edg} (hg : inG n es) (i : Nat) : Lib.compact (((tgs es i).map fun k : Nat=>(k : Int)).mergeSort fun x y=>decide (x <= y))=(nxt n es i).map fun k : Nat=>(k : Int):=by
 obtain ⟨zs,hz⟩ : ∃ zs,zs=((tgs es i).map fun k : Nat=>(k : Int)).mergeSort fun x y=>decide (x <= y):=⟨_,rfl⟩
 rw [<- hz]
 have hp : zs.Pairwise (· <= ·):=by
  have h:=List.pairwise_mergeSort (le:=fun x y : Int=>decide (x <= y)) (fun a b c h1 h2=>by simp at *;omega) (fun a b=>by simp;omega) ((tgs es i).map fun k : Nat=>(k : Int))
  rw [<- hz] at h
  exact h.imp fun h=>by simpa using h
 have hm : ∀ x,x ∈ zs ↔ ∃ k : Nat,(i,k) ∈ es /\ (k : Int)=x:=fun x=>by
  rw [hz,List.mem_mergeSort,List.mem_map]
  simp only [sZ]
 have hs : ∀ j,0 < j -> j < zs.toArray.size -> zs.toArray[j - 1]! <= zs.toArray[j]!:=fun j h1 h2=>by
  have h3 : j < zs.length:=by simpa using h2
  rw [getElem!_pos zs.toArray (j - 1) (by simpa using (by omega : j - 1 < zs.length)),getElem!_pos zs.toArray j h2]
  exact List.pairwise_iff_getElem.1 hp (j - 1) j (by omega) h3 (by omega)
 obtain ⟨h1,h2,_⟩:=j7 hs zs.length (by simp)
 refine nB h1 ?_ fun x=>?_
 ·rw [List.pairwise_map]
  have : (nxt n es i).Pairwise (· < ·):=List.Pairwise.filter _ List.pairwise_lt_range
  exact this.imp fun h=>by omega
 ·unfold Lib.compact
  rw [h2,List.mem_map]
  constructor
  ·rintro ⟨j,hj,rfl⟩
   rw [getElem!_pos zs.toArray j (by simpa using hj)]
   obtain ⟨k,k1,k2⟩:=(hm _).1 (List.getElem_mem (l:=zs) hj)
   exact ⟨k,mi.2 ⟨(hg _ k1).2,k1⟩,by simpa using k2⟩
  ·rintro ⟨k,hk,rfl⟩
   obtain ⟨j,hj,e⟩:=List.mem_iff_getElem.1 ((hm k).2 ⟨k,(mi.1 hk).2,rfl⟩)
   exact ⟨j,hj,by rw [getElem!_pos zs.toArray j (by simpa using hj)];simpa using e⟩
variable {C : CC} (hC : aj prog C)
include hC
theorem KI (n i : Int) : C 516 [.int .i64 n,.int .i64 i] (.bool (decide (0 <= i) && decide (i < n))) []:=by
 refine start hC (nf:=N516) rfl rfl ?_
 simp [N516]
 refine ac (fun h=>?_) (fun h=>?_) <;> simp at h <;> simp [h] <;> omega
theorem zY {b : Bool} {xs : List (Int × Int)} {g : Nat} {cs : List D} (p : (Int × Int) -> Bool) (hs : xs.length < 2 ^ 62) (hp : ∀ x ∈ xs,C g (.agg (knD x)::cs) (.bool (p x)) []) : C 522 [slx b (xs.map fun x=>knD x),.fn g cs] (.int .i64 (bv p xs)) []:=by
 refine start hC (nf:=N522) rfl rfl ?_
 simp [N522]
 refine ar Nat (fun i=>[(0,slx b (xs.map fun x=>knD x)),(1,.fn g cs),(7,.int .i64 xs.length),(8,.int .i64 i)]) (fun i=>i <= xs.length /\ ∀ (j : Nat) (h : j < xs.length),j < i -> p xs[j]=false) (fun i=>xs.length - i) 0 (by simp) (by simp) ?_
 rintro i ⟨hi,hj⟩
 simp
 refine ac (fun h=>?_) (fun h=>?_) <;> simp [h] <;> simp at h
 ·have hw : IntKind.wrap .i64 ((i : Int) + 1)=((i + 1 : Nat) : Int):=ah (by omega) (by omega)
  have hc:=hp _ (List.getElem_mem h)
  simp [h,knD] at hc ⊢
  refine aa hc (.inl rfl) ?_
  simp
  refine ac (fun h1=>?_) (fun h1=>?_) <;> simp [h1,hw]
  ·rw [cq hj h h1]
  ·refine ⟨i + 1,⟨by omega,fun j hl hjj=>?_⟩,by omega,rfl⟩
   rcases Nat.lt_succ_iff_lt_or_eq.1 hjj with h2 | rfl
   ·exact hj j hl h2
   ·exact h1
 ·rw [cE (fun j hl=>hj j hl (by omega))]
theorem zQ {b : Bool} {xs : List (Int × Int)} {g : Nat} {cs : List D} (p : (Int × Int) -> Bool) (hs : xs.length < 2 ^ 62) (hp : ∀ x ∈ xs,C g (.agg (knD x)::cs) (.bool (p x)) []) : C 514 [slx b (xs.map fun x=>knD x),.fn g cs] (.bool (xs.any p)) []:=by
 refine start hC (nf:=N514) rfl rfl ?_
 simp [N514]
 refine aa (zY hC p hs hp) (.inl rfl) ?_
 simp [dN]
def pO (n : Int) (e : Int × Int) : Bool:=!((decide (0 <= e.1) && decide (e.1 < n)) && (decide (0 <= e.2) && decide (e.2 < n)))
theorem y9 (n : Int) (e : Int × Int) : C 515 [.agg (knD e),.ptr [.int .i64 n]] (.bool (pO n e)) []:=by
 refine start hC (nf:=N515) rfl rfl ?_
 simp [N515,knD]
 refine aa (KI hC n e.1) (.inl rfl) ?_
 unfold pO
 cases h : (decide (0 <= e.1) && decide (e.1 < n))
 ·simp
 ·simp
  refine aa (KI hC n e.2) (.inl rfl) ?_
  simp
def gOk (n : Int) (es : List (Int × Int)) : Bool:=decide (0 <= n) && decide (n <= 300) && decide (es.length <= 1000) && !es.any (pO n)
theorem wI (b : Bool) (n : Int) (es : List (Int × Int)) (hl : es.length < 2 ^ 62) : C 503 [.int .i64 n,slx b (es.map knD)] (.bool (gOk n es)) []:=by
 have k1:=zQ hC (b:=b) (xs:=es) (g:=515) (cs:=[.ptr [.int .i64 n]]) (pO n) hl (fun x _=>y9 hC n x)
 refine start hC (nf:=N503) rfl rfl ?_
 simp [N503]
 by_cases h1 : n < 0
 ·simp [h1,gOk,show ¬ 0 <= n by omega]
 by_cases h2 : 300 < n
 ·simp [h1,h2,gOk,show ¬ n <= 300 by omega]
 by_cases h3 : (1000 : Int) < es.length
 ·simp [h1,h2,h3,gOk,show ¬ es.length <= 1000 by omega]
 simp [h1,h2,h3]
 refine aa k1 (.inl rfl) ?_
 simp [gOk,show 0 <= n by omega,show n <= 300 by omega,show es.length <= 1000 by omega]
theorem Dr {n : Nat} {es : List Edg} (hn : n <= 300) (he : es.length <= 1000) (hg : inG n es) : gOk n (es.map edI)=true:=by
 unfold gOk
 simp only [Bool.and_eq_true,decide_eq_true_eq,List.length_map,Bool.not_eq_true',List.any_eq_false,List.mem_map]
 refine ⟨⟨⟨by omega,by omega⟩,he⟩,?_⟩
 rintro x ⟨e,h1,rfl⟩
 obtain ⟨h2,h3⟩:=hg e h1
 simp only [pO,edI,Bool.not_eq_true',Bool.not_eq_false',Bool.and_eq_true,decide_eq_true_eq]
 simp
 omega
end Go.Gv

namespace Go.Gv
theorem ml {α : Type} (n : Nat) (x : α) : List.replicate n x=(List.range n).map fun _=>x:=by simp [List.map_const']
theorem og (l : List Nat) : dy l=(l.map fun k : Nat=>(k : Int)).map fun n=>[.int .i64 n]:=by simp [dy]
theorem Ab {l : List Int} : ∀ e ∈ (l.map fun n=>[D.int .i64 n]),e.length=1 /\ ∀ c ∈ e,av c=true:=by
 intro e he
 simp only [List.mem_map] at he
 obtain ⟨k,_,rfl⟩:=he
 simp [av]
theorem Ac {l : List Int} : ∀ e ∈ (l.map fun n=>[D.int .i64 n]),e.length=1 /\ ∀ c ∈ e,bk c=true:=by
 intro e he
 simp only [List.mem_map] at he
 obtain ⟨k,_,rfl⟩:=he
 simp [bk]
def ndD (l : List Nat) : D:=.sl (dy l)
def uF (n : Nat) (es : List Edg) : D:=.sl ((List.range n).map fun v=>[ndD (nxt n es v)])
def l9 (n : Nat) (es : List Edg) (j : Nat) : List (List D):=(List.range n).map fun v=>[.own 1 (dy (tgs (es.take j) v))]
def ma (n : Nat) (es : List Edg) (j : Nat) : List (List D):=(List.range n).map fun v=>[.own 1 (dy (if v < j then nxt n es v else tgs es v))]
theorem eD (l : List Nat) : (dy l).length=l.length:=by simp [dy]
theorem oh (l : List Nat) : (dy l).take l.length=dy l:=by rw [<- eD l];exact List.take_length
theorem p9 (l : List Nat) (k : Nat) : dy l++[[.int .i64 (k : Int)]]=dy (l++[k]):=by simp [dy]
theorem sU {l : List Nat} : ∀ e ∈ dy l,e.length=1 /\ ∀ c ∈ e,av c=true:=by
 intro e he
 simp only [dy,List.mem_map] at he
 obtain ⟨k,_,rfl⟩:=he
 simp [av]
theorem z8 {l : List Nat} : ∀ e ∈ dy l,e.length=1 /\ ∀ c ∈ e,bk c=true:=by
 intro e he
 simp only [dy,List.mem_map] at he
 obtain ⟨k,_,rfl⟩:=he
 simp [bk]
variable {C : CC} (hC : aj prog C)
include hC
theorem Eb (hS : SlC C) {b : Bool} {n : Nat} {es : List Edg} (hn : n <= 300) (he : es.length <= 1000) (hg : inG n es) : C 517 [.int .i64 n,slx b (es.map edK)] (uF n es) []:=by
 refine start hC (nf:=N517) rfl rfl ?_
 simp [N517]
 refine ⟨by omega,?_⟩
 refine ar Nat (fun j=>[(5,.ref (.r 10080) 0 n),(10080,.blk 1 (l9 n es j)),(11,slx b (es.map edK)),(12,.int .i64 es.length),(13,.int .i64 j)]) (fun j=>j <= es.length) (fun j=>es.length - j) 0 (by simp) (by simp [l9,tgs,dy,ml]) ?_
 rintro j hj
 simp
 refine ac (fun h=>?_) (fun h=>?_) <;> simp [h] <;> simp at h
 ·have hw : IntKind.wrap .i64 ((j : Int) + 1)=((j + 1 : Nat) : Int):=ah (by omega) (by omega)
  have hin:=hg _ (List.getElem_mem h)
  have hr : (l9 n es j)[es[j].1]? = some [.own 1 (dy (tgs (es.take j) es[j].1))]:=by simp [l9,hin.1]
  have hlt:=tv (es.take j) es[j].1
  have hb : (tgs (es.take j) es[j].1).length <= 1000:=by simp at hlt;omega
  have hrl : (l9 n es j).length=n:=by simp [l9]
  have hr2 : es[j].1 < (l9 n es j).length:=by omega
  simp [h,edK,knD,az hr,hin,hr,eD]
  refine ⟨by omega,?_⟩
  simp only [oh,p9]
  have e1 : ∀ e,e ∈ dy (tgs (es.take j) es[j].1) \/ e=[.int .i64 (es[j].2 : Int)] -> ∀ c ∈ e,av c=true:=by
   rintro e (h1 | rfl)
   ·exact (sU e h1).2
   ·simp [av]
  have e2 : (((l9 n es j).set es[j].1 [.any]).set es[j].1 [.own 1 (dy (tgs (es.take j) es[j].1++[es[j].2]))])=l9 n es (j + 1):=by
   rw [List.set_set]
   unfold l9
   rw [lD]
   apply List.map_congr_left
   intro v _
   rw [yl h]
   by_cases e : v=es[j].1
   ·subst e;simp
   ·rw [if_neg e,if_neg (Ne.symm e),List.append_nil]
  refine ⟨e1,?_⟩
  simp [hr2,e2]
  refine ⟨am (by decide +kernel),?_⟩
  simp [hw]
  refine ⟨j + 1,by omega,by omega,?_,by simp⟩
  simp only [oh,p9]
  rw [<- e2,List.set_set]
 ·have e0 : l9 n es j=ma n es 0:=by
   unfold l9 ma
   rw [List.take_of_length_le h]
   simp
  rw [e0]
  refine ar Nat (fun j=>[(5,.ref (.r 10080) 0 n),(10080,.blk 1 (ma n es j)),(32,.int .i64 n),(33,.int .i64 j)]) (fun j=>j <= n) (fun j=>n - j) 0 (by simp) (by simp) ?_
  clear e0 h hj j
  rintro j hj
  simp
  refine ac (fun h=>?_) (fun h=>?_) <;> simp [h] <;> simp at h
  ·have hw : IntKind.wrap .i64 ((j : Int) + 1)=((j + 1 : Nat) : Int):=ah (by omega) (by omega)
   have hr : (ma n es j)[j]? = some [.own 1 (dy (tgs es j))]:=by simp [ma,h]
   have hl:=tv es j
   simp [h,az hr,hr,eD]
   have ks:=hS.sort ((tgs es j).map fun k : Nat=>(k : Int)) (by simp;omega)
   have kc:=hS.compact (((tgs es j).map fun k : Nat=>(k : Int)).mergeSort fun x y=>decide (x <= y)) (by simp [List.length_mergeSort];omega)
   rw [oS hg,<- og] at kc
   rw [<- og] at ks
   have hsl : (((tgs es j).map fun k : Nat=>(k : Int)).mergeSort fun x y=>decide (x <= y)).length=(tgs es j).length:=by simp [List.length_mergeSort]
   obtain ⟨zs,hz⟩ : ∃ zs,zs=((tgs es j).map fun k : Nat=>(k : Int)).mergeSort fun x y=>decide (x <= y):=⟨_,rfl⟩
   rw [<- hz] at ks kc hsl
   have hjl : j < (ma n es j).length:=by simp [ma,h]
   have e1 : (((ma n es j).set j [.own 1 (zs.map fun n=>[.int .i64 n])]).set j [.any]).set j [.own 1 (dy (nxt n es j))]=ma n es (j + 1):=by
    rw [List.set_set,List.set_set]
    unfold ma
    rw [lD]
    apply List.map_congr_left
    intro v _
    by_cases e : v=j
    ·subst e;simp
    ·rw [if_neg e]
     by_cases e2 : v < j
     ·rw [if_pos e2,if_pos (by omega)]
     ·rw [if_neg e2,if_neg (by omega)]
   refine vP ks (by rw [List.length_map,hsl,eD]) Ab ?_
   have hset : ∀ x,((ma n es j).set j x)[j]? = some x:=fun x=>by simp [hjl]
   simp [hr,h,az (hset _),hset]
   refine ⟨fun e he=>(Ac e (List.mem_of_mem_take he)).2,?_⟩
   have e3 : (zs.map fun n=>[D.int .i64 n]).take zs.length=zs.map fun n=>[D.int .i64 n]:=List.take_of_length_le (by simp)
   rw [e3]
   refine md kc z8 ?_
   simp [hr,h,az (hset _),hset]
   rw [List.set_set,List.set_set] at e1
   exact ⟨fun e he=>(sU e he).2,j + 1,by omega,by omega,e1,hw⟩
  ·have e : j=n:=by omega
   subst e
   simp [ma]
   unfold uF
   rw [List.take_of_length_le (by simp)]
   congr 1
   apply List.map_congr_left
   intro v hv
   have : v < j:=by simpa using hv
   simp [this,aH,ndD]
end Go.Gv

namespace Go.Gv
open Go.Lib
theorem qo (a : Nat) (ha : a < 18446744073709551616) : bits .and .u64 (a : Int) 4294967295=((a % 4294967296 : Nat) : Int):=by
 have h:=bits_and_u64_nat a 4294967295 ha (by omega)
 have e : a &&& 4294967295=a % 4294967296:=Nat.and_two_pow_sub_one_eq_mod a 32
 rw [e] at h
 exact h
theorem sm (a k : Nat) : Int.fdiv (a : Int) (2 ^ k)=((a / 2 ^ k : Nat) : Int):=by
 rw [Int.fdiv_eq_ediv_of_nonneg _ (by exact Int.pow_nonneg (by omega))]
 norm_cast
theorem tj (a : Nat) : Int.fdiv (a : Int) (2 ^ min 32 IntKind.u64.bits)=((a / 4294967296 : Nat) : Int):=sm a 32
theorem xz (a b : Nat) : (a : Int) * (b : Int)=((a * b : Nat) : Int):=(Int.natCast_mul a b).symm
theorem HK (a b : Nat) : (a : Int) + (b : Int)=((a + b : Nat) : Int):=(Int.natCast_add a b).symm
theorem dE (a : Nat) (ha : a < 18446744073709551616) : IntKind.u64.wrap (a : Int)=(a : Int):=by
 have e1 : IntKind.u64.signed=false:=rfl
 have e3 : (2 ^ IntKind.u64.bits : Int)=18446744073709551616:=rfl
 unfold IntKind.wrap
 simp only [e1,e3,Bool.false_and]
 simp
 omega
theorem yr (a : Nat) : IntKind.u64.wrap (a : Int)=((a % 18446744073709551616 : Nat) : Int):=by
 have e1 : IntKind.u64.signed=false:=rfl
 have e3 : (2 ^ IntKind.u64.bits : Int)=18446744073709551616:=rfl
 unfold IntKind.wrap
 simp only [e1,e3,Bool.false_and]
 simp
variable {C : CC} (hC : aj prog C)
include hC
theorem sB (x y : Nat) (hx : x < 18446744073709551616) (hy : y < 18446744073709551616) : C 91 [.int .u64 x,.int .u64 y] (.tup [.int .u64 ((x * y / 18446744073709551616 : Nat) : Int),.int .u64 ((x * y % 18446744073709551616 : Nat) : Int)]) []:=by
 refine start hC (nf:=N91) rfl rfl ?_
 obtain ⟨bd,bt,bw,hhi⟩:=Lib.mul64_hi x y hx hy
 have ba:=Lib.half_mul_le (a:=x / 4294967296) (b:=y / 4294967296) (by omega) (by omega)
 have bb:=Lib.half_mul_le (a:=x / 4294967296) (b:=y % 4294967296) (by omega) (by omega)
 have bc:=Lib.half_mul_le (a:=x % 4294967296) (b:=y / 4294967296) (by omega) (by omega)
 have ba' : x / 4294967296 * (y / 4294967296) < 18446744073709551616:=by omega
 have bb' : x / 4294967296 * (y % 4294967296) < 18446744073709551616:=by omega
 have bc' : x % 4294967296 * (y / 4294967296) < 18446744073709551616:=by omega
 have bh1 : x / 4294967296 * (y / 4294967296) + (x / 4294967296 * (y % 4294967296) + x % 4294967296 * (y % 4294967296) / 4294967296) / 4294967296 < 18446744073709551616:=by omega
 have bh : x / 4294967296 * (y / 4294967296) + (x / 4294967296 * (y % 4294967296) + x % 4294967296 * (y % 4294967296) / 4294967296) / 4294967296 + ((x / 4294967296 * (y % 4294967296) + x % 4294967296 * (y % 4294967296) / 4294967296) % 4294967296 + x % 4294967296 * (y / 4294967296)) / 4294967296 < 18446744073709551616:=by omega
 simp [N91]
 simp only [qo x hx,qo y hy,tj,xz,HK,dE _ bd,dE _ bb',dE _ bt,qo _ bt,dE _ bc',dE _ bw,dE _ ba',dE _ bh1,dE _ bh,yr (x * y)]
 rw [hhi]
 exact ⟨by omega,by omega⟩
end Go.Gv

namespace Go.Gv
theorem Cv (a : Nat) : Int.fdiv (a : Int) (2 ^ min 16 IntKind.u64.bits)=((a / 65536 : Nat) : Int):=sm a 16
theorem AJ (a : Nat) : Int.fdiv (a : Int) (2 ^ min 8 IntKind.u64.bits)=((a / 256 : Nat) : Int):=sm a 8
theorem MO (a : Nat) (h : a < 256) : IntKind.u8.wrap (a : Int)=(a : Int):=by
 have e1 : IntKind.u8.signed=false:=rfl
 have e3 : (2 ^ IntKind.u8.bits : Int)=256:=rfl
 unfold IntKind.wrap
 simp only [e1,e3,Bool.false_and]
 simp
 omega
theorem rO : S1.length=256 /\ ∀ n : Fin 256,S1[n.val]?.getD 0=UInt8.ofNat (bitLen n.val) /\ bitLen n.val <= 8:=by decide +kernel
theorem fm {x n z : Nat} {m : Int} (hz : z < 256) (hm : m=n) (hn : n <= 56) (h : n + bitLen z=bitLen x) : 0 <= IntKind.u8.wrap (z : Int) /\ (IntKind.u8.wrap (z : Int)).toNat < S1.length /\ IntKind.i64.wrap (m + IntKind.i64.wrap ↑(S1[(IntKind.u8.wrap (z : Int)).toNat]?.getD default).toNat)=(bitLen x : Int):=by
 rw [MO z hz]
 obtain ⟨h1,h2⟩:=rO
 obtain ⟨h3,h4⟩:=h2 ⟨z,hz⟩
 have e : (S1[(z : Int).toNat]?.getD default).toNat=bitLen z:=by
  show (S1[z]?.getD 0).toNat=bitLen z
  simp only at h3 h4
  rw [h3,UInt8.toNat_ofNat']
  omega
 simp only at h4
 rw [e]
 have e2 : IntKind.i64.wrap (bitLen z : Int)=(bitLen z : Int):=ah rfl (by omega)
 refine ⟨by omega,by omega,?_⟩
 rw [e2,hm]
 exact ah (by omega) (by omega)
variable {C : CC} (hC : aj prog C)
include hC
theorem yN (x : Nat) (hx : x < 18446744073709551616) : C 111 [.int .u64 x] (.int .i64 (bitLen x)) []:=by
 refine start hC (nf:=N111) rfl rfl ?_
 have key : ∀ (b z : Nat),2 ^ b <= z -> bitLen z=b + bitLen (z / 2 ^ b):=fun b z h=>bitLen_shift z b (by
  have:=Nat.div_pos h (Nat.two_pow_pos b)
  omega)
 simp [N111]
 refine ac (fun h1=>?_) (fun h1=>?_) <;> simp at h1
 ·obtain ⟨y,hy⟩ : ∃ y : Nat,y=x / 4294967296:=⟨_,rfl⟩
  have e1 : Int.fdiv (x : Int) (2 ^ min 32 IntKind.u64.bits)=(y : Int):=by rw [tj,hy]
  have k1:=key 32 x (by omega)
  simp [e1]
  refine ac (fun h2=>?_) (fun h2=>?_) <;> simp at h2
  ·obtain ⟨z,hz⟩ : ∃ z : Nat,z=y / 65536:=⟨_,rfl⟩
   have e2 : Int.fdiv (y : Int) (2 ^ min 16 IntKind.u64.bits)=(z : Int):=by rw [Cv,hz]
   have k2:=key 16 y (by omega)
   simp [e2]
   refine ac (fun h3=>?_) (fun h3=>?_) <;> simp at h3
   ·obtain ⟨v,hv⟩ : ∃ v : Nat,v=z / 256:=⟨_,rfl⟩
    have e3 : Int.fdiv (z : Int) (2 ^ min 8 IntKind.u64.bits)=(v : Int):=by rw [AJ,hv]
    have k3:=key 8 z (by omega)
    simp [e3]
    refine fm (n:=56) (by omega) ?_ (by omega) ?_
    ·decide
    ·simp only [Nat.reducePow] at k1 k2 k3
     rw [<- hy] at k1;rw [<- hz] at k2;rw [<- hv] at k3;omega
   ·simp
    refine fm (n:=48) (by omega) ?_ (by omega) ?_
    ·decide
    ·simp only [Nat.reducePow] at k1 k2
     rw [<- hy] at k1;rw [<- hz] at k2;omega
  ·simp
   refine ac (fun h3=>?_) (fun h3=>?_) <;> simp at h3
   ·obtain ⟨v,hv⟩ : ∃ v : Nat,v=y / 256:=⟨_,rfl⟩
    have e3 : Int.fdiv (y : Int) (2 ^ min 8 IntKind.u64.bits)=(v : Int):=by rw [AJ,hv]
    have k3:=key 8 y (by omega)
    simp [e3]
    refine fm (n:=40) (by omega) ?_ (by omega) ?_
    ·decide
    ·simp only [Nat.reducePow] at k1 k3
     rw [<- hy] at k1;rw [<- hv] at k3;omega
   ·simp
    refine fm (n:=32) (by omega) ?_ (by omega) ?_
    ·decide
    ·simp only [Nat.reducePow] at k1
     rw [<- hy] at k1;omega
 ·simp
  refine ac (fun h2=>?_) (fun h2=>?_) <;> simp at h2
  ·obtain ⟨z,hz⟩ : ∃ z : Nat,z=x / 65536:=⟨_,rfl⟩
   have e2 : Int.fdiv (x : Int) (2 ^ min 16 IntKind.u64.bits)=(z : Int):=by rw [Cv,hz]
   have k2:=key 16 x (by omega)
   simp [e2]
   refine ac (fun h3=>?_) (fun h3=>?_) <;> simp at h3
   ·obtain ⟨v,hv⟩ : ∃ v : Nat,v=z / 256:=⟨_,rfl⟩
    have e3 : Int.fdiv (z : Int) (2 ^ min 8 IntKind.u64.bits)=(v : Int):=by rw [AJ,hv]
    have k3:=key 8 z (by omega)
    simp [e3]
    refine fm (n:=24) (by omega) ?_ (by omega) ?_
    ·decide
    ·simp only [Nat.reducePow] at k2 k3
     rw [<- hz] at k2;rw [<- hv] at k3;omega
   ·simp
    refine fm (n:=16) (by omega) ?_ (by omega) ?_
    ·decide
    ·simp only [Nat.reducePow] at k2
     rw [<- hz] at k2;omega
  ·simp
   refine ac (fun h3=>?_) (fun h3=>?_) <;> simp at h3
   ·obtain ⟨v,hv⟩ : ∃ v : Nat,v=x / 256:=⟨_,rfl⟩
    have e3 : Int.fdiv (x : Int) (2 ^ min 8 IntKind.u64.bits)=(v : Int):=by rw [AJ,hv]
    have k3:=key 8 x (by omega)
    simp [e3]
    refine fm (n:=8) (by omega) ?_ (by omega) ?_
    ·decide
    ·simp only [Nat.reducePow] at k3
     rw [<- hv] at k3;omega
   ·simp
    have:=fm (x:=x) (n:=0) (m:=0) (z:=x) (by omega) rfl (by omega) (by omega)
    simpa using this
theorem kY (x : Nat) (hx : x < 18446744073709551616) : C 102 [.int .u64 x] (.int .i64 ((64 - bitLen x : Nat) : Int)) []:=by
 have hb : bitLen x <= 64:=by
  unfold bitLen
  split
  ·omega
  ·rename_i h
   have:=(Nat.log2_lt h).2 (show x < 2 ^ 64 by omega)
   omega
 refine start hC (nf:=N102) rfl rfl ?_
 simp [N102]
 refine aa (yN hC x hx) (.inl rfl) ?_
 have e : IntKind.wrap .i64 (64 - (bitLen x : Int))=((64 - bitLen x : Nat) : Int):=ah (by omega) (by omega)
 simp [e]
end Go.Gv

namespace Go.Gv
structure DvI (u d a b q r : Nat) : Prop where
 sum : q * a + r=u
 ge : (u * 4294967296 + d) / (a * 4294967296 + b) <= q
 rlt : r < 4294967296
 qle : q <= 4294967297
section
variable {u d a b q r : Nat}
theorem Dv.mul (h : q * a + r=u) : q * (a * 4294967296 + b) + r * 4294967296=u * 4294967296 + q * b:=by
 subst h
 rw [Nat.mul_add,<- Nat.mul_assoc,Nat.add_mul]
 omega
theorem Dv.lt (_ : 0 < a) (hu : u < a * 4294967296 + b) (hd : d < 4294967296) : (u * 4294967296 + d) / (a * 4294967296 + b) < 4294967296:=by
 rw [Nat.div_lt_iff_lt_mul (by omega)]
 have : (u + 1) * 4294967296 <= (a * 4294967296 + b) * 4294967296:=Nat.mul_le_mul_right _ hu
 omega
theorem DvI.first (ha : 2147483648 <= a) (ha2 : a < 4294967296) (hb : b < 4294967296) (hu : u < a * 4294967296 + b) (hd : d < 4294967296) : DvI u d a b (u / a) (u % a) where
 sum:=by rw [Nat.mul_comm];exact Nat.div_add_mod u a
 rlt:=by have:=Nat.mod_lt u (show 0 < a by omega);omega
 ge:=by
  rw [Nat.le_div_iff_mul_le (by omega)]
  have h:=Nat.div_mul_le_self (u * 4294967296 + d) (a * 4294967296 + b)
  generalize (u * 4294967296 + d) / (a * 4294967296 + b)=Q at *
  rw [Nat.mul_add,<- Nat.mul_assoc] at h
  generalize Q * b=z at *
  generalize Q * a=x at *
  omega
 qle:=by
  have : u / a < 4294967298:=by
   rw [Nat.div_lt_iff_lt_mul (by omega)]
   omega
  omega
theorem DvI.more (h : DvI u d a b q r) (ha : 0 < a) (hu : u < a * 4294967296 + b) (hd : d < 4294967296) (hc : 4294967296 <= q \/ 4294967296 * r + d < q * b) : (u * 4294967296 + d) / (a * 4294967296 + b) + 1 <= q:=by
 rcases hc with hc | hc
 ·have:=Dv.lt (d:=d) ha hu hd
  omega
 ·have h1:=Dv.mul (b:=b) h.sum
  have : (u * 4294967296 + d) / (a * 4294967296 + b) < q:=by
   rw [Nat.div_lt_iff_lt_mul (by omega)]
   generalize q * (a * 4294967296 + b)=z at *
   generalize q * b=x at *
   omega
  omega
theorem DvI.done (h : DvI u d a b q r) (ha : 0 < a) (hc : q * b <= 4294967296 * r + d) : q=(u * 4294967296 + d) / (a * 4294967296 + b):=by
 have h1:=Dv.mul (b:=b) h.sum
 have h2:=h.ge
 have : q <= (u * 4294967296 + d) / (a * 4294967296 + b):=by
  rw [Nat.le_div_iff_mul_le (by omega)]
  generalize q * (a * 4294967296 + b)=z at *
  generalize q * b=x at *
  omega
 omega
theorem DvI.next (h : DvI u d a b q r) (ha : 0 < a) (hu : u < a * 4294967296 + b) (hd : d < 4294967296) (hc : 4294967296 <= q \/ 4294967296 * r + d < q * b) :
  1 <= q /\ (q - 1) * a + (r + a)=u /\ (u * 4294967296 + d) / (a * 4294967296 + b) <= q - 1 /\ q - 1 <= 4294967296:=by
 have h1:=h.more ha hu hd hc
 have h2:=h.qle
 have h3:=h.sum
 generalize (u * 4294967296 + d) / (a * 4294967296 + b)=Q at *
 obtain ⟨q',rfl⟩ : ∃ q',q=q' + 1:=⟨q - 1,by omega⟩
 refine ⟨by omega,?_,by omega,by omega⟩
 rw [Nat.add_mul] at h3
 simp only [Nat.add_sub_cancel]
 omega
theorem Dv.stop (hs : q * a + r=u) (hg : (u * 4294967296 + d) / (a * 4294967296 + b) <= q) (hq : q <= 4294967296) (ha : 0 < a) (hb : b < 4294967296) (hr : 4294967296 <= r) : q=(u * 4294967296 + d) / (a * 4294967296 + b):=by
 have h1:=Dv.mul (b:=b) hs
 have h3 : q * b <= 4294967296 * 4294967295:=Nat.mul_le_mul hq (by omega)
 have : q <= (u * 4294967296 + d) / (a * 4294967296 + b):=by
  rw [Nat.le_div_iff_mul_le (by omega)]
  generalize q * (a * 4294967296 + b)=z at *
  generalize q * b=x at *
  omega
 omega
theorem DvI.bnd (h : DvI u d a b q r) (hb : b < 4294967296) : q * b < 18446744073709551616:=by
 have:=Nat.mul_le_mul h.qle (show b <= 4294967295 by omega)
 omega
end
theorem Df {N y S A K un0 y' : Nat} (hy : 0 < y) (hs : 0 < S) (hy' : y'=y * S) (hn : N * S=A * K + un0) :
  A / y' * K + (A % y' * K + un0) / y'=N / y /\ (A % y' * K + un0) % y' / S=N % y:=by
 have hyp : 0 < y':=by rw [hy'];exact Nat.mul_pos hy hs
 have e1:=Nat.div_add_mod A y'
 have e2:=Nat.div_add_mod (A % y' * K + un0) y'
 have l2:=Nat.mod_lt (A % y' * K + un0) hyp
 have tot : y' * (A / y' * K + (A % y' * K + un0) / y') + (A % y' * K + un0) % y'=N * S:=by
  rw [hn,Nat.mul_add,Nat.add_assoc,e2,<- Nat.mul_assoc,<- Nat.add_assoc,<- Nat.add_mul,e1]
 have hq : N * S / y'=A / y' * K + (A % y' * K + un0) / y':=by
  rw [<- tot,Nat.mul_add_div hyp,Nat.div_eq_of_lt l2,Nat.add_zero]
 have hr : N * S % y'=(A % y' * K + un0) % y':=by
  rw [<- tot,Nat.mul_add_mod,Nat.mod_eq_of_lt l2]
 rw [hy',Nat.mul_div_mul_right _ _ hs] at hq
 rw [hy',Nat.mul_mod_mul_right] at hr
 rw [hy'] at *
 exact ⟨hq.symm,by rw [<- hr,Nat.mul_div_cancel _ hs]⟩
end Go.Gv

namespace Go.Gv
theorem yk (a b : Nat) : Int.tdiv (a : Int) (b : Int)=((a / b : Nat) : Int):=by
 rw [Int.tdiv_eq_ediv_of_nonneg (by omega)];norm_cast
theorem ME (a b : Nat) : Int.tmod (a : Int) (b : Int)=((a % b : Nat) : Int):=by
 rw [Int.tmod_eq_emod_of_nonneg (by omega)];norm_cast
theorem jb (a : Int) : IntKind.u64.wrap a=a % 18446744073709551616:=by
 have e1 : IntKind.u64.signed=false:=rfl
 have e3 : (2 ^ IntKind.u64.bits : Int)=18446744073709551616:=rfl
 unfold IntKind.wrap
 simp only [e1,e3,Bool.false_and]
 simp
theorem orN (a b i : Nat) (hb : b < 2 ^ i) (h : a * 2 ^ i + b < 18446744073709551616) : bits .or .u64 ((a * 2 ^ i : Nat) : Int) (b : Int)=((a * 2 ^ i + b : Nat) : Int):=by
 rw [bits_or_u64_nat _ _ (by omega) (by omega),Nat.mul_comm a,Nat.two_pow_add_eq_or_of_lt hb]
theorem uB (a m b s : Nat) : (a * m + b) * s=a * s * m + b * s:=by rw [Nat.add_mul,Nat.mul_right_comm]
theorem MF {H B W U d1 d0 : Nat} (hU : U=H + B) (h1 : d1=W / 4294967296) (h0 : d0=W % 4294967296) : H * 18446744073709551616 + (B * 18446744073709551616 + W)=(U * 4294967296 + d1) * 4294967296 + d0:=by omega
theorem Ed {y s : Nat} (h0 : y ≠ 0) (hy : y < 18446744073709551616) (hs : s=64 - bitLen y) : s <= 63 /\ 9223372036854775808 <= y * 2 ^ s /\ y * 2 ^ s < 18446744073709551616:=by
 obtain ⟨h1,h2⟩:=bitLen_spec y
 have h3:=h2 h0
 have hb : bitLen y <= 64:=by
  unfold bitLen
  rw [if_neg h0]
  have:=(Nat.log2_lt h0).2 (show y < 2 ^ 64 by omega)
  omega
 have hb1 : 1 <= bitLen y:=by unfold bitLen;rw [if_neg h0];omega
 have e : bitLen y + s=64:=by omega
 refine ⟨by omega,?_,?_⟩
 ·have:=Nat.mul_le_mul_right (2 ^ s) h3
  rw [<- Nat.pow_add,show bitLen y - 1 + s=63 by omega] at this
  omega
 ·have:=Nat.mul_lt_mul_of_pos_right h1 (Nat.two_pow_pos s)
  rw [<- Nat.pow_add,e] at this
  omega
variable {C : CC} (hC : aj prog C)
include hC
theorem sA (hi lo y : Nat) (h : hi < y) (hy : y < 18446744073709551616) (hl : lo < 18446744073709551616) :
  C 92 [.int .u64 hi,.int .u64 lo,.int .u64 y] (.tup [.int .u64 (((hi * 18446744073709551616 + lo) / y : Nat) : Int),.int .u64 (((hi * 18446744073709551616 + lo) % y : Nat) : Int)]) []:=by
 refine start hC (nf:=N92) rfl rfl ?_
 have h1 : ¬ y=0:=by omega
 have h2 : ¬ y <= hi:=by omega
 generalize hres : D.tup [D.int .u64 (((hi * 18446744073709551616 + lo) / y : Nat) : Int),.int .u64 (((hi * 18446744073709551616 + lo) % y : Nat) : Int)]=res
 simp [N92]
 refine ac (fun h=>?_) (fun _=>?_)
 ·simp at h;omega
 simp
 refine ac (fun h=>?_) (fun _=>?_)
 ·simp at h;omega
 simp
 refine ac (fun h=>?_) (fun h3=>?_)
 ·simp at h
  have : hi=0:=by omega
  subst this
  have hq : lo / y < 18446744073709551616:=by have:=Nat.div_le_self lo y;omega
  obtain ⟨q,hq'⟩ : ∃ q,q=lo / y:=⟨_,rfl⟩
  obtain ⟨r,hr'⟩ : ∃ r,r=lo % y:=⟨_,rfl⟩
  have e1 : Int.tdiv (lo : Int) (y : Int)=(q : Int):=by rw [yk,hq']
  have e2 : Int.tmod (lo : Int) (y : Int)=(r : Int):=by rw [ME,hr']
  simp [h1,e1,e2,dE q (by omega)]
  refine ⟨am (by decide +kernel),?_⟩
  rw [<- hres,hq',hr',Nat.zero_mul,Nat.zero_add]
 simp
 refine aa (kY hC y hy) (.inl rfl) ?_
 generalize hs : 64 - bitLen y=s
 obtain ⟨s1,s2,s3⟩:=Ed h1 hy hs.symm
 have w1 : IntKind.u64.wrap (s : Int)=(s : Int):=dE _ (by omega)
 have w2 : IntKind.u64.wrap (64 - (s : Int))=((64 - s : Nat) : Int):=by rw [jb];omega
 have m1 : min s IntKind.u64.bits=s:=by show min s 64=s;omega
 have m2 : min (64 - s) IntKind.u64.bits=64 - s:=by show min (64 - s) 64=64 - s;omega
 obtain ⟨Y,hY⟩ : ∃ Y,Y=y * 2 ^ s:=⟨_,rfl⟩
 obtain ⟨H,hH⟩ : ∃ H,H=hi * 2 ^ s:=⟨_,rfl⟩
 obtain ⟨W,hW⟩ : ∃ W,W=lo * 2 ^ s % 18446744073709551616:=⟨_,rfl⟩
 obtain ⟨B,hB⟩ : ∃ B,B=lo / 2 ^ (64 - s):=⟨_,rfl⟩
 rw [<- hY] at s2 s3
 have hHY : H + 2 ^ s <= Y:=by
  have:=Nat.mul_le_mul_right (2 ^ s) h
  rw [hH,hY]
  rw [Nat.succ_mul] at this
  exact this
 have hBs : B < 2 ^ s:=by
  rw [hB,Nat.div_lt_iff_lt_mul (Nat.two_pow_pos _),<- Nat.pow_add,show s + (64 - s)=64 by omega]
  exact hl
 obtain ⟨U,hU⟩ : ∃ U,U=H + B:=⟨_,rfl⟩
 have hUY : U < Y:=by omega
 have eY : IntKind.u64.wrap ((y : Int) * 2 ^ s)=(Y : Int):=by
  rw [show (y : Int) * 2 ^ s=(Y : Int) by rw [hY];norm_cast];exact dE _ s3
 have eH : IntKind.u64.wrap ((hi : Int) * 2 ^ s)=(H : Int):=by
  rw [show (hi : Int) * 2 ^ s=(H : Int) by rw [hH];norm_cast];exact dE _ (by omega)
 have eW : IntKind.u64.wrap ((lo : Int) * 2 ^ s)=(W : Int):=by
  rw [show (lo : Int) * 2 ^ s=((lo * 2 ^ s : Nat) : Int) by norm_cast,yr,hW]
 have eB : Int.fdiv (lo : Int) (2 ^ (64 - s))=(B : Int):=by rw [sm,hB]
 have eU : bits .or .u64 (H : Int) (B : Int)=(U : Int):=by
  rw [hU,hH];exact orN hi B s hBs (by omega)
 obtain ⟨Y1,hY1⟩ : ∃ Y1,Y1=Y / 4294967296:=⟨_,rfl⟩
 obtain ⟨Y0,hY0⟩ : ∃ Y0,Y0=Y % 4294967296:=⟨_,rfl⟩
 obtain ⟨d1,hd1⟩ : ∃ d1,d1=W / 4294967296:=⟨_,rfl⟩
 obtain ⟨d0,hd0⟩ : ∃ d0,d0=W % 4294967296:=⟨_,rfl⟩
 have eY1 : Int.fdiv (Y : Int) (2 ^ min 32 IntKind.u64.bits)=(Y1 : Int):=by rw [tj,hY1]
 have eY0 : bits .and .u64 (Y : Int) 4294967295=(Y0 : Int):=by rw [qo _ s3,hY0]
 have hW64 : W < 18446744073709551616:=by rw [hW];exact Nat.mod_lt _ (by omega)
 have ed1 : Int.fdiv (W : Int) (2 ^ min 32 IntKind.u64.bits)=(d1 : Int):=by rw [tj,hd1]
 have ed0 : bits .and .u64 (W : Int) 4294967295=(d0 : Int):=by rw [qo _ hW64,hd0]
 have hY1a : 2147483648 <= Y1:=by omega
 have hY1b : Y1 < 4294967296:=by omega
 have hY0b : Y0 < 4294967296:=by omega
 have hd1b : d1 < 4294967296:=by omega
 have hd0b : d0 < 4294967296:=by omega
 have hYs : Y1 * 4294967296 + Y0=Y:=by omega
 have nz : ¬ Y1=0:=by omega
 have inv1:=DvI.first hY1a hY1b hY0b (u:=U) (d:=d1) (by omega) hd1b
 obtain ⟨q,hq⟩ : ∃ q,q=U / Y1:=⟨_,rfl⟩
 obtain ⟨r,hr⟩ : ∃ r,r=U % Y1:=⟨_,rfl⟩
 rw [<- hq,<- hr] at inv1
 have eq1 : Int.tdiv (U : Int) (Y1 : Int)=(q : Int):=by rw [yk,hq]
 have eq2 : IntKind.u64.wrap (q : Int)=(q : Int):=dE _ (by have:=inv1.qle;omega)
 have sub1 : ∀ (u a q r : Nat),q * a + r=u -> u < 18446744073709551616 -> IntKind.u64.wrap ((u : Int) - IntKind.u64.wrap ((q : Int) * (a : Int)))=(r : Int):=fun u a q r e hu=>by
  rw [xz,jb,jb]
  generalize q * a=z at *
  omega
 have er : IntKind.u64.wrap ((U : Int) - IntKind.u64.wrap ((q : Int) * (Y1 : Int)))=(r : Int):=sub1 _ _ _ _ inv1.sum (by omega)
 simp [w1,w2,m1,m2,eY,eH,eW,eB,eU,eY1,eY0,ed1,ed0,eq1,eq2,er,nz]
 have bm : ∀ {u d q r : Nat},DvI u d Y1 Y0 q r -> IntKind.u64.wrap ((q : Int) * (Y0 : Int))=((q * Y0 : Nat) : Int):=fun i=>by rw [xz];exact dE _ (i.bnd hY0b)
 have bp : ∀ {u d q r : Nat},d < 4294967296 -> DvI u d Y1 Y0 q r -> IntKind.u64.wrap (IntKind.u64.wrap (4294967296 * (r : Int)) + (d : Int))=((4294967296 * r + d : Nat) : Int):=fun {u d q r} hd i=>by
  have:=i.rlt
  rw [show (4294967296 : Int) * (r : Int)=((4294967296 * r : Nat) : Int) by omega,dE (4294967296 * r) (by omega),HK]
  exact dE _ (by omega)
 obtain ⟨Q1,hQ1⟩ : ∃ Q1,Q1=(U * 4294967296 + d1) / (Y1 * 4294967296 + Y0):=⟨_,rfl⟩
 refine qi 0 Nat (fun x=>[(2,.int .u64 Y),(8,.int .u64 s),(9,.int .u64 Y1),(10,.int .u64 Y0),(11,.int .u64 U),(13,.int .u64 d1),(14,.int .u64 d0),(15,.int .u64 x)]) (fun x=>x=Q1) ?_ ?_
 ·refine ar (Nat × Nat) (fun x=>[(2,.int .u64 Y),(8,.int .u64 s),(9,.int .u64 Y1),(10,.int .u64 Y0),(11,.int .u64 U),(13,.int .u64 d1),(14,.int .u64 d0),(15,.int .u64 x.1),(16,.int .u64 x.2)]) (fun x=>DvI U d1 Y1 Y0 x.1 x.2) (fun x=>4294967296 - x.2) (q,r) inv1 (by simp) ?_
  rintro ⟨a,c⟩ inv
  simp only at inv
  have b1:=bm inv
  have b2:=bp hd1b inv
  have b3:=inv.rlt
  have b4:=inv.qle
  have fin : (4294967296 <= a \/ 4294967296 * c + d1 < a * Y0) -> ∃ a' c' : Nat,IntKind.u64.wrap ((a : Int) - 1)=(a' : Int) /\ IntKind.u64.wrap ((c : Int) + (Y1 : Int))=(c' : Int) /\ c'=c + Y1 /\ (4294967296 <= c' -> a'=Q1) /\ (c' < 4294967296 -> DvI U d1 Y1 Y0 a' c'):=fun hc=>by
   obtain ⟨n1,n2,n3,n4⟩:=inv.next (by omega) (by rw [hYs];exact hUY) hd1b hc
   refine ⟨a - 1,c + Y1,by rw [jb];omega,by rw [jb];omega,rfl,fun hc=>(Dv.stop n2 n3 n4 (by omega) hY0b hc).trans hQ1.symm,fun hc=>⟨n2,n3,hc,by omega⟩⟩
  simp
  refine ac (fun c1=>?_) (fun c1=>?_) <;> simp [c1] <;> simp at c1
  ·obtain ⟨a',c',k1,k2,k3,k4,k5⟩:=fin (.inl (by omega))
   simp [k1,k2]
   refine ac (fun c2=>?_) (fun c2=>?_) <;> simp [c2,k1,k2] <;> simp at c2
   ·rw [k4 (by omega)]
   ·exact ⟨_,_,k5 (by omega),by omega,rfl,rfl⟩
  ·simp [b1,b2]
   refine ac (fun c3=>?_) (fun c3=>?_) <;> simp [c3] <;> simp at c3
   ·obtain ⟨a',c',k1,k2,k3,k4,k5⟩:=fin (.inr (by omega))
    simp [k1,k2]
    refine ac (fun c2=>?_) (fun c2=>?_) <;> simp [c2,k1,k2] <;> simp at c2
    ·rw [k4 (by omega)]
    ·exact ⟨_,_,k5 (by omega),by omega,rfl,rfl⟩
   ·rw [(inv.done (by omega) (by omega)).trans hQ1.symm]
 intro q1 e hq1 hw
 subst hq1
 simp at hw
 obtain ⟨g2,g8,g9,g10,g11,g13,g14,g15⟩:=hw
 obtain ⟨V,hV⟩ : ∃ V,V=(U * 4294967296 + d1) % (Y1 * 4294967296 + Y0):=⟨_,rfl⟩
 have hVY : V < Y:=by rw [hV,hYs];exact Nat.mod_lt _ (by omega)
 have sum1 : q1 * Y + V=U * 4294967296 + d1:=by rw [hQ1,hV,hYs,Nat.mul_comm];exact Nat.div_add_mod _ _
 have eV : IntKind.u64.wrap (IntKind.u64.wrap (IntKind.u64.wrap ((U : Int) * 4294967296) + (d1 : Int)) - IntKind.u64.wrap ((q1 : Int) * (Y : Int)))=(V : Int):=by
  rw [xz q1 Y]
  simp only [jb]
  generalize q1 * Y=z at *
  omega
 have inv2:=DvI.first hY1a hY1b hY0b (u:=V) (d:=d0) (by omega) hd0b
 obtain ⟨q2,hq2⟩ : ∃ q,q=V / Y1:=⟨_,rfl⟩
 obtain ⟨r2,hr2⟩ : ∃ r,r=V % Y1:=⟨_,rfl⟩
 rw [<- hq2,<- hr2] at inv2
 have eq3 : Int.tdiv (V : Int) (Y1 : Int)=(q2 : Int):=by rw [yk,hq2]
 have eq4 : IntKind.u64.wrap (q2 : Int)=(q2 : Int):=dE _ (by have:=inv2.qle;omega)
 have er2 : IntKind.u64.wrap ((V : Int) - IntKind.u64.wrap ((q2 : Int) * (Y1 : Int)))=(r2 : Int):=sub1 _ _ _ _ inv2.sum (by omega)
 simp [g2,g8,g9,g10,g11,g13,g14,g15,eV,eq3,eq4,er2,nz]
 obtain ⟨Q0,hQ0⟩ : ∃ Q0,Q0=(V * 4294967296 + d0) / (Y1 * 4294967296 + Y0):=⟨_,rfl⟩
 refine qi 2 Nat (fun x=>[(2,.int .u64 Y),(8,.int .u64 s),(14,.int .u64 d0),(15,.int .u64 q1),(17,.int .u64 V),(18,.int .u64 x)]) (fun x=>x=Q0) ?_ ?_
 ·refine ar (Nat × Nat) (fun x=>[(2,.int .u64 Y),(8,.int .u64 s),(9,.int .u64 Y1),(10,.int .u64 Y0),(14,.int .u64 d0),(15,.int .u64 q1),(16,.int .u64 x.2),(17,.int .u64 V),(18,.int .u64 x.1)]) (fun x=>DvI V d0 Y1 Y0 x.1 x.2) (fun x=>4294967296 - x.2) (q2,r2) inv2 (by simp) ?_
  rintro ⟨a,c⟩ inv
  simp only at inv
  have b1:=bm inv
  have b2:=bp hd0b inv
  have b3:=inv.rlt
  have b4:=inv.qle
  have fin : (4294967296 <= a \/ 4294967296 * c + d0 < a * Y0) -> ∃ a' c' : Nat,IntKind.u64.wrap ((a : Int) - 1)=(a' : Int) /\ IntKind.u64.wrap ((c : Int) + (Y1 : Int))=(c' : Int) /\ c'=c + Y1 /\ (4294967296 <= c' -> a'=Q0) /\ (c' < 4294967296 -> DvI V d0 Y1 Y0 a' c'):=fun hc=>by
   obtain ⟨n1,n2,n3,n4⟩:=inv.next (by omega) (by rw [hYs];exact hVY) hd0b hc
   refine ⟨a - 1,c + Y1,by rw [jb];omega,by rw [jb];omega,rfl,fun hc=>(Dv.stop n2 n3 n4 (by omega) hY0b hc).trans hQ0.symm,fun hc=>⟨n2,n3,hc,by omega⟩⟩
  simp
  refine ac (fun c1=>?_) (fun c1=>?_) <;> simp [c1] <;> simp at c1
  ·obtain ⟨a',c',k1,k2,k3,k4,k5⟩:=fin (.inl (by omega))
   simp [k1,k2]
   refine ac (fun c2=>?_) (fun c2=>?_) <;> simp [c2,k1,k2] <;> simp at c2
   ·rw [k4 (by omega)]
   ·exact ⟨_,_,k5 (by omega),by omega,rfl,rfl⟩
  ·simp [b1,b2]
   refine ac (fun c3=>?_) (fun c3=>?_) <;> simp [c3] <;> simp at c3
   ·obtain ⟨a',c',k1,k2,k3,k4,k5⟩:=fin (.inr (by omega))
    simp [k1,k2]
    refine ac (fun c2=>?_) (fun c2=>?_) <;> simp [c2,k1,k2] <;> simp at c2
    ·rw [k4 (by omega)]
    ·exact ⟨_,_,k5 (by omega),by omega,rfl,rfl⟩
   ·rw [(inv.done (by omega) (by omega)).trans hQ0.symm]
 intro q0 e hq0 hw
 subst hq0
 simp at hw
 obtain ⟨g2,g8,g14,g15,g17,g18⟩:=hw
 have l1 : q1 < 4294967296:=by rw [hQ1];exact Dv.lt (by omega) (by omega) hd1b
 have l0 : q0 < 4294967296:=by rw [hQ0];exact Dv.lt (by omega) (by omega) hd0b
 obtain ⟨R,hR⟩ : ∃ R,R=(V * 4294967296 + d0) % (Y1 * 4294967296 + Y0):=⟨_,rfl⟩
 have hRY : R < Y:=by rw [hR,hYs];exact Nat.mod_lt _ (by omega)
 have sum0 : q0 * Y + R=V * 4294967296 + d0:=by rw [hQ0,hR,hYs,Nat.mul_comm];exact Nat.div_add_mod _ _
 have eR : IntKind.u64.wrap (IntKind.u64.wrap (IntKind.u64.wrap ((V : Int) * 4294967296) + (d0 : Int)) - IntKind.u64.wrap ((q0 : Int) * (Y : Int)))=(R : Int):=by
  rw [xz q0 Y]
  simp only [jb]
  generalize q0 * Y=z at *
  omega
 obtain ⟨Z,hZ⟩ : ∃ Z,Z=R / 2 ^ s:=⟨_,rfl⟩
 have eZ : Int.fdiv (R : Int) (2 ^ s)=(Z : Int):=by rw [sm,hZ]
 have eQ : IntKind.u64.wrap (IntKind.u64.wrap ((q1 : Int) * 4294967296) + (q0 : Int))=((q1 * 4294967296 + q0 : Nat) : Int):=by
  simp only [jb]
  omega
 obtain ⟨T,hT⟩ : ∃ T,T=q1 * 4294967296 + q0:=⟨_,rfl⟩
 rw [<- hT] at eQ
 simp [g2,g8,g14,g15,g17,g18,w1,m1,eR,eZ,eQ]
 have hW2 : lo * 2 ^ s=B * 18446744073709551616 + W:=by
  have e1 : lo * 2 ^ s / 18446744073709551616=B:=by
   rw [hB,show (18446744073709551616 : Nat)=2 ^ (64 - s) * 2 ^ s by rw [<- Nat.pow_add,show 64 - s + s=64 by omega],Nat.mul_div_mul_right _ _ (Nat.two_pow_pos s)]
  have e2:=Nat.div_add_mod (lo * 2 ^ s) 18446744073709551616
  omega
 have tot : (hi * 18446744073709551616 + lo) * 2 ^ s=(U * 4294967296 + d1) * 4294967296 + d0:=by
  rw [uB,hW2,<- hH]
  exact MF hU hd1 hd0
 obtain ⟨f1,f2⟩:=Df (N:=hi * 18446744073709551616 + lo) (y:=y) (S:=2 ^ s) (A:=U * 4294967296 + d1) (K:=4294967296) (un0:=d0) (y':=Y1 * 4294967296 + Y0) (by omega) (Nat.two_pow_pos s) (by rw [hYs,hY]) tot
 rw [<- hV,<- hQ1,<- hQ0,<- hT] at f1
 rw [<- hV,<- hR,<- hZ] at f2
 rw [<- hres,f1,f2]
end Go.Gv

namespace Go.Gv
def Tu (n : Nat) : D:=.agg [.int .u64 ((n / 18446744073709551616 : Nat) : Int),.int .u64 ((n % 18446744073709551616 : Nat) : Int)]
def Cq (x : Nat) : Nat -> Nat -> Nat
 | 0,r=>r
 | i + 1,r=>Cq x i (if (r + 2 ^ i) * (r + 2 ^ i) <= x then r + 2 ^ i else r)
def Cr (x : Nat) : Nat:=Cq x 63 0
variable {C : CC} (hC : aj prog C)
include hC
end Go.Gv

namespace Go.Gv
def rT (t : List (Int × Int)) (i : Nat) : Bool:=iA t[i]!.1 && iA t[i]!.2 && (i == 0 || (t[i - 1]!.1 < t[i]!.1 && t[i - 1]!.2 <= t[i]!.2))
def bQ (t : List (Int × Int)) : Bool:=1 <= t.length && t.length <= 100 && (List.range t.length).all (rT t)
variable {C : CC} (hC : aj prog C)
include hC
theorem kS (b : Bool) (t : List (Int × Int)) : C 72 [slx b (t.map knD)] (.bool (bQ t)) []:=by
 refine start hC (nf:=N72) rfl rfl ?_
 simp [N72]
 refine ac (fun h=>?_) (fun h=>?_) <;> simp at h
 ·simp [bQ,show t.length=0 by omega]
 simp [h]
 refine ac (fun h2=>?_) (fun h2=>?_) <;> simp at h2
 ·simp [bQ,h,h2]
  omega
 simp
 refine ar Nat (fun i=>[(0,slx b (t.map knD)),(13,slx b (t.map knD)),(14,.int .i64 t.length),(15,.int .i64 i)]) (fun i=>i <= t.length /\ ∀ j < i,rT t j=true) (fun i=>t.length - i) 0 (by simp) (by simp) ?_
 rintro i ⟨hi,hj⟩
 simp
 refine ac (fun h3=>?_) (fun h3=>?_) <;> simp at h3
 ·have bad : rT t i=false -> bQ t=false:=fun hb=>by
   simp only [bQ,Bool.and_eq_false_iff,List.all_eq_false]
   exact .inr ⟨i,by simpa using h3,by simp [hb]⟩
  have e1 : t[i]! = t[i]:=getElem!_pos t i h3
  have e2 : t[i - 1]! = t[i - 1]:=getElem!_pos t (i - 1) (by omega)
  simp only [rT,e1,e2] at bad
  have hw1 : IntKind.wrap .i64 ((i : Int) + 1)=((i + 1 : Nat) : Int):=ah (by omega) (by omega)
  have next : rT t i=true -> ∃ s' : Nat,(s' <= t.length /\ ∀ j < s',rT t j=true) /\ t.length - s' < t.length - i /\ s'=i + 1:=fun ho =>
   ⟨i + 1,⟨by omega,fun j hjj=>by
    rcases Nat.lt_succ_iff_lt_or_eq.1 hjj with h | rfl
    ·exact hj j h
    ·exact ho⟩,by omega,rfl⟩
  simp only [rT,e1,e2] at next
  simp [h3,knD]
  refine aa (wB hC _) (.inl rfl) ?_
  cases f1 : iA t[i].1
  ·simp
   exact ⟨am (by decide +kernel),bad (by simp [f1])⟩
  simp
  refine aa (wB hC _) (.inl rfl) ?_
  cases f2 : iA t[i].2
  ·simp
   exact ⟨am (by decide +kernel),bad (by simp [f2])⟩
  simp
  refine ac (fun h4=>?_) (fun h4=>?_) <;> simp at h4
  ·have hw : IntKind.wrap .i64 ((i : Int) - 1)=((i - 1 : Nat) : Int):=ah (by omega) (by omega)
   have h5 : i - 1 < t.length:=by omega
   simp [h4,hw,h5,knD]
   refine ac (fun h6=>?_) (fun h6=>?_) <;> simp [h6,hw,h5,knD] <;> simp at h6
   ·refine ⟨am (by decide +kernel),bad ?_⟩
    simp [f1,f2]
    omega
   ·refine ⟨am (by decide +kernel),ac (fun h7=>?_) (fun h7=>?_)⟩ <;> simp [h7,hw1] <;> simp at h7
    ·refine bad ?_
     simp [f1,f2]
     omega
    ·obtain ⟨s',g1,g2,rfl⟩:=next (by simp [f1,f2,h6,h7])
     exact ⟨_,g1,g2,rfl⟩
  ·have hi0 : i=0:=by omega
   subst hi0
   simp at hw1
   simp [hw1]
   refine ⟨am (by decide +kernel),?_⟩
   obtain ⟨s',g1,g2,rfl⟩:=next (by simp [f1,f2])
   exact ⟨_,g1,g2,rfl⟩
 ·have : i=t.length:=by omega
  subst this
  simp [bQ,h,h2]
  exact ⟨⟨by omega,by omega⟩,hj⟩
end Go.Gv

namespace Go.Gv
theorem oF {t : List (Int × Int)} (h : bQ t=true) : 1 <= t.length /\ t.length <= 100:=by
 simp only [bQ,Bool.and_eq_true,decide_eq_true_eq] at h
 exact h.1
variable {C : CC} (hC : aj prog C)
include hC
end Go.Gv

namespace Go.Gv
def TR (l : List Nat) (x : Nat) : Nat:=l.findIdx fun k=>decide (x <= k)
structure oJ (n : Nat) (es : List Edg) (out : List Nat) : Prop where
 lt : ∀ v ∈ out,v < n
 nd : out.Nodup
 pre : ∀ v ∈ out,∀ u,(u,v) ∈ es -> u ∈ out
theorem oJ.nil (n : Nat) (es : List Edg) : oJ n es []:=⟨by simp,by simp,by simp⟩
theorem oJ.len {n : Nat} {es : List Edg} {out : List Nat} (h : oJ n es out) : out.length <= n:=by
 have:=(List.nodup_range (n:=n)).sublist (List.Sublist.refl _)
 have hsub : out ⊆ List.range n:=fun v hv=>by simpa using h.lt v hv
 have:=List.Nodup.length_le_of_subset h.nd hsub
 simpa using this
theorem oJ.step {n : Nat} {es : List Edg} {out : List Nat} (h : oJ n es out) {i : Nat} (hi : i ∈ Ax n es out) : oJ n es (out++[i]):=by
 obtain ⟨h1,h2,h3⟩:=xw.1 hi
 refine ⟨fun v hv=>?_,?_,fun v hv u hu=>?_⟩
 ·rcases List.mem_append.1 hv with hv | hv
  ·exact h.lt v hv
  ·simp at hv;omega
 ·rw [List.nodup_append]
  refine ⟨h.nd,by simp,fun a ha b hb=>?_⟩
  simp at hb
  subst hb
  rintro rfl
  exact h2 ha
 ·rcases List.mem_append.1 hv with hv | hv
  ·exact List.mem_append.2 (.inl (h.pre v hv u hu))
  ·simp at hv
   subst hv
   exact List.mem_append.2 (.inl (h3 u hu))
variable {C : CC} (hC : aj prog C)
include hC
theorem vM (x : Int) : C 299 [.int .i64 x] (.bool false) []:=by
 refine start hC (nf:=N299) rfl rfl ?_
 simp [N299]
end Go.Gv

namespace Go.Gv
open Go.Lib
def aX (L : List Fnd) : List (List D):=L.map cS
theorem bf (L : List Fnd) : (aX L).length=L.length:=by simp [aX]
theorem mJ {L : List Fnd} {j : Nat} (h : j < L.length) : (aX L)[j]? = some [.int .i64 L[j].1,.str L[j].2]:=by simp [aX,h,cS]
theorem wF {L : List Fnd} {j : Nat} (x : Fnd) : (aX L).set j [.int .i64 x.1,.str x.2]=aX (L.set j x):=by simp [aX,cS]
theorem uc (L : List Fnd) (k : Nat) : (aX L).take k=aX (L.take k):=by simp [aX]
theorem ki (L : List Fnd) : ∀ e ∈ aX L,∀ c ∈ e,av c=true:=by
 intro e he c hc
 obtain ⟨x,_,rfl⟩:=List.mem_map.1 he
 simp [cS] at hc
 rcases hc with rfl | rfl <;> rfl
theorem dL (L : List Fnd) : ∀ e ∈ aX L,∀ c ∈ e,bk c=true:=by
 intro e he c hc
 obtain ⟨x,_,rfl⟩:=List.mem_map.1 he
 simp [cS] at hc
 rcases hc with rfl | rfl <;> rfl
theorem kj (L : List Fnd) : ∀ e ∈ aX L,e.length=2:=by
 intro e he
 obtain ⟨x,_,rfl⟩:=List.mem_map.1 he
 rfl
structure qV (C : CC) : Prop where
 scmp : ∀ a b : List UInt8,C 632 [.str a,.str b] (.int .i64 (compareBytes a b)) []
 sort : ∀ L : List Fnd,L.length < 2 ^ 62 -> (∀ x y : Fnd,C 631 [.agg (cS x),.agg (cS y)] (.int .i64 (eS x y)) []) -> C 630 [.own 2 (aX L),.fn 631 []] .any [.own 2 (aX (nR eS L)),.nilp]
section
variable {α : Type} [DecidableEq α]
theorem pM : ∀ (l : List α) (x : α),ddL (l++[x])=if l.getLast? = some x then ddL l else ddL l++[x]
 | [],x=>by simp [ddL]
 | [y],x=>by
  simp only [List.cons_append,List.nil_append,gC,List.getLast?_singleton,Option.some.injEq]
  by_cases e : y=x
  ·rw [if_pos e,if_pos e];subst e;rfl
  ·rw [if_neg e,if_neg e];rfl
 | y::z::r,x=>by
  have ih:=pM (z::r) x
  have e0 : y::z::r++[x]=y::z::(r++[x]):=rfl
  have e1 : z::r++[x]=z::(r++[x]):=rfl
  have e2 : (y::z::r).getLast? = (z::r).getLast?:=rfl
  rw [e0,gC,<- e1,ih,e2,gC]
  by_cases e : y=z
  ·rw [if_pos e,if_pos e]
  ·rw [if_neg e,if_neg e]
   split
   ·rfl
   ·rfl
theorem pN (l : List α) {m : Nat} (hm : m < l.length) (h0 : 0 < m) : ddL (l.take (m + 1))=if l[m - 1]=l[m] then ddL (l.take m) else ddL (l.take m)++[l[m]]:=by
 have e : l.take (m + 1)=l.take m++[l[m]]:=by rw [List.take_succ_eq_append_getElem hm]
 have e2 : (l.take m).getLast? = some l[m - 1]:=by
  rw [List.getLast?_eq_getElem?]
  simp only [List.length_take,Nat.min_eq_left (Nat.le_of_lt hm)]
  rw [List.getElem?_take_of_lt (by omega),List.getElem?_eq_getElem (by omega)]
 rw [e,pM,e2]
 simp only [Option.some.injEq]
theorem y6 (l : List α) : (ddL l).length <= l.length:=by
 induction l with
 | nil=>simp [ddL]
 | cons x l ih =>
  cases l with
  | nil=>simp [ddL]
  | cons y r =>
   rw [gC]
   split
   ·simp at ih ⊢;omega
   ·simp at ih ⊢;omega
end
variable {C : CC} (hC : aj prog C)
include hC
theorem vF (L : List Fnd) (k : Int) (nm : List UInt8) (hl : L.length < 2 ^ 40) : C 628 [.blk 1 [[.own 2 (aX L)]],.int .i64 k,.str nm] (.tup []) [.blk 1 [[.own 2 (aX (L++[(k,nm)]))]]]:=by
 refine sq hC (nf:=N628) rfl rfl ?_
 simp [N628,bf]
 have e : List.take L.length (aX L)=aX L:=List.take_of_length_le (by rw [bf];exact Nat.le_refl _)
 refine ⟨by omega,fun e' he c hc=>?_,by rw [e];simp [aX,cS]⟩
 rw [e] at he
 rcases he with he | rfl
 ·exact ki L e' he c hc
 ·simp at hc;rcases hc with rfl | rfl <;> rfl
theorem CU (a b : Int) : C 267 [.int .i64 a,.int .i64 b] (.int .i64 (mQ a b)) []:=by
 have k1:=vM hC a
 have k2:=vM hC b
 refine start hC (nf:=N267) rfl rfl ?_
 simp [N267]
 refine aa k1 (.inl rfl) ?_
 simp
 refine aa k2 (.inl rfl) ?_
 simp
 unfold mQ
 refine ac (fun h=>?_) (fun h=>?_) <;> simp at h
 ·simp [h]
 ·have h' : ¬ a < b:=by omega
  simp [h']
  refine ac (fun h2=>?_) (fun h2=>?_) <;> simp at h2
  ·simp [h2];omega
  ·have h2' : ¬ b < a:=by omega
   simp [h2'];omega
theorem Iv (a b : Int) : C 266 [.sl [[.int .i64 a],[.int .i64 b]]] (.int .i64 (if a=0 then b else a)) []:=by
 refine start hC (nf:=N266) rfl rfl ?_
 simp [N266]
 refine ar Nat (fun j=>[(3,.int .i64 0),(6,.sl [[.int .i64 a],[.int .i64 b]]),(7,.int .i64 2),(8,.int .i64 j)]) (fun j=>j <= 2 /\ (j=1 -> a=0) /\ (j=2 -> a=0 /\ b=0)) (fun j=>2 - j) 0 (by simp) (by simp) ?_
 rintro j ⟨hj,h1,h2⟩
 simp
 rcases (show j=0 \/ j=1 \/ j=2 by omega) with rfl | rfl | rfl
 ·simp [au (show [[D.int .i64 a],[D.int .i64 b]][0]? = some [D.int .i64 a] from rfl)]
  refine ac (fun h=>?_) (fun h=>?_) <;> simp at h
  ·simp [h]
  ·simp [h]
   have hw : IntKind.wrap .i64 (1 : Int)=1:=ah (by omega) (by omega)
   simp [hw]
   exact ⟨1,by simp,by simp⟩
 ·have ha:=h1 rfl
  simp [au (show [[D.int .i64 a],[D.int .i64 b]][1]? = some [D.int .i64 b] from rfl)]
  refine ac (fun h=>?_) (fun h=>?_) <;> simp at h
  ·simp [h,ha]
  ·simp [h,ha]
   have hw : IntKind.wrap .i64 (2 : Int)=2:=ah (by omega) (by omega)
   simp [hw]
   exact ⟨2,by simp,by simp⟩
 ·obtain ⟨ha,hb⟩:=h2 rfl
  simp [ha,hb]
theorem Dl (hK : qV C) (x y : Fnd) : C 631 [.agg (cS x),.agg (cS y)] (.int .i64 (eS x y)) []:=by
 have k1:=CU hC x.1 y.1
 have k2:=hK.scmp x.2 y.2
 have k3:=Iv hC (mQ x.1 y.1) (compareBytes x.2 y.2)
 refine start hC (nf:=N631) rfl rfl ?_
 simp [N631,cS]
 refine aa k1 (.inl rfl) ?_
 simp
 refine aa k2 (.inl rfl) ?_
 simp
 refine aa k3 (.inl rfl) ?_
 simp
 refine ⟨am (by decide +kernel),?_⟩
 unfold eS
 split <;> rfl
set_option maxHeartbeats 1000000 in
theorem y4 (L : List Fnd) (hl : L.length < 2 ^ 40) : C 633 [.own 2 (aX L)] .any [.own 2 (aX (ddL L)),.nils,.nils]:=by
 refine yi hC (nf:=N633) rfl rfl (by simp) (by omega) ?_
 simp [N633,bf]
 refine ac (fun h=>?_) (fun h=>?_) <;> simp at h
 ·simp [h,bf]
  have e : ddL L=L:=by
   match L,h with
   | [],_=>rfl
   | [x],_=>rfl
   | x::y::r,h=>simp at h;omega
  rw [e]
  exact ⟨dL L,List.take_of_length_le (by rw [bf];exact Nat.le_refl _)⟩
 ·simp [h]
  refine ar Nat (fun k=>[(0,.ref (.r 10015) 0 L.length),(3,.int .i64 k),(10015,.blk 2 (aX L))]) (fun k=>1 <= k /\ k <= L.length /\ ddL (L.take k)=L.take k) (fun k=>L.length - k) 1 ⟨by omega,by omega,?_⟩ (by simp) ?_
  ·match L,h with
   | x::r,h=>simp [ddL]
  rintro k ⟨h1,h2,h3⟩
  simp
  refine ac (fun h4=>?_) (fun h4=>?_) <;> simp at h4
  ·have hw : IntKind.wrap .i64 ((k : Int) - 1)=((k - 1 : Nat) : Int):=by
    rw [show (k : Int) - 1=((k - 1 : Nat) : Int) by omega]
    exact ah (by omega) (by omega)
   have hw2 : IntKind.wrap .i64 ((k : Int) + 1)=((k + 1 : Nat) : Int):=ah (by omega) (by omega)
   simp [h4,hw,az (mJ h4),az (mJ (show k - 1 < L.length by omega))]
   refine ⟨by omega,am (by decide +kernel),?_⟩
   have ht:=pN L h4 (by omega)
   refine ac (fun h5=>?_) (fun h5=>?_)
   ·have h6 : L[k - 1]=L[k]:=by
     simp only [Bool.and_eq_true,decide_eq_true_eq] at h5
     exact Prod.ext h5.1.symm h5.2.symm
    rw [if_pos h6,h3] at ht
    have h5' : (decide (L[k].1=L[k - 1].1) && decide (L[k].2=L[k - 1].2))=true:=h5
    rw [h5']
    clear h5 h5'
    simp [h4,h2,bf]
    refine ar (Nat × Nat × List Fnd) (fun s=>[(0,.ref (.r 10015) 0 L.length),(3,.int .i64 s.2.1),(4,.ref (.r 10015) k (L.length - k)),(5,.int .i64 s.1),(10015,.blk 2 (aX s.2.2))])
     (fun s=>1 <= s.1 /\ s.1 + k <= L.length /\ k <= s.2.1 /\ s.2.1 + 1 <= k + s.1 /\ s.2.2.length=L.length /\ s.2.2.take s.2.1=ddL (L.take (k + s.1)) /\ ∀ j,k + s.1 <= j + 1 -> s.2.2[j]? = L[j]?)
     (fun s=>L.length - s.1) (1,k,L) ⟨by simp,by simp;omega,by simp,by simp,rfl,by simp [ht],by simp⟩ (by simp) ?_
    rintro ⟨j,q,W⟩ ⟨a1,a2,a3,a4,a5,a6,a7⟩
    simp only at a1 a2 a3 a4 a5 a6 a7
    simp
    refine ac (fun h7=>?_) (fun h7=>?_) <;> simp at h7
    ·have hkj : k + j < L.length:=by omega
     have w1 : W[k + j]? = L[k + j]?:=a7 _ (by omega)
     have w2 : W[k + (j - 1)]? = L[k + (j - 1)]?:=a7 _ (by omega)
     have g1 : (aX W)[k + j]? = some [.int .i64 L[k + j].1,.str L[k + j].2]:=by
      unfold aX
      rw [List.getElem?_map,w1,List.getElem?_eq_getElem hkj];rfl
     have g2 : (aX W)[k + (j - 1)]? = some [.int .i64 L[k + (j - 1)].1,.str L[k + (j - 1)].2]:=by
      unfold aX
      rw [List.getElem?_map,w2,List.getElem?_eq_getElem (show k + (j - 1) < L.length by omega)];rfl
     have hv : IntKind.wrap .i64 ((j : Int) - 1)=((j - 1 : Nat) : Int):=ah (by omega) (by omega)
     have hv2 : IntKind.wrap .i64 ((j : Int) + 1)=((j + 1 : Nat) : Int):=ah (by omega) (by omega)
     have hv3 : IntKind.wrap .i64 ((q : Int) + 1)=((q + 1 : Nat) : Int):=ah (by omega) (by omega)
     simp [h7,hv,az g1,az g2]
     refine ⟨by omega,am (by decide +kernel),?_⟩
     have ht2:=pN L hkj (by omega)
     refine ac (fun h8=>?_) (fun h8=>?_)
     ·have hne : L[k + j - 1] ≠ L[k + j]:=fun e=>by
       have e2 : L[k + (j - 1)]=L[k + j]:=by
        rw [<- e]
        congr 1
        omega
       rw [e2] at h8
       simp at h8
      rw [if_neg hne] at ht2
      rw [h8]
      have hq : q < L.length:=by omega
      have hqW : q < W.length:=by omega
      have e9 : (aX W)[q]'(by rw [bf];exact hqW)=[.int .i64 W[q].1,.str W[q].2]:=(List.getElem?_eq_some_iff.1 (mJ hqW)).2
      simp [h7,hv,hv2,hv3,az g1,bf,a5,hq,e9]
      refine ⟨j + 1,q + 1,W.set q L[k + j],⟨by omega,by omega,by omega,by omega,by simp [a5],?_,fun i hi=>?_⟩,by omega,by omega,by omega,wF _⟩
      ·rw [List.take_succ_eq_append_getElem (by simp;exact hqW),List.take_set_of_le (Nat.le_refl _),a6,show k + (j + 1)=k + j + 1 by omega,ht2]
       simp
      ·rw [List.getElem?_set,if_neg (by omega)]
       exact a7 i (by omega)
     ·have heq : L[k + j - 1]=L[k + j]:=by
       have e2 : L[k + j]=L[k + (j - 1)]:=by
        simp only [Bool.or_eq_false_iff,Bool.not_eq_false',decide_eq_true_eq] at h8
        exact Prod.ext h8.1 h8.2
       rw [e2]
       congr 1
       omega
      rw [if_pos heq] at ht2
      rw [h8]
      simp [h7,hv2]
      exact ⟨j + 1,q,W,⟨by omega,by omega,by omega,by omega,a5,by rw [a6,show k + (j + 1)=k + j + 1 by omega,ht2],fun i hi=>a7 i (by omega)⟩,by omega,rfl,by omega,rfl⟩
    ·have hj : k + j=L.length:=by omega
     have a6' : W.take q=ddL L:=by rw [a6,hj,List.take_length]
     have hq : q < L.length:=by omega
     have hqW : q <= W.length:=by omega
     simp [h7,bf,a5]
     have hz : (dF (aX W) q (L.length - q) [.int .i64 0,.str []]).length=L.length:=by rw [jz (by rw [bf];omega),bf,a5]
     refine ⟨by omega,by omega,ki W,by omega,dL _,by omega,?_⟩
     unfold dF
     rw [List.append_assoc,List.take_append_of_le_length (by simp [bf];omega),List.take_take,Nat.min_self,uc,a6']
   ·have h6 : L[k - 1] ≠ L[k]:=fun e=>by
     rw [e] at h5
     simp at h5
    rw [if_neg h6,h3] at ht
    rw [h5]
    simp [h4,hw2]
    exact ⟨k + 1,by refine ⟨by omega,by omega,?_⟩;rw [ht,List.take_succ_eq_append_getElem h4],by omega,rfl⟩
  ·have ek : k=L.length:=by omega
   subst ek
   rw [List.take_length] at h3
   simp [h3,bf]
   exact ⟨dL L,List.take_of_length_le (by rw [bf];exact Nat.le_refl _)⟩
theorem tr (hK : qV C) (L : List Fnd) (hl : L.length < 2 ^ 40) : C 590 [.own 2 (aX L)] .any [.own 2 (aX (iz eS L)),.nils,.nils]:=by
 have k1:=hK.sort L (by omega) (Dl hC hK)
 have k2:=y4 hC (nR eS L) (by rw [i9];exact hl)
 refine yi hC (nf:=N590) rfl rfl (by simp) (by omega) ?_
 simp [N590,bf]
 refine ⟨ki L,?_⟩
 refine tN k1 (.inl rfl) (by simp [bf,i9]) (fun e he=>⟨kj _ e he,ki _ e he⟩) ?_
 simp [bf,i9]
 have e : List.take L.length (aX (nR eS L))=aX (nR eS L):=List.take_of_length_le (by rw [bf,i9];exact Nat.le_refl _)
 rw [e]
 refine ⟨dL _,?_⟩
 refine md k2 (fun e he=>⟨kj _ e he,dL _ e he⟩) ?_
 simp [bf]
 exact ⟨dL _,List.take_of_length_le (by rw [bf];exact Nat.le_refl _)⟩
end Go.Gv

namespace Go.Gv
def wtA (n : Nat) (f : Nat -> Nat) : List (List D):=(List.range n).map fun v=>[.int .i64 (f v : Int)]
def wt1 (n : Nat) (es : List Edg) (i j v : Nat) : Nat:=Rq es i v + (if v ∈ (nxt n es i).take j then 1 else 0)
def rd0 (n : Nat) (es : List Edg) (i : Nat) : List Nat:=(List.range i).filter fun v=>decide (C7 n es [] v=0)
def wt2 (n : Nat) (es : List Edg) (out : List Nat) (i j v : Nat) : Nat:=if v ∈ (nxt n es i).take j then C7 n es (out++[i]) v else C7 n es out v
def rdp (n : Nat) (es : List Edg) (out : List Nat) (i j v : Nat) : Bool:=(!out.contains v && rW es out v && !(v == i)) || (((nxt n es i).take j).contains v && rW es (out++[i]) v)
def rd2 (n : Nat) (es : List Edg) (out : List Nat) (i j : Nat) : List Nat:=(List.range n).filter (rdp n es out i j)
end Go.Gv

namespace Go.Gv
def ndR (n : Nat) (es : List Edg) : List (List D):=(List.range n).map fun v=>[ndD (nxt n es v)]
variable {C : CC} (hC : aj prog C)
include hC
end Go.Gv

namespace Go.Gv
structure Lnk where
 name : List UInt8
 src : List UInt8
 dst : List UInt8
 kind : Int
 len : Int
 up : Int
 down : Int
 sect : List UInt8
 width : Int
 height : Int
 curveN : Bool
 curve : List (Int × Int)
 deriving Inhabited
def aD (l : Lnk) : List D:=[.str l.name,.str l.src,.str l.dst,.int .i64 l.kind,.int .i64 l.len,.int .i64 l.up,.int .i64 l.down,.str l.sect,.int .i64 l.width,.int .i64 l.height,slx l.curveN (l.curve.map knD)]
structure Nod where
 name : List UInt8
 kind : Int
 x : Int
 y : Int
 invert : Int
 ground : Int
 shapeN : Bool
 shape : List (Int × Int)
 prot : Bool
 reserve : Int
 deriving Inhabited
def aQ (n : Nod) : List D:=[.str n.name,.int .i64 n.kind,.int .i64 n.x,.int .i64 n.y,.int .i64 n.invert,.int .i64 n.ground,slx n.shapeN (n.shape.map knD),.bool n.prot,.int .i64 n.reserve]
def dA (n : Int) : Bool:=decide (-4194304 <= n) && decide (n <= 4194304)
variable {C : CC} (hC : aj prog C)
include hC
theorem dw (n a b : Int) : C 172 [.int .i64 n,.int .i64 a,.int .i64 b] (.bool (decide (a <= n) && decide (n <= b))) []:=by
 refine start hC (nf:=N172) rfl rfl ?_
 simp [N172]
 refine ac (fun h=>?_) (fun h=>?_) <;> simp at h <;> simp [h] <;> omega
theorem xr (n : Int) : C 183 [.int .i64 n] (.bool (!dA n)) []:=by
 have e : (!dA n)=(decide (n < -4194304) || decide (4194304 < n)):=by
  rw [dA,Bool.eq_iff_iff]
  simp only [Bool.not_eq_true',Bool.and_eq_false_iff,decide_eq_false_iff_not,Bool.or_eq_true,decide_eq_true_eq]
  omega
 rw [e]
 refine start hC (nf:=N183) rfl rfl ?_
 simp [N183]
 refine ac (fun h=>?_) (fun h=>?_) <;> simp at h <;> simp [h]
 intro _;omega
theorem pd (xs : List Int) (hl : xs.length < 2 ^ 62) : C 173 [.sl (xs.map fun n=>[.int .i64 n])] (.bool (xs.all dA)) []:=by
 refine start hC (nf:=N173) rfl rfl ?_
 simp [N173]
 have h:=pX hC (b:=false) (xs:=xs) (g:=183) (cs:=[]) (fun n=>!dA n) hl (fun n _=>xr hC n)
 rw [bu] at h
 refine aa h (.inl rfl) ?_
 simp
 rw [Bool.eq_iff_iff];simp
end Go.Gv

namespace Go.Gv
def dB (nm : List UInt8) (n : Nod) : Bool:=n.name == nm
def mS (nm : List UInt8) (l : Lnk) : Bool:=l.name == nm
variable {C : CC} (hC : aj prog C)
include hC
theorem pZ {b : Bool} {xs : List Nod} {g : Nat} {cs : List D} (p : Nod -> Bool) (hs : xs.length < 2 ^ 62) (hp : ∀ x ∈ xs,C g (.agg (aQ x)::cs) (.bool (p x)) []) : C 175 [slx b (xs.map fun x=>aQ x),.fn g cs] (.int .i64 (bv p xs)) []:=by
 refine start hC (nf:=N175) rfl rfl ?_
 simp [N175]
 refine ar Nat (fun i=>[(0,slx b (xs.map fun x=>aQ x)),(1,.fn g cs),(7,.int .i64 xs.length),(8,.int .i64 i)]) (fun i=>i <= xs.length /\ ∀ (j : Nat) (h : j < xs.length),j < i -> p xs[j]=false) (fun i=>xs.length - i) 0 (by simp) (by simp) ?_
 rintro i ⟨hi,hj⟩
 simp
 refine ac (fun h=>?_) (fun h=>?_) <;> simp [h] <;> simp at h
 ·have hw : IntKind.wrap .i64 ((i : Int) + 1)=((i + 1 : Nat) : Int):=ah (by omega) (by omega)
  have hc:=hp _ (List.getElem_mem h)
  simp [h,aQ] at hc ⊢
  refine aa hc (.inl rfl) ?_
  simp
  refine ac (fun h1=>?_) (fun h1=>?_) <;> simp [h1,hw]
  ·rw [cq hj h h1]
  ·refine ⟨i + 1,⟨by omega,fun j hl hjj=>?_⟩,by omega,rfl⟩
   rcases Nat.lt_succ_iff_lt_or_eq.1 hjj with h2 | rfl
   ·exact hj j hl h2
   ·exact h1
 ·rw [cE (fun j hl=>hj j hl (by omega))]
theorem pY {b : Bool} {xs : List Lnk} {g : Nat} {cs : List D} (p : Lnk -> Bool) (hs : xs.length < 2 ^ 62) (hp : ∀ x ∈ xs,C g (.agg (aD x)::cs) (.bool (p x)) []) : C 181 [slx b (xs.map fun x=>aD x),.fn g cs] (.int .i64 (bv p xs)) []:=by
 refine start hC (nf:=N181) rfl rfl ?_
 simp [N181]
 refine ar Nat (fun i=>[(0,slx b (xs.map fun x=>aD x)),(1,.fn g cs),(7,.int .i64 xs.length),(8,.int .i64 i)]) (fun i=>i <= xs.length /\ ∀ (j : Nat) (h : j < xs.length),j < i -> p xs[j]=false) (fun i=>xs.length - i) 0 (by simp) (by simp) ?_
 rintro i ⟨hi,hj⟩
 simp
 refine ac (fun h=>?_) (fun h=>?_) <;> simp [h] <;> simp at h
 ·have hw : IntKind.wrap .i64 ((i : Int) + 1)=((i + 1 : Nat) : Int):=ah (by omega) (by omega)
  have hc:=hp _ (List.getElem_mem h)
  simp [h,aD] at hc ⊢
  refine aa hc (.inl rfl) ?_
  simp
  refine ac (fun h1=>?_) (fun h1=>?_) <;> simp [h1,hw]
  ·rw [cq hj h h1]
  ·refine ⟨i + 1,⟨by omega,fun j hl hjj=>?_⟩,by omega,rfl⟩
   rcases Nat.lt_succ_iff_lt_or_eq.1 hjj with h2 | rfl
   ·exact hj j hl h2
   ·exact h1
 ·rw [cE (fun j hl=>hj j hl (by omega))]
theorem z6 {b : Bool} {xs : List (Int × Int)} {g : Nat} {cs : List D} (p : (Int × Int) -> Bool) (hs : xs.length < 2 ^ 62) (hp : ∀ x ∈ xs,C g (.agg (knD x)::cs) (.bool (p x)) []) : C 185 [slx b (xs.map fun x=>knD x),.fn g cs] (.int .i64 (bv p xs)) []:=by
 refine start hC (nf:=N185) rfl rfl ?_
 simp [N185]
 refine ar Nat (fun i=>[(0,slx b (xs.map fun x=>knD x)),(1,.fn g cs),(7,.int .i64 xs.length),(8,.int .i64 i)]) (fun i=>i <= xs.length /\ ∀ (j : Nat) (h : j < xs.length),j < i -> p xs[j]=false) (fun i=>xs.length - i) 0 (by simp) (by simp) ?_
 rintro i ⟨hi,hj⟩
 simp
 refine ac (fun h=>?_) (fun h=>?_) <;> simp [h] <;> simp at h
 ·have hw : IntKind.wrap .i64 ((i : Int) + 1)=((i + 1 : Nat) : Int):=ah (by omega) (by omega)
  have hc:=hp _ (List.getElem_mem h)
  simp [h,knD] at hc ⊢
  refine aa hc (.inl rfl) ?_
  simp
  refine ac (fun h1=>?_) (fun h1=>?_) <;> simp [h1,hw]
  ·rw [cq hj h h1]
  ·refine ⟨i + 1,⟨by omega,fun j hl hjj=>?_⟩,by omega,rfl⟩
   rcases Nat.lt_succ_iff_lt_or_eq.1 hjj with h2 | rfl
   ·exact hj j hl h2
   ·exact h1
 ·rw [cE (fun j hl=>hj j hl (by omega))]
theorem zS {b : Bool} {xs : List (Int × Int)} {g : Nat} {cs : List D} (p : (Int × Int) -> Bool) (hs : xs.length < 2 ^ 62) (hp : ∀ x ∈ xs,C g (.agg (knD x)::cs) (.bool (p x)) []) : C 179 [slx b (xs.map fun x=>knD x),.fn g cs] (.bool (xs.any p)) []:=by
 refine start hC (nf:=N179) rfl rfl ?_
 simp [N179]
 refine aa (z6 hC p hs hp) (.inl rfl) ?_
 simp [dN]
theorem m5 (b1 b2 : Bool) (ns : List Nod) (ls : List Lnk) (nm : List UInt8) (hn : ns.length < 2 ^ 62) : C 169 [.agg [slx b1 (ns.map aQ),slx b2 (ls.map aD)],.str nm] (.int .i64 (bv (dB nm) ns)) []:=by
 have h1 : ∀ x ∈ ns,C 176 (.agg (aQ x)::[.ptr [.str nm]]) (.bool (dB nm x)) []:=fun x _=>by
  refine start hC (nf:=N176) rfl rfl ?_
  simp [N176,aQ,dB]
  rw [Bool.eq_iff_iff];simp
 refine start hC (nf:=N169) rfl rfl ?_
 simp [N169]
 refine aa (pZ hC (b:=b1) _ hn h1) (.inl rfl) ?_
 simp
theorem DJ (b1 b2 : Bool) (ns : List Nod) (ls : List Lnk) (nm : List UInt8) (hn : ls.length < 2 ^ 62) : C 171 [.agg [slx b1 (ns.map aQ),slx b2 (ls.map aD)],.str nm] (.int .i64 (bv (mS nm) ls)) []:=by
 have h1 : ∀ x ∈ ls,C 182 (.agg (aD x)::[.ptr [.str nm]]) (.bool (mS nm x)) []:=fun x _=>by
  refine start hC (nf:=N182) rfl rfl ?_
  simp [N182,aD,mS]
  rw [Bool.eq_iff_iff];simp
 refine start hC (nf:=N171) rfl rfl ?_
 simp [N171]
 refine aa (pY hC (b:=b2) _ hn h1) (.inl rfl) ?_
 simp
theorem Di (b b' : Bool) (xs ys : List (Int × Int)) (hx : xs.length < 2 ^ 62) (hy : ys.length < 2 ^ 62) : C 184 [slx b (xs.map knD),slx b' (ys.map knD)] (.bool (decide (xs=ys))) []:=by
 obtain ⟨r,hr⟩ : ∃ r,r=decide (xs=ys):=⟨_,rfl⟩
 rw [<- hr]
 refine start hC (nf:=N184) rfl rfl ?_
 simp [N184]
 refine ac (fun h=>?_) (fun h=>?_) <;> simp at h <;> simp [h]
 ·rw [hr,decide_eq_false]
  intro e
  exact h (by rw [e])
 have h' : xs.length=ys.length:=by omega
 refine ar Nat (fun i=>[(0,slx b (xs.map knD)),(1,slx b' (ys.map knD)),(12,.int .i64 xs.length),(13,.int .i64 i)])
  (fun i=>i <= xs.length /\ ∀ (k : Nat) (h1 : k < xs.length) (h2 : k < ys.length),k < i -> xs[k]=ys[k]) (fun i=>xs.length - i) 0 (by simp) (by simp [h']) ?_
 rintro i ⟨hi,hok⟩
 simp
 refine ac (fun h1=>?_) (fun h1=>?_) <;> simp at h1 <;> simp [h1]
 ·have hw : IntKind.wrap .i64 ((i : Int) + 1)=((i + 1 : Nat) : Int):=ah (by omega) (by omega)
  have hy1 : i < ys.length:=by omega
  simp [h1,hy1,knD]
  refine ⟨am (by decide +kernel),?_⟩
  by_cases h2 : xs[i]=ys[i]
  ·simp [h2,hw]
   refine ⟨i + 1,⟨by omega,fun k k1 k2 hk=>?_⟩,by omega,rfl⟩
   rcases Nat.lt_succ_iff_lt_or_eq.1 hk with h5 | rfl
   ·exact hok k k1 k2 h5
   ·exact h2
  ·have h3 : ¬ (xs[i].1=ys[i].1 /\ xs[i].2=ys[i].2):=fun e=>h2 (Prod.ext e.1 e.2)
   refine ac (fun h4=>?_) (fun h4=>?_) <;> simp at h4 <;> simp [h4]
   ·rw [hr,decide_eq_false]
    intro e
    exact h2 (by simp [e])
   ·exact absurd h4 h3
 ·rw [hr,decide_eq_true]
  exact List.ext_getElem h' fun k k1 k2=>hok k k1 k2 (by omega)
end Go.Gv

namespace Go.Gv
def iO (t : List (Int × Int)) : Int × Int:=t[t.length - 1]!
def fG (t : List (Int × Int)) (hgt most : Int) : Bool:=bQ t && (t[0]!.1 == 0 && t[0]!.2 == 0) && (iO t).1 == hgt && (iO t).2 <= most
def dt (s : Sec) : Bool:=ci s.name && 1 <= s.height && s.height <= 32768 && 0 <= s.price && s.price <= 1073741824 && fG s.area s.height 1073741824 && fG s.conv s.height 1099511627776
def ij (n l : Int) : Bool:=0 <= n && n <= 4194304 && 1 <= l && l <= 16777216
def Im (s : Sec) (fall len : Int) : Nat:=Cr ((iO s.conv).2.toNat * (iO s.conv).2.toNat * fall.toNat / len.toNat)
def wH (s : Sec) (fall len : Int) : Int × Int:=if dt s then (if ij fall len then (if 1099511627776 < Im s fall len then (0,5) else (Im s fall len,0)) else (0,2)) else (0,1)
theorem ol {t : List (Int × Int)} {n : Nat} (hn : n + 1=t.length) : iO t=t[n]:=by
 unfold iO
 rw [show t.length - 1=n by omega,getElem!_pos t n (by omega)]
variable {C : CC} (hC : aj prog C)
include hC
end Go.Gv

namespace Go.Gv
def bg (n a b : Int) : Bool:=decide (a <= n) && decide (n <= b)
def iV (l : Lnk) : Lnk where
 name:=l.name
 src:=l.src
 dst:=l.dst
 kind:=l.kind
 len:=if l.kind=1 then l.len else 0
 up:=l.up
 down:=if l.kind=1 \/ l.kind=4 then l.down else 0
 sect:=if l.kind=1 then l.sect else []
 width:=if l.kind=2 \/ l.kind=3 then l.width else 0
 height:=if l.kind=3 then l.height else 0
 curveN:=if l.kind=4 then l.curveN else true
 curve:=if l.kind=4 then l.curve else []
def fW (a b : Lnk) : Bool:=decide (a.name=b.name) && decide (a.src=b.src) && decide (a.dst=b.dst) && decide (a.kind=b.kind) && decide (a.len=b.len) && decide (a.up=b.up) && decide (a.down=b.down) && decide (a.sect=b.sect) && decide (a.width=b.width) && decide (a.height=b.height) && decide (a.curve=b.curve)
def m9 (k : Int × Int) : Bool:=bg k.1 0 4194304 && bg k.2 0 1099511627776
def jR (l : Lnk) : Bool :=
 if l.kind=1 then bg l.len 1 16777216 && dA l.down && ci l.sect
 else if l.kind=2 then bg l.width 1 1048576
 else if l.kind=3 then bg l.width 1 32768 && bg l.height 1 32768
 else if l.kind=4 then dA l.down && decide (l.down < l.up) && bQ l.curve && !(l.curve.any fun k=>!m9 k)
 else false
def di (l : Lnk) : Bool:=ci l.name && ci l.src && ci l.dst && !decide (l.src=l.dst) && dA l.up && fW l (iV l) && jR l
variable {C : CC} (hC : aj prog C)
include hC
theorem Au (l : Lnk) : C 178 [.agg (aD l)] (.agg (aD (iV l))) []:=by
 have hs : slx l.curveN (l.curve.map knD)=.nils \/ slx l.curveN (l.curve.map knD)=.sl (l.curve.map knD):=by
  unfold slx;split
  ·exact .inl rfl
  ·exact .inr rfl
 have e0 : D.nils=slx true []:=rfl
 refine start hC (nf:=N178) rfl rfl ?_
 simp [N178,aD,iV]
 refine ac (fun h=>?_) (fun h=>?_) <;> simp at h <;> simp [h]
 ·exact ⟨am (by decide +kernel),e0⟩
 refine ac (fun h2=>?_) (fun h2=>?_) <;> simp at h2 <;> simp [h,h2]
 ·exact e0
 refine ac (fun h3=>?_) (fun h3=>?_) <;> simp at h3 <;> simp [h,h2,h3]
 ·exact ⟨am (by decide +kernel),e0⟩
 refine ac (fun h4=>?_) (fun h4=>?_) <;> simp at h4 <;> simp [h,h2,h3,h4]
 ·rcases hs with hs | hs <;> rw [hs] <;> simp
  ·refine ⟨am (by decide +kernel),?_⟩
   simp [h4,hs]
  ·refine ⟨am (by decide +kernel),?_⟩
   simp [h4,hs]
 ·exact e0
set_option maxRecDepth 8000 in
set_option maxHeartbeats 2000000 in
theorem AE (a b : Lnk) (ha : a.curve.length < 2 ^ 62) (hb : b.curve.length < 2 ^ 62) : C 177 [.agg (aD a),.agg (aD b)] (.bool (fW a b)) []:=by
 have he:=Di hC a.curveN b.curveN a.curve b.curve ha hb
 refine start hC (nf:=N177) rfl rfl ?_
 simp [N177,aD]
 refine ac (fun h0=>?_) (fun h0=>?_) <;> simp at h0 <;> simp [h0]
 rotate_left
 ·simp [fW,h0]
 refine ac (fun h1=>?_) (fun h1=>?_) <;> simp at h1 <;> simp [h1]
 rotate_left
 ·simp [fW,h1]
 refine ac (fun h2=>?_) (fun h2=>?_) <;> simp at h2 <;> simp [h2]
 rotate_left
 ·simp [fW,h2]
 refine ac (fun h3=>?_) (fun h3=>?_) <;> simp at h3 <;> simp [h3]
 rotate_left
 ·simp [fW,h3]
 refine ac (fun h4=>?_) (fun h4=>?_) <;> simp at h4 <;> simp [h4]
 rotate_left
 ·simp [fW,h4]
 refine ac (fun h5=>?_) (fun h5=>?_) <;> simp at h5 <;> simp [h5]
 rotate_left
 ·simp [fW,h5]
 refine ac (fun h6=>?_) (fun h6=>?_) <;> simp at h6 <;> simp [h6]
 rotate_left
 ·simp [fW,h6]
 refine ac (fun h7=>?_) (fun h7=>?_) <;> simp at h7 <;> simp [h7]
 rotate_left
 ·simp [fW,h7]
 refine ac (fun h8=>?_) (fun h8=>?_) <;> simp at h8 <;> simp [h8]
 rotate_left
 ·simp [fW,h8]
 refine ac (fun h9=>?_) (fun h9=>?_) <;> simp at h9 <;> simp [h9]
 rotate_left
 ·simp [fW,h9]
 refine aa he (.inl rfl) ?_
 simp [fW,h0,h1,h2,h3,h4,h5,h6,h7,h8,h9]
theorem uL (k : Int × Int) : C 180 [.agg (knD k)] (.bool (!m9 k)) []:=by
 refine start hC (nf:=N180) rfl rfl ?_
 simp [N180,knD]
 refine aa (dw hC k.1 0 4194304) (.inl rfl) ?_
 have e1 : (decide (0 <= k.1) && decide (k.1 <= 4194304))=bg k.1 0 4194304:=rfl
 rw [e1]
 cases h : bg k.1 0 4194304
 ·simp [m9,h]
 simp
 refine aa (dw hC k.2 0 1099511627776) (.inl rfl) ?_
 have e2 : (decide (0 <= k.2) && decide (k.2 <= 1099511627776))=bg k.2 0 1099511627776:=rfl
 rw [e2]
 simp [m9,h]
theorem xj (l : Lnk) (hc : l.curve.length < 2 ^ 62) : C 170 [.agg (aD l)] (.bool (di l)) []:=by
 have hp : (iV l).curve.length < 2 ^ 62:=by
  simp only [iV];split
  ·exact hc
  ·simp
 have k1:=gw hC l.name
 have k2:=gw hC l.src
 have k3:=gw hC l.dst
 have k4:=pd hC [l.up] (by simp)
 have k5:=Au hC l
 have k6:=AE hC l (iV l) hc hp
 obtain ⟨q,hq⟩ : ∃ q,q=fW l (iV l):=⟨_,rfl⟩
 rw [<- hq] at k6
 simp only [aD] at k5 k6
 have kf : ∀ b,jR l=b -> (b=false \/ (ci l.name=true /\ ci l.src=true /\ ci l.dst=true /\ ¬ l.src=l.dst /\ dA l.up=true /\ q=true)) -> di l=b:=fun b h1 h2=>by
  rcases h2 with rfl | ⟨a1,a2,a3,a4,a5,a6⟩
  ·simp [di,h1]
  ·simp [di,h1,a1,a2,a3,a4,a5,<- hq,a6]
 refine start hC (nf:=N170) rfl rfl ?_
 simp [N170,aD]
 refine aa k1 (.inl rfl) ?_
 cases h1 : ci l.name
 ·simp
  refine ⟨am (by decide +kernel),?_⟩
  simp [di,h1]
 simp
 refine aa k2 (.inl rfl) ?_
 cases h2 : ci l.src
 ·simp
  refine ⟨am (by decide +kernel),?_⟩
  simp [di,h2]
 simp
 refine aa k3 (.inl rfl) ?_
 cases h3 : ci l.dst
 ·simp
  refine ⟨am (by decide +kernel),?_⟩
  simp [di,h3]
 simp
 refine ac (fun h4=>?_) (fun h4=>?_) <;> simp at h4 <;> simp [h4]
 ·refine ⟨am (by decide +kernel),?_⟩
  simp [di,h4]
 refine aa k4 (.inl rfl) ?_
 cases h5 : dA l.up
 ·simp [h5]
  refine ⟨am (by decide +kernel),?_⟩
  simp [di,h5]
 simp [h5]
 refine aa k5 (.inr rfl) ?_
 simp
 refine aa k6 (.inl rfl) ?_
 cases h6 : q
 ·simp
  refine ⟨am (by decide +kernel),?_⟩
  simp [di,<- hq,h6]
 simp
 refine ⟨am (by decide +kernel),?_⟩
 have hk : di l=jR l:=kf _ rfl (.inr ⟨h1,h2,h3,h4,h5,h6⟩)
 rw [hk]
 obtain ⟨r,hr⟩ : ∃ r,r=jR l:=⟨_,rfl⟩
 rw [<- hr]
 unfold jR at hr
 clear k1 k2 k3 k4 k5 k6 hk kf
 have lh : ∀ n a b : Int,(decide (a <= n) && decide (n <= b))=bg n a b:=fun _ _ _=>rfl
 have kd:=pd hC [l.down] (by simp)
 refine ac (fun h7=>?_) (fun h7=>?_) <;> simp at h7 <;> simp [h7]
 ·rw [if_pos h7] at hr
  refine aa (dw hC l.len 1 16777216) (.inl rfl) ?_
  rw [lh]
  cases a1 : bg l.len 1 16777216
  ·simp [hr,a1]
  simp
  refine aa kd (.inl rfl) ?_
  cases a2 : dA l.down
  ·simp [a2,hr]
  simp [a2]
  refine aa (gw hC l.sect) (.inl rfl) ?_
  simp [hr,a1,a2]
 rw [if_neg h7] at hr
 refine ac (fun h8=>?_) (fun h8=>?_) <;> simp at h8 <;> simp [h8]
 ·rw [if_pos h8] at hr
  refine aa (dw hC l.width 1 1048576) (.inl rfl) ?_
  rw [lh]
  simp [hr]
 rw [if_neg h8] at hr
 refine ac (fun h9=>?_) (fun h9=>?_) <;> simp at h9 <;> simp [h9]
 ·rw [if_pos h9] at hr
  refine aa (dw hC l.width 1 32768) (.inl rfl) ?_
  rw [lh]
  cases a1 : bg l.width 1 32768
  ·simp [hr,a1]
  simp
  refine aa (dw hC l.height 1 32768) (.inl rfl) ?_
  rw [lh]
  simp [hr,a1]
 rw [if_neg h9] at hr
 refine ac (fun h10=>?_) (fun h10=>?_) <;> simp at h10 <;> simp [h10]
 ·rw [if_pos h10] at hr
  refine aa kd (.inl rfl) ?_
  cases a2 : dA l.down
  ·simp [a2,hr]
  simp [a2]
  refine ac (fun h11=>?_) (fun h11=>?_) <;> simp at h11 <;> simp [h11]
  ·refine aa (kS hC l.curveN l.curve) (.inl rfl) ?_
   cases a3 : bQ l.curve
   ·simp [hr,a3]
   simp
   refine aa (zS hC (b:=l.curveN) (xs:=l.curve) (g:=180) (cs:=[]) (fun k=>!m9 k) hc (fun k _=>uL hC k)) (.inl rfl) ?_
   simp [hr,a2,h11,a3]
  ·have : ¬ l.down < l.up:=by omega
   simp [hr,this]
 ·rw [if_neg h10] at hr
  simp [hr]
end Go.Gv

namespace Go.Gv
def pr (n : Nod) : Bool:=!(decide (n.ground <= n.invert)) && fG n.shape (n.ground - n.invert) 1125899906842624 && !(decide (n.kind=1) && n.prot) && (if n.prot then bg n.reserve 0 (iO n.shape).2 else decide (n.reserve=0))
def Cn (n : Nod) : Bool:=decide (n.invert <= n.ground) && decide (n.shape.length=0) && !n.prot && decide (n.reserve=0)
def lQ (n : Nod) : Bool:=ci n.name && bg n.x (-16777216) 16777216 && bg n.y (-16777216) 16777216 && dA n.invert && dA n.ground && (if n.kind=1 \/ n.kind=2 then pr n else if n.kind=3 then Cn n else false)
variable {C : CC} (hC : aj prog C)
include hC
theorem qJ (b : Bool) (t : List (Int × Int)) (hgt : Int) : C 174 [slx b (t.map knD),.int .i64 hgt] (.bool (fG t hgt 1125899906842624)) []:=by
 refine start hC (nf:=N174) rfl rfl ?_
 simp [N174]
 refine aa (kS hC b t) (.inl rfl) ?_
 cases hv : bQ t
 ·simp [fG,hv]
 obtain ⟨l1,l2⟩:=oF hv
 obtain ⟨n,hn⟩ : ∃ n,n + 1=t.length:=⟨t.length - 1,by omega⟩
 have e1 : IntKind.wrap .i64 ((t.length : Int) - 1)=(n : Int):=ah (by omega) (by omega)
 have hnl : n < t.length:=by omega
 have h0 : 0 < t.length:=by omega
 have e0 : t[0]! = t[0]:=getElem!_pos t 0 h0
 simp [e1,hnl,h0,knD]
 rw [fG,ol hn,e0,hv]
 have ez : (decide (t[0].fst=0) && decide (t[0].snd=0))=(t[0].1 == 0 && t[0].2 == 0):=by rw [Bool.eq_iff_iff];simp
 rw [<- ez]
 cases hz : (decide (t[0].fst=0) && decide (t[0].snd=0))
 ·simp
 simp
 refine ac (fun c=>?_) (fun c=>?_)
 ·simp at c
  simp [c]
 ·simp at c
  simp [c]
theorem Aq (n : Nod) : C 168 [.agg (aQ n)] (.bool (lQ n)) []:=by
 have lh : ∀ n a b : Int,(decide (a <= n) && decide (n <= b))=bg n a b:=fun _ _ _=>rfl
 have k1:=gw hC n.name
 have k2:=dw hC n.x (-16777216) 16777216
 have k3:=dw hC n.y (-16777216) 16777216
 have k4:=pd hC [n.invert,n.ground] (by simp)
 rw [lh] at k2 k3
 obtain ⟨q,hq⟩ : ∃ q,q=lQ n:=⟨_,rfl⟩
 rw [<- hq]
 unfold lQ at hq
 refine start hC (nf:=N168) rfl rfl ?_
 simp [N168,aQ]
 refine aa k1 (.inl rfl) ?_
 cases h1 : ci n.name
 ·simp [hq,h1]
 simp
 refine aa k2 (.inl rfl) ?_
 cases h2 : bg n.x (-16777216) 16777216
 ·simp [hq,h2]
 simp
 refine aa k3 (.inl rfl) ?_
 cases h3 : bg n.y (-16777216) 16777216
 ·simp [hq,h3]
 simp
 refine aa k4 (.inl rfl) ?_
 cases h4 : dA n.invert
 ·simp [hq,h4]
 cases h5 : dA n.ground
 ·simp [hq,h4,h5]
 simp [h4,h5]
 rw [h1,h2,h3,h4,h5] at hq
 simp only [Bool.true_and] at hq
 have b1 : -4194304 <= n.invert /\ n.invert <= 4194304:=by simpa [dA] using h4
 have b2 : -4194304 <= n.ground /\ n.ground <= 4194304:=by simpa [dA] using h5
 have e1 : IntKind.wrap .i64 (n.ground - n.invert)=n.ground - n.invert:=ah rfl (by omega)
 refine ac (fun hk1=>?_) (fun hk1=>?_) <;> simp at hk1 <;> simp [hk1]
 ·rw [if_pos (by omega),pr] at hq
  refine ac (fun c1=>?_) (fun c1=>?_) <;> simp at c1 <;> simp [c1]
  ·simp [hq,c1]
  have c1' : ¬ n.ground <= n.invert:=by omega
  simp [e1]
  refine aa (qJ hC n.shapeN n.shape (n.ground - n.invert)) (.inl rfl) ?_
  cases c2 : fG n.shape (n.ground - n.invert) 1125899906842624
  ·simp [hq,c2]
  simp [hk1]
  cases c3 : n.prot
  ·simp [hq,c1',c2,c3]
  ·simp [hq,c3,hk1]
 refine ac (fun hk2=>?_) (fun hk2=>?_) <;> simp at hk2 <;> simp [hk2,hk1]
 ·rw [if_pos (by omega),pr] at hq
  refine ac (fun c1=>?_) (fun c1=>?_) <;> simp at c1 <;> simp [c1]
  ·simp [hq,c1]
  have c1' : ¬ n.ground <= n.invert:=by omega
  simp [e1]
  refine aa (qJ hC n.shapeN n.shape (n.ground - n.invert)) (.inl rfl) ?_
  cases c2 : fG n.shape (n.ground - n.invert) 1125899906842624
  ·simp [hq,c2]
  simp [hk2]
  cases c3 : n.prot
  ·simp [hq,c1',c2,c3]
  have hv : bQ n.shape=true:=by
   simp only [fG,Bool.and_eq_true] at c2
   exact c2.1.1.1
  obtain ⟨l1,l2⟩:=oF hv
  obtain ⟨m,hm⟩ : ∃ m,m + 1=n.shape.length:=⟨n.shape.length - 1,by omega⟩
  have e2 : IntKind.wrap .i64 ((n.shape.length : Int) - 1)=(m : Int):=ah (by omega) (by omega)
  have hml : m < n.shape.length:=by omega
  simp [e2,hml,knD]
  have kb:=dw hC n.reserve 0 n.shape[m].2
  rw [lh] at kb
  refine aa kb (.inl rfl) ?_
  simp
  refine ⟨am (by decide +kernel),?_⟩
  simp [hq,c1',c2,c3,hk2,ol hm]
 rw [if_neg (by omega)] at hq
 refine ac (fun hk3=>?_) (fun hk3=>?_) <;> simp at hk3 <;> simp [hk3]
 ·rw [if_pos hk3,Cn] at hq
  refine ac (fun c1=>?_) (fun c1=>?_) <;> simp at c1 <;> simp [c1]
  ·refine ac (fun c2=>?_) (fun c2=>?_) <;> simp at c2 <;> simp [c2]
   ·cases c3 : n.prot
    ·simp [hq,c1,c2,c3]
    ·simp [hq,c3]
   ·simp [hq,c2]
  ·have : ¬ n.invert <= n.ground:=by omega
   simp [hq,this]
 ·rw [if_neg hk3] at hq
  simp [hq]
end Go.Gv

namespace Go.Gv
def mZ (ns : List Nod) (i : Nat) : Bool:=lQ ns[i]! && decide (bv (dB ns[i]!.name) ns=(i : Int))
def mL (ns : List Nod) (nm : List UInt8) : Bool:=decide (0 <= bv (dB nm) ns) && !decide (ns[(bv (dB nm) ns).toNat]!.kind=3)
def kC (ns : List Nod) (ls : List Lnk) (i : Nat) : Bool:=di ls[i]! && decide (bv (mS ls[i]!.name) ls=(i : Int)) && mL ns ls[i]!.src && decide (0 <= bv (dB ls[i]!.dst) ns)
def bq (ns : List Nod) (ls : List Lnk) : Bool:=decide (ns.length <= 300) && decide (ls.length <= 400) && (List.range ns.length).all (mZ ns) && (List.range ls.length).all (kC ns ls)
theorem pa {α : Type} {p : α -> Bool} {xs : List α} (h : 0 <= bv p xs) : (bv p xs).toNat < xs.length:=by
 unfold bv at h ⊢
 cases e : xs.findIdx? p with
 | none=>rw [e] at h;simp at h
 | some i =>
  simp
  obtain ⟨h1,_⟩:=List.findIdx?_eq_some_iff_getElem.1 e
  exact h1
variable {C : CC} (hC : aj prog C)
include hC
theorem jo (b1 b2 : Bool) (ns : List Nod) (ls : List Lnk) (hcv : ∀ l ∈ ls,l.curve.length < 2 ^ 62) : C 164 [.agg [slx b1 (ns.map aQ),slx b2 (ls.map aD)]] (.bool (bq ns ls)) []:=by
 obtain ⟨r,hr⟩ : ∃ r,r=bq ns ls:=⟨_,rfl⟩
 rw [<- hr]
 unfold bq at hr
 refine start hC (nf:=N164) rfl rfl ?_
 simp [N164]
 refine ac (fun c=>?_) (fun c=>?_) <;> simp at c <;> simp [c]
 ·simp [hr,show ¬ ns.length <= 300 by omega]
 refine ac (fun c2=>?_) (fun c2=>?_) <;> simp at c2 <;> simp [c2]
 ·simp [hr,show ¬ ls.length <= 400 by omega]
 rw [decide_eq_true (show ns.length <= 300 by omega),decide_eq_true (show ls.length <= 400 by omega)] at hr
 simp only [Bool.true_and] at hr
 have badN : ∀ i,i < ns.length -> mZ ns i=false -> r=false:=fun i hi h=>by
  rw [hr,Bool.and_eq_false_iff]
  exact .inl (List.all_eq_false.2 ⟨i,by simpa using hi,by simp [h]⟩)
 have badL : ∀ i,i < ls.length -> kC ns ls i=false -> r=false:=fun i hi h=>by
  rw [hr,Bool.and_eq_false_iff]
  exact .inr (List.all_eq_false.2 ⟨i,by simpa using hi,by simp [h]⟩)
 refine ar Nat (fun i=>[(1,.ptr [slx b1 (ns.map aQ),slx b2 (ls.map aD)]),(19,slx b1 (ns.map aQ)),(20,.int .i64 ns.length),(21,.int .i64 i)]) (fun i=>i <= ns.length /\ ∀ j < i,mZ ns j=true) (fun i=>ns.length - i) 0 (by simp) (by simp) ?_
 rintro i ⟨hi,hj⟩
 simp
 refine ac (fun h=>?_) (fun h=>?_) <;> simp at h <;> simp [h]
 ·have hw : IntKind.wrap .i64 ((i : Int) + 1)=((i + 1 : Nat) : Int):=ah (by omega) (by omega)
  have bad:=badN i h
  have e1 : ns[i]! = ns[i]:=getElem!_pos ns i h
  simp only [mZ,e1] at bad
  have k1:=Aq hC ns[i]
  have k2:=m5 hC b1 b2 ns ls ns[i].name (by omega)
  simp only [aQ] at k1
  simp [aQ,h]
  refine aa k1 (.inl rfl) ?_
  cases g1 : lQ ns[i]
  ·simp
   exact bad (by simp [g1])
  simp
  refine aa k2 (.inl rfl) ?_
  simp
  refine ac (fun g2=>?_) (fun g2=>?_) <;> simp at g2 <;> simp [g2]
  ·exact bad (by simp [g2])
  ·simp [hw]
   refine ⟨i + 1,⟨by omega,fun k hk=>?_⟩,by omega,by simp⟩
   rcases Nat.lt_succ_iff_lt_or_eq.1 hk with h5 | rfl
   ·exact hj k h5
   ·simp [mZ,e1,g1,g2]
 have hall : (List.range ns.length).all (mZ ns)=true:=by
  rw [List.all_eq_true]
  intro k hk
  exact hj k (by simp at hk;omega)
 rw [hall,Bool.true_and] at hr
 clear badN hall hj
 refine ar Nat (fun i=>[(1,.ptr [slx b1 (ns.map aQ),slx b2 (ls.map aD)]),(39,slx b2 (ls.map aD)),(40,.int .i64 ls.length),(41,.int .i64 i)]) (fun i=>i <= ls.length /\ ∀ j < i,kC ns ls j=true) (fun i=>ls.length - i) 0 (by simp) (by simp) ?_
 clear h hi i
 rintro i ⟨hi,hj⟩
 simp
 refine ac (fun h=>?_) (fun h=>?_) <;> simp at h <;> simp [h]
 ·have hw : IntKind.wrap .i64 ((i : Int) + 1)=((i + 1 : Nat) : Int):=ah (by omega) (by omega)
  have bad:=badL i h
  have e1 : ls[i]! = ls[i]:=getElem!_pos ls i h
  simp only [kC,e1] at bad
  have k1:=xj hC ls[i] (hcv _ (List.getElem_mem h))
  have k2:=DJ hC b1 b2 ns ls ls[i].name (by omega)
  have k3:=m5 hC b1 b2 ns ls ls[i].src (by omega)
  have k4:=m5 hC b1 b2 ns ls ls[i].dst (by omega)
  have next : kC ns ls i=true -> ∃ s' : Nat,(s' <= ls.length /\ ∀ j < s',kC ns ls j=true) /\ ls.length - s' < ls.length - i /\ (i : Int) + 1=s':=fun hl=>by
   refine ⟨i + 1,⟨by omega,fun k hk=>?_⟩,by omega,by simp⟩
   rcases Nat.lt_succ_iff_lt_or_eq.1 hk with h5 | rfl
   ·exact hj k h5
   ·exact hl
  simp only [kC,e1] at next
  simp only [aD] at k1
  simp [aD,h]
  refine aa k1 (.inl rfl) ?_
  cases g1 : di ls[i]
  ·simp
   exact bad (by simp [g1])
  simp
  refine aa k2 (.inl rfl) ?_
  simp
  refine ac (fun g2=>?_) (fun g2=>?_) <;> simp at g2 <;> simp [g2]
  ·exact bad (by simp [g2])
  refine aa k3 (.inl rfl) ?_
  simp
  refine ac (fun g3=>?_) (fun g3=>?_) <;> simp at g3 <;> simp [g3]
  ·exact bad (by simp [mL,show ¬ 0 <= bv (dB ls[i].src) ns by omega])
  have g3' : ¬ bv (dB ls[i].src) ns < 0:=by omega
  refine aa k4 (.inl rfl) ?_
  simp
  refine ac (fun g4=>?_) (fun g4=>?_) <;> simp at g4 <;> simp [g4]
  ·exact bad (by simp [show ¬ 0 <= bv (dB ls[i].dst) ns by omega])
  have g4' : ¬ bv (dB ls[i].dst) ns < 0:=by omega
  have hf:=pa g3
  obtain ⟨f,hfe⟩:=Int.eq_ofNat_of_zero_le g3
  rw [hfe] at hf ⊢
  simp at hf
  have e2 : ns[f]! = ns[f]:=getElem!_pos ns f hf
  have hfo : mL ns ls[i].src=!decide (ns[f].kind=3):=by
   simp [mL,hfe,e2]
  simp [hf,aQ]
  refine ac (fun g5=>?_) (fun g5=>?_) <;> simp at g5 <;> simp [g5]
  ·exact bad (by simp [hfo,g5])
  ·simp [hw]
   exact next (by simp [hfo,g5,g1,g2,g4])
 ·have hall : (List.range ls.length).all (kC ns ls)=true:=by
   rw [List.all_eq_true]
   intro k hk
   exact hj k (by simp at hk;omega)
  rw [hr,hall]
end Go.Gv

namespace Go.Gv
def TP (n : Nat) (es : List Edg) : Int:=if (qw n es).length < n then 22 else 0
def TQ (n : Nat) (es : List Edg) : D:=if (qw n es).length < n then .nils else ndD (qw n es)
def MH (n : Nat) (es : List Edg) : Bool:=decide ((es.map (·.1)).Nodup) && decide ((qw n es).length=n)
def Mx (es : List Edg) (j : Nat) : List Nat:=(es.take j).map (·.1)
@[simp] theorem SX (es : List Edg) : Mx es 0=[]:=rfl
def edT (es : List Edg) (j : Nat) : List (List D):=(es.take j).map edK
theorem wg {es : List Edg} {j : Nat} (h : j < es.length) : edT es (j + 1)=edT es j++[edK es[j]]:=by
 unfold edT
 rw [List.take_succ_eq_append_getElem h,List.map_append]
 rfl
@[simp] theorem Tb (es : List Edg) : edT es 0=[]:=rfl
theorem sL {es : List Edg} {j : Nat} (h : j <= es.length) : (edT es j).length=j:=by simp [edT];omega
theorem ze (es : List Edg) : edT es es.length=es.map edK:=by simp [edT]
theorem I2 (es : List Edg) (j : Nat) : (edT es j).map (fun e=>e.map aH)=edT es j:=by
 unfold edT
 rw [List.map_map]
 apply List.map_congr_left
 intro e _
 simp [edK,knD,aH]
def Tm (n : Nat) (es : List Edg) (j : Nat) : List (List D):=(List.range n).map fun v=>[.bool (decide (v ∈ Mx es j))]
def cB (ns : List Nod) (ls : List Lnk) : List Edg:=ls.map fun l=>((bv (dB l.src) ns).toNat,(bv (dB l.dst) ns).toNat)
theorem fR (ns : List Nod) (ls : List Lnk) : (cB ns ls).length=ls.length:=by simp [cB]
theorem cF {ns : List Nod} {ls : List Lnk} (h : bq ns ls=true) : ns.length <= 300 /\ ls.length <= 400:=by
 simp only [bq,Bool.and_eq_true,decide_eq_true_eq] at h
 exact ⟨h.1.1.1,h.1.1.2⟩
theorem jp {ns : List Nod} {ls : List Lnk} (h : bq ns ls=true) {i : Nat} (hi : i < ls.length) : di ls[i]=true /\ bv (mS ls[i].name) ls=(i : Int) /\ 0 <= bv (dB ls[i].src) ns /\ 0 <= bv (dB ls[i].dst) ns:=by
 simp only [bq,Bool.and_eq_true,List.all_eq_true,List.mem_range] at h
 have:=h.2 i hi
 simp only [kC,getElem!_pos ls i hi,mL,Bool.and_eq_true,decide_eq_true_eq] at this
 exact ⟨this.1.1.1,this.1.1.2,this.1.2.1,this.2⟩
theorem ov {ns : List Nod} {ls : List Lnk} (h : bq ns ls=true) {i : Nat} (hi : i < ns.length) : lQ ns[i]=true /\ bv (dB ns[i].name) ns=(i : Int):=by
 simp only [bq,Bool.and_eq_true,List.all_eq_true,List.mem_range] at h
 have:=h.1.2 i hi
 simpa only [mZ,getElem!_pos ns i hi,Bool.and_eq_true,decide_eq_true_eq] using this
theorem mf {ns : List Nod} {ls : List Lnk} (h : bq ns ls=true) : inG ns.length (cB ns ls):=by
 intro e he
 simp only [cB,List.mem_map] at he
 obtain ⟨l,hl,rfl⟩:=he
 obtain ⟨i,hi,rfl⟩:=List.mem_iff_getElem.1 hl
 obtain ⟨_,_,h1,h2⟩:=jp h hi
 exact ⟨pa h1,pa h2⟩
variable {C : CC} (hC : aj prog C)
include hC
theorem xB (b1 b2 : Bool) (ns : List Nod) (ls : List Lnk) (hv : bq ns ls=true) : C 499 [.agg [slx b1 (ns.map aQ),slx b2 (ls.map aD)]] (.sl ((cB ns ls).map edK)) []:=by
 obtain ⟨hl1,hl2⟩:=cF hv
 refine start hC (nf:=N499) rfl rfl ?_
 simp [N499]
 refine ar Nat (fun j=>[(1,.ptr [slx b1 (ns.map aQ),slx b2 (ls.map aD)]),(3,.ref (.r 10048) 0 j),(10048,.blk 2 (edT (cB ns ls) j)),(7,slx b2 (ls.map aD)),(8,.int .i64 ls.length),(9,.int .i64 j)]) (fun j=>j <= ls.length) (fun j=>ls.length - j) 0 (by simp) (by simp) ?_
 rintro j hj
 simp
 refine ac (fun h=>?_) (fun h=>?_) <;> simp [h] <;> simp at h
 ·have hw : IntKind.wrap .i64 ((j : Int) + 1)=((j + 1 : Nat) : Int):=ah (by omega) (by omega)
  obtain ⟨_,_,g1,g2⟩:=jp hv h
  have k1:=m5 hC b1 b2 ns ls ls[j].src (by omega)
  have k2:=m5 hC b1 b2 ns ls ls[j].dst (by omega)
  have hjl : j < (cB ns ls).length:=by rw [fR];exact h
  have el:=sL (es:=cB ns ls) (j:=j) (by omega)
  simp [h,aD,el]
  refine aa k1 (.inl rfl) ?_
  simp
  refine aa k2 (.inl rfl) ?_
  simp [el]
  refine ⟨by omega,am (by decide +kernel),j + 1,by omega,by omega,rfl,?_,hw⟩
  have e2 : (edT (cB ns ls) j).take j=edT (cB ns ls) j:=List.take_of_length_le (by omega)
  rw [e2,wg hjl]
  congr 2
  simp only [cB,List.getElem_map,edK,knD]
  rw [Int.toNat_of_nonneg g1,Int.toNat_of_nonneg g2]
 ·have ej : j=ls.length:=by omega
  subst ej
  have e0:=ze (cB ns ls)
  have el:=sL (es:=cB ns ls) (j:=ls.length) (by rw [fR];exact Nat.le_refl _)
  rw [fR] at e0
  simp [I2,el]
  rw [<- e0,List.take_of_length_le (by omega)]
theorem vt (b1 b2 : Bool) (ns : List Nod) (ls : List Lnk) (hcv : ∀ l ∈ ls,l.curve.length < 2 ^ 62) : C 471 [.agg [slx b1 (ns.map aQ),slx b2 (ls.map aD)]] (.tup (if bq ns ls then [.sl ((cB ns ls).map edK),.int .i64 0] else [.nils,.int .i64 1])) []:=by
 refine start hC (nf:=N471) rfl rfl ?_
 simp [N471]
 refine aa (jo hC b1 b2 ns ls hcv) (.inl rfl) ?_
 cases hv : bq ns ls
 ·simp
 ·simp
  refine aa (xB hC b1 b2 ns ls hv) (.inr rfl) ?_
  simp
theorem wL {b : Bool} {xs : List Lnk} {g : Nat} {cs : List D} (p : Lnk -> Bool) (hs : xs.length < 2 ^ 62) (hp : ∀ x ∈ xs,C g (.agg (aD x)::cs) (.bool (p x)) []) : C 455 [slx b (xs.map fun x=>aD x),.fn g cs] (.bool (xs.any p)) []:=by
 refine start hC (nf:=N455) rfl rfl ?_
 simp [N455]
 refine aa (pY hC p hs hp) (.inl rfl) ?_
 simp [dN]
theorem wM {b : Bool} {xs : List Nod} {g : Nat} {cs : List D} (p : Nod -> Bool) (hs : xs.length < 2 ^ 62) (hp : ∀ x ∈ xs,C g (.agg (aQ x)::cs) (.bool (p x)) []) : C 453 [slx b (xs.map fun x=>aQ x),.fn g cs] (.bool (xs.any p)) []:=by
 refine start hC (nf:=N453) rfl rfl ?_
 simp [N453]
 refine aa (pZ hC p hs hp) (.inl rfl) ?_
 simp [dN]
def ym (ns : List Nod) (ls : List Lnk) : Bool:=bq ns ls && ls.all (fun l=>decide (l.kind=1)) && MH ns.length (cB ns ls)
end Go.Gv

namespace Go.Gv
abbrev Sp:=Int × Int
def I9 (n : Int) : Bool:=decide (-72057594037927936 <= n) && decide (n <= 72057594037927936)
def SS (s : Sp) : Bool:=decide (s.1 <= s.2) && I9 s.1 && I9 s.2
def SU (s : Sp) : Bool:=decide (s.1 < 0) || decide (1099511627776 < s.2)
def vi (l : List Sp) (count : Int) : Int:=if l.any (fun s=>!SS s) then 1 else if (l.length : Int)=count then (if l.any SU then 2 else 0) else 3
def Mw (a b : Sp) : Sp:=(IntKind.wrap .i64 (a.1 + b.1),IntKind.wrap .i64 (a.2 + b.2))
abbrev FSt:=(Nat -> Sp) × (Nat -> Sp)
def I6 (i k : Nat) (e : Edg) (s : FSt) : FSt:=if e.1=i then (fun v=>if v=e.2 then Mw (s.1 e.2) (s.1 i) else s.1 v,fun q=>if q=k then s.1 i else s.2 q) else s
def flI (es : List Edg) (i : Nat) (s : FSt) : Nat -> FSt
 | 0=>s
 | k + 1=>I6 i k es[k]! (flI es i s k)
def flO (es : List Edg) (ord : List Nat) (s : FSt) : Nat -> FSt
 | 0=>s
 | m + 1=>flI es ord[m]! (flO es ord s m) es.length
def flS (l : List Sp) : FSt:=(fun v=>l[v]!,fun _=>(0,0))
def mI (n : Nat) (es : List Edg) (l : List Sp) : List Sp:=(List.range es.length).map (flO es (qw n es) (flS l) (qw n es).length).2
def Ia (l : List Sp) : Bool:=l.any fun s=>decide (1099511627776 < s.2)
def wE (n : Nat) (es : List Edg) (l : List Sp) : Int:=if Ia (mI n es l) then 5 else 0
def RW (n : Nat) (es : List Edg) (l : List Sp) : D:=if Ia (mI n es l) then .nils else .sl ((mI n es l).map knD)
def spR (n : Nat) (f : Nat -> Sp) : List (List D):=(List.range n).map fun v=>knD (f v)
variable {C : CC} (hC : aj prog C)
include hC
def CE (ns : List Nod) (ls : List Lnk) (l : List Sp) : Int:=if ym ns ls then (if vi l ns.length=0 then wE ns.length (cB ns ls) l else vi l ns.length) else 1
def Rg (ns : List Nod) (ls : List Lnk) (l : List Sp) : D:=if CE ns ls l=0 then .sl ((mI ns.length (cB ns ls) l).map knD) else .nils
end Go.Gv

namespace Go.Gv
def wS (s : Sp) : Sp:=(IntKind.wrap .i64 s.1,IntKind.wrap .i64 s.2)
def adS (a b : Sp) : Sp:=(a.1 + b.1,a.2 + b.2)
def MD (P : Nat -> Bool) (o : Nat -> Sp) : Nat -> Sp
 | 0=>(0,0)
 | k + 1=>if P k then adS (MD P o k) (o k) else MD P o k
theorem yf {es : List Edg} (h : (es.map (·.1)).Nodup) {k k' : Nat} (hk : k < es.length) (hk' : k' < es.length) (e : es[k].1=es[k'].1) : k=k':=by
 have h1 : k < (es.map (·.1)).length:=by simpa using hk
 have h2 : k' < (es.map (·.1)).length:=by simpa using hk'
 have:=(List.getElem_inj (xs:=es.map (·.1)) (i:=k) (j:=k') (h₀:=h1) (h₁:=h2) h).1 (by simpa using e)
 exact this
def inT (es : List Edg) (v : Nat) (done : List Nat) (k : Nat) : Bool:=decide (es[k]!.2=v) && done.contains es[k]!.1
def HZ (es : List Edg) (fl : List Sp) (s0 : Sp) (v : Nat) : Nat -> Sp
 | 0=>s0
 | k + 1=>if es[k]!.2=v then Mw (HZ es fl s0 v k) fl[k]! else HZ es fl s0 v k
end Go.Gv

namespace Go.Gv
def qP (f : Nat -> Int) : Nat -> Int
 | 0=>0
 | k + 1=>qP f k + f k
def stp (es : List Edg) (v : Nat) : Option Nat:=(es.find? fun e=>e.1 == v).map (·.2)
def wat (es : List Edg) : Nat -> Nat -> Option Nat
 | 0,v=>some v
 | m + 1,v=>(wat es m v).bind (stp es)
def upB (n : Nat) (es : List Edg) (v x : Nat) : Bool:=(List.range n).any fun m=>wat es m v == some x
theorem EB {es : List Edg} (hnd : (es.map (·.1)).Nodup) {y z : Nat} (h : (y,z) ∈ es) : stp es y=some z:=by
 unfold stp
 cases e : es.find? (fun e=>e.1 == y) with
 | none =>
  have:=List.find?_eq_none.1 e _ h
  simp at this
 | some p =>
  have h1:=List.find?_some e
  have h2:=List.mem_of_find?_eq_some e
  obtain ⟨a,b⟩:=p
  simp at h1
  subst h1
  obtain ⟨k,hk,ek⟩:=List.getElem_of_mem h
  obtain ⟨j,hj,ej⟩:=List.getElem_of_mem h2
  have:=yf hnd hk hj (by rw [ek,ej])
  subst this
  rw [ek] at ej
  cases ej
  rfl
def T6 (n : Nat) (es : List Edg) (g : Nat -> Int) (m x : Nat) : Int:=qP (fun v=>if wat es m v=some x then g v else 0) n
def upS (n : Nat) (es : List Edg) (g : Nat -> Int) (x : Nat) : Int:=qP (fun v=>if upB n es v x=true then g v else 0) n
end Go.Gv

namespace Go.Gv
inductive Pth (es : List Edg) : Nat -> Nat -> Prop
 | refl (v : Nat) : Pth es v v
 | step {u v w : Nat} : (u,v) ∈ es -> Pth es v w -> Pth es u w
theorem Pth.snoc {es : List Edg} {u v w : Nat} (h : Pth es u v) (e : (v,w) ∈ es) : Pth es u w:=by
 induction h with
 | refl v=>exact .step e (.refl _)
 | step e' _ ih=>exact .step e' (ih e)
theorem Pth.trans {es : List Edg} {u v w : Nat} (h : Pth es u v) (h2 : Pth es v w) : Pth es u w:=by
 induction h with
 | refl v=>exact h2
 | step e _ ih=>exact .step e (ih h2)
def RR (es : List Edg) (fr : List Nat) (v : Nat) : Prop:=∃ s ∈ fr,Pth es s v
noncomputable def rB (es : List Edg) (fr : List Nat) (v : Nat) : Bool:=@decide (RR es fr v) (Classical.propDecidable _)
theorem rZ {es : List Edg} {fr : List Nat} {v : Nat} : rB es fr v=true ↔ RR es fr v:=by
 unfold rB
 exact @decide_eq_true_iff _ (Classical.propDecidable _)
theorem uM {es : List Edg} {fr : List Nat} {out : Nat -> Bool} (h1 : ∀ v,out v=true -> RR es fr v) (h2 : ∀ s ∈ fr,out s=true) (h3 : ∀ u w,(u,w) ∈ es -> out u=true -> out w=true) (v : Nat) : out v=rB es fr v:=by
 have key : ∀ {u w : Nat},Pth es u w -> out u=true -> out w=true:=fun {u w} h=>by
  induction h with
  | refl v=>exact _root_.id
  | step e _ ih=>exact fun hu=>ih (h3 _ _ e hu)
 rw [Bool.eq_iff_iff,rZ]
 refine ⟨h1 v,fun ⟨s,hs,hp⟩=>key hp (h2 s hs)⟩
def bi (n : Nat) (f : Nat -> Bool) : List (List D):=(List.range n).map fun v=>[.bool (f v)]
theorem b9 (n : Nat) (f : Nat -> Bool) : (bi n f).length=n:=by simp [bi]
theorem cA {n v : Nat} (f : Nat -> Bool) (h : v < n) : (bi n f)[v]? = some [.bool (f v)]:=by simp [bi,h]
theorem gA {n v : Nat} (f : Nat -> Bool) (x : Bool) : (bi n f).set v [.bool x]=bi n fun u=>if u=v then x else f u:=by
 unfold bi
 rw [lD]
 apply List.map_congr_left
 intro u _
 by_cases h : u=v <;> simp [h]
theorem f7 {n : Nat} {f g : Nat -> Bool} (h : ∀ v,v < n -> f v=g v) : bi n f=bi n g:=by
 unfold bi
 apply List.map_congr_left
 intro v hv
 rw [h v (by simpa using hv)]
theorem yS (n : Nat) (f : Nat -> Bool) : (bi n f).map (fun e=>e.map aH)=bi n f:=by
 unfold bi
 rw [List.map_map]
 apply List.map_congr_left
 intro v _
 simp [aH]
def wtS (f : Nat -> Nat) : Nat -> Nat
 | 0=>0
 | k + 1=>wtS f k + f k
theorem oG {f g : Nat -> Nat} : ∀ {K : Nat},(∀ k,k < K -> f k=g k) -> wtS f K=wtS g K
 | 0,_=>rfl
 | K + 1,h=>by unfold wtS;rw [oG (K:=K) (fun k hk=>h k (by omega)),h K (by omega)]
theorem tz {f g : Nat -> Nat} {i : Nat} : ∀ {K : Nat},i < K -> (∀ k,k ≠ i -> g k=f k) -> g i=0 -> wtS f K=wtS g K + f i
 | 0,h,_,_=>by omega
 | K + 1,h,h1,h2=>by
  unfold wtS
  by_cases e : K=i
  ·subst e
   rw [oG (f:=g) (g:=f) (fun k hk=>h1 k (by omega)),h2]
   omega
  ·rw [tz (f:=f) (g:=g) (K:=K) (by omega) h1 h2,h1 K e]
   omega
theorem yu {f : Nat -> Nat} {B : Nat} : ∀ {K : Nat},(∀ k,k < K -> f k <= B) -> wtS f K <= K * B
 | 0,_=>by simp [wtS]
 | K + 1,h=>by
  have:=yu (K:=K) (fun k hk=>h k (by omega))
  have:=h K (by omega)
  unfold wtS
  rw [Nat.add_mul]
  omega
end Go.Gv

namespace Go.Gv
variable {C : CC} (hC : aj prog C)
include hC
theorem yL (b : Bool) (xs : List Int) (h2 : xs.length < 2 ^ 40) : C 42 [slx b (xs.map fun n=>[.int .i64 n])] .any [.own 1 (xs.map fun n=>[.int .i64 n])]:=by
 cases xs with
 | nil =>
  cases b with
  | true =>
   show C 42 [.nils] .any [.own 1 []]
   refine nw hC (nf:=N42) rfl rfl ?_
   simp [N42]
  | false =>
   show C 42 [.sl []] .any [.own 1 []]
   refine nw hC (nf:=N42) rfl rfl ?_
   simp [N42]
 | cons x xs =>
  have e : slx b ((x::xs).map fun n=>[D.int .i64 n])=.sl ((x::xs).map fun n=>[D.int .i64 n]):=by cases b <;> rfl
  rw [e]
  obtain ⟨l,hl⟩ : ∃ l,l=x::xs:=⟨_,rfl⟩
  rw [<- hl] at h2 ⊢
  have h : 0 < l.length:=by rw [hl];simp
  refine nw hC (nf:=N42) rfl rfl ?_
  simp [N42]
  refine ⟨fun _=>?_,fun h0=>?_⟩
  ·have : l.length < 1099511627776:=h2
   omega
  ·subst h0
   simp at h
end Go.Gv

namespace Go.Gv
def uo (n : Nat) (es : List Edg) (out : Nat -> Bool) : Nat:=wtS (fun v=>if out v=true then 0 else 1 + (nxt n es v).length) n
theorem uq {n : Nat} {es : List Edg} {out : Nat -> Bool} {i : Nat} (hi : i < n) (ho : out i=false) : uo n es out=uo n es (fun u=>if u=i then true else out u) + (1 + (nxt n es i).length):=by
 unfold uo
 rw [tz (f:=fun v=>if out v=true then 0 else 1 + (nxt n es v).length) (g:=fun v=>if (if v=i then true else out v)=true then 0 else 1 + (nxt n es v).length) hi (fun k hk=>by simp only [if_neg hk]) (by simp)]
 simp [ho]
theorem Ah (n : Nat) (es : List Edg) (out : Nat -> Bool) : uo n es out <= n * (1 + n):=by
 refine yu fun k _=>?_
 have:=tb n es k
 split <;> omega
theorem xb (l : List Nat) : dy l=(l.map fun k : Nat=>(k : Int)).map fun n=>[.int .i64 n]:=by simp [dy]
variable {C : CC} (hC : aj prog C)
include hC
set_option maxHeartbeats 2000000 in
theorem Ay {b : Bool} {n : Nat} {es : List Edg} (hn : n <= 300) (hg : inG n es) (fr : List Nat) (hf : ∀ s ∈ fr,s < n) (hl : fr.length <= 1000) : C 521 [uF n es,slx b (dy fr)] (.sl (bi n (rB es fr))) []:=by
 have k1:=yL hC b (fr.map fun k : Nat=>(k : Int)) (by simp;omega)
 rw [<- xb] at k1
 obtain ⟨R,hR,hRg⟩ : ∃ R,uF n es=.sl R /\ ∀ v,v < n -> R[v]? = some [ndD (nxt n es v)]:=⟨_,rfl,fun v hv=>by simp [hv]⟩
 have hRl : R.length=n:=by
  have:=congrArg (fun d=>match d with | .sl r=>r.length | _=>0) hR
  simpa [uF] using this.symm
 rw [hR]
 refine start hC (nf:=N521) rfl rfl ?_
 simp [N521,hRl]
 refine ⟨by omega,?_⟩
 refine tM k1 ?_
 simp [eD]
 refine ar ((Nat -> Bool) × List Nat × List (List D)) (fun s=>[(0,.sl R),(5,.ref (.r 10080) 0 n),(10080,.blk 1 (bi n s.1)),(6,.ref (.r 10096) 0 s.2.1.length),(10096,.blk 1 s.2.2)])
  (fun s=>s.2.2.take s.2.1.length=dy s.2.1 /\ (∀ v,s.1 v=true -> RR es fr v) /\ (∀ v ∈ s.2.1,v < n /\ RR es fr v) /\ (∀ v ∈ fr,s.1 v=true \/ v ∈ s.2.1) /\ (∀ u w,(u,w) ∈ es -> s.1 u=true -> s.1 w=true \/ w ∈ s.2.1) /\ s.2.1.length + uo n es s.1 <= 1000 + n * (1 + n))
  (fun s=>s.2.1.length + uo n es s.1) ((fun _=>false),fr,dy fr) ⟨by simp [<- eD fr],by simp,fun v hv=>⟨hf v hv,v,hv,.refl v⟩,fun v hv=>.inr hv,by simp,by have:=Ah n es (fun _=>false);simp only;omega⟩ (by simp [bi,ml]) ?_
 rintro ⟨out,st,rows⟩ ⟨i1,i2,i3,i4,i5,i6⟩
 simp only at i1 i2 i3 i4 i5 i6
 simp
 refine ac (fun h=>?_) (fun h=>?_) <;> simp at h
 ·obtain ⟨st',i,rfl⟩ : ∃ st' i,st=st'++[i]:=by
   rcases List.eq_nil_or_concat st with e | ⟨l,x,e⟩
   ·rw [e] at h;simp at h
   ·exact ⟨l,x,by simpa using e⟩
  obtain ⟨m,hm⟩ : ∃ m,m=st'.length:=⟨_,rfl⟩
  have hlen : (st'++[i]).length=m + 1:=by simp [hm]
  rw [hlen] at i1 i6
  have hrl : m + 1 <= rows.length:=by
   have:=congrArg List.length i1
   rw [List.length_take,eD,hlen] at this
   omega
  have hg1 : rows[m]? = some [.int .i64 (i : Int)]:=by
   have:=congrArg (fun l=>l[m]?) i1
   simp only [List.getElem?_take,if_pos (Nat.lt_succ_self m)] at this
   rw [this]
   simp [dy,hm]
  have hg2 : rows.take m=dy st':=by
   have:=congrArg (List.take m) i1
   rw [List.take_take,Nat.min_eq_left (by omega)] at this
   rw [this]
   simp [dy,hm,List.take_left' ]
  have hi:=i3 i (by simp)
  have h300 : n * (1 + n) <= 300 * 301:=Nat.mul_le_mul hn (by omega)
  have hwm : IntKind.wrap .i64 (m : Int)=(m : Int):=ah rfl (by omega)
  simp only [hlen]
  simp [hwm,az hg1,hg1]
  refine ⟨hi.1,?_⟩
  simp [az (cA out hi.1),cA out hi.1]
  refine ac (fun ho=>?_) (fun ho=>?_) <;> simp at ho
  ·have hstep:=uq (es:=es) hi.1 ho
   have hnl:=tb n es i
   simp [hi.1,b9,az (cA out hi.1),cA out hi.1,au (hRg i hi.1),hRg i hi.1,hRl,ndD]
   have hb1 : 1 <= ((bi n out)[i]'(by rw [b9];exact hi.1)).length:=by simp [bi]
   have hfl : ∀ e ∈ dy (nxt n es i),e.length=1 /\ ∀ c ∈ e,av c=true:=fun e he=>by
    obtain ⟨k,_,rfl⟩:=List.mem_map.1 he
    simp [av]
   refine ⟨hb1,hfl,by omega,by rw [eD];omega,fun u=>if u=i then true else out u,st'++nxt n es i,rows.take m++dy (nxt n es i),⟨?_,fun v hv=>?_,fun v hv=>?_,fun v hv=>?_,fun u w e hu=>?_,?_⟩,?_,?_,?_,?_⟩
   ·rw [hg2,List.take_of_length_le (by simp [dy])];simp [dy]
   ·by_cases e : v=i
    ·rw [e];exact hi.2
    ·simp only [if_neg e] at hv;exact i2 v hv
   ·rcases List.mem_append.1 hv with h1 | h1
    ·exact i3 v (by simp [h1])
    ·obtain ⟨h2,h3⟩:=mi.1 h1
     obtain ⟨s0,hs0,hp⟩:=hi.2
     exact ⟨h2,s0,hs0,hp.snoc h3⟩
   ·rcases i4 v hv with h1 | h1
    ·left;simp only;split <;> simp [h1]
    ·rcases List.mem_append.1 h1 with h2 | h2
     ·exact .inr (by simp [h2])
     ·rw [List.mem_singleton.1 h2];exact .inl (by simp)
   ·by_cases e2 : u=i
    ·subst e2
     exact .inr (List.mem_append.2 (.inr (mi.2 ⟨(hg _ e).2,e⟩)))
    ·simp only [if_neg e2] at hu
     rcases i5 u w e hu with h1 | h1
     ·left;simp only;split <;> simp [h1]
     ·rcases List.mem_append.1 h1 with h2 | h2
      ·exact .inr (by simp [h2])
      ·rw [List.mem_singleton.1 h2];exact .inl (by simp)
   ·rw [List.length_append];omega
   ·rw [List.length_append];omega
   ·have e9 : ((bi n out)[i]'(by rw [b9];exact hi.1)).tail=[]:=by simp [bi]
    rw [e9]
    exact gA out true
   ·rw [eD,List.length_append,hm]
   ·trivial
  ·simp
   refine ⟨out,st',rows,⟨by rw [<- hm];exact hg2,i2,fun v hv=>i3 v (by simp [hv]),fun v hv=>?_,fun u w e hu=>?_,by omega⟩,by omega,rfl,by omega,rfl⟩
   ·rcases i4 v hv with h1 | h1
    ·exact .inl h1
    ·rcases List.mem_append.1 h1 with h2 | h2
     ·exact .inr h2
     ·rw [List.mem_singleton.1 h2];exact .inl ho
   ·rcases i5 u w e hu with h1 | h1
    ·exact .inl h1
    ·rcases List.mem_append.1 h1 with h2 | h2
     ·exact .inr h2
     ·rw [List.mem_singleton.1 h2];exact .inl ho
 ·have hst : st=[]:=by
   cases st with
   | nil=>rfl
   | cons x l=>simp at h
  subst hst
  simp at i4 i5
  have hcl:=uM i2 (fun s hs=>i4 s hs) (fun u w e hu=>i5 u w e hu)
  simp [h]
  rw [yS,List.take_of_length_le (by rw [b9];exact Nat.le_refl _)]
  exact ⟨by simp [b9],f7 fun v _=>hcl v⟩
end Go.Gv

namespace Go.Gv
variable {C : CC} (hC : aj prog C)
include hC
end Go.Gv

namespace Go.Gv
def Da (l : List (Int × Int)) : Bool:=bQ l && decide (0 <= l[0]!.1) && decide ((iO l).1 <= 4194304) && decide (0 <= l[0]!.2) && decide ((iO l).2 <= 1099511627776)
def KP (l : Lnk) : Bool :=
 if l.kind=1 then bg l.len 1 16777216 && ci l.sect && decide (l.width=0) && decide (l.height=0) && decide (l.curve.length=0)
 else if l.kind=2 then decide (l.len=0) && decide (l.down=0) && decide (l.sect=[]) && bg l.width 1 1048576 && decide (l.height=0) && decide (l.curve.length=0)
 else if l.kind=3 then decide (l.len=0) && decide (l.down=0) && decide (l.sect=[]) && bg l.width 1 32768 && bg l.height 1 32768 && decide (l.curve.length=0)
 else if l.kind=4 then decide (l.len=0) && decide (l.down < l.up) && decide (l.sect=[]) && decide (l.width=0) && decide (l.height=0) && Da l.curve
 else false
def Lf (l : Lnk) : Bool:=ci l.name && ci l.src && ci l.dst && !decide (l.src=l.dst) && dA l.up && dA l.down && KP l
variable {C : CC} (hC : aj prog C)
include hC
end Go.Gv

namespace Go.Gv
open Go.Lib
theorem Mo (a k m : Nat) (hm : m=a * 2 ^ k % 18446744073709551616) : IntKind.u64.wrap ((a : Int) * 2 ^ k)=(m : Int):=by
 have e : (a : Int) * 2 ^ k=((a * 2 ^ k : Nat) : Int):=by push_cast;rfl
 rw [e,yr,hm]
theorem uw {n : Int} {m : Nat} (h : n=m \/ n=m + 18446744073709551616 \/ n=m - 18446744073709551616) (hm : m < 18446744073709551616) : IntKind.u64.wrap n=(m : Int):=by
 rw [jb];omega
end Go.Gv

namespace Go.Gv
open Go.Lib
theorem Mn (a m : Nat) (hm : m=a * 16 % 18446744073709551616) : IntKind.u64.wrap ((a : Int) * 2 ^ min 4 IntKind.u64.bits)=(m : Int):=Mo a 4 m hm
theorem Cu (a m : Nat) (hm : m=a * 1152921504606846976 % 18446744073709551616) : IntKind.u64.wrap ((a : Int) * 2 ^ min 60 IntKind.u64.bits)=(m : Int):=Mo a 60 m hm
theorem Cw (a : Nat) : Int.fdiv (a : Int) (2 ^ min 60 IntKind.u64.bits)=((a / 1152921504606846976 : Nat) : Int):=sm a 60
theorem Mp (a : Nat) : Int.fdiv (a : Int) (2 ^ min 4 IntKind.u64.bits)=((a / 16 : Nat) : Int):=sm a 4
theorem xu (a : Nat) (ha : a < 18446744073709551616) : bits .and .u64 (a : Int) 1152921504606846975=((a % 1152921504606846976 : Nat) : Int):=by
 have h:=bits_and_u64_nat a 1152921504606846975 ha (by omega)
 have e : a &&& 1152921504606846975=a % 1152921504606846976:=Nat.and_two_pow_sub_one_eq_mod a 60
 rw [e] at h
 exact h
theorem L9 (a b : Nat) (hb : b < 16) (h : a * 16 + b < 18446744073709551616) : bits .or .u64 ((a * 16 : Nat) : Int) (b : Int)=((a * 16 + b : Nat) : Int):=orN a b 4 hb h
theorem SJ (a b : Nat) (hb : b < 1152921504606846976) (h : a * 1152921504606846976 + b < 18446744073709551616) : bits .or .u64 ((a * 1152921504606846976 : Nat) : Int) (b : Int)=((a * 1152921504606846976 + b : Nat) : Int):=orN a b 60 hb h
def fx (p : Nat) (neg : Bool) : D:=.agg [.int .u64 ((p / 18446744073709551616 : Nat) : Int),.int .u64 ((p % 18446744073709551616 : Nat) : Int),.bool neg]
def wiD (p : Nat) : D:=.agg [.int .i64 ((p / 1152921504606846976 : Nat) : Int),.int .i64 ((p % 1152921504606846976 : Nat) : Int)]
variable {C : CC} (hC : aj prog C)
include hC
theorem jy (n : Nat) (h : n < 9223372036854775808) : C 112 [.int .i64 n] (.int .u64 (n : Int)) []:=by
 refine start hC (nf:=N112) rfl rfl ?_
 have h0 : ¬ (n : Int) < 0:=by omega
 simp [N112,h0,dE n (by omega)]
theorem i8 (a b : Int) (n : Bool) : C 113 [.int .u64 a,.int .u64 b,.bool n] (.agg [.int .u64 a,.int .u64 b,.bool (n && (!decide (a=0) || !decide (b=0)))]) []:=by
 refine start hC (nf:=N113) rfl rfl ?_
 simp [N113]
 cases n <;> simp
 by_cases h : a=0 <;> simp [h]
theorem yv (x y : Nat) (hx : x < 9223372036854775808) (hy : y < 9223372036854775808) : C 103 [.int .i64 x,.int .i64 y] (fx (x * y) false) []:=by
 refine start hC (nf:=N103) rfl rfl ?_
 have h0 : ¬ (x : Int) < 0:=by omega
 have h1 : ¬ (y : Int) < 0:=by omega
 have hm:=sB hC x y (by omega) (by omega)
 rw [fx]
 obtain ⟨zh,hzh⟩ : ∃ zh,zh=x * y / 18446744073709551616:=⟨_,rfl⟩
 obtain ⟨zl,hzl⟩ : ∃ zl,zl=x * y % 18446744073709551616:=⟨_,rfl⟩
 rw [<- hzh,<- hzl] at hm ⊢
 simp [N103]
 refine aa (jy hC x hx) (.inl rfl) ?_
 simp
 refine aa (jy hC y hy) (.inl rfl) ?_
 simp
 refine aa hm (.inl rfl) ?_
 simp [h0,h1]
 refine aa (i8 hC zh zl false) (.inl rfl) ?_
 simp
theorem kX (n : Nat) (h : n < 9223372036854775808) : C 110 [.int .u64 n,.bool false] (.tup [.int .i64 n,.int .i64 0]) []:=by
 refine start hC (nf:=N110) rfl rfl ?_
 have h1 : (n : Int) <= 9223372036854775807:=by omega
 have h2 : IntKind.i64.wrap (n : Int)=(n : Int):=ah rfl (by omega)
 simp [N110,h1,h2]
theorem rY (p d : Nat) (up : Bool) (q : Nat) (hd : d < 9223372036854775808) (hp : p / 18446744073709551616 < d) (hq : q < 9223372036854775808) (hv : q=if up then (p + d - 1) / d else p / d) (hqd : p / d + 1 < 9223372036854775808) : C 104 [fx p false,.int .i64 d,.bool up] (.tup [.int .i64 q,.int .i64 0]) []:=by
 obtain ⟨ph,hph⟩ : ∃ z,z=p / 18446744073709551616:=⟨_,rfl⟩
 obtain ⟨pl,hpl⟩ : ∃ z,z=p % 18446744073709551616:=⟨_,rfl⟩
 have hpp : ph * 18446744073709551616 + pl=p:=by omega
 obtain ⟨q0,hq0⟩ : ∃ z,z=p / d:=⟨_,rfl⟩
 obtain ⟨r0,hr0⟩ : ∃ z,z=p % d:=⟨_,rfl⟩
 have hdiv:=sA hC ph pl d (by omega) (by omega) (by omega)
 rw [hpp,<- hq0,<- hr0] at hdiv
 have hd0 : 0 < d:=by omega
 have hdp : d * q0 + r0=p:=by rw [hq0,hr0];exact Nat.div_add_mod p d
 have hrd : r0 < d:=by rw [hr0];exact Nat.mod_lt _ hd0
 have hup : up=true -> q=if 0 < r0 then q0 + 1 else q0:=by
  rintro rfl
  simp only [if_true] at hv
  rw [hv,<- hdp]
  by_cases h : 0 < r0
  ·rw [if_pos h,show d * q0 + r0 + d - 1=d * q0 + (d + (r0 - 1)) by omega,Nat.mul_add_div hd0,Nat.add_div_left _ hd0,Nat.div_eq_of_lt (by omega)]
  ·rw [if_neg h,show d * q0 + r0 + d - 1=d * q0 + (d - 1) by omega,Nat.mul_add_div hd0,Nat.div_eq_of_lt (by omega)]
   rfl
 rw [fx,<- hph,<- hpl]
 have h1 : ¬ (d : Int) <= (ph : Int):=by omega
 have h2 : ¬ (d : Int) < 0:=by omega
 have h3 : IntKind.u64.wrap ((q0 : Int) + 1)=((q0 + 1 : Nat) : Int):=uw (by omega) (by omega)
 refine start hC (nf:=N104) rfl rfl ?_
 simp [N104]
 refine aa (jy hC d hd) (.inl rfl) ?_
 simp [h1]
 refine aa hdiv (.inl rfl) ?_
 simp [h2]
 cases up
 ·have e : q=q0:=by rw [hv,hq0];rfl
  subst e
  refine ac (fun h=>?_) (fun h=>?_) <;> simp at h <;> simp [h]
  ·refine aa (kX hC q hq) (.inl rfl) ?_
   simp
  ·refine aa (kX hC q hq) (.inl rfl) ?_
   simp
 ·have hv:=hup rfl
  by_cases h : 0 < r0
  ·have hi : (0 : Int) < r0:=by omega
   rw [if_pos h] at hv
   subst hv
   have h4 : ¬ ((q0 : Int) + 1=0):=by omega
   simp [hi,h3,h4,h]
   refine aa (kX hC (q0 + 1) hq) (.inl rfl) ?_
   simp
  ·have hi : ¬ (0 : Int) < r0:=by omega
   rw [if_neg h] at hv
   subst hv
   simp [hi,h]
   refine aa (kX hC q hq) (.inl rfl) ?_
   simp
end Go.Gv

namespace Go.Gv
open Go.Lib
variable {C : CC} (hC : aj prog C)
include hC
theorem m8 (p : Nat) (h : p < 1329227995784915872903807060280344576) : C 105 [fx p false] (.tup [wiD p,.int .i64 0]) []:=by
 obtain ⟨ph,hph⟩ : ∃ z,z=p / 1152921504606846976:=⟨_,rfl⟩
 obtain ⟨pl,hpl⟩ : ∃ z,z=p % 1152921504606846976:=⟨_,rfl⟩
 obtain ⟨zh,hzh⟩ : ∃ z,z=p / 18446744073709551616:=⟨_,rfl⟩
 obtain ⟨zl,hzl⟩ : ∃ z,z=p % 18446744073709551616:=⟨_,rfl⟩
 rw [wiD,fx,<- hph,<- hpl,<- hzh,<- hzl]
 obtain ⟨zt,hzt⟩ : ∃ z,z=zl / 1152921504606846976:=⟨_,rfl⟩
 have h1 : ¬ (72057594037927936 : Int) < zh:=by omega
 have h2 : ¬ (zh : Int)=72057594037927936:=by omega
 have e1:=Mn zh (zh * 16) (by omega)
 have e2:=Cw zl
 rw [<- hzt] at e2
 have e3:=L9 zh zt (by omega) (by omega)
 have e4 : IntKind.i64.wrap ((zh * 16 + zt : Nat) : Int)=(ph : Int):=ah (by omega) (by omega)
 have e5:=xu zl (by omega)
 have e6 : IntKind.i64.wrap ((zl % 1152921504606846976 : Nat) : Int)=(pl : Int):=ah (by omega) (by omega)
 refine start hC (nf:=N105) rfl rfl ?_
 simp [N105,h1,h2,e2,-Int.natCast_mul,-Int.natCast_emod]
 refine ⟨am (by decide +kernel),?_⟩
 rw [e1,e3,e4,e5,e6]
 simp
theorem Bl (p : Nat) (h : p < 1329227995784915872903807060280344576) : C 108 [wiD p] (fx p false) []:=by
 obtain ⟨ph,hph⟩ : ∃ z,z=p / 1152921504606846976:=⟨_,rfl⟩
 obtain ⟨pl,hpl⟩ : ∃ z,z=p % 1152921504606846976:=⟨_,rfl⟩
 obtain ⟨zh,hzh⟩ : ∃ z,z=p / 18446744073709551616:=⟨_,rfl⟩
 obtain ⟨zl,hzl⟩ : ∃ z,z=p % 18446744073709551616:=⟨_,rfl⟩
 rw [wiD,fx,<- hph,<- hpl,<- hzh,<- hzl]
 have h1 : (0 : Int) <= ph:=by omega
 obtain ⟨w,hw⟩ : ∃ z,z=ph % 16:=⟨_,rfl⟩
 have e1 : Int.fdiv (ph : Int) (2 ^ min 4 IntKind.u64.bits)=(zh : Int):=by rw [Mp];omega
 have e2 : IntKind.u64.wrap ((ph : Int) * 2 ^ min 60 IntKind.u64.bits)=((w * 1152921504606846976 : Nat) : Int):=Cu ph _ (by omega)
 have e3 : IntKind.u64.wrap (pl : Int)=(pl : Int):=dE pl (by omega)
 have e4 : bits .or .u64 ((w * 1152921504606846976 : Nat) : Int) (pl : Int)=(zl : Int):=by
  rw [SJ w pl (by omega) (by omega)];omega
 refine start hC (nf:=N108) rfl rfl ?_
 simp [N108]
 refine aa (jy hC ph (by omega)) (.inl rfl) ?_
 simp [h1]
 rw [e1,e2,e3,e4]
 simp
end Go.Gv

namespace Go.Gv
theorem Ar (p : Nat) : ∃ a b : Int,fx p false=.agg [.int .u64 a,.int .u64 b,.bool false]:=⟨_,_,rfl⟩
theorem EJ (p : Nat) : ∃ a b : Int,wiD p=.agg [.int .i64 a,.int .i64 b]:=⟨_,_,rfl⟩
variable {C : CC} (hC : aj prog C)
include hC
theorem tD (x y : Nat) (hx : x < 9223372036854775808) (hy : y < 9223372036854775808) (h : x * y < 1329227995784915872903807060280344576) : C 99 [.int .i64 x,.int .i64 y] (.tup [wiD (x * y),.int .i64 0]) []:=by
 have k1:=yv hC x y hx hy
 have k2:=m8 hC (x * y) h
 obtain ⟨a,b,e1⟩:=Ar (x * y)
 obtain ⟨c,d,e2⟩:=EJ (x * y)
 rw [e1] at k1 k2
 rw [e2] at k2 ⊢
 refine start hC (nf:=N99) rfl rfl ?_
 simp [N99]
 refine aa k1 (.inl rfl) ?_
 simp
 refine aa k2 (.inr rfl) ?_
 simp
end Go.Gv

namespace Go.Gv
def ly (t : List (Int × Int)) (x : Int) : Nat:=t.findIdx fun k=>decide (x <= k.1)
def atK (t : List (Int × Int)) (x : Int) : Bool:=decide (ly t x < t.length) && decide (t[ly t x]!.1=x)
def H0 (a b : Int × Int) (x : Int) : Int × Int × Int:=(a.2 + (b.2 - a.2) * (x - a.1) / (b.1 - a.1),(b.2 - a.2) * (x - a.1) % (b.1 - a.1),b.1 - a.1)
def xM (t : List (Int × Int)) (x : Int) : Int × Int × Int :=
 if atK t x || decide (ly t x=0) then (t[ly t x]!.2,0,1)
 else if ly t x=t.length then (t[ly t x - 1]!.2,0,1)
 else H0 t[ly t x - 1]! t[ly t x]! x
variable {C : CC} (hC : aj prog C)
include hC
end Go.Gv

namespace Go.Gv
variable {C : CC} (hC : aj prog C)
include hC
end Go.Gv

namespace Go.Gv
def bis (p : Nat -> Bool) : Nat -> Nat -> Nat -> Nat
 | 0,lo,_=>lo
 | f + 1,lo,hi=>if lo < hi then (if p ((lo + hi) / 2) then bis p f lo ((lo + hi) / 2) else bis p f ((lo + hi) / 2 + 1) hi) else lo
def tP (s : Sec) (depth fall len : Int) : Nat:=Cr ((xM s.conv depth).1.toNat * (xM s.conv depth).1.toNat * fall.toNat / len.toNat)
def sN (s : Sec) (flow fall len : Int) (m : Nat) : Bool:=decide (flow <= (tP s m fall len : Int))
def xg (s : Sec) (flow fall len : Int) : Nat:=bis (sN s flow fall len) 40 0 (s.height.toNat + 1)
def oU (s : Sec) (flow fall len : Int) : Int × Int :=
 if dt s then (if 0 <= flow /\ flow <= 1099511627776 /\ ij fall len=true then (if s.height.toNat < xg s flow fall len then (0,28) else (xg s flow fall len,0)) else (0,2)) else (0,1)
variable {C : CC} (hC : aj prog C)
include hC
end Go.Gv

namespace Go.Gv
end Go.Gv

namespace Go.Gv
variable {C : CC} (hC : aj prog C)
include hC
end Go.Gv

namespace Go.Gv
variable {C : CC} (hC : aj prog C)
include hC
end Go.Gv

namespace Go.Gv
def Tp (n : Nat) (out : List Nat) : List (List D):=(List.range n).map fun v=>[.bool (decide (v ∈ out))]
def Ln (es : List Edg) (out : List Nat) : Nat -> Int
 | 0=>-1
 | v + 1=>if Ln es out v < 0 then (if !out.contains v && rW es out v then (v : Int) else -1) else Ln es out v
def prT (es : List Edg) (out : List Nat) (v j : Nat) : Bool:=rW (es.take j) out v
variable {C : CC} (hC : aj prog C)
include hC
end Go.Gv

namespace Go.Gv
def Tl (n : Nat) (es : List Edg) : D:=if (qw n es).length=n then ndD (qw n es) else .nils
variable {C : CC} (hC : aj prog C)
include hC
end Go.Gv

namespace Go.Gv
def fg (l : List Sec) : Bool:=decide (l.length <= 40) && l.all dt && decide ((l.map (·.name)).Nodup)
def gm (l : List Sec) : List D:=((l.map (·.name)).reverse).map D.str
theorem oq : ∀ (xs : List (List UInt8)) (n : Nat),n=xs.length -> ∀ s,(cX (xs.map D.str) (List.replicate n (.bool true)) (.str s)).getD (.bool false)=.bool (decide (s ∈ xs))
 | [],n,h,s=>by simp [cX]
 | x::xs,n,h,s=>by
  obtain ⟨m,rfl⟩ : ∃ m,n=m + 1:=⟨n - 1,by simp at h;omega⟩
  have ih:=oq xs m (by simpa using h) s
  simp only [List.map_cons,List.replicate_succ,cX,eqD,nK,decide_eq_true_eq]
  by_cases e : s=x
  ·subst e;simp
  ·rw [if_neg e,ih];simp [e]
variable {C : CC} (hC : aj prog C)
include hC
end Go.Gv

namespace Go.Gv
variable {C : CC} (hC : aj prog C)
include hC
end Go.Gv

namespace Go.Gv
structure Job where
 below : SlI
 lengths : SlI
 flows : SlI
 falls : SlI
 room : SlI
 secN : Bool
 secs : List Sec
 deriving Inhabited
def TE (j : Job) : List D:=[slI j.below,slI j.lengths,slI j.flows,slI j.falls,slI j.room,slx j.secN (j.secs.map dS)]
def Ak (s : Sec) : Bool:=decide (20 < s.area.length) || decide (20 < s.conv.length) || decide (60 < s.name.length)
def Lp (l : List Sec) : Bool:=decide (8 < l.length) || l.any Ak
def Sr (j : Job) : Bool:=decide (12 < j.below.l.length) || decide (12 < j.lengths.l.length) || decide (12 < j.flows.l.length) || decide (12 < j.falls.l.length) || decide (12 < j.room.l.length) || Lp j.secs
def z7 (n a b : Int) : Bool:=a <= n && n <= b
def Ek (j : Job) (i : Nat) : Bool:=(j.below.l[i]! == -1 || (decide ((i : Int) < j.below.l[i]!) && decide (j.below.l[i]! < j.below.l.length))) && z7 j.lengths.l[i]! 1 16777216 && z7 j.flows.l[i]! 0 1099511627776 && z7 j.falls.l[i]! 0 4194304 && z7 j.room.l[i]! 0 4194304
def KJ (j : Job) : Bool:=decide (j.below.l.length <= 400) && decide (j.lengths.l.length=j.below.l.length) && decide (j.flows.l.length=j.below.l.length) && decide (j.falls.l.length=j.below.l.length) && decide (j.room.l.length=j.below.l.length) && decide (0 < j.secs.length) && fg j.secs && (List.range j.below.l.length).all (Ek j)
@[simp] theorem QS {x : SlI} : slI x=slx x.n (x.l.map fun n=>[.int .i64 n]):=_root_.id rfl
variable {C : CC} (hC : aj prog C)
include hC
end Go.Gv

namespace Go.Gv
def iR (nm : List UInt8) (s : Sec) : Bool:=s.name == nm
theorem oP (l : List Sec) : fg l=true ↔ l.length <= 40 /\ (∀ (i : Nat) (h : i < l.length),dt l[i]=true /\ bv (iR l[i].name) l=i):=by
 simp only [fg,Bool.and_eq_true,decide_eq_true_eq,List.all_eq_true]
 constructor
 ·rintro ⟨⟨h1,h2⟩,h3⟩
  refine ⟨h1,fun i h=>⟨h2 _ (List.getElem_mem h),?_⟩⟩
  refine cq (fun k hk hki=>?_) h (by simp [iR])
  rw [iR,beq_eq_false_iff_ne]
  intro e
  exact List.pairwise_iff_getElem.1 h3 k i (by simpa using hk) (by simpa using h) hki (by simpa using e)
 ·rintro ⟨h1,h2⟩
  refine ⟨⟨h1,fun x hx=>?_⟩,?_⟩
  ·obtain ⟨i,h,rfl⟩:=List.getElem_of_mem hx
   exact (h2 i h).1
  ·refine List.pairwise_iff_getElem.2 fun a b ha hb hab e=>?_
   simp only [List.length_map] at ha hb
   simp only [List.getElem_map] at e
   have h3:=(h2 b hb).2
   have h4 : ∃ k,k <= a /\ bv (iR l[b].name) l=(k : Int):=by
    unfold bv
    cases hf : l.findIdx? (iR l[b].name) with
    | none =>
     rw [List.findIdx?_eq_none_iff] at hf
     have:=hf l[a] (List.getElem_mem _)
     simp [iR,e] at this
    | some k =>
     refine ⟨k,?_,rfl⟩
     rw [List.findIdx?_eq_some_iff_getElem] at hf
     obtain ⟨q1,q2,q3⟩:=hf
     rcases Nat.lt_or_ge a k with hak | hak
     ·exact absurd (by simp [iR,e]) (q3 a hak)
     ·exact hak
   obtain ⟨k,h5,h6⟩:=h4
   omega
variable {C : CC} (hC : aj prog C)
include hC
end Go.Gv

namespace Go.Gv
open Go.Lib
variable {C : CC} (hC : aj prog C)
include hC
end Go.Gv

namespace Go.Gv
def DvS (x b i a q r : Nat) : Prop:=i <= 128 /\ r < b /\ ∃ c,a=c * 2 ^ i /\ c < 2 ^ (128 - i) /\ (q * b + r) * 2 ^ (128 - i) + c=x
theorem DvS.step {x b i a q r : Nat} (h : DvS x b i a q r) (hi : i < 128) (hb : 0 < b) :
  a < 340282366920938463463374607431768211456 /\ 2 * q <= x /\
  ∀ w r' a',2 * r + a / 170141183460469231731687303715884105728=w * b + r' -> r' < b -> a'=2 * a % 340282366920938463463374607431768211456 -> DvS x b (i + 1) a' (2 * q + w) r' /\ 2 * q + w <= x:=by
 obtain ⟨_,hr,c,h1,h2,h3⟩:=h
 obtain ⟨m,hm⟩ : ∃ m,m + 1=128 - i:=⟨127 - i,by omega⟩
 have hm2 : m=128 - (i + 1):=by omega
 rw [<- hm,Nat.pow_succ] at h2 h3
 obtain ⟨V,hV⟩ : ∃ V,V=2 ^ m:=⟨_,rfl⟩
 obtain ⟨W,hW⟩ : ∃ W,W=2 ^ i:=⟨_,rfl⟩
 have hVW : V * W=170141183460469231731687303715884105728:=by
  rw [hV,hW,<- Nat.pow_add,show m + i=127 by omega]
 have hVp : 0 < V:=by rw [hV];exact Nat.two_pow_pos m
 rw [<- hV] at h2 h3
 rw [<- hW] at h1
 obtain ⟨t,ht⟩ : ∃ t,t=c / V:=⟨_,rfl⟩
 obtain ⟨d,hd⟩ : ∃ d,d=c % V:=⟨_,rfl⟩
 have hc : c=t * V + d:=by rw [ht,hd,Nat.mul_comm];exact (Nat.div_add_mod c V).symm
 have hdV : d < V:=by rw [hd];exact Nat.mod_lt _ hVp
 have ht1 : t <= 1:=by
  have : t < 2:=by rw [ht,Nat.div_lt_iff_lt_mul hVp];omega
  omega
 have ha : a=t * 170141183460469231731687303715884105728 + d * W:=by
  rw [h1,hc,Nat.add_mul,Nat.mul_assoc,hVW]
 have hdW : d * W < 170141183460469231731687303715884105728:=by
  have : (d + 1) * W <= V * W:=Nat.mul_le_mul_right _ hdV
  rw [hVW,Nat.add_mul] at this
  have hWp : 0 < W:=by rw [hW];exact Nat.two_pow_pos i
  omega
 have hbit : a / 170141183460469231731687303715884105728=t:=by
  rw [ha];generalize d * W=z at *;omega
 have fin : ∀ w r',2 * r + t=w * b + r' -> ((2 * q + w) * b + r') * V + d=x:=fun w r' e=>by
  have e1 : (2 * q + w) * b + r'=2 * (q * b + r) + t:=by
   rw [Nat.add_mul,Nat.mul_assoc]
   generalize q * b=z at *
   generalize w * b=z' at *
   omega
  rw [e1,<- h3,hc,Nat.add_mul,Nat.mul_comm V 2,<- Nat.mul_assoc,Nat.mul_comm (q * b + r) 2]
  omega
 have big : ∀ w r',2 * r + t=w * b + r' -> 2 * q + w <= x:=fun w r' e=>by
  have e1:=fin w r' e
  have e2 : 2 * q + w <= (2 * q + w) * b:=Nat.le_mul_of_pos_right _ hb
  have e3 : (2 * q + w) * b + r' <= ((2 * q + w) * b + r') * V:=Nat.le_mul_of_pos_right _ hVp
  omega
 refine ⟨?_,?_,?_⟩
 ·rw [ha];generalize d * W=z at *;omega
 ·exact Nat.le_trans (Nat.le_add_right _ _) (big _ _ (Nat.div_add_mod' (2 * r + t) b).symm)
 ·intro w r' a' e hr' ha'
  rw [hbit] at e
  refine ⟨⟨by omega,hr',d,?_,?_,?_⟩,big w r' e⟩
  ·rw [ha',ha,Nat.pow_succ,<- hW,Nat.mul_comm W 2,Nat.mul_left_comm]
   generalize d * W=z at *
   omega
  ·rw [<- hm2,<- hV];exact hdV
  ·rw [<- hm2,<- hV];exact fin w r' e
theorem DvS.last {x b a q r : Nat} (h : DvS x b 128 a q r) : q=x / b /\ r=x % b:=by
 obtain ⟨_,hr,c,h1,h2,h3⟩:=h
 simp at h2 h3
 subst h2
 simp at h3
 subst h3
 have hb : 0 < b:=by omega
 rw [Nat.mul_comm,Nat.mul_add_div hb,Nat.div_eq_of_lt hr,Nat.mul_add_mod,Nat.mod_eq_of_lt hr]
 exact ⟨rfl,rfl⟩
variable {C : CC} (hC : aj prog C)
include hC
end Go.Gv

namespace Go.Gv
variable {C : CC} (hC : aj prog C)
include hC
end Go.Gv

namespace Go.Gv
def TN (nm : List UInt8) : Nod:={ name:=nm,kind:=1,x:=0,y:=0,invert:=0,ground:=1,shapeN:=false,shape:=[(0,0),(1,1)],prot:=false,reserve:=0 }
def TO (nm : List UInt8) : Nod:={ name:=nm,kind:=3,x:=0,y:=0,invert:=0,ground:=0,shapeN:=true,shape:=[],prot:=false,reserve:=0 }
def tc (l : Lnk) (s : Sec) : Int:=if di l && dt s then (if l.kind=1 then (if l.sect=s.name then 0 else 25) else 11) else 1
variable {C : CC} (hC : aj prog C)
include hC
end Go.Gv

namespace Go.Gv
def sO (k flow len n : Nat) : Bool:=decide (flow * flow * len <= k * k * n)
def Ll (k flow len : Nat) : Int × Int:=if flow=0 then (0,0) else if k=0 then (0,16) else if sO k flow len 1073741824 then (bis (sO k flow len) 40 0 1073741824,0) else (0,5)
def qj (l : Lnk) (s : Sec) (flow : Int) : Int × Int:=Ll (iO s.conv).2.toNat flow.toNat l.len.toNat
variable {C : CC} (hC : aj prog C)
include hC
end Go.Gv

namespace Go.Gv
def Bq (x b : Nat) : Nat:=if x % b=0 then x / b else x / b + 1
def Lm (k f n : Nat) : Int × Int:=if f=0 then (0,0) else if k=0 then (0,16) else if 1073741824 < Bq (f * f * n) (k * k) then (0,5) else (Bq (f * f * n) (k * k),0)
def qk (l : Lnk) (s : Sec) (flow : Int) : Int × Int:=Lm (iO s.conv).2.toNat flow.toNat l.len.toNat
variable {C : CC} (hC : aj prog C)
include hC
end Go.Gv

namespace Go.Gv
variable {C : CC} (hC : aj prog C)
include hC
end Go.Gv

namespace Go.Gv
def T4 (t : List (Int × Int)) (x : Int) : Int :=
 if ly t (x + 1)=0 then t[0]!.2 else if ly t (x + 1)=t.length then t[ly t (x + 1) - 1]!.2 else (H0 t[ly t (x + 1) - 1]! t[ly t (x + 1)]! x).1
variable {C : CC} (hC : aj prog C)
include hC
end Go.Gv

namespace Go.Gv
def v6 (s : Sec) (flow fall len : Int) : Int × Int :=
 if dt s then (if 0 <= flow /\ flow <= 1099511627776 /\ ij fall len=true then (if (tP s s.height fall len : Int) < flow then (0,28) else (bis (sN s flow fall len) 40 0 s.height.toNat,0)) else (0,2)) else (0,1)
variable {C : CC} (hC : aj prog C)
include hC
end Go.Gv

namespace Go.Gv
def mxI (a b : Int) : Int:=if a < b then b else a
def gE (l : Lnk) : Int:=if 4194304 < l.up - l.down then 4194304 else l.up - l.down
def Sy (l : Lnk) (s : Sec) (flow level : Int) : Bool:=decide (level < l.down + s.height) && (decide ((wH s (gE l) l.len).2=5) || (decide ((wH s (gE l) l.len).2=0) && decide (flow <= (wH s (gE l) l.len).1)))
def Ji (l : Lnk) (s : Sec) (flow level : Int) : Int × Int :=
 if (qj l s flow).2=0 then (if 1099511627776 < mxI (l.up + s.height) (level + (qj l s flow).1) then (0,5) else (mxI (l.up + s.height) (level + (qj l s flow).1),0)) else (0,(qj l s flow).2)
def Sz (l : Lnk) (s : Sec) (flow level : Int) : Int × Int :=
 if (oU s flow (gE l) l.len).2=0 then (mxI (l.up + (oU s flow (gE l) l.len).1) level,0) else (0,(oU s flow (gE l) l.len).2)
def HJ (l : Lnk) (s : Sec) (flow level : Int) : Int × Int:=if Sy l s flow level then Sz l s flow level else Ji l s flow level
def T3 (l : Lnk) (s : Sec) (flow level : Int) : Int × Int :=
 if tc l s=0 then (if l.up < l.down then (0,23) else if bg flow 0 1099511627776 && bg level (-4194304) 1099511627776 then HJ l s flow level else (0,2)) else (0,tc l s)
def Tg (l : Lnk) (s : Sec) (flow : Int) : Int × Int :=
 if tc l s=0 then (if bg flow 0 1099511627776 then qj l s flow else (0,2)) else (0,tc l s)
variable {C : CC} (hC : aj prog C)
include hC
end Go.Gv

namespace Go.Gv
def grI (a b : Int) : Int:=if b < a then a else b
def o5 (l : Lnk) (s : Sec) : Int:=if Lf l && dt s then (if l.kind=1 then (if l.sect=s.name then 0 else 25) else 11) else 1
def Jj (l : Lnk) (s : Sec) (flow level : Int) : Int × Int :=
 if (qk l s flow).2=0 then (if 1099511627776 < grI (l.up + s.height) (level + (qk l s flow).1) then (0,5) else (grI (l.up + s.height) (level + (qk l s flow).1),0)) else (0,(qk l s flow).2)
def CG (l : Lnk) (s : Sec) (flow level : Int) : Int × Int :=
 if (v6 s flow (gE l) l.len).2=0 /\ level < l.down + s.height then (grI (l.up + (v6 s flow (gE l) l.len).1) level,0) else Jj l s flow level
def upR (l : Lnk) (s : Sec) (flow level : Int) : Int × Int :=
 if o5 l s=0 then (if l.up < l.down then (0,23) else if bg flow 0 1099511627776 && bg level (-4194304) 1099511627776 then CG l s flow level else (0,2)) else (0,o5 l s)
def Tf (l : Lnk) (s : Sec) (flow : Int) : Int × Int :=
 if o5 l s=0 then (if bg flow 0 1099511627776 then qk l s flow else (0,2)) else (0,o5 l s)
variable {C : CC} (hC : aj prog C)
include hC
end Go.Gv

namespace Go.Gv
def si (ss : List Sec) (nm : List UInt8) : Int:=bv (iR nm) ss
def BP (ss : List Sec) (nm : List UInt8) : Int × Int:=if fg ss then (if 0 <= si ss nm then (si ss nm,0) else (0,9)) else (0,1)
def LM (ss : List Sec) (l : Lnk) : Bool:=decide (si ss l.sect < 0)
def EI (l : Lnk) : Bool:=decide (l.up < l.down)
def SL (ls : List Lnk) (ss : List Sec) : Int:=if ls.any (LM ss) then 9 else if ls.any EI then 23 else 0
def uf (ns : List Nod) (ls : List Lnk) (ss : List Sec) (q : List Sp) (count : Int) : Int:=if ym ns ls && fg ss then (if vi q count=0 then SL ls ss else vi q count) else 1
structure jG (ss : List Sec) (l : Lnk) : Prop where
 idx : ∃ k,si ss l.sect=(k : Nat) /\ k < ss.length
 le : l.down <= l.up
 up : -4194304 <= l.up /\ l.up <= 4194304
 down : -4194304 <= l.down /\ l.down <= 4194304
 len : 1 <= l.len /\ l.len <= 16777216
theorem jG.fall {ss : List Sec} {l : Lnk} (h : jG ss l) : ij (gE l) l.len=true:=by
 have:=h.le;have:=h.len;have:=h.up;have:=h.down
 by_cases h : 4194304 < l.up - l.down <;> simp [ij,gE,h] <;> omega
theorem oQ {ss : List Sec} (h : fg ss=true) {k : Nat} (hk : k < ss.length) : dt ss[k]=true:=((oP ss).1 h).2 k hk |>.1
variable {C : CC} (hC : aj prog C)
include hC
end Go.Gv

namespace Go.Gv
def tO (s : Sec) (depth fall len : Int) : Int × Int:=if dt s then (if 0 <= depth /\ depth <= s.height /\ ij fall len=true then (if 1099511627776 < (tP s depth fall len : Int) then (0,5) else (tP s depth fall len,0)) else (0,2)) else (0,1)
def qI (ss : List Sec) (l : Lnk) : Sec:=ss[(si ss l.sect).toNat]?.getD ⟨[],0,0,true,[],true,[]⟩
def wG (ss : List Sec) (l : Lnk) : Int:=if (tO (qI ss l) (qI ss l).height (gE l) l.len).2=5 then 1099511627776 else (tO (qI ss l) (qI ss l).height (gE l) l.len).1
theorem jG.sec {ss : List Sec} {l : Lnk} (h : jG ss l) : ∃ k,si ss l.sect=(k : Nat) /\ ∃ hk : k < ss.length,qI ss l=ss[k]:=by
 obtain ⟨k,hk,hl⟩:=h.idx
 refine ⟨k,hk,hl,?_⟩
 simp [qI,hk,hl]
theorem jG.find {ss : List Sec} {l : Lnk} (hv : fg ss=true) (h : jG ss l) : BP ss l.sect=(si ss l.sect,0):=by
 obtain ⟨k,hk,hl⟩:=h.idx
 simp [BP,hv,hk]
theorem jG.valid {ss : List Sec} {l : Lnk} (hv : fg ss=true) (h : jG ss l) : dt (qI ss l)=true:=by
 obtain ⟨k,hk,hl,e⟩:=h.sec
 rw [e]
 exact oQ hv hl
theorem jG.wrap {ss : List Sec} {l : Lnk} (h : jG ss l) : IntKind.wrap .i64 (l.up - l.down)=l.up - l.down:=by
 have:=h.up;have:=h.down
 exact ah rfl (by omega)
variable {C : CC} (hC : aj prog C)
include hC
end Go.Gv

namespace Go.Gv
variable {C : CC} (hC : aj prog C)
include hC
end Go.Gv

namespace Go.Gv
def y5 (ss : List Sec) (l : Lnk) (n : Int) : Int × Int:=oU (qI ss l) n (gE l) l.len
def Rr (ss : List Sec) (l : Lnk) (s : Sp) : Bool:=!decide ((y5 ss l s.1).2=0) || !decide ((y5 ss l s.2).2=0)
def dSp (ss : List Sec) (l : Lnk) (s : Sp) : Sp:=((y5 ss l s.1).1,(y5 ss l s.2).1)
def CO (ss : List Sec) (ls : List Lnk) (q : List Sp) : Bool:=(ls.zip q).any fun p=>Rr ss p.1 p.2
def Ru (ss : List Sec) (ls : List Lnk) (q : List Sp) : List Sp:=List.zipWith (dSp ss) ls q
def Rf (ns : List Nod) (ls : List Lnk) (ss : List Sec) (q : List Sp) : Int:=if uf ns ls ss q ls.length=0 then (if CO ss ls q then 28 else 0) else uf ns ls ss q ls.length
def Tv (ns : List Nod) (ls : List Lnk) (ss : List Sec) (q : List Sp) : D:=if Rf ns ls ss q=0 then .sl ((Ru ss ls q).map knD) else .nils
def spT (l : List Sp) (j : Nat) : List (List D):=(l.take j).map knD
variable {C : CC} (hC : aj prog C)
include hC
end Go.Gv

namespace Go.Gv
end Go.Gv

namespace Go.Gv
end Go.Gv

namespace Go.Gv
def Ss (ss : List Sec) (l : Lnk) (s : Sp) : Sp:=(1000 * s.1 / wG ss l,(1000 * s.2 + wG ss l - 1) / wG ss l)
def MP (ss : List Sec) (l : Lnk) : Bool:=decide (wG ss l=0)
def ldL (ss : List Sec) (ls : List Lnk) (q : List Sp) : List Sp:=List.zipWith (Ss ss) ls q
def Ri (ss : List Sec) (ls : List Lnk) : Bool:=ls.any (MP ss)
def LdE (ns : List Nod) (ls : List Lnk) (ss : List Sec) (q : List Sp) : Int:=if uf ns ls ss q ls.length=0 then (if Ri ss ls then 16 else 0) else uf ns ls ss q ls.length
def LdV (ns : List Nod) (ls : List Lnk) (ss : List Sec) (q : List Sp) : D:=if LdE ns ls ss q=0 then .sl ((ldL ss ls q).map knD) else .nils
variable {C : CC} (hC : aj prog C)
include hC
end Go.Gv

namespace Go.Gv
def ovG (ss : List Sec) (f : Sp -> Int) (p : Lnk × Sp) : Option (List UInt8):=if wG ss p.1 < f p.2 then some p.1.name else none
def SK (ss : List Sec) (f : Sp -> Int) (ls : List Lnk) (fl : List Sp) (i : Nat) : List (List UInt8):=((ls.zip fl).take i).filterMap (ovG ss f)
def fd (l : List (List UInt8)) : List (List D):=l.map fun s=>[.str s]
theorem nA (l : List (List UInt8)) : (fd l).length=l.length:=by simp [fd]
theorem EC (l : List (List UInt8)) : (fd l).map (fun e=>e.map aH)=fd l:=by
 unfold fd
 rw [List.map_map]
 apply List.map_congr_left
 intro v _
 simp [aH]
def OvE (ns : List Nod) (ls : List Lnk) (ss : List Sec) (q : List Sp) : Int:=if uf ns ls ss q ns.length=0 then wE ns.length (cB ns ls) q else uf ns ls ss q ns.length
def OvV (f : Sp -> Int) (ns : List Nod) (ls : List Lnk) (ss : List Sec) (q : List Sp) : D:=if OvE ns ls ss q=0 then .sl (fd (SK ss f ls (mI ns.length (cB ns ls) q) ls.length)) else .nils
variable {C : CC} (hC : aj prog C)
include hC
end Go.Gv

namespace Go.Gv
variable {C : CC} (hC : aj prog C)
include hC
theorem zJ (b b' : Bool) (xs ys : List (List UInt8)) (hx : xs.length < 2 ^ 62) (hy : ys.length < 2 ^ 62) : C 435 [slx b (fd xs),slx b' (fd ys)] (.bool (decide (xs=ys))) []:=by
 obtain ⟨r,hr⟩ : ∃ r,r=decide (xs=ys):=⟨_,rfl⟩
 rw [<- hr]
 refine start hC (nf:=N435) rfl rfl ?_
 simp [N435,fd]
 refine ac (fun h=>?_) (fun h=>?_) <;> simp at h <;> simp [h]
 ·rw [hr,decide_eq_false]
  intro e
  exact h (by rw [e])
 have h' : xs.length=ys.length:=by omega
 refine ar Nat (fun i=>[(0,slx b (fd xs)),(1,slx b' (fd ys)),(12,.int .i64 xs.length),(13,.int .i64 i)])
  (fun i=>i <= xs.length /\ ∀ (k : Nat) (h1 : k < xs.length) (h2 : k < ys.length),k < i -> xs[k]=ys[k]) (fun i=>xs.length - i) 0 (by simp) (by simp [h',fd]) ?_
 rintro i ⟨hi,hok⟩
 simp [fd]
 refine ac (fun h1=>?_) (fun h1=>?_) <;> simp at h1 <;> simp [h1]
 ·have hw : IntKind.wrap .i64 ((i : Int) + 1)=((i + 1 : Nat) : Int):=ah (by omega) (by omega)
  have hy1 : i < ys.length:=by omega
  simp [h1,hy1]
  refine ⟨am (by decide +kernel),?_⟩
  by_cases h2 : xs[i]=ys[i]
  ·simp [h2,hw]
   refine ⟨i + 1,⟨by omega,fun k hk hk' hki=>?_⟩,by omega,by omega⟩
   rcases Nat.lt_succ_iff_lt_or_eq.1 hki with h3 | rfl
   ·exact hok k hk hk' h3
   ·exact h2
  ·simp [h2]
   rw [hr,decide_eq_false]
   intro e
   subst e
   exact h2 rfl
 ·rw [hr]
  have : xs=ys:=by
   apply List.ext_getElem h'
   intro k a1 a2
   exact hok k a1 a2 (by omega)
  simp [this]
end Go.Gv

namespace Go.Gv
def trn (es : List Edg) : List Edg:=es.map fun e=>(e.2,e.1)
def ee (ns : List Nod) (k : Nat) : List UInt8:=(ns[k]?.map (·.name)).getD []
def nmT (ns : List Nod) (f : Nat -> Bool) : Nat -> List (List UInt8)
 | 0=>[]
 | k + 1=>nmT ns f k++(if f k=true then [ee ns k] else [])
theorem uD {ns : List Nod} {k : Nat} (h : k < ns.length) : ee ns k=ns[k].name:=by simp [ee,h]
def trA (es : List Edg) (j : Nat) : List (List D):=(List.range es.length).map fun k=>edK (if k < j then (es[k]!.2,es[k]!.1) else es[k]!)
def ML (ns : List Nod) (nm : List UInt8) : Int:=if 0 <= bv (dB nm) ns then 0 else 9
noncomputable def MM (ns : List Nod) (te : List Edg) (nm : List UInt8) : List (List UInt8):=nmT ns (rB te (tgs te (bv (dB nm) ns).toNat)) ns.length
noncomputable def MN (ns : List Nod) (te : List Edg) (nm : List UInt8) : D:=if 0 <= bv (dB nm) ns then .sl (fd (MM ns te nm)) else .nils
variable {C : CC} (hC : aj prog C)
include hC
def Rd (ns : List Nod) (ls : List Lnk) (nm : List UInt8) : Int:=if bq ns ls=true then ML ns nm else 1
noncomputable def Re (ns : List Nod) (ls : List Lnk) (nm : List UInt8) : D:=if bq ns ls=true then MN ns (trn (cB ns ls)) nm else .nils
end Go.Gv

namespace Go.Gv
def Th (n : Nat) (out : Nat -> Bool) : Nat:=wtS (fun v=>if out v=true then 0 else 1) n
variable {C : CC} (hC : aj prog C)
include hC
end Go.Gv

namespace Go.Gv
noncomputable def S2 (es : List Edg) (x : Nat) : Nat -> Bool:=rB (trn es) (tgs (trn es) x)
variable {C : CC} (hC : aj prog C)
include hC
noncomputable def upX (ns : List Nod) (ls : List Lnk) (x v : Nat) : Bool:=if v=x then true else S2 (cB ns ls) x v
end Go.Gv

namespace Go.Gv
def CQ (n : Nod) : Bool:=decide (110 < n.shape.length) || decide (100 < n.name.length)
def CP (l : Lnk) : Bool:=decide (110 < l.curve.length) || decide (100 < l.name.length) || decide (100 < l.src.length) || decide (100 < l.dst.length) || decide (100 < l.sect.length)
def CR (s : Sec) : Bool:=decide (110 < s.area.length) || decide (110 < s.conv.length) || decide (100 < s.name.length)
def PN (ns : List Nod) (ls : List Lnk) (ss : List Sec) (k : Nat) : Bool:=decide (12 < ns.length) || decide (20 < ls.length) || decide (12 < ss.length) || decide (25 < k) || ns.any CQ || ls.any CP || ss.any CR
def BO (nm : UInt8) : Nod:=⟨[nm],1,0,0,0,9,false,[(0,0),(9,5)],false,0⟩
def BN (nm a b : UInt8) : Lnk:=⟨[nm],[a],[b],1,5,3,0,[115],0,0,true,[]⟩
def exN : List Nod:=[BO 97,BO 98,⟨[111],3,0,0,0,0,true,[],false,0⟩]
def Tz : List Lnk:=[BN 112 97 98,BN 113 98 111]
variable {C : CC} (hC : aj prog C)
include hC
end Go.Gv

namespace Go.Gv
variable {C : CC} (hC : aj prog C)
include hC
end Go.Gv

namespace Go.Gv
structure sy (s : Sec) (fall len : Int) (y : Sp) : Prop where
 lo : 0 <= y.1
 hi : y.1 <= s.height
 fl : y.2 <= 1099511627776
 yes : y.2 <= (tP s y.1 fall len : Int)
 no : 0 < y.1 -> (tP s (y.1 - 1) fall len : Int) < y.2
theorem sy.cap {s : Sec} {fall len : Int} {y : Sp} (h : sy s fall len y) (hs : dt s=true) (hf : ij fall len=true) : (tO s y.1 fall len).2=5 \/ ((tO s y.1 fall len).2=0 /\ y.2 <= (tO s y.1 fall len).1):=by
 have:=h.yes
 unfold tO
 rw [if_pos hs,if_pos ⟨h.lo,h.hi,hf⟩]
 split
 ·exact .inl rfl
 ·exact .inr ⟨rfl,this⟩
variable {C : CC} (hC : aj prog C)
include hC
end Go.Gv

namespace Go.Gv
variable {C : CC} (hC : aj prog C)
include hC
end Go.Gv

namespace Go.Gv
def ptN (at' : List Int) (i : Nat) (s : Sp) : Int:=if at'.length=0 then s.1 else s.1 + at'[i % at'.length]! % (s.2 - s.1 + 1)
def SM (at' : List Int) (i : Nat) (s : Sp) : Sp:=(ptN at' i s,ptN at' i s)
def ptL (at' : List Int) (q : List Sp) : List Sp:=(List.range q.length).map fun i=>SM at' i q[i]!
def TD (a b : Sp) : Bool:=decide (b.1 <= a.1) && decide (a.2 <= b.2)
variable {C : CC} (hC : aj prog C)
include hC
end Go.Gv

namespace Go.Gv
structure Tw (a b : List Sp) : Prop where
 len : b.length=a.length
 get : ∀ (i : Nat) (h : i < a.length) (h' : i < b.length),0 <= a[i].1 /\ a[i].1 <= b[i].1 /\ b[i].1=b[i].2 /\ b[i].2 <= a[i].2
end Go.Gv

namespace Go.Gv
theorem Pth.wat {es : List Edg} (hnd : (es.map (·.1)).Nodup) {v x : Nat} (h : Pth es v x) : ∃ m,wat es m v=some x:=by
 have cons : ∀ {u v : Nat},(u,v) ∈ es -> ∀ m,Go.Gv.wat es (m + 1) u=Go.Gv.wat es m v:=fun {u v} e m=>by
  induction m with
  | zero=>show (some u).bind (stp es)=some v;exact EB hnd e
  | succ m ih =>
   show (Go.Gv.wat es (m + 1) u).bind (stp es)=(Go.Gv.wat es m v).bind (stp es)
   rw [ih]
 induction h with
 | refl v=>exact ⟨0,rfl⟩
 | step e _ ih =>
  obtain ⟨m,hm⟩:=ih
  exact ⟨m + 1,by rw [cons e];exact hm⟩
theorem Pth.turn {es : List Edg} {v x : Nat} (h : Pth es v x) : Pth (trn es) x v:=by
 induction h with
 | refl v=>exact .refl v
 | step e _ ih=>exact ih.snoc (List.mem_map.2 ⟨_,e,rfl⟩)
def Tt (q : List Sp) (f : Nat -> Bool) (k : Nat) : Sp:=(qP (fun v=>if f v=true then q[v]!.1 else 0) k,qP (fun v=>if f v=true then q[v]!.2 else 0) k)
variable {C : CC} (hC : aj prog C)
include hC
end Go.Gv

namespace Go.Gv
noncomputable def wyB (es : List Edg) (i k : Nat) : Bool:=rB es (tgs es i) k
theorem qp {es : List Edg} {i k : Nat} : k ∈ tgs es i ↔ (i,k) ∈ es:=sZ
theorem tA {es : List Edg} {i k : Nat} : wyB es i k=true ↔ ∃ s,(i,s) ∈ es /\ Pth es s k:=by
 unfold wyB
 rw [rZ]
 constructor
 ·rintro ⟨s,h1,h2⟩
  exact ⟨s,qp.1 h1,h2⟩
 ·rintro ⟨s,h1,h2⟩
  exact ⟨s,qp.2 h1,h2⟩
section
variable (n : Nat) (R : Nat -> Nat -> Bool)
def uC (i k : Nat) : Bool:=R i k && R k i
def rS (i k : Nat) : Bool:=(List.range i).any fun j=>decide (j < k) && uC R j k
def lpL (i : Nat) : List Nat:=(List.range n).filter fun k=>decide (k=i) || (decide (i < k) && uC R i k)
def Lo : Nat -> List (List Nat)
 | 0=>[]
 | i + 1=>Lo i++(if rS R i i || !R i i then [] else [lpL n R i])
variable {n R}
def DL (R : Nat -> Nat -> Bool) (i k : Nat) : Bool:=(List.range i).any fun j=>uC R j k
end
end Go.Gv

namespace Go.Gv
theorem oJ.closed {n : Nat} {es : List Edg} {out : List Nat} (h : oJ n es out) {u v : Nat} (hp : Pth es u v) (hv : v ∈ out) : u ∈ out:=by
 induction hp with
 | refl v=>exact hv
 | step e _ ih=>exact h.pre _ (ih hv) _ e
end Go.Gv

namespace Go.Gv
noncomputable def jA (n : Nat) (es : List Edg) (j : Nat) : List (List D):=(List.range j).map fun i=>[D.sl (bi n (rB es [i]))]
theorem j6 (n : Nat) (es : List Edg) (j : Nat) : (jA n es j).length=j:=by simp [jA]
theorem tU (n : Nat) (es : List Edg) : jA n es 0=[]:=rfl
theorem tT (n : Nat) (es : List Edg) (j : Nat) : jA n es j++[[D.sl (bi n (rB es [j]))]]=jA n es (j + 1):=by simp [jA,List.range_succ]
theorem C6 (n : Nat) (es : List Edg) (j : Nat) : (jA n es j).map (fun e=>e.map aH)=jA n es j:=by
 unfold jA
 rw [List.map_map]
 apply List.map_congr_left
 intro v _
 simp [aH]
theorem vT {n : Nat} {es : List Edg} {j i : Nat} (h : i < j) : (jA n es j)[i]? = some [D.sl (bi n (rB es [i]))]:=by simp [jA,h]
def lm (n j : Nat) : List (List D):=(List.range n).map fun i=>[D.own 1 (if i < j then bi n (fun _=>false) else [])]
def fH (n : Nat) (f : Nat -> Nat -> Bool) : List (List D):=(List.range n).map fun i=>[D.own 1 (bi n (f i))]
theorem wZ {n j i : Nat} (h : i < n) : (lm n j)[i]? = some [D.own 1 (if i < j then bi n (fun _=>false) else [])]:=by simp [lm,h]
theorem xa {n j : Nat} : (lm n j).set j [D.own 1 (bi n fun _=>false)]=lm n (j + 1):=by
 unfold lm
 rw [lD]
 apply List.map_congr_left
 intro v _
 by_cases e : v=j
 ·subst e;simp
 ·have : (v < j)=(v < j + 1):=by apply propext;omega
  simp only [if_neg e,this]
theorem uk (n : Nat) : List.replicate n [D.own 1 []]=lm n 0:=by simp [lm,List.map_const']
theorem wY (n : Nat) : lm n n=fH n fun _ _=>false:=by
 unfold lm fH
 apply List.map_congr_left
 intro v hv
 rw [if_pos (by simpa using hv)]
theorem iT (n : Nat) (f : Nat -> Nat -> Bool) : (fH n f).length=n:=by simp [fH]
theorem xK {n i : Nat} (f : Nat -> Nat -> Bool) (h : i < n) : (fH n f)[i]? = some [D.own 1 (bi n (f i))]:=by simp [fH,h]
theorem xL {n i k : Nat} (f : Nat -> Nat -> Bool) (x : Bool) : (fH n f).set i [D.own 1 ((bi n (f i)).set k [.bool x])]=fH n fun u v=>if u=i /\ v=k then x else f u v:=by
 unfold fH
 rw [lD]
 apply List.map_congr_left
 intro v _
 by_cases e : v=i
 ·subst e
  rw [if_pos rfl,gA]
  congr 3
  funext u
  simp
 ·rw [if_neg e]
  congr 3
  funext u
  simp [e]
theorem Eh (n : Nat) (f : Nat -> Nat -> Bool) : (fH n f).map (fun e=>e.map aH)=(List.range n).map fun i=>[D.sl (bi n (f i))]:=by
 unfold fH
 rw [List.map_map]
 apply List.map_congr_left
 intro v _
 simp [aH]
noncomputable def wyJ (es : List Edg) (j : Nat) (i k : Nat) : Bool:=(es.take j).any fun e=>decide (e.1=i) && rB es [e.2] k
noncomputable def wyK (es : List Edg) (j c : Nat) (i k : Nat) : Bool:=if k < c then wyJ es (j + 1) i k else wyJ es j i k
theorem yx (es : List Edg) : wyJ es 0=fun _ _=>false:=by funext i k;simp [wyJ]
theorem yw {es : List Edg} {j : Nat} (h : j < es.length) (i k : Nat) : wyJ es (j + 1) i k=(wyJ es j i k || (decide (es[j].1=i) && rB es [es[j].2] k)):=by
 unfold wyJ
 rw [List.take_succ_eq_append_getElem h,List.any_append]
 simp
theorem Bm (es : List Edg) (i k : Nat) : wyJ es es.length i k=wyB es i k:=by
 rw [Bool.eq_iff_iff,tA]
 unfold wyJ
 rw [List.take_length]
 simp only [List.any_eq_true,Bool.and_eq_true,decide_eq_true_eq,rZ]
 constructor
 ·rintro ⟨⟨a,b⟩,h1,rfl,s,hs,hp⟩
  simp at hs;subst hs
  exact ⟨s,h1,hp⟩
 ·rintro ⟨s,h1,hp⟩
  exact ⟨(i,s),h1,rfl,s,by simp,hp⟩
theorem yy {es : List Edg} {j c n : Nat} (h : j < es.length) {x : Bool} (hx : x=(wyJ es j es[j].1 c || rB es [es[j].2] c)) : fH n (fun u v=>if u=es[j].1 /\ v=c then x else wyK es j c u v)=fH n (wyK es j (c + 1)):=by
 congr 1
 funext u v
 unfold wyK
 by_cases e2 : v=c
 ·subst e2
  rw [if_neg (Nat.lt_irrefl v),if_pos (Nat.lt_succ_self v),yw h]
  by_cases e1 : u=es[j].1
  ·subst e1;simp [hx]
  ·have : ¬ es[j].1=u:=fun e=>e1 e.symm
   simp [e1,this]
 ·have e3 : (v < c)=(v < c + 1):=by apply propext;omega
  simp only [e2,and_false,if_false,e3]
noncomputable def yp (n : Nat) (es : List Edg) : D:=.sl ((List.range n).map fun i=>[.sl (bi n (wyB es i))])
variable {C : CC} (hC : aj prog C)
include hC
theorem zN (hS : SlC C) {b : Bool} {n : Nat} {es : List Edg} (hn : n <= 300) (he : es.length <= 1000) (hg : inG n es) : C 635 [.int .i64 n,slx b (es.map edK)] (.tup [.sl (jA n es n),.int .i64 0]) []:=by
 have k0:=wI hC b n (es.map edI) (by simp;omega)
 rw [<- za,Dr hC hn he hg] at k0
 have k1:=Eb hC hS (b:=b) hn he hg
 refine start hC (nf:=N635) rfl rfl ?_
 simp [N635]
 refine aa k0 (.inl rfl) ?_
 simp
 refine aa k1 (.inr rfl) ?_
 obtain ⟨X,hX⟩ : ∃ X,uF n es=.sl X:=⟨_,rfl⟩
 simp [hX]
 refine ar Nat (fun j=>[(6,.sl X),(7,.ref (.r 10112) 0 j),(10112,.blk 1 (jA n es j)),(16,.int .i64 n),(17,.int .i64 j)]) (fun j=>j <= n) (fun j=>n - j) 0 (by simp) (by simp [tU]) ?_
 intro j hj
 simp
 refine ac (fun h=>?_) (fun h=>?_) <;> simp at h
 ·have hw : IntKind.wrap .i64 ((j : Int) + 1)=((j + 1 : Nat) : Int):=ah (by omega) (by omega)
  have k2:=Ay hC (b:=false) hn hg [j] (by simp;omega) (by simp)
  rw [hX] at k2
  simp [h]
  refine aa k2 (.inr rfl) ?_
  simp [j6]
  have e : List.take j (jA n es j)=jA n es j:=List.take_of_length_le (by rw [j6];exact Nat.le_refl _)
  exact ⟨by omega,j + 1,by omega,by omega,rfl,by rw [e,tT],hw⟩
 ·have ej : j=n:=by omega
  subst ej
  simp [h,j6,C6]
  exact (List.take_of_length_le (by rw [j6];exact Nat.le_refl _)).symm
theorem rn (b1 b2 : Bool) (ns : List Nod) (ls : List Lnk) (hv : bq ns ls=true) (hcv : ∀ l ∈ ls,l.curve.length < 2 ^ 62) : C 627 [.agg [slx b1 (ns.map aQ),slx b2 (ls.map aD)]] (.sl ((cB ns ls).map edK)) []:=by
 have k1:=vt hC b1 b2 ns ls hcv
 rw [hv] at k1
 simp only [if_true] at k1
 refine start hC (nf:=N627) rfl rfl ?_
 simp [N627]
 refine aa k1 (.inr rfl) ?_
 simp
set_option maxHeartbeats 2000000 in
theorem yT (hS : SlC C) (b1 b2 : Bool) (ns : List Nod) (ls : List Lnk) (hv : bq ns ls=true) (hcv : ∀ l ∈ ls,l.curve.length < 2 ^ 62) : C 600 [.agg [slx b1 (ns.map aQ),slx b2 (ls.map aD)]] (yp ns.length (cB ns ls)) []:=by
 have hn : ns.length <= 300:=(cF hv).1
 have he : (cB ns ls).length <= 1000:=by rw [fR];have:=(cF hv).2;omega
 have hg : inG ns.length (cB ns ls):=mf hv
 have k1:=rn hC b1 b2 ns ls hv hcv
 have k2:=zN hC hS (b:=false) hn he hg
 rw [bu] at k2
 generalize cB ns ls=es at *
 obtain ⟨X,hX,hXg⟩ : ∃ X,X=jA ns.length es ns.length /\ ∀ i,i < ns.length -> X[i]? = some [D.sl (bi ns.length (rB es [i]))]:=⟨_,rfl,fun i hi=>vT hi⟩
 rw [<- hX] at k2
 clear hX
 refine start hC (nf:=N600) rfl rfl ?_
 simp [N600]
 refine aa k1 (.inr rfl) ?_
 simp
 refine aa k2 (.inr rfl) ?_
 simp [uk]
 refine ⟨by omega,?_⟩
 refine ar Nat (fun j=>[(1,.ptr [slx b1 (ns.map aQ),slx b2 (ls.map aD)]),(3,.sl (es.map edK)),(4,.sl X),(6,.ref (.r 10096) 0 ns.length),(10096,.blk 1 (lm ns.length j)),(27,.int .i64 ns.length),(28,.int .i64 j)]) (fun j=>j <= ns.length) (fun j=>ns.length - j) 0 (by simp) (by simp) ?_
 intro j hj
 simp
 refine ac (fun h=>?_) (fun h=>?_) <;> simp at h
 ·have hw : IntKind.wrap .i64 ((j : Int) + 1)=((j + 1 : Nat) : Int):=ah (by omega) (by omega)
  have hg0:=wZ (j:=j) h
  rw [if_neg (Nat.lt_irrefl j)] at hg0
  simp [h,hw,hg0]
  have e1 : (lm ns.length j).set j [D.own 1 (List.replicate ns.length [D.bool false])]=lm ns.length (j + 1):=by
   rw [<- xa]
   congr 3
   simp [bi,ml]
  rw [e1]
  exact ⟨by omega,j + 1,by omega,by omega,rfl,rfl⟩
 ·have ej : j=ns.length:=by omega
  subst ej
  have e2 : lm ns.length ns.length=fH ns.length (wyJ es 0):=by rw [wY,yx]
  simp [h,e2]
  refine ar Nat (fun j=>[(4,.sl X),(6,.ref (.r 10096) 0 ns.length),(10096,.blk 1 (fH ns.length (wyJ es j))),(39,.sl (es.map edK)),(40,.int .i64 es.length),(41,.int .i64 j)]) (fun j=>j <= es.length) (fun j=>es.length - j) 0 (by simp) (by simp) ?_
  intro j hj
  simp
  refine ac (fun h=>?_) (fun h=>?_) <;> simp at h
  ·have hw : IntKind.wrap .i64 ((j : Int) + 1)=((j + 1 : Nat) : Int):=ah (by omega) (by omega)
   have hin:=hg es[j] (List.getElem_mem _)
   obtain ⟨i,e,hie⟩ : ∃ i e,es[j]=(i,e):=⟨_,_,rfl⟩
   simp [hie] at hin
   simp [h,edK,knD,hie,au (hXg e hin.2)]
   have hB:=b9 ns.length (rB es [e])
   rw [hB]
   refine ar Nat (fun c=>[(4,.sl X),(6,.ref (.r 10096) 0 ns.length),(9,.adr (.r 10144) 0 0),(39,.sl (es.map edK)),(40,.int .i64 es.length),(41,.int .i64 j),(49,.sl (bi ns.length (rB es [e]))),(50,.int .i64 ns.length),(51,.int .i64 c),(10096,.blk 1 (fH ns.length (wyK es j c))),(10144,.blk 2 [[.int .i64 i,.int .i64 e]])]) (fun c=>c <= ns.length) (fun c=>ns.length - c) 0 (by simp) (by
    have : fH ns.length (wyK es j 0)=fH ns.length (wyJ es j):=by unfold wyK;simp
    simp [this]) ?_
   intro c hc
   simp
   refine ac (fun h2=>?_) (fun h2=>?_) <;> simp at h2
   ·have hw2 : IntKind.wrap .i64 ((c : Int) + 1)=((c + 1 : Nat) : Int):=ah (by omega) (by omega)
    have hrow:=xK (wyK es j c) hin.1
    have hcell:=cA (wyK es j c i) h2
    have hval : wyK es j c i c=wyJ es j i c:=by simp [wyK]
    have hset : ∀ x,x=(wyJ es j i c || rB es [e] c) -> (fH ns.length (wyK es j c)).set i [D.own 1 ((bi ns.length (wyK es j c i)).set c [D.bool x])]=fH ns.length (wyK es j (c + 1)):=fun x hx=>by
     rw [xL]
     have:=yy (n:=ns.length) (c:=c) h (x:=x) (by rw [hie];exact hx)
     rw [hie] at this
     exact this
    have hrowE : (fH ns.length (wyK es j c))[i]'(by rw [iT];exact hin.1)=[D.own 1 (bi ns.length (wyK es j c i))]:=(List.getElem?_eq_some_iff.1 hrow).2
    simp [h2,hw2,au (cA (rB es [e]) h2),az hrow,hrow,hin.1,iT,b9,hrowE,az hcell,hval]
    have hcellE : (bi ns.length (wyK es j c i))[c]'(by rw [b9];exact h2)=[D.bool (wyJ es j i c)]:=(List.getElem?_eq_some_iff.1 hcell).2.trans (by rw [hval])
    refine ac (fun hv1=>?_) (fun hv1=>?_)
    ·have e3:=hset true (by rw [hv1];rfl)
     rw [hv1]
     simp [hrow,hrowE,hin.1,h2,iT,b9,az hrow,az hcell,hval,hcellE,e3,hw2]
     exact ⟨am (by decide +kernel),c + 1,by omega,by omega,by omega,rfl⟩
    ·have e3:=hset (rB es [e] c) (by rw [hv1];rfl)
     rw [hv1]
     simp [hrow,hrowE,hin.1,h2,iT,b9,az hrow,az hcell,hval,hcellE,e3,hw2]
     exact ⟨am (by decide +kernel),c + 1,by omega,by omega,by omega,rfl⟩
   ·have ec : c=ns.length:=by omega
    subst ec
    have e4 : fH ns.length (wyK es j ns.length)=fH ns.length (wyJ es (j + 1)):=by
     unfold fH
     apply List.map_congr_left
     intro u _
     rw [f7 (g:=wyJ es (j + 1) u) fun v hv=>by simp [wyK,hv]]
    simp [h2,hw,e4]
    exact ⟨j + 1,by omega,by omega,rfl,by omega⟩
  ·have ej : j=es.length:=by omega
   subst ej
   simp [h,iT,Eh]
   unfold yp
   rw [List.take_of_length_le (by simp)]
   congr 1
   apply List.map_congr_left
   intro i _
   rw [f7 fun v _=>Bm es i v]
end Go.Gv

namespace Go.Gv
def l3 (ns : List Nod) (k : Nat) : Int:=(ns[k]?.map (·.kind)).getD 0
theorem m0 {ns : List Nod} {k : Nat} (h : k < ns.length) : l3 ns k=ns[k].kind:=by simp [l3,h]
def gz (l : Lnk) : Bool:=decide (l.kind=1) && decide (l.up < l.down)
noncomputable def mT (ns : List Nod) (es : List Edg) (i : Nat) : Bool:=!decide (l3 ns i=3) && !((List.range ns.length).any fun k=>wyB es i k && decide (l3 ns k=3))
def lmT (ls : List Lnk) (f : Lnk -> Bool) (j : Nat) : List (List UInt8):=((ls.take j).filter f).map (·.name)
theorem xm (ls : List Lnk) (f : Lnk -> Bool) : lmT ls f 0=[]:=by simp [lmT]
theorem xk {ls : List Lnk} (f : Lnk -> Bool) {j : Nat} (h : j < ls.length) : lmT ls f (j + 1)=lmT ls f j++(if f ls[j]=true then [ls[j].name] else []):=by
 unfold lmT
 rw [List.take_succ_eq_append_getElem h,List.filter_append,List.map_append]
 by_cases e : f ls[j]=true <;> simp [e]
theorem Ai (ls : List Lnk) (f : Lnk -> Bool) (j : Nat) : (lmT ls f j).length <= j:=by
 unfold lmT
 rw [List.length_map]
 exact Nat.le_trans (List.length_filter_le _ _) (by simp;omega)
theorem yj (l : List (List UInt8)) : ∀ e ∈ fd l,∀ c ∈ e,av c=true:=by
 intro e he c hc
 obtain ⟨x,_,rfl⟩:=List.mem_map.1 he
 simp at hc;subst hc;rfl
theorem vj (l : List (List UInt8)) (s : List UInt8) : fd l++[[.str s]]=fd (l++[s]):=by simp [fd]
theorem tu (l : List (List UInt8)) : (fd l).take l.length=fd l:=List.take_of_length_le (by rw [nA];exact Nat.le_refl _)
def TG (R : Nat -> Nat -> Bool) (i k : Nat) : List Nat:=(List.range k).filter fun k'=>decide (k'=i) || (decide (i < k') && uC R i k')
def lpS (R : Nat -> Nat -> Bool) (i k v : Nat) : Bool:=if v < k then rS R (i + 1) v else rS R i v
def lpR (ns : List Nod) (l : List (List Nat)) : List (List D):=l.map fun x=>[.own 1 (fd (x.map (ee ns)))]
def TH (l : List (List (List UInt8))) : List (List D):=l.map fun x=>[.sl (fd x)]
noncomputable def Te (ns : List Nod) (es : List Edg) : List (List (List UInt8)):=(Lo ns.length (wyB es) ns.length).map fun x=>x.map (ee ns)
variable {C : CC} (hC : aj prog C)
include hC
theorem vH (l : Lnk) : C 601 [.agg (aD l)] (.bool (gz l)) []:=by
 refine start hC (nf:=N601) rfl rfl ?_
 simp [N601,aD]
 unfold gz
 refine ac (fun h=>?_) (fun h=>?_) <;> simp at h <;> simp [h]
theorem xd (b1 b2 : Bool) (ns : List Nod) (ls : List Lnk) (es : List Edg) (i : Nat) (hn : ns.length <= 300) (hi : i < ns.length) : C 602 [.agg [slx b1 (ns.map aQ),slx b2 (ls.map aD)],yp ns.length es,.int .i64 i] (.bool (mT ns es i)) []:=by
 obtain ⟨X,hX,hXg⟩ : ∃ X,yp ns.length es=.sl X /\ ∀ i,i < ns.length -> X[i]? = some [D.sl (bi ns.length (wyB es i))]:=⟨_,rfl,fun i hi=>by simp [hi]⟩
 rw [hX]
 have hB:=b9 ns.length (wyB es i)
 refine start hC (nf:=N602) rfl rfl ?_
 simp [N602,aQ,hi]
 unfold mT
 rw [m0 hi]
 refine ac (fun h=>?_) (fun h=>?_) <;> simp at h
 ·simp [h]
 ·simp [h,au (hXg i hi),hB]
  refine ar Nat (fun c=>[(3,.ptr [slx b1 (ns.map aQ),slx b2 (ls.map aD)]),(19,.sl (bi ns.length (wyB es i))),(20,.int .i64 ns.length),(21,.int .i64 c)]) (fun c=>c <= ns.length /\ ∀ k,k < c -> (wyB es i k && decide (l3 ns k=3))=false) (fun c=>ns.length - c) 0 ⟨by omega,by simp⟩ (by simp) ?_
  rintro c ⟨hc,hf⟩
  simp
  refine ac (fun h2=>?_) (fun h2=>?_) <;> simp at h2
  ·have hw2 : IntKind.wrap .i64 ((c : Int) + 1)=((c + 1 : Nat) : Int):=ah (by omega) (by omega)
   simp [h2,au (cA (wyB es i) h2)]
   refine ac (fun h3=>?_) (fun h3=>?_)
   ·simp [h3,h2,aQ]
    refine ac (fun h4=>?_) (fun h4=>?_) <;> simp at h4
    ·have : ((List.range ns.length).any fun k=>wyB es i k && decide (l3 ns k=3))=true:=List.any_eq_true.2 ⟨c,by simpa using h2,by simp [h3,m0 h2,h4]⟩
     simp [h4,this]
    ·simp [h4,hw2]
     refine ⟨c + 1,⟨by omega,fun k hk=>?_⟩,by omega,by omega⟩
     rcases (show k < c \/ k=c by omega) with h5 | rfl
     ·have:=hf k h5
      simpa using this
     ·simp [m0 h2,h4]
   ·simp [h3,hw2]
    refine ⟨c + 1,⟨by omega,fun k hk=>?_⟩,by omega,by omega⟩
    rcases (show k < c \/ k=c by omega) with h5 | rfl
    ·have:=hf k h5
     simpa using this
    ·simp [h3]
  ·have ec : c=ns.length:=by omega
   subst ec
   have : ((List.range ns.length).any fun k=>wyB es i k && decide (l3 ns k=3))=false:=by
    rw [List.any_eq_false]
    intro k hk
    rw [hf k (by simpa using hk)];simp
   simp [h2,h,this]
theorem tB (b1 b2 : Bool) (ns : List Nod) (ls : List Lnk) (hcv : ∀ l ∈ ls,l.curve.length < 2 ^ 62) : C 556 [.agg [slx b1 (ns.map aQ),slx b2 (ls.map aD)]] (.tup (if bq ns ls then [.sl (fd (lmT ls gz ls.length)),.int .i64 0] else [.nils,.int .i64 1])) []:=by
 have k0:=jo hC b1 b2 ns ls hcv
 refine start hC (nf:=N556) rfl rfl ?_
 simp [N556]
 refine aa k0 (.inl rfl) ?_
 cases hv : bq ns ls
 ·simp
 have hl:=(cF hv).2
 simp
 refine ar Nat (fun j=>[(4,.ref (.r 10064) 0 (lmT ls gz j).length),(10064,.blk 1 (fd (lmT ls gz j))),(11,slx b2 (ls.map aD)),(12,.int .i64 ls.length),(13,.int .i64 j)]) (fun j=>j <= ls.length) (fun j=>ls.length - j) 0 (by simp) (by simp [xm,fd]) ?_
 intro j hj
 simp
 refine ac (fun h=>?_) (fun h=>?_) <;> simp at h
 ·have hw : IntKind.wrap .i64 ((j : Int) + 1)=((j + 1 : Nat) : Int):=ah (by omega) (by omega)
  have k1:=vH hC ls[j]
  have hs:=xk gz h
  have hlen:=Ai ls gz j
  have ht:=tu (lmT ls gz j)
  have hc:=yj (lmT ls gz j)
  simp [h,aD]
  refine aa (by simpa [aD] using k1) (.inr rfl) ?_
  simp
  refine ac (fun h2=>?_) (fun h2=>?_)
  ·rw [if_pos h2] at hs
   simp [h2,nA,ht,vj,hw]
   exact ⟨by omega,j + 1,by omega,by omega,by rw [hs];simp,by rw [hs],by omega⟩
  ·rw [if_neg (by rw [h2];simp),List.append_nil] at hs
   simp [h2,hw]
   exact ⟨j + 1,by omega,by omega,by rw [hs],by rw [hs],by omega⟩
 ·have ej : j=ls.length:=by omega
  subst ej
  simp [h,nA,EC,tu]
end Go.Gv

namespace Go.Gv
theorem uj {α : Type} {p : α -> Bool} {xs : List α} (h : 0 <= bv p xs) : ∃ h : (bv p xs).toNat < xs.length,p xs[(bv p xs).toNat]=true:=by
 have key : ∀ i : Nat,bv p xs=(i : Int) -> ∃ h : i < xs.length,p xs[i]=true:=by
  intro i h
  unfold bv at h
  cases e : xs.findIdx? p with
  | none=>rw [e] at h;simp at h
  | some k =>
   rw [e] at h
   obtain ⟨h1,h2,_⟩:=List.findIdx?_eq_some_iff_getElem.1 e
   have ek : k=i:=by have h : (k : Int)=(i : Int):=h;omega
   subst ek
   exact ⟨h1,h2⟩
 exact key _ (by omega)
variable {C : CC} (hC : aj prog C)
include hC
end Go.Gv

namespace Go.Gv
def i7 (s : Sec) : Bool:=ci s.name && decide (1 <= s.height) && decide (s.height <= 32768)
def il (l : List Sec) : Bool:=decide (l.length <= 40) && l.all i7 && decide ((l.map (·.name)).Nodup)
def hgF (l : List Sec) (k : Lnk) : Int:=if k.kind=1 then (match l.find? (fun s=>s.name == k.sect) with | some s=>s.height | none=>-1) else -1
def hgA (l : List Sec) (ls : List Lnk) : List (List D):=ls.map fun k=>[.int .i64 (hgF l k)]
theorem bj (l : List Sec) (ls : List Lnk) : (hgA l ls).length=ls.length:=by simp [hgA]
theorem mg (l : List Sec) {ls : List Lnk} {i : Nat} (h : i < ls.length) : (hgA l ls)[i]? = some [.int .i64 (hgF l ls[i])]:=by simp [hgA,h]
def hgI (l : List Sec) (ls : List Lnk) (j : Nat) : List (List D):=(List.range ls.length).map fun i=>[.int .i64 (if i < j then ((ls[i]?).map (hgF l)).getD 0 else 0)]
theorem km (l : List Sec) (ls : List Lnk) (j : Nat) : (hgI l ls j).length=ls.length:=by simp [hgI]
theorem zV {l : List Sec} {ls : List Lnk} {j i : Nat} (h : i < ls.length) : (hgI l ls j)[i]? = some [.int .i64 (if i < j then ((ls[i]?).map (hgF l)).getD 0 else 0)]:=by simp [hgI,h]
theorem wQ (l : List Sec) (ls : List Lnk) : List.replicate ls.length [D.int .i64 0]=hgI l ls 0:=by simp [hgI,List.map_const']
theorem zW {l : List Sec} {ls : List Lnk} {j : Nat} (h : j < ls.length) : (hgI l ls j).set j [D.int .i64 (hgF l ls[j])]=hgI l ls (j + 1):=by
 unfold hgI
 rw [lD]
 apply List.map_congr_left
 intro v _
 by_cases e : v=j
 ·subst e;simp [h]
 ·have : (v < j)=(v < j + 1):=by apply propext;omega
  simp only [if_neg e,this]
theorem zU (l : List Sec) (ls : List Lnk) : hgI l ls ls.length=hgA l ls:=by
 apply List.ext_getElem (by simp [hgI,hgA])
 intro i h1 h2
 have h : i < ls.length:=by simpa [hgA] using h2
 simp [hgI,hgA,h]
def iu (nm : List UInt8) (s : Sec) : Bool:=s.name == nm
theorem zT (l : List Sec) {k : Lnk} (hk : k.kind=1) : hgF l k=if h : 0 <= bv (iu k.sect) l then (l[(bv (iu k.sect) l).toNat]?.map (·.height)).getD (-1) else -1:=by
 unfold hgF
 rw [if_pos hk]
 have hf : l.find? (fun s=>s.name == k.sect)=l.find? (iu k.sect):=rfl
 rw [hf]
 unfold bv
 cases e : l.findIdx? (iu k.sect) with
 | none =>
  have : l.find? (iu k.sect)=none:=by
   rw [List.find?_eq_none]
   exact fun x hx=>by have:=List.findIdx?_eq_none_iff.1 e x hx;simp [this]
  rw [this];simp
 | some i =>
  obtain ⟨h1,h2,h3⟩:=List.findIdx?_eq_some_iff_getElem.1 e
  have : l.find? (iu k.sect)=some l[i]:=by
   rw [List.find?_eq_some_iff_getElem]
   exact ⟨h2,i,h1,rfl,fun j hj=>by have:=h3 j hj;simpa using this⟩
  rw [this]
  have e1 : ((some i).map (fun i : Nat=>(i : Int))).getD (-1)=(i : Int):=rfl
  simp [h1]
variable {C : CC} (hC : aj prog C)
include hC
theorem vY (b1 b2 b3 : Bool) (ns : List Nod) (ls : List Lnk) (l : List Sec) (hcv : ∀ l ∈ ls,l.curve.length < 2 ^ 62) : C 587 [.agg [slx b1 (ns.map aQ),slx b2 (ls.map aD)],slx b3 (l.map dS)] (.bool (bq ns ls && il l)) []:=by
 have k0:=jo hC b1 b2 ns ls hcv
 refine start hC (nf:=N587) rfl rfl ?_
 simp [N587]
 refine aa k0 (.inl rfl) ?_
 cases hv : bq ns ls
 ·simp
 simp
 refine ac (fun h=>?_) (fun h=>?_) <;> simp at h
 ·simp [il];omega
 simp
 refine ar Nat (fun i=>[(5,.mrf 10256),(10256,.mp 0 1 (gm (l.take i)) (List.replicate i (.bool true))),(17,slx b3 (l.map dS)),(18,.int .i64 l.length),(19,.int .i64 i)])
  (fun i=>i <= l.length /\ (∀ x ∈ l.take i,i7 x=true) /\ ((l.map (·.name)).take i).Nodup) (fun i=>l.length - i) 0 (by simp) (by simp [gm]) ?_
 rintro i ⟨hi,hv,hn⟩
 simp
 refine ac (fun h3=>?_) (fun h3=>?_) <;> simp at h3
 ·have ht : l.take (i + 1)=l.take i++[l[i]]:=List.take_succ_eq_append_getElem h3
  have hg:=oq ((l.take i).map (·.name)).reverse i (by simp;omega) l[i].name
  rw [show ((l.take i).map (·.name)).reverse.map D.str=gm (l.take i) from rfl] at hg
  have hk : D.str l[i].name::gm (l.take i)=gm (l.take (i + 1)):=by
   rw [gm,gm,ht]
   simp only [List.map_append,List.map_cons,List.map_nil,List.reverse_append,List.reverse_cons,List.reverse_nil,List.nil_append,List.cons_append]
  have hlen : (gm (l.take i)).length < maxLen:=by
   have : (gm (l.take i)).length <= 40:=by simp [gm];omega
   unfold maxLen;omega
  have hw : IntKind.wrap .i64 ((i : Int) + 1)=((i + 1 : Nat) : Int):=ah (by omega) (by omega)
  have bad1 : i7 l[i]=false -> il l=false:=fun e=>by
   simp only [il,Bool.and_eq_false_iff,List.all_eq_false]
   exact .inl (.inr ⟨l[i],List.getElem_mem h3,by simp [e]⟩)
  have h5 : (l.map (·.name)).take (i + 1)=(l.map (·.name)).take i++[l[i].name]:=by
   rw [List.take_succ_eq_append_getElem (by simpa using h3)];simp
  have bad2 : l[i].name ∈ (l.map (·.name)).take i -> il l=false:=fun e=>by
   simp only [il,Bool.and_eq_false_iff,decide_eq_false_iff_not]
   right
   intro hnd
   have h6:=(List.take_sublist (i + 1) _).nodup hnd
   rw [h5,List.nodup_append] at h6
   exact h6.2.2 _ e _ (by simp) rfl
  simp [h3,dS]
  refine aa (gw hC l[i].name) (.inl rfl) ?_
  cases hvi : ci l[i].name
  ·have:=bad1 (by simp [i7,hvi])
   simp [this]
  ·have hnm : l[i].name.length <= maxLen:=by
    simp only [ci,Bool.and_eq_true,decide_eq_true_eq] at hvi
    unfold maxLen;omega
   simp [hg,hnm]
   refine ac (fun h4=>?_) (fun h4=>?_)
   ·have:=bad2 (by simpa using h4)
    simp [h4,this]
   ·have h4b : l[i].name ∉ (l.map (·.name)).take i:=by simpa using h4
    simp [h4]
    by_cases h6 : l[i].height < 1
    ·have:=bad1 (by simp [i7];omega)
     simp [h6,this]
    by_cases h7 : 32768 < l[i].height
    ·have:=bad1 (by simp [i7];omega)
     simp [h6,h7,this]
    simp [h6,h7,hlen,hnm,hw]
    refine ⟨i + 1,⟨by omega,?_,?_⟩,by omega,?_⟩
    ·intro x hx
     rw [ht] at hx
     rcases List.mem_append.1 hx with hx | hx
     ·exact hv x hx
     ·simp at hx;subst hx;simp [i7,hvi];omega
    ·rw [h5,List.nodup_append]
     refine ⟨hn,by simp,fun a ha b hb=>?_⟩
     simp at hb
     subst hb
     rintro rfl
     exact h4b ha
    ·rw [List.replicate_succ]
     exact ⟨⟨hk,rfl⟩,by omega⟩
 ·have hil : i=l.length:=by omega
  subst hil
  rw [List.take_of_length_le (by simp)] at hn
  simp at hv
  simp [il,hn]
  exact ⟨by omega,hv⟩
theorem Dw (s : Sec) (k : Lnk) : C 647 [.agg (dS s),.ptr (aD k)] (.bool (iu k.sect s)) []:=by
 refine start hC (nf:=N647) rfl rfl ?_
 simp [N647,dS,aD,iu]
 rw [Bool.eq_iff_iff];simp
theorem uh (b1 b2 b3 : Bool) (ns : List Nod) (ls : List Lnk) (l : List Sec) (hls : ls.length <= 400) (hl : l.length <= 40) : C 629 [.agg [slx b1 (ns.map aQ),slx b2 (ls.map aD)],slx b3 (l.map dS)] (.sl (hgA l ls)) []:=by
 refine start hC (nf:=N629) rfl rfl ?_
 simp [N629]
 rw [wQ l]
 refine ⟨by omega,?_⟩
 refine ar Nat (fun i=>[(1,slx b3 (l.map dS)),(5,.ref (.r 10080) 0 ls.length),(10080,.blk 1 (hgI l ls i)),(14,slx b2 (ls.map aD)),(15,.int .i64 ls.length),(16,.int .i64 i)]) (fun i=>i <= ls.length) (fun i=>ls.length - i) 0 (by simp) (by simp) ?_
 intro i hi
 simp
 refine ac (fun h=>?_) (fun h=>?_) <;> simp at h
 ·have hw : IntKind.wrap .i64 ((i : Int) + 1)=((i + 1 : Nat) : Int):=ah (by omega) (by omega)
  have hset:=zW (l:=l) h
  have hg1:=zV (l:=l) (j:=i) h
  rw [if_neg (Nat.lt_irrefl i)] at hg1
  have hm1:=fun x=>show (hgI l ls i).set i [D.int .i64 x]=(hgI l ls i).set i [D.int .i64 x] from rfl
  have hg1E : (hgI l ls i)[i]'(by rw [km];exact h)=[D.int .i64 0]:=(List.getElem?_eq_some_iff.1 hg1).2
  have k1:=p6 hC (b:=b3) (xs:=l) (g:=647) (cs:=[.ptr (aD ls[i])]) (iu ls[i].sect) (by omega) (fun x _=>Dw hC x ls[i])
  have hx:=zT l (k:=ls[i])
  simp [h,aD,km,hg1,hg1E]
  refine ac (fun h2=>?_) (fun h2=>?_) <;> simp at h2
  ·have hf : hgF l ls[i]=-1:=by unfold hgF;rw [if_neg h2]
   rw [hf] at hset
   simp [h2,hw,hset]
   exact ⟨i + 1,by omega,by omega,rfl,by omega⟩
  ·have hf:=hx h2
   simp [h2,aD] at k1 ⊢
   refine aa k1 (.inl rfl) ?_
   simp
   refine ac (fun h3=>?_) (fun h3=>?_) <;> simp at h3
   ·obtain ⟨hi1,_⟩:=uj h3
    have hf' : hgF l ls[i]=l[(bv (iu ls[i].sect) l).toNat].height:=by rw [hf,dif_pos h3,List.getElem?_eq_getElem hi1];rfl
    rw [hf'] at hset
    have hs1 : ((hgI l ls i).set i [D.int .i64 (-1)])[i]? = some [D.int .i64 (-1)]:=List.getElem?_set_self (by rw [km];exact h)
    simp [h3,hi1,dS,hs1,h,hw,hset,km]
    exact ⟨i + 1,by omega,by omega,rfl,by omega⟩
   ·have hf' : hgF l ls[i]=-1:=by rw [hf,dif_neg (by omega)]
    rw [hf'] at hset
    simp [h3,hw,hset]
    exact ⟨i + 1,by omega,by omega,rfl,by omega⟩
 ·have ei : i=ls.length:=by omega
  subst ei
  simp [h,km,zU,bj]
  rw [List.take_of_length_le (by simp [bj])]
  unfold hgA
  rw [List.map_map]
  apply List.map_congr_left
  intro v _
  simp [aH]
end Go.Gv

namespace Go.Gv
def bL {α : Type} (f : Nat -> List α) (j : Nat) : List α:=(List.range j).flatMap f
theorem fS {α : Type} (f : Nat -> List α) : bL f 0=[]:=rfl
theorem eX {α : Type} (f : Nat -> List α) (j : Nat) : bL f (j + 1)=bL f j++f j:=by simp [bL,List.range_succ]
theorem cC {α : Type} {f : Nat -> List α} {k : Nat} (h : ∀ i,(f i).length <= k) (j : Nat) : (bL f j).length <= k * j:=by
 induction j with
 | zero=>simp [bL]
 | succ j ih =>
  rw [eX,List.length_append,Nat.mul_succ]
  have:=h j
  omega
theorem uy {α : Type} {f : Nat -> List α} {j : Nat} {x : α} : x ∈ bL f j ↔ ∃ i,i < j /\ x ∈ f i:=by simp [bL]
def one {α : Type} (b : Bool) (x : α) : List α:=if b=true then [x] else []
theorem eG {α : Type} (b : Bool) (x : α) : (one b x).length <= 1:=by cases b <;> simp [one]
theorem Al {α : Type} {b : Bool} {x y : α} : y ∈ one b x ↔ b=true /\ y=x:=by cases b <;> simp [one]
def ib (es : List Edg) (j v : Nat) : Bool:=(es.take j).any fun e=>decide (e.1=v) || decide (e.2=v)
theorem uA (es : List Edg) : ib es 0=fun _=>false:=by funext v;simp [ib]
theorem uz {es : List Edg} {j : Nat} (h : j < es.length) (v : Nat) : ib es (j + 1) v=(ib es j v || (decide (es[j].1=v) || decide (es[j].2=v))):=by
 unfold ib
 rw [List.take_succ_eq_append_getElem h,List.any_append]
 simp
theorem xx {es : List Edg} {j n : Nat} (h : j < es.length) : ((bi n (ib es j)).set es[j].1 [D.bool true]).set es[j].2 [D.bool true]=bi n (ib es (j + 1)):=by
 rw [gA,gA]
 apply f7
 intro v _
 rw [uz h]
 by_cases e1 : v=es[j].2
 ·subst e1;simp
 ·have e1' : ¬ es[j].2=v:=fun e=>e1 e.symm
  by_cases e2 : v=es[j].1
  ·subst e2;simp [e1]
  ·have e2' : ¬ es[j].1=v:=fun e=>e2 e.symm
   simp [e1,e2,e1',e2']
noncomputable def stF (ns : List Nod) (es : List Edg) (i : Nat) : List Fnd:=one (wyB es i i) (1,ee ns i)++one (mT ns es i) (3,ee ns i)++one (!ib es es.length i) (8,ee ns i)
def gJ (ls : List Lnk) (k : Nat) : List UInt8:=(ls[k]?.map (·.name)).getD []
theorem lp {ls : List Lnk} {k : Nat} (h : k < ls.length) : gJ ls k=ls[k].name:=by simp [gJ,h]
def bkF (ls : List Lnk) (i : Nat) : List Fnd:=one ((ls[i]?.map gz).getD false) (2,gJ ls i)
theorem tt (ns : List Nod) (es : List Edg) (i : Nat) : (stF ns es i).length <= 3:=by
 unfold stF
 have:=eG (wyB es i i) ((1,ee ns i) : Fnd)
 have:=eG (mT ns es i) ((3,ee ns i) : Fnd)
 have:=eG (!ib es es.length i) ((8,ee ns i) : Fnd)
 simp only [List.length_append];omega
theorem sG (ls : List Lnk) (i : Nat) : (bkF ls i).length <= 1:=eG _ _
noncomputable def kP (ns : List Nod) (ls : List Lnk) : List Fnd:=bL (stF ns (cB ns ls)) ns.length++bL (bkF ls) ls.length
variable {C : CC} (hC : aj prog C)
include hC
set_option maxHeartbeats 4000000 in
theorem qN (hS : SlC C) (b1 b2 : Bool) (ns : List Nod) (ls : List Lnk) (hv : bq ns ls=true) (hcv : ∀ l ∈ ls,l.curve.length < 2 ^ 62) (L : List Fnd) (hL : L.length < 2 ^ 30) : C 588 [.blk 1 [[.own 2 (aX L)]],.agg [slx b1 (ns.map aQ),slx b2 (ls.map aD)]] (.tup []) [.blk 1 [[.own 2 (aX (L++kP ns ls))]]]:=by
 have hn:=(cF hv).1
 have hl:=(cF hv).2
 have hg:=mf hv
 have he : (cB ns ls).length <= 400:=by rw [fR];omega
 have k1:=yT hC hS b1 b2 ns ls hv hcv
 have k2:=rn hC b1 b2 ns ls hv hcv
 have k3:=fun i hi=>xd hC b1 b2 ns ls (cB ns ls) i hn hi
 have k4:=vF hC
 have k5:=vH hC
 unfold kP
 generalize cB ns ls=es at *
 obtain ⟨X,hX,hXg⟩ : ∃ X,yp ns.length es=.sl X /\ ∀ i,i < ns.length -> X[i]? = some [D.sl (bi ns.length (wyB es i))]:=⟨_,rfl,fun i hi=>by simp [hi]⟩
 rw [hX] at k1
 simp only [hX] at k3
 clear hX
 have hrep : List.replicate ns.length [D.bool false]=bi ns.length (ib es 0):=by rw [uA];simp [bi,ml]
 refine sq hC (nf:=N588) rfl rfl ?_
 simp [N588]
 refine aa k1 (.inr rfl) ?_
 simp
 refine ⟨by omega,?_⟩
 refine aa k2 (.inr rfl) ?_
 simp
 refine ar Nat (fun j=>[(0,.adr (.r 10015) 0 0),(10015,.blk 1 [[.own 2 (aX L)]]),(3,.ptr [slx b1 (ns.map aQ),slx b2 (ls.map aD)]),(4,.sl X),(5,.ref (.r 10080) 0 ns.length),(10080,.blk 1 (bi ns.length (ib es j))),(19,.sl (es.map edK)),(20,.int .i64 es.length),(21,.int .i64 j)]) (fun j=>j <= es.length) (fun j=>es.length - j) 0 (by simp) (by simp [hrep]) ?_
 ·intro j hj
  simp
  refine ac (fun h=>?_) (fun h=>?_) <;> simp at h
  ·have hw : IntKind.wrap .i64 ((j : Int) + 1)=((j + 1 : Nat) : Int):=ah (by omega) (by omega)
   have hset:=xx (n:=ns.length) h
   have hin:=hg es[j] (List.getElem_mem _)
   have hw : IntKind.wrap .i64 ((j : Int) + 1)=((j + 1 : Nat) : Int):=ah (by omega) (by omega)
   obtain ⟨i,e,hie⟩ : ∃ i e,es[j]=(i,e):=⟨_,_,rfl⟩
   rw [hie] at hset hin
   simp at hset hin
   have hA : (bi ns.length (ib es j))[i]'(by rw [b9];exact hin.1)=[D.bool (ib es j i)]:=(List.getElem?_eq_some_iff.1 (cA _ hin.1)).2
   have hB : ((bi ns.length (ib es j)).set i [D.bool true])[e]'(by rw [List.length_set,b9];exact hin.2)=[D.bool (if e=i then true else ib es j e)]:=by
    simp only [gA]
    exact (List.getElem?_eq_some_iff.1 (cA _ hin.2)).2
   simp [h,edK,knD,hie,hin.1,hin.2,b9,hA,hB,hset,hw]
   exact ⟨am (by decide +kernel),j + 1,by omega,by omega,rfl,by omega⟩
  ·have ej : j=es.length:=by omega
   subst ej
   simp [h]
   have hst : ∀ i,(L++bL (stF ns es) i).length <= 2 ^ 30 + 3 * i:=fun i=>by
    have:=cC (tt ns es) i
    rw [List.length_append];omega
   refine ar Nat (fun j=>[(0,.adr (.r 10015) 0 0),(10015,.blk 1 [[.own 2 (aX (L++bL (stF ns es) j))]]),(3,.ptr [slx b1 (ns.map aQ),slx b2 (ls.map aD)]),(4,.sl X),(5,.ref (.r 10080) 0 ns.length),(10080,.blk 1 (bi ns.length (ib es es.length))),(35,slx b1 (ns.map aQ)),(36,.int .i64 ns.length),(37,.int .i64 j)]) (fun j=>j <= ns.length) (fun j=>ns.length - j) 0 (by simp) (by simp [fS]) ?_
   intro j hj
   simp
   have hl0:=hst j
   have hfs:=eX (stF ns es) j
   generalize hW : bL (stF ns es) j=W at *
   refine ac (fun h=>?_) (fun h=>?_) <;> simp at h
   ·have hw : IntKind.wrap .i64 ((j : Int) + 1)=((j + 1 : Nat) : Int):=ah (by omega) (by omega)
    have hme:=cA (ib es es.length) h
    have k3':=k3 j h
    have hsj : stF ns es j=one (wyB es j j) (1,ee ns j)++one (mT ns es j) (3,ee ns j)++one (!ib es es.length j) (8,ee ns j):=rfl
    rw [uD h] at hsj
    simp [h,aQ,au (hXg j h),au (cA (wyB es j) h)]
    refine ac (fun q1=>?_) (fun q1=>?_)
    ·simp [q1]
     refine bY (k4 _ 1 _ (by simp only [List.length_append,List.length_cons,List.length_nil] at *;omega)) (by simp) ?_
     simp
     refine aa (by simpa [aQ] using k3') (.inl rfl) ?_
     simp
     refine ac (fun q2=>?_) (fun q2=>?_)
     ·simp [q2]
      refine bY (k4 _ 3 _ (by simp only [List.length_append,List.length_cons,List.length_nil] at *;omega)) (by simp) ?_
      simp
      simp [az hme,hw,h]
      refine ac (fun q3=>?_) (fun q3=>?_)
      ·simp [q3]
       refine bY (k4 _ 8 _ (by simp only [List.length_append,List.length_cons,List.length_nil] at *;omega)) (by simp) ?_
       simp [hw]
       refine ⟨j + 1,by omega,by omega,?_,by omega⟩;rw [hfs,hsj];simp [one,q1,q2,q3]
      ·simp [q3,hw]
       refine ⟨j + 1,by omega,by omega,?_,by omega⟩;rw [hfs,hsj];simp [one,q1,q2,q3]
     ·simp [q2]
      simp [az hme,hw,h]
      refine ac (fun q3=>?_) (fun q3=>?_)
      ·simp [q3]
       refine bY (k4 _ 8 _ (by simp only [List.length_append,List.length_cons,List.length_nil] at *;omega)) (by simp) ?_
       simp [hw]
       refine ⟨j + 1,by omega,by omega,?_,by omega⟩;rw [hfs,hsj];simp [one,q1,q2,q3]
      ·simp [q3,hw]
       refine ⟨j + 1,by omega,by omega,?_,by omega⟩;rw [hfs,hsj];simp [one,q1,q2,q3]
    ·simp [q1]
     refine aa (by simpa [aQ] using k3') (.inl rfl) ?_
     simp
     refine ac (fun q2=>?_) (fun q2=>?_)
     ·simp [q2]
      refine bY (k4 _ 3 _ (by simp only [List.length_append,List.length_cons,List.length_nil] at *;omega)) (by simp) ?_
      simp
      simp [az hme,hw,h]
      refine ac (fun q3=>?_) (fun q3=>?_)
      ·simp [q3]
       refine bY (k4 _ 8 _ (by simp only [List.length_append,List.length_cons,List.length_nil] at *;omega)) (by simp) ?_
       simp [hw]
       refine ⟨j + 1,by omega,by omega,?_,by omega⟩;rw [hfs,hsj];simp [one,q1,q2,q3]
      ·simp [q3,hw]
       refine ⟨j + 1,by omega,by omega,?_,by omega⟩;rw [hfs,hsj];simp [one,q1,q2,q3]
     ·simp [q2]
      simp [az hme,hw,h]
      refine ac (fun q3=>?_) (fun q3=>?_)
      ·simp [q3]
       refine bY (k4 _ 8 _ (by simp only [List.length_append,List.length_cons,List.length_nil] at *;omega)) (by simp) ?_
       simp [hw]
       refine ⟨j + 1,by omega,by omega,?_,by omega⟩;rw [hfs,hsj];simp [one,q1,q2,q3]
      ·simp [q3,hw]
       refine ⟨j + 1,by omega,by omega,?_,by omega⟩;rw [hfs,hsj];simp [one,q1,q2,q3]
   ·have ej : j=ns.length:=by omega
    subst ej
    simp [h]
    have hbt : ∀ i,(L++W++bL (bkF ls) i).length <= 2 ^ 31 + i:=fun i=>by
     have:=cC (sG ls) i
     simp only [List.length_append] at *;omega
    refine ar Nat (fun j=>[(0,.adr (.r 10015) 0 0),(10015,.blk 1 [[.own 2 (aX (L++W++bL (bkF ls) j))]]),(72,slx b2 (ls.map aD)),(73,.int .i64 ls.length),(74,.int .i64 j)]) (fun j=>j <= ls.length) (fun j=>ls.length - j) 0 (by simp) (by simp [fS]) ?_
    intro j hj
    simp
    have hl0:=hbt j
    have hfs:=eX (bkF ls) j
    generalize hW2 : bL (bkF ls) j=W2 at *
    refine ac (fun h=>?_) (fun h=>?_) <;> simp at h
    ·have hw : IntKind.wrap .i64 ((j : Int) + 1)=((j + 1 : Nat) : Int):=ah (by omega) (by omega)
     have hsj : bkF ls j=one (gz ls[j]) (2,ls[j].name):=by unfold bkF;rw [lp h];simp [h]
     simp [h,aD]
     refine aa (by simpa [aD] using k5 ls[j]) (.inr rfl) ?_
     simp
     refine ac (fun q1=>?_) (fun q1=>?_)
     ·simp [q1]
      refine bY (k4 _ 2 _ (by simp only [List.length_append] at *;omega)) (by simp) ?_
      simp [hw]
      refine ⟨j + 1,by omega,by omega,?_,by omega⟩
      rw [hfs,hsj];simp [one,q1]
     ·simp [q1,hw]
      refine ⟨j + 1,by omega,by omega,?_,by omega⟩
      rw [hfs,hsj];simp [one,q1]
    ·have ej : j=ls.length:=by omega
     subst ej
     simp [h,hW,hW2]
end Go.Gv
