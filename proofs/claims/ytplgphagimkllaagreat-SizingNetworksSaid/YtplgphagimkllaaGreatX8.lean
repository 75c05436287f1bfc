/-
  Texts of the proof: M2, M3, M4, P3, B6, B7, P5, M5, P1, P2, B8, P6, Q14, Q15, Q16, Q17, B9, P7, Q19, Q23, Q25, Q31, Q32, Q33, Q11, Q13, Q18, Q20, Q24, Q26, Q34, Q35, A24, K14, S6, K15, K16, K17, K18, L1, K19, K20, L2, K23, K23c, K21, S7, S9, S10, S11, M12, S12, S13, S14, S8, S15, S16.
-/
import Derived.Test.YtplgphagimkllaaGreatX7
import Derived.Test.YtplgphagimkllaaGreatX6
set_option linter.all false
namespace Go.Gv
def dX (nm : List UInt8) (s : Sec) : Bool:=s.name == nm
theorem jN (l : List Sec) : aJ l=true ↔ l.length <= 40 /\ (∀ (i : Nat) (h : i < l.length),aH l[i]=true /\ bB (dX l[i].name) l=i):=by
 simp only [aJ,Bool.and_eq_true,decide_eq_true_eq,List.all_eq_true]
 constructor
 ·rintro ⟨⟨h1,h2⟩,h3⟩
  refine ⟨h1,fun i h=>⟨h2 _ (List.getElem_mem h),?_⟩⟩
  refine cz (fun k hk hki=>?_) h (by simp [dX])
  rw [dX,beq_eq_false_iff_ne]
  intro e
  exact List.pairwise_iff_getElem.1 h3 k i (by simpa using hk) (by simpa using h) hki (by simpa using e)
 ·rintro ⟨h1,h2⟩
  refine ⟨⟨h1,fun x hx=>?_⟩,?_⟩
  ·obtain ⟨i,h,rfl⟩:=List.getElem_of_mem hx
   exact (h2 i h).1
  ·refine List.pairwise_iff_getElem.2 fun a b ha hb hab e=>?_
   simp only [List.length_map] at ha hb
   simp only [List.getElem_map] at e
   have h3:=(h2 b hb).2
   have h4 : ∃ k,k <= a /\ bB (dX l[b].name) l=(k : Int):=by
    unfold bB
    cases hf : l.findIdx? (dX l[b].name) with
    | none =>
     rw [List.findIdx?_eq_none_iff] at hf
     have:=hf l[a] (List.getElem_mem _)
     simp [dX,e] at this
    | some k =>
     refine ⟨k,?_,rfl⟩
     rw [List.findIdx?_eq_some_iff_getElem] at hf
     obtain ⟨q1,q2,q3⟩:=hf
     rcases Nat.lt_or_ge a k with hak | hak
     ·exact absurd (by simp [dX,e]) (q3 a hak)
     ·exact hak
   obtain ⟨k,h5,h6⟩:=h4
   omega
variable {C : CC} (hC : am prog C)
include hC
theorem yY (b : Bool) (l : List Sec) (nm : List UInt8) (hl : l.length < 2 ^ 62) : C 49 [slx b (l.map aW),.str nm] (.int .i64 (bB (dX nm) l)) []:=by
 refine al hC (nf:=N49) rfl rfl ?_
 simp [N49]
 refine aj Nat (fun i=>[(0,slx b (l.map aW)),(1,.str nm),(5,.int .i64 i)]) (fun i=>i <= l.length /\ ∀ (k : Nat) (h : k < l.length),k < i -> dX nm l[k]=false) (fun i=>l.length - i) 0 (by simp) (by simp) ?_
 rintro i ⟨hi,hj⟩
 simp
 refine ab (fun h=>?_) (fun h=>?_) <;> simp at h <;> simp [h]
 ·have hw : IntKind.wrap .i64 ((i : Int) + 1)=((i + 1 : Nat) : Int):=af (by omega) (by omega)
  simp [h,aW]
  refine ab (fun h2=>?_) (fun h2=>?_) <;> simp at h2 <;> simp [h2,hw]
  ·rw [cz hj h (by simp [dX,h2])]
  ·refine ⟨i + 1,⟨by omega,fun k hk hki=>?_⟩,by omega,by simp⟩
   rcases Nat.lt_succ_iff_lt_or_eq.1 hki with h5 | rfl
   ·exact hj k hk h5
   ·simp [dX,h2]
 ·rw [cN (fun k hk=>hj k hk (by omega))]
theorem wD (b : Bool) (l : List Sec) : C 33 [slx b (l.map aW)] (.bool (aJ l)) []:=by
 refine al hC (nf:=N33) rfl rfl ?_
 simp [N33]
 refine ab (fun h=>?_) (fun h=>?_) <;> simp at h
 ·simp [aJ];omega
 simp
 have hcv:=jN l
 refine aj Nat (fun i=>[(0,slx b (l.map aW)),(3,.int .i64 i)]) (fun i=>i <= l.length /\ ∀ (k : Nat) (h : k < l.length),k < i -> aH l[k]=true /\ bB (dX l[k].name) l=k) (fun i=>l.length - i) 0 (by simp) (by simp) ?_
 rintro i ⟨hi,hj⟩
 simp
 refine ab (fun h3=>?_) (fun h3=>?_) <;> simp at h3 <;> simp [h3]
 ·have hw : IntKind.wrap .i64 ((i : Int) + 1)=((i + 1 : Nat) : Int):=af (by omega) (by omega)
  have bad : ¬ (aH l[i]=true /\ bB (dX l[i].name) l=i) -> aJ l=false:=fun e=>by
   rw [<- Bool.not_eq_true]
   exact fun e2=>e ((hcv.1 e2).2 i h3)
  have hr:=wA hC l[i]
  have hf:=yY hC b l l[i].name (by omega)
  simp [h3,aW]
  simp [aW] at hr
  refine aa hr (.inl rfl) ?_
  cases hs : aH l[i]
  ·simp
   exact bad (by simp [hs])
  simp [h3,aW]
  refine aa hf (.inl rfl) ?_
  simp
  refine ab (fun h4=>?_) (fun h4=>?_) <;> simp at h4 <;> simp [h4]
  ·exact bad (fun e=>h4 e.2)
  ·simp [hw]
   refine ⟨i + 1,⟨by omega,fun k hk hki=>?_⟩,by omega,by simp⟩
   rcases Nat.lt_succ_iff_lt_or_eq.1 hki with h5 | rfl
   ·exact hj k hk h5
   ·exact ⟨hs,h4⟩
 ·rw [hcv.2 ⟨by omega,fun k hk=>hj k hk (by omega)⟩]
theorem gH (b : Bool) (l : List Int) (lo hi : Int) (hl : l.length < 2 ^ 62) : C 34 [slx b (l.map fun n=>[.int .i64 n]),.int .i64 lo,.int .i64 hi] (.bool (l.all fun n=>cm n lo hi)) []:=by
 refine al hC (nf:=N34) rfl rfl ?_
 simp [N34]
 refine aj Nat (fun i=>[(0,slx b (l.map fun n=>[.int .i64 n])),(1,.int .i64 lo),(2,.int .i64 hi),(7,.int .i64 i)]) (fun i=>i <= l.length /\ ∀ (k : Nat) (h : k < l.length),k < i -> cm l[k] lo hi=true) (fun i=>l.length - i) 0 (by simp) (by simp) ?_
 rintro i ⟨hi',hj⟩
 simp
 have bad : ∀ (h : i < l.length),cm l[i] lo hi=false -> (l.all fun n=>cm n lo hi)=false:=fun h e=>by
  rw [List.all_eq_false]
  exact ⟨l[i],List.getElem_mem h,by simp [e]⟩
 refine ab (fun h=>?_) (fun h=>?_) <;> simp at h <;> simp [h]
 ·have hw : IntKind.wrap .i64 ((i : Int) + 1)=((i + 1 : Nat) : Int):=af (by omega) (by omega)
  refine ab (fun h2=>?_) (fun h2=>?_) <;> simp [h] at h2 <;> simp [h,h2]
  ·have:=bad h (by simp [cm];omega)
   rw [List.all_eq_false] at this
   simpa using this
  refine ab (fun h3=>?_) (fun h3=>?_) <;> simp [h] at h3 <;> simp [h,h3]
  ·have:=bad h (by simp [cm];omega)
   rw [List.all_eq_false] at this
   simpa using this
  ·simp [hw]
   refine ⟨i + 1,⟨by omega,fun k hk hki=>?_⟩,by omega,by simp⟩
   rcases Nat.lt_succ_iff_lt_or_eq.1 hki with h5 | rfl
   ·exact hj k hk h5
   ·simp [cm];omega
 ·intro x hx
  obtain ⟨k,hk,rfl⟩:=List.getElem_of_mem hx
  exact hj k hk (by omega)
end Go.Gv

namespace Go.Gv
open Go.Lib
variable {C : CC} (hC : am prog C)
include hC
end Go.Gv

namespace Go.Gv
def DvS (x b i a q r : Nat) : Prop:=i <= 128 /\ r < b /\ ∃ c,a=c * 2 ^ i /\ c < 2 ^ (128 - i) /\ (q * b + r) * 2 ^ (128 - i) + c=x
theorem DvS.step {x b i a q r : Nat} (h : DvS x b i a q r) (hi : i < 128) (hb : 0 < b) :
  a < 340282366920938463463374607431768211456 /\ 2 * q <= x /\
  ∀ w r' a',2 * r + a / 170141183460469231731687303715884105728=w * b + r' -> r' < b -> a'=2 * a % 340282366920938463463374607431768211456 -> DvS x b (i + 1) a' (2 * q + w) r' /\ 2 * q + w <= x:=by
 obtain ⟨_,hr,c,h1,h2,h3⟩:=h
 obtain ⟨m,hm⟩ : ∃ m,m + 1=128 - i:=⟨127 - i,by omega⟩
 have hm2 : m=128 - (i + 1):=by omega
 rw [<- hm,Nat.pow_succ] at h2 h3
 obtain ⟨V,hV⟩ : ∃ V,V=2 ^ m:=⟨_,rfl⟩
 obtain ⟨W,hW⟩ : ∃ W,W=2 ^ i:=⟨_,rfl⟩
 have hVW : V * W=170141183460469231731687303715884105728:=by
  rw [hV,hW,<- Nat.pow_add,show m + i=127 by omega]
 have hVp : 0 < V:=by rw [hV];exact Nat.two_pow_pos m
 rw [<- hV] at h2 h3
 rw [<- hW] at h1
 obtain ⟨t,ht⟩ : ∃ t,t=c / V:=⟨_,rfl⟩
 obtain ⟨d,hd⟩ : ∃ d,d=c % V:=⟨_,rfl⟩
 have hc : c=t * V + d:=by rw [ht,hd,Nat.mul_comm];exact (Nat.div_add_mod c V).symm
 have hdV : d < V:=by rw [hd];exact Nat.mod_lt _ hVp
 have ht1 : t <= 1:=by
  have : t < 2:=by rw [ht,Nat.div_lt_iff_lt_mul hVp];omega
  omega
 have ha : a=t * 170141183460469231731687303715884105728 + d * W:=by
  rw [h1,hc,Nat.add_mul,Nat.mul_assoc,hVW]
 have hdW : d * W < 170141183460469231731687303715884105728:=by
  have : (d + 1) * W <= V * W:=Nat.mul_le_mul_right _ hdV
  rw [hVW,Nat.add_mul] at this
  have hWp : 0 < W:=by rw [hW];exact Nat.two_pow_pos i
  omega
 have hbit : a / 170141183460469231731687303715884105728=t:=by
  rw [ha];generalize d * W=z at *;omega
 have fin : ∀ w r',2 * r + t=w * b + r' -> ((2 * q + w) * b + r') * V + d=x:=fun w r' e=>by
  have e1 : (2 * q + w) * b + r'=2 * (q * b + r) + t:=by
   rw [Nat.add_mul,Nat.mul_assoc]
   generalize q * b=z at *
   generalize w * b=z' at *
   omega
  rw [e1,<- h3,hc,Nat.add_mul,Nat.mul_comm V 2,<- Nat.mul_assoc,Nat.mul_comm (q * b + r) 2]
  omega
 have big : ∀ w r',2 * r + t=w * b + r' -> 2 * q + w <= x:=fun w r' e=>by
  have e1:=fin w r' e
  have e2 : 2 * q + w <= (2 * q + w) * b:=Nat.le_mul_of_pos_right _ hb
  have e3 : (2 * q + w) * b + r' <= ((2 * q + w) * b + r') * V:=Nat.le_mul_of_pos_right _ hVp
  omega
 refine ⟨?_,?_,?_⟩
 ·rw [ha];generalize d * W=z at *;omega
 ·exact Nat.le_trans (Nat.le_add_right _ _) (big _ _ (Nat.div_add_mod' (2 * r + t) b).symm)
 ·intro w r' a' e hr' ha'
  rw [hbit] at e
  refine ⟨⟨by omega,hr',d,?_,?_,?_⟩,big w r' e⟩
  ·rw [ha',ha,Nat.pow_succ,<- hW,Nat.mul_comm W 2,Nat.mul_left_comm]
   generalize d * W=z at *
   omega
  ·rw [<- hm2,<- hV];exact hdV
  ·rw [<- hm2,<- hV];exact fin w r' e
theorem DvS.last {x b a q r : Nat} (h : DvS x b 128 a q r) : q=x / b /\ r=x % b:=by
 obtain ⟨_,hr,c,h1,h2,h3⟩:=h
 simp at h2 h3
 subst h2
 simp at h3
 subst h3
 have hb : 0 < b:=by omega
 rw [Nat.mul_comm,Nat.mul_add_div hb,Nat.div_eq_of_lt hr,Nat.mul_add_mod,Nat.mod_eq_of_lt hr]
 exact ⟨rfl,rfl⟩
variable {C : CC} (hC : am prog C)
include hC
end Go.Gv

namespace Go.Gv
variable {C : CC} (hC : am prog C)
include hC
end Go.Gv

namespace Go.Gv
def Rk (nm : List UInt8) : Nod:={ name:=nm,kind:=1,x:=0,y:=0,invert:=0,ground:=1,shapeN:=false,shape:=[(0,0),(1,1)],prot:=false,reserve:=0 }
def Rl (nm : List UInt8) : Nod:={ name:=nm,kind:=3,x:=0,y:=0,invert:=0,ground:=0,shapeN:=true,shape:=[],prot:=false,reserve:=0 }
def sG (l : Lnk) (s : Sec) : Int:=if cI l && aH s then (if l.kind=1 then (if l.sect=s.name then 0 else 25) else 11) else 1
variable {C : CC} (hC : am prog C)
include hC
end Go.Gv

namespace Go.Gv
def sg (k flow len n : Nat) : Bool:=decide (flow * flow * len <= k * k * n)
def J6 (k flow len : Nat) : Int × Int:=if flow=0 then (0,0) else if k=0 then (0,16) else if sg k flow len 1073741824 then (bis (sg k flow len) 40 0 1073741824,0) else (0,5)
def pM (l : Lnk) (s : Sec) (flow : Int) : Int × Int:=J6 (fZ s.conv).2.toNat flow.toNat l.len.toNat
variable {C : CC} (hC : am prog C)
include hC
end Go.Gv

namespace Go.Gv
def Am (x b : Nat) : Nat:=if x % b=0 then x / b else x / b + 1
def J7 (k f n : Nat) : Int × Int:=if f=0 then (0,0) else if k=0 then (0,16) else if 1073741824 < Am (f * f * n) (k * k) then (0,5) else (Am (f * f * n) (k * k),0)
def pN (l : Lnk) (s : Sec) (flow : Int) : Int × Int:=J7 (fZ s.conv).2.toNat flow.toNat l.len.toNat
variable {C : CC} (hC : am prog C)
include hC
end Go.Gv

namespace Go.Gv
variable {C : CC} (hC : am prog C)
include hC
end Go.Gv

namespace Go.Gv
def Ro (t : List (Int × Int)) (x : Int) : Int :=
 if kY t (x + 1)=0 then t[0]!.2 else if kY t (x + 1)=t.length then t[kY t (x + 1) - 1]!.2 else (Hk t[kY t (x + 1) - 1]! t[kY t (x + 1)]! x).1
variable {C : CC} (hC : am prog C)
include hC
end Go.Gv

namespace Go.Gv
def vp (s : Sec) (flow fall len : Int) : Int × Int :=
 if aH s then (if 0 <= flow /\ flow <= 1099511627776 /\ en fall len=true then (if (tu s s.height fall len : Int) < flow then (0,28) else (bis (sf s flow fall len) 40 0 s.height.toNat,0)) else (0,2)) else (0,1)
variable {C : CC} (hC : am prog C)
include hC
end Go.Gv

namespace Go.Gv
def mxI (a b : Int) : Int:=if a < b then b else a
def gr (l : Lnk) : Int:=if 4194304 < l.up - l.down then 4194304 else l.up - l.down
def Qr (l : Lnk) (s : Sec) (flow level : Int) : Bool:=decide (level < l.down + s.height) && (decide ((dR s (gr l) l.len).2=5) || (decide ((dR s (gr l) l.len).2=0) && decide (flow <= (dR s (gr l) l.len).1)))
def Ii (l : Lnk) (s : Sec) (flow level : Int) : Int × Int :=
 if (pM l s flow).2=0 then (if 1099511627776 < mxI (l.up + s.height) (level + (pM l s flow).1) then (0,5) else (mxI (l.up + s.height) (level + (pM l s flow).1),0)) else (0,(pM l s flow).2)
def Qs (l : Lnk) (s : Sec) (flow level : Int) : Int × Int :=
 if (oC s flow (gr l) l.len).2=0 then (mxI (l.up + (oC s flow (gr l) l.len).1) level,0) else (0,(oC s flow (gr l) l.len).2)
def G4 (l : Lnk) (s : Sec) (flow level : Int) : Int × Int:=if Qr l s flow level then Qs l s flow level else Ii l s flow level
def Rn (l : Lnk) (s : Sec) (flow level : Int) : Int × Int :=
 if sG l s=0 then (if l.up < l.down then (0,23) else if aM flow 0 1099511627776 && aM level (-4194304) 1099511627776 then G4 l s flow level else (0,2)) else (0,sG l s)
def QX (l : Lnk) (s : Sec) (flow : Int) : Int × Int :=
 if sG l s=0 then (if aM flow 0 1099511627776 then pM l s flow else (0,2)) else (0,sG l s)
variable {C : CC} (hC : am prog C)
include hC
end Go.Gv

namespace Go.Gv
def grI (a b : Int) : Int:=if b < a then a else b
def oJ (l : Lnk) (s : Sec) : Int:=if nN l && aH s then (if l.kind=1 then (if l.sect=s.name then 0 else 25) else 11) else 1
def Ij (l : Lnk) (s : Sec) (flow level : Int) : Int × Int :=
 if (pN l s flow).2=0 then (if 1099511627776 < grI (l.up + s.height) (level + (pN l s flow).1) then (0,5) else (grI (l.up + s.height) (level + (pN l s flow).1),0)) else (0,(pN l s flow).2)
def Bz (l : Lnk) (s : Sec) (flow level : Int) : Int × Int :=
 if (vp s flow (gr l) l.len).2=0 /\ level < l.down + s.height then (grI (l.up + (vp s flow (gr l) l.len).1) level,0) else Ij l s flow level
def upR (l : Lnk) (s : Sec) (flow level : Int) : Int × Int :=
 if oJ l s=0 then (if l.up < l.down then (0,23) else if aM flow 0 1099511627776 && aM level (-4194304) 1099511627776 then Bz l s flow level else (0,2)) else (0,oJ l s)
def QW (l : Lnk) (s : Sec) (flow : Int) : Int × Int :=
 if oJ l s=0 then (if aM flow 0 1099511627776 then pN l s flow else (0,2)) else (0,oJ l s)
variable {C : CC} (hC : am prog C)
include hC
end Go.Gv

namespace Go.Gv
def rM (ss : List Sec) (nm : List UInt8) : Int:=bB (dX nm) ss
def AN (ss : List Sec) (nm : List UInt8) : Int × Int:=if aJ ss then (if 0 <= rM ss nm then (rM ss nm,0) else (0,9)) else (0,1)
def Kp (ss : List Sec) (l : Lnk) : Bool:=decide (rM ss l.sect < 0)
def DL (l : Lnk) : Bool:=decide (l.up < l.down)
def QC (ls : List Lnk) (ss : List Sec) : Int:=if ls.any (Kp ss) then 9 else if ls.any DL then 23 else 0
def tO (ns : List Nod) (ls : List Lnk) (ss : List Sec) (q : List Sp) (count : Int) : Int:=if xh ns ls && aJ ss then (if uP q count=0 then QC ls ss else uP q count) else 1
structure jh (ss : List Sec) (l : Lnk) : Prop where
 idx : ∃ k,rM ss l.sect=(k : Nat) /\ k < ss.length
 le : l.down <= l.up
 up : -4194304 <= l.up /\ l.up <= 4194304
 down : -4194304 <= l.down /\ l.down <= 4194304
 len : 1 <= l.len /\ l.len <= 16777216
theorem jh.fall {ss : List Sec} {l : Lnk} (h : jh ss l) : en (gr l) l.len=true:=by
 have:=h.le;have:=h.len;have:=h.up;have:=h.down
 by_cases h : 4194304 < l.up - l.down <;> simp [en,gr,h] <;> omega
theorem oz {ss : List Sec} (h : aJ ss=true) {k : Nat} (hk : k < ss.length) : aH ss[k]=true:=((jN ss).1 h).2 k hk |>.1
variable {C : CC} (hC : am prog C)
include hC
end Go.Gv

namespace Go.Gv
def tt (s : Sec) (depth fall len : Int) : Int × Int:=if aH s then (if 0 <= depth /\ depth <= s.height /\ en fall len=true then (if 1099511627776 < (tu s depth fall len : Int) then (0,5) else (tu s depth fall len,0)) else (0,2)) else (0,1)
def qr (ss : List Sec) (l : Lnk) : Sec:=ss[(rM ss l.sect).toNat]?.getD ⟨[],0,0,true,[],true,[]⟩
def vN (ss : List Sec) (l : Lnk) : Int:=if (tt (qr ss l) (qr ss l).height (gr l) l.len).2=5 then 1099511627776 else (tt (qr ss l) (qr ss l).height (gr l) l.len).1
theorem jh.sec {ss : List Sec} {l : Lnk} (h : jh ss l) : ∃ k,rM ss l.sect=(k : Nat) /\ ∃ hk : k < ss.length,qr ss l=ss[k]:=by
 obtain ⟨k,hk,hl⟩:=h.idx
 refine ⟨k,hk,hl,?_⟩
 simp [qr,hk,hl]
theorem jh.find {ss : List Sec} {l : Lnk} (hv : aJ ss=true) (h : jh ss l) : AN ss l.sect=(rM ss l.sect,0):=by
 obtain ⟨k,hk,hl⟩:=h.idx
 simp [AN,hv,hk]
theorem jh.valid {ss : List Sec} {l : Lnk} (hv : aJ ss=true) (h : jh ss l) : aH (qr ss l)=true:=by
 obtain ⟨k,hk,hl,e⟩:=h.sec
 rw [e]
 exact oz hv hl
theorem jh.wrap {ss : List Sec} {l : Lnk} (h : jh ss l) : IntKind.wrap .i64 (l.up - l.down)=l.up - l.down:=by
 have:=h.up;have:=h.down
 exact af rfl (by omega)
variable {C : CC} (hC : am prog C)
include hC
end Go.Gv

namespace Go.Gv
variable {C : CC} (hC : am prog C)
include hC
end Go.Gv

namespace Go.Gv
def xX (ss : List Sec) (l : Lnk) (n : Int) : Int × Int:=oC (qr ss l) n (gr l) l.len
def Pq (ss : List Sec) (l : Lnk) (s : Sp) : Bool:=!decide ((xX ss l s.1).2=0) || !decide ((xX ss l s.2).2=0)
def dSp (ss : List Sec) (l : Lnk) (s : Sp) : Sp:=((xX ss l s.1).1,(xX ss l s.2).1)
def BH (ss : List Sec) (ls : List Lnk) (q : List Sp) : Bool:=(ls.zip q).any fun p=>Pq ss p.1 p.2
def Pr (ss : List Sec) (ls : List Lnk) (q : List Sp) : List Sp:=List.zipWith (dSp ss) ls q
def Pc (ns : List Nod) (ls : List Lnk) (ss : List Sec) (q : List Sp) : Int:=if tO ns ls ss q ls.length=0 then (if BH ss ls q then 28 else 0) else tO ns ls ss q ls.length
def Re (ns : List Nod) (ls : List Lnk) (ss : List Sec) (q : List Sp) : D:=if Pc ns ls ss q=0 then .sl ((Pr ss ls q).map knD) else .nils
def spT (l : List Sp) (j : Nat) : List (List D):=(l.take j).map knD
variable {C : CC} (hC : am prog C)
include hC
end Go.Gv

namespace Go.Gv
end Go.Gv

namespace Go.Gv
end Go.Gv

namespace Go.Gv
def Qm (ss : List Sec) (l : Lnk) (s : Sp) : Sp:=(1000 * s.1 / vN ss l,(1000 * s.2 + vN ss l - 1) / vN ss l)
def Lp (ss : List Sec) (l : Lnk) : Bool:=decide (vN ss l=0)
def ldL (ss : List Sec) (ls : List Lnk) (q : List Sp) : List Sp:=List.zipWith (Qm ss) ls q
def Pf (ss : List Sec) (ls : List Lnk) : Bool:=ls.any (Lp ss)
def LdE (ns : List Nod) (ls : List Lnk) (ss : List Sec) (q : List Sp) : Int:=if tO ns ls ss q ls.length=0 then (if Pf ss ls then 16 else 0) else tO ns ls ss q ls.length
def LdV (ns : List Nod) (ls : List Lnk) (ss : List Sec) (q : List Sp) : D:=if LdE ns ls ss q=0 then .sl ((ldL ss ls q).map knD) else .nils
variable {C : CC} (hC : am prog C)
include hC
end Go.Gv

namespace Go.Gv
def ovG (ss : List Sec) (f : Sp -> Int) (p : Lnk × Sp) : Option (List UInt8):=if vN ss p.1 < f p.2 then some p.1.name else none
def QA (ss : List Sec) (f : Sp -> Int) (ls : List Lnk) (fl : List Sp) (i : Nat) : List (List UInt8):=((ls.zip fl).take i).filterMap (ovG ss f)
def DH (l : List (List UInt8)) : List (List D):=l.map fun s=>[.str s]
def OvE (ns : List Nod) (ls : List Lnk) (ss : List Sec) (q : List Sp) : Int:=if tO ns ls ss q ns.length=0 then vL ns.length (aw ns ls) q else tO ns ls ss q ns.length
def OvV (f : Sp -> Int) (ns : List Nod) (ls : List Lnk) (ss : List Sec) (q : List Sp) : D:=if OvE ns ls ss q=0 then .sl (DH (QA ss f ls (mr ns.length (aw ns ls) q) ls.length)) else .nils
variable {C : CC} (hC : am prog C)
include hC
end Go.Gv

namespace Go.Gv
variable {C : CC} (hC : am prog C)
include hC
end Go.Gv

namespace Go.Gv
def trn (es : List Edg) : List Edg:=es.map fun e=>(e.2,e.1)
def Kq (ns : List Nod) (k : Nat) : List UInt8:=(ns[k]?.map (·.name)).getD []
def nmT (ns : List Nod) (f : Nat -> Bool) : Nat -> List (List UInt8)
 | 0=>[]
 | k + 1=>nmT ns f k++(if f k=true then [Kq ns k] else [])
def trA (es : List Edg) (j : Nat) : List (List D):=(List.range es.length).map fun k=>edK (if k < j then (es[k]!.2,es[k]!.1) else es[k]!)
def Lk (ns : List Nod) (nm : List UInt8) : Int:=if 0 <= bB (bU nm) ns then 0 else 9
noncomputable def Ll (ns : List Nod) (te : List Edg) (nm : List UInt8) : List (List UInt8):=nmT ns (rB te (tgs te (bB (bU nm) ns).toNat)) ns.length
noncomputable def Lm (ns : List Nod) (te : List Edg) (nm : List UInt8) : D:=if 0 <= bB (bU nm) ns then .sl (DH (Ll ns te nm)) else .nils
variable {C : CC} (hC : am prog C)
include hC
def O9 (ns : List Nod) (ls : List Lnk) (nm : List UInt8) : Int:=if bG ns ls=true then Lk ns nm else 1
noncomputable def Pb (ns : List Nod) (ls : List Lnk) (nm : List UInt8) : D:=if bG ns ls=true then Lm ns (trn (aw ns ls)) nm else .nils
end Go.Gv

namespace Go.Gv
def QY (n : Nat) (out : Nat -> Bool) : Nat:=wtS (fun v=>if out v=true then 0 else 1) n
variable {C : CC} (hC : am prog C)
include hC
end Go.Gv

namespace Go.Gv
noncomputable def QK (es : List Edg) (x : Nat) : Nat -> Bool:=rB (trn es) (tgs (trn es) x)
variable {C : CC} (hC : am prog C)
include hC
noncomputable def upX (ns : List Nod) (ls : List Lnk) (x v : Nat) : Bool:=if v=x then true else QK (aw ns ls) x v
end Go.Gv

namespace Go.Gv
def BK (n : Nod) : Bool:=decide (110 < n.shape.length) || decide (100 < n.name.length)
def BJ (l : Lnk) : Bool:=decide (110 < l.curve.length) || decide (100 < l.name.length) || decide (100 < l.src.length) || decide (100 < l.dst.length) || decide (100 < l.sect.length)
def BL (s : Sec) : Bool:=decide (110 < s.area.length) || decide (110 < s.conv.length) || decide (100 < s.name.length)
def N7 (ns : List Nod) (ls : List Lnk) (ss : List Sec) (k : Nat) : Bool:=decide (12 < ns.length) || decide (20 < ls.length) || decide (12 < ss.length) || decide (25 < k) || ns.any BK || ls.any BJ || ss.any BL
def AM (nm : UInt8) : Nod:=⟨[nm],1,0,0,0,9,false,[(0,0),(9,5)],false,0⟩
def AL (nm a b : UInt8) : Lnk:=⟨[nm],[a],[b],1,5,3,0,[115],0,0,true,[]⟩
def exN : List Nod:=[AM 97,AM 98,⟨[111],3,0,0,0,0,true,[],false,0⟩]
def Rh : List Lnk:=[AL 112 97 98,AL 113 98 111]
variable {C : CC} (hC : am prog C)
include hC
end Go.Gv

namespace Go.Gv
variable {C : CC} (hC : am prog C)
include hC
end Go.Gv

namespace Go.Gv
structure rT (s : Sec) (fall len : Int) (y : Sp) : Prop where
 lo : 0 <= y.1
 hi : y.1 <= s.height
 fl : y.2 <= 1099511627776
 yes : y.2 <= (tu s y.1 fall len : Int)
 no : 0 < y.1 -> (tu s (y.1 - 1) fall len : Int) < y.2
theorem rT.cap {s : Sec} {fall len : Int} {y : Sp} (h : rT s fall len y) (hs : aH s=true) (hf : en fall len=true) : (tt s y.1 fall len).2=5 \/ ((tt s y.1 fall len).2=0 /\ y.2 <= (tt s y.1 fall len).1):=by
 have:=h.yes
 unfold tt
 rw [if_pos hs,if_pos ⟨h.lo,h.hi,hf⟩]
 split
 ·exact .inl rfl
 ·exact .inr ⟨rfl,this⟩
variable {C : CC} (hC : am prog C)
include hC
end Go.Gv

namespace Go.Gv
variable {C : CC} (hC : am prog C)
include hC
end Go.Gv

namespace Go.Gv
def ptN (at' : List Int) (i : Nat) (s : Sp) : Int:=if at'.length=0 then s.1 else s.1 + at'[i % at'.length]! % (s.2 - s.1 + 1)
def QD (at' : List Int) (i : Nat) (s : Sp) : Sp:=(ptN at' i s,ptN at' i s)
def ptL (at' : List Int) (q : List Sp) : List Sp:=(List.range q.length).map fun i=>QD at' i q[i]!
def Ri (a b : Sp) : Bool:=decide (b.1 <= a.1) && decide (a.2 <= b.2)
variable {C : CC} (hC : am prog C)
include hC
end Go.Gv

namespace Go.Gv
structure Rf (a b : List Sp) : Prop where
 len : b.length=a.length
 get : ∀ (i : Nat) (h : i < a.length) (h' : i < b.length),0 <= a[i].1 /\ a[i].1 <= b[i].1 /\ b[i].1=b[i].2 /\ b[i].2 <= a[i].2
end Go.Gv

namespace Go.Gv
theorem Pth.wat {es : List Edg} (hnd : (es.map (·.1)).Nodup) {v x : Nat} (h : Pth es v x) : ∃ m,wat es m v=some x:=by
 have cons : ∀ {u v : Nat},(u,v) ∈ es -> ∀ m,Go.Gv.wat es (m + 1) u=Go.Gv.wat es m v:=fun {u v} e m=>by
  induction m with
  | zero=>show (some u).bind (stp es)=some v;exact DG hnd e
  | succ m ih =>
   show (Go.Gv.wat es (m + 1) u).bind (stp es)=(Go.Gv.wat es m v).bind (stp es)
   rw [ih]
 induction h with
 | refl v=>exact ⟨0,rfl⟩
 | step e _ ih =>
  obtain ⟨m,hm⟩:=ih
  exact ⟨m + 1,by rw [cons e];exact hm⟩
def Rc (q : List Sp) (f : Nat -> Bool) (k : Nat) : Sp:=(qy (fun v=>if f v=true then q[v]!.1 else 0) k,qy (fun v=>if f v=true then q[v]!.2 else 0) k)
variable {C : CC} (hC : am prog C)
include hC
end Go.Gv

namespace Go.Gv
noncomputable def QG (ns : List Nod) (ls : List Lnk) (q : List Sp) (x v : Nat) : Bool:=upX ns ls x v && decide (0 < q[v]!.2)
def Pe (ns : List Nod) (ls : List Lnk) (q : List Sp) (nm : List UInt8) : Int:=if xh ns ls=true then (if uP q ns.length=0 then (if 0 <= bB (iH nm) ls then 0 else 9) else uP q ns.length) else 1
noncomputable def Rg (ns : List Nod) (ls : List Lnk) (q : List Sp) (nm : List UInt8) : D:=if Pe ns ls q nm=0 then .sl (DH (nmT ns (QG ns ls q ((aw ns ls)[(bB (iH nm) ls).toNat]!).1) ns.length)) else .nils
variable {C : CC} (hC : am prog C)
include hC
end Go.Gv


set_option maxRecDepth 4000
namespace Go.Gv
structure o8 (C : CC) : Prop where
 nil : ∀ ds,C 598 ds .any [.own 2 []] -> C 598 ds (.sl []) []
theorem yL (ns : List Nod) : ∀ e ∈ ns.map aL,e.length=9 /\ ∀ c ∈ e,aq c=true:=by
 intro e he
 obtain ⟨n,_,rfl⟩:=List.mem_map.1 he
 have : aq (slx n.shapeN (n.shape.map knD))=true:=by unfold slx;split <;> rfl
 refine ⟨rfl,fun c hc=>?_⟩
 simp only [aL,List.mem_cons,List.not_mem_nil,or_false] at hc
 rcases hc with rfl | rfl | rfl | rfl | rfl | rfl | rfl | rfl | rfl
 all_goals first | rfl | exact this
theorem su (ls : List Lnk) : ∀ e ∈ ls.map aD,e.length=11 /\ ∀ c ∈ e,aq c=true:=by
 intro e he
 obtain ⟨n,_,rfl⟩:=List.mem_map.1 he
 have : aq (slx n.curveN (n.curve.map knD))=true:=by unfold slx;split <;> rfl
 refine ⟨rfl,fun c hc=>?_⟩
 simp only [aD,List.mem_cons,List.not_mem_nil,or_false] at hc
 rcases hc with rfl | rfl | rfl | rfl | rfl | rfl | rfl | rfl | rfl | rfl | rfl
 all_goals first | rfl | exact this
def nT (ns : List Nod) (j : Nat) : List (List D):=(ns.take j).map aL
def lT (ls : List Lnk) (i j : Nat) : List (List D):=((ls.take j).eraseIdx i).map aD
theorem oS (ns : List Nod) : nT ns 0=[]:=by simp [nT]
theorem ro {ns : List Nod} {j : Nat} (h : j <= ns.length) : (nT ns j).length=j:=by simp [nT];omega
theorem oR {ns : List Nod} {j : Nat} (h : j < ns.length) : nT ns (j + 1)=nT ns j++[aL ns[j]]:=by
 unfold nT
 rw [List.take_succ_eq_append_getElem h,List.map_append];rfl
theorem rl (ns : List Nod) : nT ns ns.length=ns.map aL:=by unfold nT;rw [List.take_length]
theorem rn (ns : List Nod) (j : Nat) : ∀ e ∈ nT ns j,e.length=9 /\ ∀ c ∈ e,aq c=true:=yL _
@[simp high] theorem Ld (b : Bool) (xs : List (List D)) (k : Nat) : stK (slx b xs) [] k=[]:=by unfold slx;split <;> rfl
theorem cg (b : Bool) (xs : List (List D)) : aq (slx b xs)=true:=by unfold slx;split <;> rfl
theorem m5 (b : Bool) (xs : List (List D)) : slx b xs=.nils \/ slx b xs=.sl xs:=by
 unfold slx
 split
 ·exact .inl rfl
 ·exact .inr rfl
variable {C : CC} (hC : am prog C)
include hC
theorem jO (hL : o8 C) (b : Bool) (l : List (Int × Int)) (hl : l.length < 2 ^ 40) : C 598 [slx b (l.map knD)] (slx b (l.map knD)) []:=by
 have hf : ∀ e ∈ l.map knD,e.length=2 /\ (∀ c ∈ e,aq c=true) /\ ∀ c ∈ e,bj c=true:=by
  intro e he
  obtain ⟨s,_,rfl⟩:=List.mem_map.1 he
  simp [knD,aq,bj]
 cases l with
 | nil =>
  cases b with
  | true =>
   show C 598 [.nils] .nils []
   refine al hC (nf:=N598) rfl rfl ?_
   simp [N598]
  | false =>
   show C 598 [.sl []] (.sl []) []
   refine hL.nil _ ?_
   refine rO hC (nf:=N598) rfl rfl ?_
   simp [N598]
 | cons x xs =>
  have e : slx b ((x::xs).map knD)=.sl ((x::xs).map knD):=by cases b <;> rfl
  rw [e]
  obtain ⟨l,hl2⟩ : ∃ l,l=(x::xs).map knD:=⟨_,rfl⟩
  have h : 0 < l.length:=by rw [hl2];simp
  have h2 : l.length < 1099511627776:=by rw [hl2];simpa using hl
  have hV : l.map (fun e=>e.map aR)=l:=by
   rw [hl2,List.map_map]
   apply List.map_congr_left
   intro v _
   simp [knD,aR]
  rw [<- hl2] at hf ⊢
  clear hl2 e hl
  refine al hC (nf:=N598) rfl rfl ?_
  simp [N598]
  refine ⟨fun _=>⟨fun e he=>⟨(hf e he).1,(hf e he).2.1⟩,by omega,?_⟩,fun h0=>?_⟩
  ·simp [hV]
  ·subst h0
   simp at h
end Go.Gv

namespace Go.Gv
variable {C : CC} (hC : am prog C)
include hC
theorem lR (j : Job) : C 24 [.agg (co j)] (.bool (ao j)) []:=by
 refine al hC (nf:=N24) rfl rfl ?_
 simp [N24,co]
 refine ab (fun h=>?_) (fun h=>?_) <;> simp [h] <;> simp at h
 ·simp [ao];omega
 refine ab (fun h2=>?_) (fun h2=>?_) <;> simp [h2] <;> simp at h2
 ·simp [ao];omega
 refine ab (fun h3=>?_) (fun h3=>?_) <;> simp [h3] <;> simp at h3
 ·simp [ao];omega
 refine ab (fun h4=>?_) (fun h4=>?_) <;> simp [h4] <;> simp at h4
 ·simp [ao];omega
 refine ab (fun h5=>?_) (fun h5=>?_) <;> simp [h5] <;> simp at h5
 ·simp [ao];omega
 refine ab (fun h6=>?_) (fun h6=>?_) <;> simp [h6] <;> simp at h6
 ·simp [ao,h6]
 refine aa (jt hC _ _) (.inl rfl) ?_
 cases h7 : aJ j.secs
 ·simp [ao,h7]
 simp
 refine aj Nat (fun i=>[(1,.ptr [slx j.below.n (List.map (fun n=>[D.int IntKind.i64 n]) j.below.l),
      slx j.lengths.n (List.map (fun n=>[D.int IntKind.i64 n]) j.lengths.l),
      slx j.flows.n (List.map (fun n=>[D.int IntKind.i64 n]) j.flows.l),
      slx j.falls.n (List.map (fun n=>[D.int IntKind.i64 n]) j.falls.l),
      slx j.room.n (List.map (fun n=>[D.int IntKind.i64 n]) j.room.l),slx j.secN (List.map aW j.secs)]),(3,.int .i64 j.below.l.length),(51,.int .i64 j.below.l.length),(52,.int .i64 i)])
  (fun i=>i <= j.below.l.length /\ ∀ k < i,ee j k=true) (fun i=>j.below.l.length - i) 0 (by simp) (by simp) ?_
 rintro i ⟨hi,hp⟩
 simp
 refine ab (fun h8=>?_) (fun h8=>?_) <;> simp [h8] <;> simp at h8
 ·have g2 : i < j.lengths.l.length:=by omega
  have g3 : i < j.flows.l.length:=by omega
  have g4 : i < j.falls.l.length:=by omega
  have g5 : i < j.room.l.length:=by omega
  have hw : IntKind.wrap .i64 ((i : Int) + 1)=((i + 1 : Nat) : Int):=af (by omega) (by omega)
  have bad : ee j i=false -> ao j=false:=fun e=>by
   simp only [ao,Bool.and_eq_false_iff,List.all_eq_false]
   exact .inr ⟨i,by simpa using h8,by simp [e]⟩
  have next : ee j i=true -> ∃ s' : Nat,(s' <= j.below.l.length /\ ∀ k < s',ee j k=true) /\ j.below.l.length - s' < j.below.l.length - i /\ s'=i + 1:=fun e=>⟨i + 1,⟨by omega,fun k hk=>by
   rcases Nat.lt_succ_iff_lt_or_eq.1 hk with hk | rfl
   ·exact hp k hk
   ·exact e⟩,by omega,rfl⟩
  have he : ee j i=((j.below.l[i] == -1 || (decide ((i : Int) < j.below.l[i]) && decide (j.below.l[i] < j.below.l.length))) && (cm j.lengths.l[i] 1 16777216 && cm j.flows.l[i] 0 1099511627776 && cm j.falls.l[i] 0 4194304 && cm j.room.l[i] 0 4194304)):=by
   simp only [ee,getElem!_pos j.below.l i h8,getElem!_pos j.lengths.l i g2,getElem!_pos j.flows.l i g3,getElem!_pos j.falls.l i g4,getElem!_pos j.room.l i g5,Bool.and_assoc]
  rw [he] at bad next
  have e1 : j.below.l[i]?.getD 0=j.below.l[i]:=by simp [h8]
  simp [h8]
  have cbs : (j.below.l[i] == -1 || (decide ((i : Int) < j.below.l[i]) && decide (j.below.l[i] < j.below.l.length)))=true -> ((cm j.lengths.l[i] 1 16777216 && cm j.flows.l[i] 0 1099511627776 && cm j.falls.l[i] 0 4194304 && cm j.room.l[i] 0 4194304)=false -> ao j=false) /\
    ((cm j.lengths.l[i] 1 16777216 && cm j.flows.l[i] 0 1099511627776 && cm j.falls.l[i] 0 4194304 && cm j.room.l[i] 0 4194304)=true -> ∃ s' : Nat,(s' <= j.below.l.length /\ ∀ k < s',ee j k=true) /\ j.below.l.length - s' < j.below.l.length - i /\ s'=i + 1):=fun cb=>by
   rw [cb] at bad next
   exact ⟨fun h=>bad (by rw [Bool.true_and];exact h),fun h=>next (by rw [Bool.true_and];exact h)⟩
  refine ab (fun c1=>?pa) (fun c1=>?pb) <;> simp [h8] at c1 <;> simp [c1,h8,g2]
  case' pa =>
   refine ab (fun c2=>?_) (fun c2=>?_) <;> simp [h8] at c2 <;> simp [c2,h8,g2]
   ·refine bad ?_
    have : ¬ (i : Int) < j.below.l[i]:=by omega
    simp [c1,this]
   refine ab (fun c3=>?_) (fun c3=>?_) <;> simp [h8] at c3 <;> simp [c3,h8,g2]
   ·refine bad ?_
    have : ¬ j.below.l[i] < (j.below.l.length : Int):=by omega
    simp [c1,this]
   obtain ⟨bad',next'⟩:=cbs (by simp [c3];omega)
  case' pb=>obtain ⟨bad',next'⟩:=cbs (by simp [c1])
  all_goals
   clear bad next cbs
   refine aa (fT hC _ _ _) (.inl rfl) ?_
   cases d1 : (decide (1 <= j.lengths.l[i]) && decide (j.lengths.l[i] <= 16777216))
   ·simp [d1,h8]
    exact bad' (by simp only [cm,d1,Bool.false_and])
   simp [d1,h8,g3]
   refine aa (fT hC _ _ _) (.inl rfl) ?_
   cases d2 : (decide (0 <= j.flows.l[i]) && decide (j.flows.l[i] <= 1099511627776))
   ·simp [d2,h8]
    exact bad' (by simp only [cm,d2,Bool.false_and,Bool.and_false])
   simp [d2,h8,g4]
   refine aa (fT hC _ _ _) (.inl rfl) ?_
   cases d3 : (decide (0 <= j.falls.l[i]) && decide (j.falls.l[i] <= 4194304))
   ·simp [d3,h8]
    exact bad' (by simp only [cm,d3,Bool.false_and,Bool.and_false])
   simp [d3,h8,g5]
   refine aa (fT hC _ _ _) (.inl rfl) ?_
   cases d4 : (decide (0 <= j.room.l[i]) && decide (j.room.l[i] <= 4194304))
   ·simp [d4,h8]
    exact bad' (by simp only [cm,d4,Bool.false_and,Bool.and_false])
   simp [d4,h8,hw]
   obtain ⟨s',q1,q2,rfl⟩:=next' (by simp only [cm,d1,d2,d3,d4,Bool.and_true])
   exact ⟨_,q1,q2,rfl⟩
 ·have : i=j.below.l.length:=by omega
  subst this
  have h6' : 0 < j.secs.length:=List.length_pos_iff.2 h6
  simp [ao,h7,h6',show j.below.l.length <= 400 by omega,show j.lengths.l.length=j.below.l.length by omega,show j.flows.l.length=j.below.l.length by omega,show j.falls.l.length=j.below.l.length by omega,show j.room.l.length=j.below.l.length by omega]
  exact hp
end Go.Gv

set_option maxRecDepth 4000
namespace Go.Gv
def fH (f : Nat -> Int) (V : List Nat) (k : Nat) : List (List D):=(V.take k).map fun l=>[.int .i64 (f l)]
theorem nE (f : Nat -> Int) (V : List Nat) : fH f V 0=[]:=by simp [fH]
theorem dE {f : Nat -> Int} {V : List Nat} {k : Nat} (h : k < V.length) : fH f V (k + 1)=fH f V k++[[.int .i64 (f V[k])]]:=by
 unfold fH
 rw [List.take_succ_eq_append_getElem h,List.map_append];rfl
theorem dQ {f : Nat -> Int} {V : List Nat} {k : Nat} (h : k <= V.length) : (fH f V k).length=k:=by simp [fH];omega
theorem dF {f : Nat -> Int} {V : List Nat} {k : Nat} (h : k <= V.length) : List.take k (fH f V k)=fH f V k:=List.take_of_length_le (by rw [dQ h];omega)
theorem pp (f : Nat -> Int) (V : List Nat) (k : Nat) : ∀ e ∈ fH f V k,∀ c ∈ e,aq c=true:=by
 intro e he
 simp only [fH,List.mem_map] at he
 obtain ⟨v,_,rfl⟩:=he
 simp [aq]
theorem pn (f : Nat -> Int) (V : List Nat) : fH f V V.length=bT (V.map f):=by
 unfold fH bT
 rw [List.take_length,List.map_map];rfl
def kg (ss : List Sec) (j : Nat) : List (List D):=(ss.take j).map aW
theorem uB (ss : List Sec) : kg ss 0=[]:=by simp [kg]
theorem uA {ss : List Sec} {j : Nat} (h : j < ss.length) : kg ss (j + 1)=kg ss j++[aW ss[j]]:=by
 unfold kg
 rw [List.take_succ_eq_append_getElem h,List.map_append];rfl
theorem wW {ss : List Sec} {j : Nat} (h : j <= ss.length) : (kg ss j).length=j:=by simp [kg];omega
theorem wU (ss : List Sec) : kg ss ss.length=ss.map aW:=by unfold kg;rw [List.take_length]
theorem wV (ss : List Sec) (j : Nat) : ∀ e ∈ kg ss j,∀ c ∈ e,aq c=true:=by
 intro e he
 simp only [kg,List.mem_map] at he
 obtain ⟨s,_,rfl⟩:=he
 have h1:=cg s.areaN (s.area.map knD)
 have h2:=cg s.convN (s.conv.map knD)
 intro c hc
 simp only [aW,List.mem_cons,List.not_mem_nil,or_false] at hc
 rcases hc with rfl | rfl | rfl | rfl | rfl
 all_goals first | rfl | exact h1 | exact h2
def mnI (a b : Int) : Int:=if b < a then b else a
def lnF (ls : List Lnk) (i : Nat) : Int:=ls[i]!.len
def qvF (q : List Int) (i : Nat) : Int:=q[i]!
def pFa (ls : List Lnk) (i : Nat) : Int:=ls[i]!.up - ls[i]!.down
def pRm (ns : List Nod) (es : List Edg) (ls : List Lnk) (cover : Int) (i : Nat) : Int:=if 0 < mnI (ns[(es[i]!).1]!.ground - ls[i]!.up) (ns[(es[i]!).2]!.ground - ls[i]!.down) - cover then mnI (ns[(es[i]!).1]!.ground - ls[i]!.up) (ns[(es[i]!).2]!.ground - ls[i]!.down) - cover else 0
def eA (ns : List Nod) (es : List Edg) (ls : List Lnk) (cover : Int) (i : Nat) : Bool:=!(decide (0 <= pFa ls i) && decide (pFa ls i <= 4194304)) || decide (4194304 < pRm ns es ls cover i)
def nl (x : Int) : Bool:=!(decide (0 <= x) && decide (x <= 1099511627776))
def prE (ns : List Nod) (ls : List Lnk) (ss : List Sec) (q : List Int) (cover : Int) : Int :=
 if !(bG ns ls && aJ ss) then 1 else if ss.length=0 then 14 else if ppE ls ns.length (aw ns ls) ≠ 0 then ppE ls ns.length (aw ns ls) else if q.length ≠ ls.length then 3
 else if (!(decide (0 <= cover) && decide (cover <= 4194304)) || q.any nl) then 2 else if (ppL ns.length (aw ns ls)).any (eA ns (aw ns ls) ls cover) then 23 else 0
def kQ : Job:=⟨⟨true,[]⟩,⟨true,[]⟩,⟨true,[]⟩,⟨true,[]⟩,⟨true,[]⟩,true,[]⟩
def rF (ns : List Nod) (es : List Edg) (ls : List Lnk) (ss : List Sec) (q : List Int) (cover : Int) (V : List Nat) : Job :=
 ⟨⟨false,V.map (jc es V)⟩,⟨false,V.map (lnF ls)⟩,⟨false,V.map (qvF q)⟩,⟨false,V.map (pFa ls)⟩,⟨false,V.map (pRm ns es ls cover)⟩,false,ss⟩
def prJ (ns : List Nod) (ls : List Lnk) (ss : List Sec) (q : List Int) (cover : Int) : Job :=
 if prE ns ls ss q cover=0 then rF ns (aw ns ls) ls ss q cover (ppL ns.length (aw ns ls)) else kQ
theorem mD : co kQ=[.nils,.nils,.nils,.nils,.nils,.nils]:=by
 unfold co kQ slI slx
 simp
theorem rE {ns : List Nod} {ls : List Lnk} (hv : bG ns ls=true) (hk : ls.any (fun l=>!decide (l.kind=1))=false) {i : Nat} (hi : i < ls.length) :
  (-4194304 <= ls[i].up /\ ls[i].up <= 4194304) /\ (-4194304 <= ls[i].down /\ ls[i].down <= 4194304) /\ 1 <= ls[i].len /\ ls[i].len <= 16777216:=by
 have h1:=(gE hv hi).1
 have h2 : ls[i].kind=1:=by
  rw [List.any_eq_false] at hk
  simpa using hk _ (List.getElem_mem hi)
 simp only [cI,jx,h2,if_true,Bool.and_eq_true] at h1
 have a:=h1.1.1.2;have b:=h1.2.1.2;have c:=h1.2.1.1
 simp only [cl,aM,Bool.and_eq_true,decide_eq_true_eq] at a b c
 exact ⟨a,b,c⟩
theorem oW {ns : List Nod} {ls : List Lnk} (hv : bG ns ls=true) {i : Nat} (hi : i < ns.length) : -4194304 <= ns[i].ground /\ ns[i].ground <= 4194304:=by
 have h1:=(kV hv hi).1
 simp only [iK,Bool.and_eq_true] at h1
 have a:=h1.1.2
 simpa only [cl,Bool.and_eq_true,decide_eq_true_eq] using a
theorem pY {ls : List Lnk} {n : Nat} {es : List Edg} (h : ppE ls n es=0) : ls.any (fun l=>!decide (l.kind=1))=false:=by
 unfold ppE at h
 split at h
 ·cases h
 ·rename_i h1;simpa using h1
variable {C : CC} (hC : am prog C)
include hC
theorem Dl (x : Int) : C 606 [.int .i64 x] (.bool (nl x)) []:=by
 refine al hC (nf:=N606) rfl rfl ?_
 simp [N606]
 refine aa (fT hC x 0 1099511627776) (.inl rfl) ?_
 simp [nl]
set_option maxHeartbeats 2000000 in
theorem tf (hS : SlC C) (hL : o8 C) (b1 b2 b3 b4 : Bool) (ns : List Nod) (ls : List Lnk) (ss : List Sec) (q : List Int) (cover : Int) (hcv : ∀ l ∈ ls,l.curve.length < 2 ^ 62) (htb : ∀ s ∈ ss,s.area.length < 2 ^ 40 /\ s.conv.length < 2 ^ 40) (hq : q.length < 2 ^ 62) :
  C 565 [.agg [slx b1 (ns.map aL),slx b2 (ls.map aD)],slx b3 (ss.map aW),slx b4 (q.map fun x=>[.int .i64 x]),.int .i64 cover] (.tup [.agg (co (prJ ns ls ss q cover)),.int .i64 (prE ns ls ss q cover)]) []:=by
 have k1:=lY hC b1 b2 ns ls hcv
 have k2:=jt hC b3 ss
 obtain ⟨E,hE⟩ : ∃ E,E=prE ns ls ss q cover:=⟨_,rfl⟩
 obtain ⟨J,hJ⟩ : ∃ J,J=prJ ns ls ss q cover:=⟨_,rfl⟩
 rw [<- hE,<- hJ]
 have bad : ∀ x : Int,x ≠ 0 -> E=x -> co J=[.nils,.nils,.nils,.nils,.nils,.nils] /\ E=x:=fun x hx h=>by
  have : J=kQ:=by rw [hJ];unfold prJ;rw [if_neg (by rw [<- hE,h];exact hx)]
  rw [this]
  exact ⟨mD,h⟩
 refine al hC (nf:=N565) rfl rfl ?_
 simp [N565]
 refine aa k1 (.inl rfl) ?_
 by_cases hv : bG ns ls=true
 ·by_cases hc : aJ ss=true
  ·rw [hv]
   simp
   refine aa k2 (.inl rfl) ?_
   rw [hc]
   simp
   have hu : prE ns ls ss q cover=if ss.length=0 then 14 else if ppE ls ns.length (aw ns ls) ≠ 0 then ppE ls ns.length (aw ns ls) else if q.length ≠ ls.length then 3
     else if (!(decide (0 <= cover) && decide (cover <= 4194304)) || q.any nl) then 2 else if (ppL ns.length (aw ns ls)).any (eA ns (aw ns ls) ls cover) then 23 else 0:=by
    unfold prE;rw [if_neg (by simp [hv,hc])]
   have hE0:=hE
   rw [hu] at hE
   clear hu
   have k3:=p8 hC hS b1 b2 ns ls hcv hv
   have k4:=mw hC (b:=b4) (xs:=q) (g:=606) (cs:=[]) nl hq (fun x _=>Dl hC x)
   have k5:=o9 hC b1 b2 ns ls hcv
   rw [if_pos hv] at k5
   have k6:=jO hC hL
   have k7:=fT hC cover 0 4194304
   obtain ⟨hnl,hll⟩:=cp hv
   have hg:=iY hv
   have hel:=a8 ns ls
   have hss : ss.length <= 40:=by simp only [aJ,Bool.and_eq_true,decide_eq_true_eq] at hc;omega
   by_cases h1 : ss=[]
   ·have hE1 : E=14:=by rw [hE,if_pos (by simp [h1])]
    obtain ⟨e1,e2⟩:=bad 14 (by decide) hE1
    rw [e1,e2]
    simp [h1]
   rw [if_neg (by simpa using h1)] at hE
   simp [h1]
   refine aa k3 (.inr rfl) ?_
   by_cases h2 : ppE ls ns.length (aw ns ls)=0
   ·rw [h2]
    rw [if_neg (by simp [h2])] at hE
    simp
    by_cases h3 : q.length=ls.length
    ·rw [if_neg (by simp [h3])] at hE
     simp [h3]
     refine aa k7 (.inl rfl) ?_
     simp
     by_cases h4 : (0 <= cover /\ cover <= 4194304)
     ·simp [h4.1,h4.2]
      refine aa k4 (.inl rfl) ?_
      by_cases h5 : q.any nl=true
      ·have hE1 : E=2:=by rw [hE,if_pos (by simp [h5])]
       obtain ⟨e1,e2⟩:=bad 2 (by decide) hE1
       rw [e1,e2,h5]
       simp
      rw [Bool.not_eq_true] at h5
      rw [if_neg (by simp [h5,h4.1,h4.2])] at hE
      rw [h5]
      simp
      refine aa k5 (.inr rfl) ?_
      have eV : ppV ls ns.length (aw ns ls)=ppL ns.length (aw ns ls):=by unfold ppV;rw [if_pos h2]
      have eW : ppW ls ns.length (aw ns ls)=ppB ns.length (aw ns ls):=by unfold ppW;rw [if_pos h2]
      rw [eV,eW]
      simp
      refine ki (ds:=[.sl (bT (ppB ns.length (aw ns ls))),.nils,.nils,.nils,.nils,.nils]) (b:=10240) (i:=0) (off:=0) (sz:=6) (es:=[[.own 1 [],.own 1 [],.own 1 [],.own 1 [],.own 1 [],.own 5 []]]) (r:=[.own 1 [],.own 1 [],.own 1 [],.own 1 [],.own 1 [],.own 5 []]) (by simp) (by simp [aq]) rfl rfl (by simp) (by simp) rfl (by simp) ?_
      simp [dh,dY]
      refine aj Nat (fun j=>[(2,slx b4 (q.map fun x=>[.int .i64 x])),(3,.int .i64 cover),(4,.ptr [slx b1 (ns.map aL),slx b2 (ls.map aD)]),(8,.adr (.r 10128) 0 0),(10,.sl (aG (ppL ns.length (aw ns ls)))),(13,.sl ((aw ns ls).map edK)),(15,.adr (.r 10240) 0 0),(75,slx b3 (ss.map aW)),(76,.int .i64 ss.length),(77,.int .i64 j),(10128,.blk 6 [[.own 1 [],.own 1 [],.own 1 [],.own 1 [],.own 1 [],.own 5 []]]),(10240,.blk 6 [[.sl (bT (ppB ns.length (aw ns ls))),.own 1 [],.own 1 [],.own 1 [],.own 1 [],.own 5 (kg ss j)]])]) (fun j=>j <= ss.length) (fun j=>ss.length - j) 0 (by simp) (by simp [uB]) ?_
      intro j hj
      simp
      refine ab (fun h=>?_) (fun h=>?_) <;> simp at h
      ·have hw : IntKind.wrap .i64 ((j : Int) + 1)=((j + 1 : Nat) : Int):=af (by omega) (by omega)
       have ht:=uA h
       have hlen:=wW hj
       have ha:=k6 ss[j].areaN ss[j].area (htb _ (List.getElem_mem h)).1
       have hb:=k6 ss[j].convN ss[j].conv (htb _ (List.getElem_mem h)).2
       have hc1:=wV ss j
       have htk : List.take j (kg ss j)=kg ss j:=List.take_of_length_le (by omega)
       have hb2 : (j + 1) * 80 <= 140737488355328:=by omega
       rcases m5 ss[j].areaN (ss[j].area.map knD) with e | e <;> rcases m5 ss[j].convN (ss[j].conv.map knD) with e' | e'
       all_goals
        rw [e] at ha
        rw [e'] at hb
        simp [h,aW,e,e']
        refine aa ha (.inr rfl) ?_
        simp
        refine aa hb (.inr rfl) ?_
        simp [aW,e,e'] at ht
        simp [hlen,hb2,htk]
        refine ⟨ar (by decide +kernel),fun e he=>by rcases he with he | rfl;exact hc1 e he;simp [aq],j + 1,by omega,by omega,hw,?_⟩
        rw [ht]
      ·have ej : j=ss.length:=by omega
       subst ej
       have hkd:=pY h2
       have eB : ppB ns.length (aw ns ls)=(ppL ns.length (aw ns ls)).map (jc (aw ns ls) (ppL ns.length (aw ns ls))):=rfl
       have hVl : (ppL ns.length (aw ns ls)).length <= 300:=Nat.le_trans (fu _ _) (Nat.le_trans (fM _ _) hnl)
       have hVlt : ∀ l ∈ ppL ns.length (aw ns ls),l < ls.length:=fun l hl=>by rw [<- hel];exact kZ hl
       have eJ : E=0 -> J=rF ns (aw ns ls) ls ss q cover (ppL ns.length (aw ns ls)):=fun h=>by
        have h' : prE ns ls ss q cover=0:=by rw [<- hE0];exact h
        rw [hJ];unfold prJ;rw [if_pos h']
       clear hJ k3
       generalize hVd : ppL ns.length (aw ns ls)=V at *
       generalize ppB ns.length (aw ns ls)=B at *
       generalize hes : aw ns ls=es at *
       simp [aC,wU]
       refine aj Nat (fun k=>[(2,slx b4 (q.map fun x=>[.int .i64 x])),(3,.int .i64 cover),(4,.ptr [slx b1 (ns.map aL),slx b2 (ls.map aD)]),(8,.adr (.r 10128) 0 0),(13,.sl (es.map edK)),(15,.adr (.r 10240) 0 0),(96,.sl (aG V)),(97,.int .i64 V.length),(98,.int .i64 k),(10128,.blk 6 [[.own 1 [],.own 1 [],.own 1 [],.own 1 [],.own 1 [],.own 5 []]]),
        (10240,.blk 6 [[.sl (bT B),.own 1 (fH (lnF ls) V k),.own 1 (fH (qvF q) V k),.own 1 (fH (pFa ls) V k),.own 1 (fH (pRm ns es ls cover) V k),.own 5 (ss.map aW)]])]) (fun k=>k <= V.length /\ ∀ j (hj : j < V.length),j < k -> eA ns es ls cover V[j]=false) (fun k=>V.length - k) 0 ⟨by omega,by omega⟩ (by simp [nE]) ?_
       rintro k ⟨hk,hok⟩
       simp
       refine ab (fun h=>?_) (fun h=>?_) <;> simp at h
       ·have hw : IntKind.wrap .i64 ((k : Int) + 1)=((k + 1 : Nat) : Int):=af (by omega) (by omega)
        have hi:=hVlt _ (List.getElem_mem h)
        have hie : V[k] < es.length:=by omega
        obtain ⟨g1,g2⟩:=hg _ (List.getElem_mem hie)
        obtain ⟨p1,p2,p3⟩:=rE hv hkd hi
        have n1:=oW hv g1
        have n2:=oW hv g2
        simp [h,bf (cA h),hi,hie,edK,knD,g1,g2,aD,aL,cg]
        have wf : IntKind.wrap .i64 (ls[V[k]].up - ls[V[k]].down)=pFa ls V[k]:=af (by unfold pFa;rw [getElem!_pos ls _ hi]) (by unfold pFa;rw [getElem!_pos ls _ hi];omega)
        have w1 : IntKind.wrap .i64 (ns[es[V[k]].1].ground - ls[V[k]].up)=ns[es[V[k]].1].ground - ls[V[k]].up:=af rfl (by omega)
        have w2 : IntKind.wrap .i64 (ns[es[V[k]].2].ground - ls[V[k]].down)=ns[es[V[k]].2].ground - ls[V[k]].down:=af rfl (by omega)
        have hmn : -8388608 <= mnI (ns[es[V[k]].1].ground - ls[V[k]].up) (ns[es[V[k]].2].ground - ls[V[k]].down) /\ mnI (ns[es[V[k]].1].ground - ls[V[k]].up) (ns[es[V[k]].2].ground - ls[V[k]].down) <= 8388608:=by
         unfold mnI;split <;> omega
        have w3 : IntKind.wrap .i64 (mnI (ns[es[V[k]].1].ground - ls[V[k]].up) (ns[es[V[k]].2].ground - ls[V[k]].down) - cover)=mnI (ns[es[V[k]].1].ground - ls[V[k]].up) (ns[es[V[k]].2].ground - ls[V[k]].down) - cover:=af rfl (by omega)
        have er : (if 0 < mnI (ns[es[V[k]].1].ground - ls[V[k]].up) (ns[es[V[k]].2].ground - ls[V[k]].down) - cover then mnI (ns[es[V[k]].1].ground - ls[V[k]].up) (ns[es[V[k]].2].ground - ls[V[k]].down) - cover else 0)=pRm ns es ls cover V[k]:=by
         unfold pRm
         rw [getElem!_pos ls _ hi,getElem!_pos es _ hie,getElem!_pos ns _ g1,getElem!_pos ns _ g2]
        have emn : (if ns[es[V[k]].2].ground - ls[V[k]].down < ns[es[V[k]].1].ground - ls[V[k]].up then ns[es[V[k]].2].ground - ls[V[k]].down else ns[es[V[k]].1].ground - ls[V[k]].up)=mnI (ns[es[V[k]].1].ground - ls[V[k]].up) (ns[es[V[k]].2].ground - ls[V[k]].down):=rfl
        rw [wf,w1,w2,emn,w3,er]
        refine ⟨ar (by decide +kernel),ar (by decide +kernel),?_⟩
        refine aa (fT hC (pFa ls V[k]) 0 4194304) (.inl rfl) ?_
        simp
        have bad23 : eA ns es ls cover V[k]=true -> E=23:=fun hb=>by
         rw [hE,if_pos (List.any_eq_true.2 ⟨_,List.getElem_mem h,hb⟩)]
        by_cases hb1 : 0 <= pFa ls V[k] /\ pFa ls V[k] <= 4194304
        ·by_cases hb2 : 4194304 < pRm ns es ls cover V[k]
         ·obtain ⟨e1,e2⟩:=bad 23 (by decide) (bad23 (by simp [eA,hb2]))
          rw [e1,e2]
          simp [hb1.1,hb1.2,hb2]
         ·have hnb : eA ns es ls cover V[k]=false:=by simp [eA,hb1.1,hb1.2,hb2]
          have c1:=dQ (f:=lnF ls) hk
          have c2:=dQ (f:=qvF q) hk
          have c3:=dQ (f:=pFa ls) hk
          have c4:=dQ (f:=pRm ns es ls cover) hk
          have s1:=dE (f:=lnF ls) h
          have s2:=dE (f:=qvF q) h
          have s3:=dE (f:=pFa ls) h
          have s4:=dE (f:=pRm ns es ls cover) h
          have t1:=dF (f:=lnF ls) hk
          have t2:=dF (f:=qvF q) hk
          have t3:=dF (f:=pFa ls) hk
          have t4:=dF (f:=pRm ns es ls cover) hk
          have hqi : V[k] < q.length:=by omega
          have hqv : q[V[k]]=qvF q V[k]:=by unfold qvF;rw [getElem!_pos q _ hqi]
          have hlv : ls[V[k]].len=lnF ls V[k]:=by unfold lnF;rw [getElem!_pos ls _ hi]
          have hb8 : (k + 1) * 8 <= 140737488355328:=by omega
          have cc : ∀ (f : Nat -> Int) (x : Int),∀ e,e ∈ fH f V k \/ e=[D.int .i64 x] -> ∀ c ∈ e,aq c=true:=by
           rintro f x e (he | rfl)
           ·exact pp _ _ _ e he
           ·simp [aq]
          simp [hb1.1,hb1.2,hb2,bf (cA h),hqi,c1,c2,c3,c4,t1,t2,t3,t4,hb8]
          refine ⟨cc _ _,cc _ _,ar (by decide +kernel),cc _ _,cc _ _,ar (by decide +kernel),?_⟩
          refine ⟨k + 1,⟨by omega,fun j hj hjk=>by rcases Nat.lt_succ_iff_lt_or_eq.1 hjk with h8 | rfl;exact hok j hj h8;exact hnb⟩,by omega,hw,?_⟩
          rw [s1,s2,s3,s4,hqv,hlv]
          exact ⟨rfl,rfl,rfl,rfl⟩
        ·obtain ⟨e1,e2⟩:=bad 23 (by decide) (bad23 (by simp only [eA];rw [Bool.or_eq_true];left;rw [Bool.not_eq_true',Bool.and_eq_false_iff];simp only [decide_eq_false_iff_not];omega))
         rw [e1,e2]
         by_cases hb3 : 0 <= pFa ls V[k]
         ·have hb4 : ¬ pFa ls V[k] <= 4194304:=fun h7=>hb1 ⟨hb3,h7⟩
          simp [hb3,hb4]
         ·simp [hb3]
       ·have ek : k=V.length:=by omega
        subst ek
        have hnb : V.any (eA ns es ls cover)=false:=by
         rw [List.any_eq_false]
         intro x hx
         obtain ⟨j,hj,rfl⟩:=List.getElem_of_mem hx
         simpa using hok j hj hj
        have hE1 : E=0:=by rw [hE,if_neg (by rw [hnb];decide)]
        rw [eJ hE1,hE1]
        simp [h,pn]
        unfold rF co slI
        simp only [cE]
        rw [eB]
        rfl
     ·have hE1 : E=2:=by rw [hE,if_pos (by rw [Bool.or_eq_true];left;rw [Bool.not_eq_true',Bool.and_eq_false_iff];simp only [decide_eq_false_iff_not];omega)]
      obtain ⟨e1,e2⟩:=bad 2 (by decide) hE1
      rw [e1,e2]
      by_cases h6 : 0 <= cover
      ·have h7 : ¬ cover <= 4194304:=fun h7=>h4 ⟨h6,h7⟩
       simp [h6,h7]
      ·simp [h6]
    ·have hE1 : E=3:=by rw [hE,if_pos (by simp [h3])]
     obtain ⟨e1,e2⟩:=bad 3 (by decide) hE1
     rw [e1,e2]
     have h3' : ¬ (q.length : Int)=(ls.length : Int):=by omega
     simp [h3']
   ·have hE1 : E=ppE ls ns.length (aw ns ls):=by rw [hE,if_pos (by simp [h2])]
    obtain ⟨e1,e2⟩:=bad _ h2 hE1
    rw [e1,<- e2]
    rw [<- e2] at h2
    simp [h2]
  ·have hE1 : E=1:=by rw [hE];unfold prE;rw [if_pos (by simp [hc])]
   obtain ⟨e1,e2⟩:=bad 1 (by decide) hE1
   rw [hv,e1,e2]
   simp
   refine aa k2 (.inl rfl) ?_
   simp [hc]
 ·have hE1 : E=1:=by rw [hE];unfold prE;rw [if_pos (by simp [hv])]
  obtain ⟨e1,e2⟩:=bad 1 (by decide) hE1
  rw [Bool.not_eq_true] at hv
  rw [hv,e1,e2]
  simp
end Go.Gv

namespace Go.Gv
def eK (j : Job) (i s : Nat) : Bool:=((dR j.secs[s]! j.falls.l[i]! j.lengths.l[i]!).2 == 5 || ((dR j.secs[s]! j.falls.l[i]! j.lengths.l[i]!).2 == 0 && decide (j.flows.l[i]! <= (dR j.secs[s]! j.falls.l[i]! j.lengths.l[i]!).1))) && decide (j.secs[s]!.height <= j.room.l[i]!)
def ce (j : Job) (i : Nat) : List Nat:=(List.range j.below.l.length).filter fun a=>decide (j.below.l[a]! = (i : Int))
def bl (b : Bool) : List D:=[.bool b]
def it (n : Nat) : List D:=[.int .i64 (n : Int)]
def mN (j : Job) (i : Nat) : List D:=[.sl ((List.range j.secs.length).map fun s=>bl (eK j i s))]
def ow (j : Job) (i : Nat) : List D:=[.sl ((ce j i).map it)]
def bA (j : Job) : D:=.ptr (co j++[.sl ((List.range j.below.l.length).map (mN j)),.sl ((List.range j.below.l.length).map (ow j))])
@[simp] theorem FR {j} : isV (bA j)=true:=_root_.id rfl
@[simp] theorem FJ {j} : isK (bA j)=true:=_root_.id rfl
@[simp] theorem FN {j} : isP (bA j)=true:=_root_.id rfl
@[simp] theorem FP {j} : isS (bA j)=true:=_root_.id rfl
@[simp] theorem Cv {j} : aq (bA j)=true:=_root_.id rfl
@[simp] theorem FL {j} : isO (bA j)=false:=_root_.id rfl
@[simp] theorem Cx {j} : bj (bA j)=false:=_root_.id rfl
@[simp] theorem FH {j} : isF (bA j)=false:=_root_.id rfl
@[simp] theorem Fw {j} : isB (bA j)=false:=_root_.id rfl
@[simp] theorem AP {j} : cB (bA j)=false:=_root_.id rfl
@[simp] theorem xq {j} : cellsOf (bA j)=[(bA j)]:=_root_.id rfl
@[simp] theorem Ah {j} : ca (bA j)=(bA j):=_root_.id rfl
@[simp] theorem An {j} : aR (bA j)=(bA j):=_root_.id rfl
@[simp] theorem xE {j} : aN (bA j)=[]:=_root_.id rfl
@[simp] theorem yF {j} : bv (bA j)=[]:=_root_.id rfl
@[simp] theorem EI {f : Nat -> D} {j} : dp1 f (bA j)=(bA j):=_root_.id rfl
@[simp] theorem H4 {f : Nat -> D} {j} : dp f (bA j)=(bA j):=_root_.id rfl
@[simp] theorem AH {f : Nat -> D} {j} : aU f (bA j)=True:=_root_.id rfl
@[simp] theorem Cf {f : Nat -> D} {j} : bu f (bA j)=True:=_root_.id rfl
@[simp] theorem Gb {p i o} {j} : ldc p i o (bA j)=(bA j):=_root_.id rfl
@[simp] theorem AX {ks} {j} : aY ks (bA j)=(bA j):=by unfold bA;exact tT
theorem bi {j} : bA j=.ptr (co j++[.sl ((List.range j.below.l.length).map (mN j)),.sl ((List.range j.below.l.length).map (ow j))]):=_root_.id rfl
theorem az {j} : co j=[slI j.below,slI j.lengths,slI j.flows,slI j.falls,slI j.room,slx j.secN (j.secs.map aW)]:=_root_.id rfl
theorem fw {s} : aW s=[.str s.name,.int .i64 s.height,.int .i64 s.price,slx s.areaN (s.area.map knD),slx s.convN (s.conv.map knD)]:=_root_.id rfl
def cD (ok : Nat -> Bool) (vs : List Int) (b : Int × Int) (s : Nat) : Int × Int:=if vs[s]! ≠ -1 /\ ok s=true /\ (b.1=-1 \/ vs[s]! < b.1) then (vs[s]!,(s : Int)) else b
def fK (ok : Nat -> Bool) (vs : List Int) : Int × Int:=(List.range vs.length).foldl (cD ok vs) (-1,-1)
def okF (j : Job) (pipe : Nat) (height : Int) (s : Nat) : Bool:=eK j pipe s && decide (j.secs[s]!.height <= height)
variable {C : CC} (hC : am prog C)
include hC
theorem oO (j : Job) (b : Bool) (vs : List Int) (pipe : Nat) (height : Int) (hp : pipe < j.below.l.length) (hv : vs.length <= j.secs.length) (hs : j.secs.length < 2 ^ 62) :
  C 40 [bA j,slx b (vs.map fun n=>[.int .i64 n]),.int .i64 pipe,.int .i64 height] (.tup [.int .i64 (fK (okF j pipe height) vs).1,.int .i64 (fK (okF j pipe height) vs).2]) []:=by
 obtain ⟨r,hr⟩ : ∃ r,r=fK (okF j pipe height) vs:=⟨_,rfl⟩
 rw [<- hr]
 refine al hC (nf:=N40) rfl rfl ?_
 simp [N40]
 refine aj (Nat × Int × Int) (fun s=>[(0,bA j),(2,.int .i64 pipe),(3,.int .i64 height),(10,.int .i64 s.2.1),(11,.int .i64 s.2.2),(14,slx b (vs.map fun n=>[.int .i64 n])),(15,.int .i64 vs.length),(16,.int .i64 s.1)])
  (fun s=>s.1 <= vs.length /\ s.2=(List.range s.1).foldl (cD (okF j pipe height) vs) (-1,-1)) (fun s=>vs.length - s.1) (0,-1,-1) (by simp) (by simp) ?_
 rintro ⟨i,best,at_⟩ ⟨hi,hst⟩
 simp only at hi hst
 simp
 refine ab (fun h=>?_) (fun h=>?_) <;> simp at h <;> simp [h]
 ·have hw : IntKind.wrap .i64 ((i : Int) + 1)=((i + 1 : Nat) : Int):=af (by omega) (by omega)
  have his : i < j.secs.length:=by omega
  have hstep : (List.range (i + 1)).foldl (cD (okF j pipe height) vs) (-1,-1)=cD (okF j pipe height) vs (best,at_) i:=by
   rw [List.range_succ,List.foldl_append,<- hst];rfl
  have eo : okF j pipe height i=(eK j pipe i && decide (j.secs[i].height <= height)):=by simp only [okF,getElem!_pos j.secs i his]
  simp only [cD,getElem!_pos vs i h,eo] at hstep
  have next : ∀ (x y : Int),(x,y)=(List.range (i + 1)).foldl (cD (okF j pipe height) vs) (-1,-1) -> ∃ a a_1 b_1,(a <= vs.length /\ (a_1,b_1)=(List.range a).foldl (cD (okF j pipe height) vs) (-1,-1)) /\ vs.length - a < vs.length - i /\ x=a_1 /\ y=b_1 /\ (i : Int) + 1=(a : Int):=fun x y e=>⟨i + 1,x,y,⟨by omega,e⟩,by omega,rfl,rfl,rfl⟩
  refine ab (fun c1=>?_) (fun c1=>?_) <;> simp [h] at c1 <;> simp [c1,h,bi,az,hp,mN,his,bl,fw,hw]
  ·refine ab (fun c2=>?_) (fun c2=>?_) <;> simp [c1,c2,h,bi,az,hp,mN,his,bl,fw,hw]
   ·refine ab (fun c3=>?_) (fun c3=>?_) <;> simp at c3 <;> simp [c1,c2,c3,h,bi,az,hp,mN,his,bl,fw,hw]
    ·refine ab (fun c4=>?_) (fun c4=>?_) <;> simp at c4 <;> simp [c1,c2,c3,c4,hw,bi,az]
     ·exact next vs[i] i (by rw [hstep];simp [c1,c2,c3,c4])
     ·refine ab (fun c5=>?_) (fun c5=>?_) <;> simp at c5 <;> simp [c1,c2,c3,c4,c5,hw,bi,az]
      ·exact next vs[i] i (by rw [hstep];simp [c1,c2,c3,c4,c5])
      ·exact next best at_ (by rw [hstep];simp [c1,c2,c3,c4,show ¬ vs[i] < best by omega])
    ·exact next best at_ (by rw [hstep];simp [c1,c2,show ¬ j.secs[i].height <= height by omega])
   ·exact next best at_ (by rw [hstep];simp [c1,c2])
  ·exact next best at_ (by rw [hstep];simp [c1])
 ·have : i=vs.length:=by omega
  subst this
  rw [hr,fK,<- hst]
  simp
end Go.Gv

namespace Go.Gv
def ko (v : Nat -> Int) : List Nat -> Int -> Option Int
 | [],s=>some s
 | a::l,s=>if v a=-1 then none else ko v l (IntKind.wrap .i64 (s + v a))
def lv (j : Job) (val : Nat -> List Int) (h : Int) (a : Nat) : Int:=(fK (okF j a h) (val a)).1
def gq (j : Job) (val : Nat -> List Int) (i s : Nat) : Int:=(ko (lv j val j.secs[s]!.height) (ce j i) (IntKind.wrap .i64 (j.lengths.l[i]! * j.secs[s]!.price))).getD (-1)
def dI (vals : List SlI) (a : Nat) : List Int:=vals[a]!.l
theorem jL {j : Job} {i a : Nat} (h : a ∈ ce j i) : a < j.below.l.length:=by
 simp only [ce,List.mem_filter,List.mem_range] at h
 exact h.1
theorem ti (j : Job) (i : Nat) : (ce j i).length <= j.below.l.length:=by
 have:=List.length_filter_le (fun a=>decide (j.below.l[a]! = (i : Int))) (List.range j.below.l.length)
 simpa [ce] using this
def jF (j : Job) : List Nat:=(List.range j.below.l.length).filter fun a=>decide (j.below.l[a]! = -1)
def jr (j : Job) (val : Nat -> List Int) : Int:=(ko (lv j val 4194304) (jF j) 0).getD (-1)
variable {C : CC} (hC : am prog C)
include hC
theorem Ca (j : Job) (b : Bool) (vals : List SlI) (pipe s : Nat) (hp : pipe < j.below.l.length) (hl : pipe < j.lengths.l.length) (hs : s < j.secs.length) (hn : j.below.l.length < 2 ^ 62) (hm : j.secs.length < 2 ^ 62) (hva : ∀ a ∈ ce j pipe,a < vals.length /\ vals[a]!.l.length <= j.secs.length) :
  C 31 [bA j,slx b (vals.map fun r=>[slI r]),.int .i64 pipe,.int .i64 s] (.int .i64 (gq j (dI vals) pipe s)) []:=by
 obtain ⟨r,hr⟩ : ∃ r,r=gq j (dI vals) pipe s:=⟨_,rfl⟩
 rw [<- hr]
 have hal:=ti j pipe
 refine al hC (nf:=N31) rfl rfl ?_
 simp [N31]
 simp [bi,az,hp,hl,hs,fw,ow]
 refine ⟨ar (by decide +kernel),?_⟩
 refine aj (Nat × Int) (fun s'=>[(0,bA j),(1,slx b (vals.map fun r=>[slI r])),(3,.int .i64 s),(9,.int .i64 s'.2),(38,.sl ((ce j pipe).map it)),(39,.int .i64 (ce j pipe).length),(40,.int .i64 s'.1)])
  (fun s'=>s'.1 <= (ce j pipe).length /\ (ko (lv j (dI vals) j.secs[s].height) ((ce j pipe).drop s'.1) s'.2).getD (-1)=r) (fun s'=>(ce j pipe).length - s'.1) (0,IntKind.wrap .i64 (j.lengths.l[pipe] * j.secs[s].price)) ⟨by simp,?_⟩ (by simp [bi,az]) ?_
 ·rw [hr,gq,getElem!_pos j.secs s hs,getElem!_pos j.lengths.l pipe hl];rfl
 rintro ⟨k,sum⟩ ⟨hk,hsum⟩
 simp only at hk hsum
 simp
 refine ab (fun h=>?_) (fun h=>?_) <;> simp at h <;> simp [h]
 ·have hw : IntKind.wrap .i64 ((k : Int) + 1)=((k + 1 : Nat) : Int):=af (by omega) (by omega)
  obtain ⟨a,ha⟩ : ∃ a,a=(ce j pipe)[k]:=⟨_,rfl⟩
  have hmem : a ∈ ce j pipe:=ha ▸ List.getElem_mem h
  obtain ⟨ha1,ha2⟩:=hva a hmem
  have hd : (ce j pipe).drop k=a::(ce j pipe).drop (k + 1):=by rw [ha,List.drop_eq_getElem_cons h]
  rw [hd,ko] at hsum
  rw [getElem!_pos vals a ha1] at ha2
  have hlc:=oO hC j vals[a].n vals[a].l a j.secs[s].height (jL hmem) ha2 hm
  have ev : (fK (okF j a j.secs[s].height) vals[a].l).1=lv j (dI vals) j.secs[s].height a:=by simp only [lv,dI,getElem!_pos vals a ha1]
  rw [ev] at hlc
  simp [h,it,<- ha,ha1]
  simp [bi,az,hp,hl,hs,fw,h,it,<- ha,ha1]
  simp [bi,az] at hlc
  refine aa hlc (.inl rfl) ?_
  simp
  refine ⟨ar (by decide +kernel),?_⟩
  refine ab (fun c=>?_) (fun c=>?_) <;> simp at c <;> simp [c,hw,bi,az]
  ·rw [if_pos c] at hsum
   simp at hsum
   exact hsum
  ·rw [if_neg c] at hsum
   exact ⟨k + 1,_,⟨by omega,hsum⟩,by omega,rfl,rfl⟩
 ·have hk' : k=(ce j pipe).length:=by omega
  subst hk'
  simp [ko] at hsum
  simp [hsum]
theorem xP (j : Job) (b : Bool) (vals : List SlI) (hn : j.below.l.length < 2 ^ 62) (hm : j.secs.length < 2 ^ 62) (hva : ∀ a ∈ jF j,a < vals.length /\ vals[a]!.l.length <= j.secs.length) :
  C 32 [bA j,slx b (vals.map fun r=>[slI r])] (.int .i64 (jr j (dI vals))) []:=by
 obtain ⟨r,hr⟩ : ∃ r,r=jr j (dI vals):=⟨_,rfl⟩
 rw [<- hr]
 refine al hC (nf:=N32) rfl rfl ?_
 simp [N32]
 simp [bi,az]
 refine aj (Nat × Int) (fun s'=>[(0,bA j),(1,slx b (vals.map fun r=>[slI r])),(5,.int .i64 s'.2),(14,slI j.below),(15,.int .i64 j.below.l.length),(16,.int .i64 s'.1)])
  (fun s'=>s'.1 <= j.below.l.length /\ (ko (lv j (dI vals) 4194304) (((List.range j.below.l.length).drop s'.1).filter fun a=>decide (j.below.l[a]! = -1)) s'.2).getD (-1)=r) (fun s'=>j.below.l.length - s'.1) (0,0) ⟨by simp,?_⟩ (by simp [bi,az]) ?_
 ·rw [hr,jr];rfl
 rintro ⟨k,sum⟩ ⟨hk,hsum⟩
 simp only at hk hsum
 simp
 refine ab (fun h=>?_) (fun h=>?_) <;> simp at h <;> simp [h]
 ·have hw : IntKind.wrap .i64 ((k : Int) + 1)=((k + 1 : Nat) : Int):=af (by omega) (by omega)
  have hd : (List.range j.below.l.length).drop k=k::(List.range j.below.l.length).drop (k + 1):=by rw [List.drop_eq_getElem_cons (by simpa using h)];simp
  rw [hd,List.filter_cons,getElem!_pos j.below.l k h] at hsum
  refine ab (fun c1=>?_) (fun c1=>?_) <;> simp [h] at c1 <;> simp [c1,hw,h]
  ·simp [c1] at hsum
   exact ⟨k + 1,sum,⟨by omega,by simpa using hsum⟩,by omega,rfl,rfl⟩
  ·have hmem : k ∈ jF j:=by simp [jF,h,c1]
   obtain ⟨ha1,ha2⟩:=hva k hmem
   rw [getElem!_pos vals k ha1] at ha2
   have hlc:=oO hC j vals[k].n vals[k].l k 4194304 h ha2 hm
   have ev : (fK (okF j k 4194304) vals[k].l).1=lv j (dI vals) 4194304 k:=by simp only [lv,dI,getElem!_pos vals k ha1]
   rw [ev] at hlc
   simp only [c1,decide_true,if_true,ko] at hsum
   simp [bi,az,h,ha1]
   simp [bi,az] at hlc
   refine aa hlc (.inl rfl) ?_
   simp
   refine ab (fun c=>?_) (fun c=>?_) <;> simp at c <;> simp [c,hw,bi,az]
   ·rw [if_pos c] at hsum
    simp at hsum
    exact hsum
   ·rw [if_neg c] at hsum
    exact ⟨k + 1,_,⟨by omega,by simpa using hsum⟩,by omega,rfl,rfl⟩
 ·have hk' : k=j.below.l.length:=by omega
  subst hk'
  rw [List.drop_of_length_le (by simp)] at hsum
  simp [ko] at hsum
  exact hsum
end Go.Gv

namespace Go.Gv
def mW (j : Job) (val : Nat -> List Int) (i : Nat) : List Int:=(List.range j.secs.length).map fun s=>if eK j i s then gq j val i s else -1
def gk (j : Job) : Nat -> List (List Int)
 | 0=>[]
 | i + 1=>gk j i++[mW j (fun a=>(gk j i)[a]!) i]
def xj (j : Job) : List (List Int):=gk j j.below.l.length
def da (j : Job) (a : Nat) : List Int:=(xj j)[a]!
def slR (r : List Int) : List D:=[.sl (r.map fun v=>[.int .i64 v])]
def bV (j : Job) : D:=.sl ((List.range j.below.l.length).map fun a=>slR (da j a))
theorem ii (j : Job) : ∀ i,(gk j i).length=i
 | 0=>rfl
 | i + 1=>by simp [gk,ii j i]
theorem fS (j : Job) (a : Nat) : ∀ i,a < i -> (gk j i)[a]! = mW j (fun b=>(gk j a)[b]!) a
 | 0,h=>by omega
 | i + 1,h=>by
  have hl:=ii j i
  by_cases e : a=i
  ·subst e
   rw [getElem!_pos _ a (by rw [ii];omega)]
   simp only [gk]
   rw [List.getElem_append_right (by omega)]
   simp [hl]
  ·have:=fS j a i (by omega)
   rw [getElem!_pos _ a (by rw [ii];omega)] at this ⊢
   simp only [gk]
   rw [List.getElem_append_left (by omega)]
   exact this
theorem jI {v v' : Nat -> Int} : ∀ {l : List Nat} {s : Int},(∀ a ∈ l,v a=v' a) -> ko v l s=ko v' l s
 | [],s,_=>rfl
 | a::l,s,h=>by
  simp only [ko]
  rw [h a (by simp),jI (fun b hb=>h b (by simp [hb]))]
theorem lp {j : Job} {val val' : Nat -> List Int} {i s : Nat} (h : ∀ a ∈ ce j i,val a=val' a) : gq j val i s=gq j val' i s:=by
 unfold gq
 rw [jI (v':=lv j val' j.secs[s]!.height) (fun a ha=>by simp only [lv,h a ha])]
theorem fe {j : Job} (hv : ao j=true) {i : Nat} (hi : i < j.below.l.length) : j.below.l[i]! = -1 \/ ((i : Int) < j.below.l[i]! /\ j.below.l[i]! < j.below.l.length):=by
 simp only [ao,Bool.and_eq_true,List.all_eq_true,List.mem_range] at hv
 have:=hv.2 i hi
 simp only [ee,Bool.and_eq_true,Bool.or_eq_true,beq_iff_eq,decide_eq_true_eq] at this
 exact this.1.1.1.1
theorem jp {j : Job} (hv : ao j=true) {i a : Nat} (h : a ∈ ce j i) : a < i:=by
 have h1:=jL h
 simp only [ce,List.mem_filter,decide_eq_true_eq] at h
 rcases fe hv h1 with h2 | h2 <;> omega
theorem ta {j : Job} (hv : ao j=true) {i : Nat} (hi : i < j.below.l.length) : da j i=mW j (da j) i:=by
 unfold da xj
 rw [fS j i _ hi]
 unfold mW
 refine List.map_congr_left fun s _=>?_
 rw [lp (val':=fun a=>(gk j j.below.l.length)[a]!)]
 intro a ha
 have h1:=jp hv ha
 rw [fS j a i h1,fS j a _ (by omega)]
theorem gM {j : Job} {i : Nat} (hi : i < j.below.l.length) : (da j i).length=j.secs.length:=by
 unfold da xj
 rw [fS j i _ hi]
 simp [mW]
theorem eP {α : Type} (F : Nat -> α) (n i : Nat) (x : α) : ((List.range n).map F).set i x=(List.range n).map (fun k=>if k=i then x else F k):=by
 apply List.ext_getElem
 ·simp
 ·intro k h1 h2
  simp only [List.getElem_set,List.getElem_map,List.getElem_range]
  by_cases e : i=k
  ·subst e;simp
  ·rw [if_neg e,if_neg (Ne.symm e)]
theorem fj {α : Type} (n : Nat) (x : α) : List.replicate n x=(List.range n).map fun _=>x:=by
 apply List.ext_getElem <;> simp
def iM (j : Job) (i s k : Nat) : List Int:=if k < i then da j k else if k=i then (da j i).take s else []
def ry (j : Job) (i s : Nat) : D:=.blk 1 ((List.range j.below.l.length).map fun k=>[.own 1 ((iM j i s k).map fun v=>[.int .i64 v])])
theorem j0 {j i s} : ry j i s=.blk 1 ((List.range j.below.l.length).map fun k=>[.own 1 ((iM j i s k).map fun v=>[.int .i64 v])]):=_root_.id rfl
theorem uh {j : Job} {i s : Nat} (hi : i < j.below.l.length) (hs : s < j.secs.length) :
  D.blk 1 (((List.range j.below.l.length).map fun k=>[D.own 1 ((iM j i s k).map fun v=>[.int .i64 v])]).set i [.own 1 (((iM j i s i).map fun v=>[.int .i64 v])++[[.int .i64 ((da j i)[s]!)]])])=ry j i (s + 1):=by
 rw [j0,eP]
 congr 1
 refine List.map_congr_left fun k _=>?_
 by_cases e : k=i
 ·subst e
  rw [if_pos rfl]
  have hl : s < (da j k).length:=by rw [gM hi];exact hs
  simp only [iM,Nat.lt_irrefl,if_false,if_true]
  rw [getElem!_pos _ s hl,List.take_succ_eq_append_getElem hl,List.map_append]
  rfl
 ·rw [if_neg e]
  simp only [iM,if_neg e]
theorem ug {j : Job} {i : Nat} : ry j i j.secs.length=ry j (i + 1) 0:=by
 rw [j0,j0]
 congr 1
 refine List.map_congr_left fun k hk=>?_
 have hk : k < j.below.l.length:=by simpa using hk
 congr 3
 unfold iM
 by_cases e : k=i
 ·subst e
  rw [if_neg (by omega),if_pos rfl,if_pos (by omega),List.take_of_length_le (by rw [gM hk];exact Nat.le_refl _)]
 ·by_cases e2 : k < i
  ·rw [if_pos e2,if_pos (by omega)]
  ·rw [if_neg e2,if_neg e,if_neg (by omega)]
   split <;> simp
theorem so {xs : List Int} {v : Int} (e : List D) (h : (∃ a,a ∈ xs /\ [D.int .i64 a]=e) \/ e=[D.int .i64 v]) (c : D) (hc : c ∈ e) : aq c=true:=by
 rcases h with ⟨n,_,rfl⟩ | rfl
 ·simp at hc;subst hc;rfl
 ·simp at hc;subst hc;rfl
variable {C : CC} (hC : am prog C)
include hC
theorem xk (j : Job) (hv : ao j=true) : C 39 [bA j] (bV j) []:=by
 have hn : j.below.l.length <= 400:=by simp only [ao,Bool.and_eq_true,decide_eq_true_eq] at hv;omega
 have hm : j.secs.length <= 40:=by simp only [ao,aJ,Bool.and_eq_true,decide_eq_true_eq] at hv;omega
 have hlen : j.lengths.l.length=j.below.l.length:=by simp only [ao,Bool.and_eq_true,decide_eq_true_eq] at hv;omega
 refine al hC (nf:=N39) rfl rfl ?_
 simp [N39]
 simp [bi,az]
 refine ⟨by omega,?_⟩
 refine aj Nat (fun i=>[(0,bA j),(3,.ref (.r 10048) 0 j.below.l.length),(10048,ry j i 0),(15,.int .i64 j.below.l.length),(16,.int .i64 i)])
  (fun i=>i <= j.below.l.length) (fun i=>j.below.l.length - i) 0 (by simp) (by simp [bi,az,ry,iM,fj]) ?_
 intro i hi
 simp
 refine ab (fun h=>?_) (fun h=>?_) <;> simp at h <;> simp [h]
 ·have hw : IntKind.wrap .i64 ((i : Int) + 1)=((i + 1 : Nat) : Int):=af (by omega) (by omega)
  simp [bi,az]
  refine aj Nat (fun s=>[(0,bA j),(3,.ref (.r 10048) 0 j.below.l.length),(10048,ry j i s),(4,.int .i64 i),(15,.int .i64 j.below.l.length),(16,.int .i64 i),(24,.int .i64 j.secs.length),(25,.int .i64 s)])
   (fun s=>s <= j.secs.length) (fun s=>j.secs.length - s) 0 (by simp) (by simp [bi,az]) ?_
  intro s hs
  simp
  refine ab (fun h2=>?_) (fun h2=>?_) <;> simp at h2 <;> simp [h2]
  ·have hw2 : IntKind.wrap .i64 ((s : Int) + 1)=((s + 1 : Nat) : Int):=af (by omega) (by omega)
   simp [bi,az,h,mN,h2,bl]
   have hval : (da j i)[s]! = if eK j i s then gq j (da j) i s else -1:=by
    rw [ta hv h,mW,getElem!_pos _ s (by simpa using h2)]
    simp
   have hst:=uh h h2
   have ht : List.take (iM j i s i).length (List.map (fun n=>[D.int IntKind.i64 n]) (iM j i s i))=List.map (fun n=>[D.int IntKind.i64 n]) (iM j i s i):=List.take_of_length_le (by simp)
   have hol : (iM j i s i).length <= 40:=by simp [iM];omega
   refine ab (fun h3=>?_) (fun h3=>?_) <;> simp [h3,j0]
   ·have hc:=Ca hC j false ((List.range j.below.l.length).map fun k=>⟨false,iM j i s k⟩) i s h (by omega) h2 (by omega) (by omega) (fun a ha=>by
     have h4:=jp hv ha
     have h5:=jL ha
     rw [getElem!_pos _ a (by simpa using h5)]
     simp [h5,iM,h4,gM h5])
    rw [lp (val':=da j) (fun a ha=>by
     have h4:=jp hv ha
     have h5:=jL ha
     rw [dI,getElem!_pos _ a (by simpa using h5)]
     simp [iM,h4])] at hc
    rw [h3,if_pos rfl] at hval
    rw [hval] at hst
    simp [bi,az] at hc
    refine aa (d:=.int .i64 (gq j (da j) i s)) ?_ (.inl rfl) ?_
    ·rw [List.take_of_length_le (by simp)]
     exact hc
    ·simp [h,ht,hw2]
     exact ⟨by omega,so,s + 1,by omega,by omega,by simp [bi,az],hst,rfl⟩
   ·simp [h,ht,hw2]
    rw [h3,if_neg Bool.false_ne_true] at hval
    rw [hval] at hst
    exact ⟨by omega,so,s + 1,by omega,by omega,by simp [bi,az],hst,rfl⟩
  ·have : s=j.secs.length:=by omega
   subst this
   simp [hw]
   exact ⟨i + 1,by omega,by omega,ug,rfl⟩
 ·have : i=j.below.l.length:=by omega
  subst this
  simp [j0,bV,slR]
  rw [List.take_of_length_le (by simp)]
  refine List.map_congr_left fun k hk=>?_
  simp at hk
  simp [iM,hk]
end Go.Gv

namespace Go.Gv
def f9 (j : Job) (i : Nat) : List Bool:=(List.range j.secs.length).map (eK j i)
def eu (j : Job) (i s k : Nat) : List Bool:=if k < i then f9 j k else if k=i then (f9 j i).take s else []
def iP (j : Job) (i s : Nat) : D:=.blk 1 ((List.range j.below.l.length).map fun k=>[.own 1 ((eu j i s k).map bl)])
def fG (j : Job) (i k : Nat) : List Nat:=(List.range i).filter fun a=>decide (j.below.l[a]! = (k : Int))
def ji (j : Job) (i : Nat) : D:=.blk 1 ((List.range j.below.l.length).map fun k=>[.own 1 ((fG j i k).map it)])
theorem gF {j i s} : iP j i s=.blk 1 ((List.range j.below.l.length).map fun k=>[.own 1 ((eu j i s k).map bl)]):=_root_.id rfl
theorem gm {j i} : ji j i=.blk 1 ((List.range j.below.l.length).map fun k=>[.own 1 ((fG j i k).map it)]):=_root_.id rfl
@[simp] theorem N6 {j : Job} : List.flatMap aN (co j)=[]:=by simp [co]
@[simp] theorem JK {j : Job} {b : Nat} {all : Bool} : List.any (co j) (aT b all)=false:=by simp [co]
@[simp] theorem AW {ks j i s} : aY ks (iP j i s)=iP j i s:=by unfold iP;exact nL
@[simp] theorem AV {ks j i} : aY ks (ji j i)=ji j i:=by unfold ji;exact nL
@[simp] theorem Fv {j i s} : isB (iP j i s)=true:=_root_.id rfl
@[simp] theorem Fu {j i} : isB (ji j i)=true:=_root_.id rfl
theorem rD {j : Job} {i s : Nat} (hs : s < j.secs.length) :
  D.blk 1 (((List.range j.below.l.length).map fun k=>[D.own 1 ((eu j i s k).map bl)]).set i [.own 1 (((eu j i s i).map bl)++[[.bool (eK j i s)]])])=iP j i (s + 1):=by
 rw [gF,eP]
 congr 1
 refine List.map_congr_left fun k _=>?_
 by_cases e : k=i
 ·subst e
  rw [if_pos rfl]
  have hl : s < (f9 j k).length:=by simpa [f9] using hs
  simp only [eu,Nat.lt_irrefl,if_false,if_true]
  rw [List.take_succ_eq_append_getElem hl,List.map_append]
  simp [f9,bl]
 ·rw [if_neg e]
  simp only [eu,if_neg e]
theorem rC {j : Job} {i : Nat} : iP j i j.secs.length=iP j (i + 1) 0:=by
 rw [gF,gF]
 congr 1
 refine List.map_congr_left fun k _=>?_
 congr 3
 unfold eu
 by_cases e : k=i
 ·subst e
  rw [if_neg (by omega),if_pos rfl,if_pos (by omega),List.take_of_length_le (by simp [f9])]
 ·by_cases e2 : k < i
  ·rw [if_pos e2,if_pos (by omega)]
  ·rw [if_neg e2,if_neg e,if_neg (by omega)]
   split <;> simp
theorem me {j : Job} {i k : Nat} : fG j (i + 1) k=fG j i k++(if j.below.l[i]! = (k : Int) then [i] else []):=by
 unfold fG
 rw [List.range_succ,List.filter_append]
 congr 1
 rw [List.filter_cons,List.filter_nil]
 by_cases e : j.below.l[i]! = (k : Int)
 ·rw [if_pos e,if_pos (by simp only [decide_eq_true_eq];exact e)]
 ·rw [if_neg e,if_neg (by simp only [decide_eq_true_eq];exact e)]
theorem qF {j : Job} {i : Nat} (h : j.below.l[i]! = -1) : ji j i=ji j (i + 1):=by
 rw [gm,gm]
 congr 1
 refine List.map_congr_left fun k _=>?_
 rw [me,if_neg (by omega),List.append_nil]
theorem qG {j : Job} {i b : Nat} (h : j.below.l[i]! = (b : Int)) :
  D.blk 1 (((List.range j.below.l.length).map fun k=>[D.own 1 ((fG j i k).map it)]).set b [.own 1 (((fG j i b).map it)++[[.int .i64 (i : Int)]])])=ji j (i + 1):=by
 rw [gm,eP]
 congr 1
 refine List.map_congr_left fun k _=>?_
 rw [me]
 by_cases e : k=b
 ·subst e
  rw [if_pos rfl,if_pos h,List.map_append]
  rfl
 ·rw [if_neg e,if_neg (by omega),List.append_nil]
theorem th {j : Job} {i k : Nat} : (fG j i k).length <= i:=by
 have:=List.length_filter_le (fun a=>decide (j.below.l[a]! = (k : Int))) (List.range i)
 simpa [fG] using this
variable {C : CC} (hC : am prog C)
include hC
set_option maxRecDepth 4000 in
set_option maxHeartbeats 4000000 in
theorem xi (j : Job) (hv : ao j=true) : C 30 [.agg (co j)] (bA j) []:=by
 have hn : j.below.l.length <= 400:=by simp only [ao,Bool.and_eq_true,decide_eq_true_eq] at hv;omega
 have hm : j.secs.length <= 40:=by simp only [ao,aJ,Bool.and_eq_true,decide_eq_true_eq] at hv;omega
 have hlen : j.lengths.l.length=j.below.l.length:=by simp only [ao,Bool.and_eq_true,decide_eq_true_eq] at hv;omega
 have hlen2 : j.flows.l.length=j.below.l.length:=by simp only [ao,Bool.and_eq_true,decide_eq_true_eq] at hv;omega
 have hlen3 : j.falls.l.length=j.below.l.length:=by simp only [ao,Bool.and_eq_true,decide_eq_true_eq] at hv;omega
 have hlen4 : j.room.l.length=j.below.l.length:=by simp only [ao,Bool.and_eq_true,decide_eq_true_eq] at hv;omega
 refine al hC (nf:=N30) rfl rfl ?_
 simp [N30,az]
 refine ⟨by omega,ar (by decide +kernel),?_⟩
 refine aj Nat (fun i=>[(1,.ptr (co j)),(3,.ptx (co j++[.ref (.r 10224) 0 j.below.l.length,.ref (.r 10288) 0 j.below.l.length])),(10224,iP j i 0),(10288,ji j i),(22,slI j.below),(23,.int .i64 j.below.l.length),(24,.int .i64 i)])
  (fun i=>i <= j.below.l.length) (fun i=>j.below.l.length - i) 0 (by simp) (by simp [az,gF,gm,eu,fG,fj]) ?_
 intro i hi
 simp
 refine ab (fun h=>?_) (fun h=>?_) <;> simp at h <;> simp [h]
 ·have hw : IntKind.wrap .i64 ((i : Int) + 1)=((i + 1 : Nat) : Int):=af (by omega) (by omega)
  have hb:=fe hv h
  have hbs : j.below.l[i]! = j.below.l[i]:=getElem!_pos j.below.l i h
  rw [hbs] at hb
  have inner : ∀ {Q : cj -> Env -> Prop},True:=fun {Q}=>trivial
  refine ab (fun c1=>?pa) (fun c1=>?pb) <;> simp at c1 <;> simp [c1]
  case' pa =>
   obtain ⟨bn,hbn⟩ : ∃ bn : Nat,j.below.l[i]=(bn : Int):=⟨j.below.l[i].toNat,by omega⟩
   have hb1 : bn < j.below.l.length:=by omega
   have hst:=qG (j:=j) (i:=i) (b:=bn) (by rw [hbs,hbn])
   have hol : (fG j i bn).length <= i:=th
   have ht : List.take (fG j i bn).length (List.map it (fG j i bn))=List.map it (fG j i bn):=List.take_of_length_le (by simp)
   simp [gm,az,hbn,hb1,ht]
   refine ⟨by omega,?_,ar (by decide +kernel),?_⟩
   ·rintro e (⟨a,_,rfl⟩ | rfl) c hc
    ·simp [it] at hc;subst hc;rfl
    ·simp at hc;subst hc;rfl
   simp [hst]
  case' pb =>
   have hst:=qF (j:=j) (i:=i) (by rw [hbs,c1])
   simp [az,hst]
  all_goals
   refine aj Nat (fun s=>[(1,.ptr (co j)),(3,.ptx (co j++[.ref (.r 10224) 0 j.below.l.length,.ref (.r 10288) 0 j.below.l.length])),(10224,iP j i s),(10288,ji j (i + 1)),(4,.int .i64 i),(22,slI j.below),(23,.int .i64 j.below.l.length),(24,.int .i64 i),(48,slx j.secN (j.secs.map aW)),(49,.int .i64 j.secs.length),(50,.int .i64 s)])
    (fun s=>s <= j.secs.length) (fun s=>j.secs.length - s) 0 (by simp) (by simp [az]) ?_
   intro s hs
   simp
   refine ab (fun h2=>?_) (fun h2=>?_) <;> simp at h2 <;> simp [h2]
   ·have hw2 : IntKind.wrap .i64 ((s : Int) + 1)=((s + 1 : Nat) : Int):=af (by omega) (by omega)
    have g3 : i < j.falls.l.length:=by omega
    have g2 : i < j.lengths.l.length:=by omega
    have g4 : i < j.flows.l.length:=by omega
    have g5 : i < j.room.l.length:=by omega
    have hF:=Bv hC j.secs[s] j.falls.l[i] j.lengths.l[i]
    have hp : eK j i s=(((dR j.secs[s] j.falls.l[i] j.lengths.l[i]).2 == 5 || ((dR j.secs[s] j.falls.l[i] j.lengths.l[i]).2 == 0 && decide (j.flows.l[i] <= (dR j.secs[s] j.falls.l[i] j.lengths.l[i]).1))) && decide (j.secs[s].height <= j.room.l[i])):=by
     simp only [eK,getElem!_pos j.secs s h2,getElem!_pos j.falls.l i g3,getElem!_pos j.lengths.l i g2,getElem!_pos j.flows.l i g4,getElem!_pos j.room.l i g5]
    obtain ⟨q,hq⟩ : ∃ q,q=(dR j.secs[s] j.falls.l[i] j.lengths.l[i]).1:=⟨_,rfl⟩
    obtain ⟨e,he⟩ : ∃ e,e=(dR j.secs[s] j.falls.l[i] j.lengths.l[i]).2:=⟨_,rfl⟩
    rw [<- hq,<- he] at hF hp
    have hst2:=rD (i:=i) h2
    rw [hp] at hst2
    have hol2 : (eu j i s i).length <= 40:=by simp [eu,f9];omega
    have ht2 : List.take (eu j i s i).length (List.map bl (eu j i s i))=List.map bl (eu j i s i):=List.take_of_length_le (by simp)
    simp [az,h,h2,fw,g2,g3]
    simp [fw] at hF
    refine aa hF (.inl rfl) ?_
    simp
    refine ⟨ar (by decide +kernel),?_⟩
    simp [gF,h,ht2,az]
    have fin : ∀ b : Bool,eK j i s=b -> ∃ s',s' <= j.secs.length /\ j.secs.length - s' < j.secs.length - s /\ D.blk 1 (((List.range j.below.l.length).map fun k=>[D.own 1 ((eu j i s k).map bl)]).set i [.own 1 (((eu j i s i).map bl)++[[.bool b]])])=iP j i s' /\ (s : Int) + 1=s':=fun b hb=>⟨s + 1,by omega,by omega,by rw [<- hb,hp];exact hst2,rfl⟩
    rw [hp] at fin
    have bls : ∀ (b : Bool) (e : List D),(false ∈ eu j i s i /\ bl false=e \/ true ∈ eu j i s i /\ bl true=e) \/ e=[D.bool b] -> ∀ c,c ∈ e -> aq c=true:=by
     rintro b e ((⟨_,rfl⟩ | ⟨_,rfl⟩) | rfl) c hc
     ·simp [bl] at hc;subst hc;rfl
     ·simp [bl] at hc;subst hc;rfl
     ·simp at hc;subst hc;rfl
    refine ab (fun d1=>?_) (fun d1=>?_) <;> simp at d1 <;> simp [d1,az,g5,h,ht2,hw2]
    ·refine ⟨by omega,bls _,ar (by decide +kernel),fin _ (by simp [d1])⟩
    ·refine ab (fun d2=>?_) (fun d2=>?_) <;> simp at d2 <;> simp [d2,az,g4,g5,h,ht2,hw2]
     ·refine ab (fun d3=>?_) (fun d3=>?_)
      ·simp at d3
       simp [d3,az,g4,g5,h,ht2,hw2]
       refine ⟨by omega,bls _,ar (by decide +kernel),fin _ (by simp [d2,d3])⟩
      ·have d3' : ¬ j.flows.l[i] <= q:=by simpa using d3
       simp [d3',az,g4,g5,h,ht2,hw2]
       refine ⟨by omega,bls _,ar (by decide +kernel),fin _ (by simp [d2,d3'])⟩
     ·refine ⟨by omega,bls _,ar (by decide +kernel),fin _ (by simp [d1,d2])⟩
   ·have : s=j.secs.length:=by omega
    subst this
    simp [hw,az]
    exact ⟨i + 1,by omega,by omega,rC,rfl,rfl⟩
 ·have : i=j.below.l.length:=by omega
  subst this
  simp [az,or_imp,forall_and,gF,gm,bi]
  rw [List.take_of_length_le (by simp),List.take_of_length_le (by simp)]
  constructor
  ·refine List.map_congr_left fun k hk=>?_
   simp at hk
   simp [eu,hk,mN,f9]
  ·refine List.map_congr_left fun k hk=>?_
   simp [ow,fG,ce]
end Go.Gv

namespace Go.Gv
theorem rh (ok : Nat -> Bool) (vs : List Int) : (fK ok vs=(-1,-1) /\ ∀ s,s < vs.length -> vs[s]! ≠ -1 -> ok s=false) \/
  ∃ s,s < vs.length /\ fK ok vs=(vs[s]!,(s : Int)) /\ vs[s]! ≠ -1 /\ ok s=true /\ ∀ s',s' < vs.length -> vs[s']! ≠ -1 -> ok s'=true -> vs[s]! <= vs[s']!:=by
 have key : ∀ n,n <= vs.length -> ((List.range n).foldl (cD ok vs) (-1,-1)=(-1,-1) /\ ∀ s,s < n -> vs[s]! ≠ -1 -> ok s=false) \/
   ∃ s,s < n /\ (List.range n).foldl (cD ok vs) (-1,-1)=(vs[s]!,(s : Int)) /\ vs[s]! ≠ -1 /\ ok s=true /\ ∀ s',s' < n -> vs[s']! ≠ -1 -> ok s'=true -> vs[s]! <= vs[s']!:=by
  intro n
  induction n with
  | zero=>intro _;exact .inl ⟨rfl,fun s h=>by omega⟩
  | succ n ih =>
   intro hn
   rw [List.range_succ,List.foldl_append]
   simp only [List.foldl_cons,List.foldl_nil]
   rcases ih (by omega) with ⟨h1,h2⟩ | ⟨s,h1,h2,h3,h4,h5⟩
   ·rw [h1]
    unfold cD
    by_cases hc : vs[n]! ≠ -1 /\ ok n=true
    ·rw [if_pos ⟨hc.1,hc.2,.inl rfl⟩]
     refine .inr ⟨n,by omega,rfl,hc.1,hc.2,fun s' hs' hv ho=>?_⟩
     rcases Nat.lt_succ_iff_lt_or_eq.1 hs' with h | rfl
     ·rw [h2 s' h hv] at ho;cases ho
     ·exact Int.le_refl _
    ·rw [if_neg (fun h=>hc ⟨h.1,h.2.1⟩)]
     refine .inl ⟨rfl,fun s hs hv=>?_⟩
     rcases Nat.lt_succ_iff_lt_or_eq.1 hs with h | rfl
     ·exact h2 s h hv
     ·cases ho : ok s with
      | false=>rfl
      | true=>exact absurd ⟨hv,ho⟩ hc
   ·rw [h2]
    unfold cD
    by_cases hc : vs[n]! ≠ -1 /\ ok n=true /\ vs[n]! < vs[s]!
    ·rw [if_pos ⟨hc.1,hc.2.1,.inr hc.2.2⟩]
     refine .inr ⟨n,by omega,rfl,hc.1,hc.2.1,fun s' hs' hv ho=>?_⟩
     rcases Nat.lt_succ_iff_lt_or_eq.1 hs' with h | rfl
     ·have:=h5 s' h hv ho
      omega
     ·exact Int.le_refl _
    ·rw [if_neg (fun h=>hc ⟨h.1,h.2.1,h.2.2.resolve_left h3⟩)]
     refine .inr ⟨s,by omega,rfl,h3,h4,fun s' hs' hv ho=>?_⟩
     rcases Nat.lt_succ_iff_lt_or_eq.1 hs' with h | rfl
     ·exact h5 s' h hv ho
     ·exact Int.not_lt.1 fun hlt=>hc ⟨hv,ho,hlt⟩
 exact key vs.length (Nat.le_refl _)
theorem lc {v : Nat -> Int} : ∀ {l : List Nat} {s t : Int},ko v l s=some t -> ∀ a ∈ l,v a ≠ -1
 | [],s,t,_,a,ha=>by cases ha
 | x::l,s,t,h,a,ha=>by
  simp only [ko] at h
  split at h
  ·cases h
  ·rename_i hx
   rcases List.mem_cons.1 ha with rfl | ha
   ·exact hx
   ·exact lc h a ha
theorem sm {x : Option Int} (h : x.getD (-1) ≠ -1) : ∃ t,x=some t /\ x.getD (-1)=t:=by
 cases x with
 | none=>exact absurd rfl h
 | some t=>exact ⟨t,rfl,rfl⟩
def hgt (j : Job) (ch : Nat -> Int) (i : Nat) : Int:=if j.below.l[i]! = -1 then 4194304 else j.secs[(ch (j.below.l[i]!).toNat).toNat]!.height
def mL (j : Job) (ch : Nat -> Int) (i : Nat) : Int:=(fK (okF j i (hgt j ch i)) (da j i)).2
def fg (j : Job) : Nat -> Nat -> Int
 | 0=>fun _=>0
 | k + 1=>fun i=>if i + (k + 1)=j.below.l.length then mL j (fg j k) i else fg j k i
def Aj (j : Job) : List Int:=(List.range j.below.l.length).map (fg j j.below.l.length)
def mj (j : Job) : Int:=jr j (da j)
def iU (j : Job) : Int × (Bool × List Int) × Int:=if ao j then (if mj j=-1 then (0,(true,[]),28) else (mj j,(false,Aj j),0)) else (0,(true,[]),1)
def pE (x : Bool × List Int) : D:=slx x.1 (x.2.map fun n=>[.int .i64 n])
structure Bw (j : Job) (ch : Nat -> Int) (i : Nat) : Prop where
 sec : ∃ s : Nat,ch i=s /\ s < j.secs.length /\ (da j i)[s]! ≠ -1 /\ okF j i (hgt j ch i) s=true /\ lv j (da j) (hgt j ch i) i=(da j i)[s]!
theorem z8 {j : Job} (hv : ao j=true) {i s : Nat} (hi : i < j.below.l.length) (hs : s < j.secs.length) : (da j i)[s]! = if eK j i s then gq j (da j) i s else -1:=by
 rw [ta hv hi,mW,getElem!_pos _ s (by simpa using hs)]
 simp
theorem t8 {j : Job} {i b : Nat} (hi : i < j.below.l.length) (h : j.below.l[i]! = (b : Int)) : i ∈ ce j b:=by
 simp [ce,hi]
 rw [getElem!_pos j.below.l i hi] at h
 simp [hi,h]
theorem kF {j : Job} {k i : Nat} (h : i + (k + 1) ≠ j.below.l.length) : fg j (k + 1) i=fg j k i:=by
 simp only [fg];rw [if_neg h]
theorem sa {j : Job} {k i : Nat} (h : i + (k + 1)=j.below.l.length) : fg j (k + 1) i=mL j (fg j k) i:=by
 simp only [fg];rw [if_pos h]
theorem tP {j : Job} (hv : ao j=true) (hc : mj j ≠ -1) {ch : Nat -> Int} {i : Nat} (hi : i < j.below.l.length) (hb : ∀ b : Nat,j.below.l[i]! = (b : Int) -> Bw j ch b) :
  ∃ s : Nat,mL j ch i=s /\ s < j.secs.length /\ (da j i)[s]! ≠ -1 /\ okF j i (hgt j ch i) s=true /\ lv j (da j) (hgt j ch i) i=(da j i)[s]!:=by
 have hlv : lv j (da j) (hgt j ch i) i ≠ -1:=by
  by_cases e : j.below.l[i]! = -1
  ·obtain ⟨t,h1,_⟩:=sm hc
   have:=lc h1 i (by
    rw [getElem!_pos j.below.l i hi] at e
    simp [jF,hi,e])
   rw [hgt,if_pos e]
   exact this
  ·rcases fe hv hi with h1 | ⟨h1,h2⟩
   ·exact absurd h1 e
   ·obtain ⟨b,hbn⟩ : ∃ b : Nat,j.below.l[i]! = (b : Int):=⟨(j.below.l[i]!).toNat,by omega⟩
    obtain ⟨s,g1,g2,g3,_⟩:=(hb b hbn).sec
    rw [hgt,if_neg e,hbn,Int.toNat_natCast,g1,Int.toNat_natCast]
    have hbl : b < j.below.l.length:=by omega
    rw [z8 hv hbl g2] at g3
    split at g3
    ·obtain ⟨t,h3,_⟩:=sm g3
     exact lc h3 i (t8 hi hbn)
    ·exact absurd rfl g3
 unfold mL
 unfold lv at hlv ⊢
 rcases rh (okF j i (hgt j ch i)) (da j i) with ⟨h1,_⟩ | ⟨s,h1,h2,h3,h4,_⟩
 ·rw [h1] at hlv;exact absurd rfl hlv
 ·rw [h2]
  exact ⟨s,rfl,by rw [gM hi] at h1;exact h1,h3,h4,rfl⟩
theorem tR {j : Job} {ch ch' : Nat -> Int} {i : Nat} (h : ∀ b : Nat,j.below.l[i]! = (b : Int) -> ch b=ch' b) (hv : j.below.l[i]! = -1 \/ 0 <= j.below.l[i]!) : hgt j ch i=hgt j ch' i:=by
 unfold hgt
 by_cases e : j.below.l[i]! = -1
 ·rw [if_pos e,if_pos e]
 ·rw [if_neg e,if_neg e,h _ (by omega)]
theorem oK {j : Job} (hv : ao j=true) (hc : mj j ≠ -1) : ∀ k,k <= j.below.l.length -> ∀ i,i < j.below.l.length -> j.below.l.length <= i + k -> Bw j (fg j k) i
 | 0,_,i,hi,h=>by omega
 | k + 1,hk,i,hi,h=>by
  have hbv:=fe hv hi
  have same : ∀ b : Nat,j.below.l[i]! = (b : Int) -> fg j k b=fg j (k + 1) b:=fun b hb=>(kF (by rcases hbv with h1 | h1 <;> omega)).symm
  have he : hgt j (fg j k) i=hgt j (fg j (k + 1)) i:=tR same (by rcases hbv with h1 | h1 <;> omega)
  by_cases e : i + (k + 1)=j.below.l.length
  ·obtain ⟨s,g1,g2⟩:=tP (ch:=fg j k) hv hc hi (fun b hb=>oK hv hc k (by omega) b (by rcases hbv with h1 | h1 <;> omega) (by rcases hbv with h1 | h1 <;> omega))
   rw [he] at g2
   exact ⟨⟨s,by rw [sa e];exact g1,g2⟩⟩
  ·obtain ⟨s,g1,g2⟩:=(oK hv hc k (by omega) i hi (by omega)).sec
   rw [he] at g2
   exact ⟨⟨s,by rw [kF e];exact g1,g2⟩⟩
end Go.Gv

namespace Go.Gv
theorem na {j} : bV j=.sl ((List.range j.below.l.length).map fun a=>slR (da j a)):=_root_.id rfl
theorem wY {r} : slR r=[.sl (r.map fun v=>[.int .i64 v])]:=_root_.id rfl
@[simp] theorem FT {j} : isV (bV j)=true:=_root_.id rfl
@[simp] theorem FK {j} : isK (bV j)=true:=_root_.id rfl
@[simp] theorem FO {j} : isP (bV j)=true:=_root_.id rfl
@[simp] theorem FQ {j} : isS (bV j)=true:=_root_.id rfl
@[simp] theorem Cw {j} : aq (bV j)=true:=_root_.id rfl
@[simp] theorem FM {j} : isO (bV j)=false:=_root_.id rfl
@[simp] theorem Cy {j} : bj (bV j)=false:=_root_.id rfl
@[simp] theorem FI {j} : isF (bV j)=false:=_root_.id rfl
@[simp] theorem Fx {j} : isB (bV j)=false:=_root_.id rfl
@[simp] theorem AQ {j} : cB (bV j)=false:=_root_.id rfl
@[simp] theorem xr {j} : cellsOf (bV j)=[(bV j)]:=_root_.id rfl
@[simp] theorem Ai {j} : ca (bV j)=(bV j):=_root_.id rfl
@[simp] theorem Ao {j} : aR (bV j)=(bV j):=_root_.id rfl
@[simp] theorem xF {j} : aN (bV j)=[]:=_root_.id rfl
@[simp] theorem yG {j} : bv (bV j)=[]:=_root_.id rfl
@[simp] theorem EJ {f : Nat -> D} {j} : dp1 f (bV j)=(bV j):=_root_.id rfl
@[simp] theorem H5 {f : Nat -> D} {j} : dp f (bV j)=(bV j):=_root_.id rfl
@[simp] theorem AI {f : Nat -> D} {j} : aU f (bV j)=True:=_root_.id rfl
@[simp] theorem Cg {f : Nat -> D} {j} : bu f (bV j)=True:=_root_.id rfl
@[simp] theorem Gc {p i o} {j} : ldc p i o (bV j)=(bV j):=_root_.id rfl
@[simp] theorem AY {ks} {j} : aY ks (bV j)=(bV j):=by unfold bV;exact vX
@[simp] theorem BI {C : CC} {hs : Option (List Nat)} {K : Env -> Prop} {ns : List av} {u : Tag (hs,K,ns)} {e : Env} {R : List Nat} {acc : List (List Nat × List Nat)} {t j} : jM C hs K ns t u e R acc (bV j)=doW C hs K ns ⟨⟩ e R acc [(t,bV j)] []:=by unfold bV;exact xN
def Df (j : Job) (k : Nat) : D:=.blk 1 ((List.range j.below.l.length).map fun i=>[.int .i64 (fg j k i)])
theorem j1 {j k} : Df j k=.blk 1 ((List.range j.below.l.length).map fun i=>[.int .i64 (fg j k i)]):=_root_.id rfl
theorem uj {j : Job} {k i : Nat} (h : i + (k + 1)=j.below.l.length) : D.blk 1 (((List.range j.below.l.length).map fun i=>[.int .i64 (fg j k i)]).set i [.int .i64 (mL j (fg j k) i)])=Df j (k + 1):=by
 rw [j1,eP]
 congr 1
 refine List.map_congr_left fun x _=>?_
 by_cases e : x=i
 ·subst e;rw [if_pos rfl,sa h]
 ·rw [if_neg e,kF (by omega)]
variable {C : CC} (hC : am prog C)
include hC
set_option maxRecDepth 2000 in
set_option maxHeartbeats 1000000 in
theorem rV (j : Job) : C 15 [.agg (co j)] (.tup [.int .i64 (iU j).1,pE (iU j).2.1,.int .i64 (iU j).2.2]) []:=by
 refine al hC (nf:=N15) rfl rfl ?_
 simp [N15]
 have hv:=lR hC j
 cases h : ao j
 ·rw [h] at hv
  simp [az]
  simp [az] at hv
  refine aa hv (.inl rfl) ?_
  simp [iU,h,pE,slx]
 have hn : j.below.l.length <= 400:=by simp only [ao,Bool.and_eq_true,decide_eq_true_eq] at h;omega
 have hm : j.secs.length <= 40:=by simp only [ao,aJ,Bool.and_eq_true,decide_eq_true_eq] at h;omega
 rw [h] at hv
 have ht:=xi hC j h
 have hvals:=xk hC j h
 have hb:=xP hC j false ((List.range j.below.l.length).map fun a=>⟨false,da j a⟩) (by omega) (by omega) (fun a ha=>by
  have h5 : a < j.below.l.length:=by simp only [jF,List.mem_filter,List.mem_range] at ha;exact ha.1
  rw [getElem!_pos _ a (by simpa using h5)]
  simp [h5,gM h5])
 have eb : jr j (dI ((List.range j.below.l.length).map fun a=>⟨false,da j a⟩))=mj j:=by
  unfold mj jr
  rw [jI (v':=lv j (da j) 4194304) (fun a ha=>by
   have h5 : a < j.below.l.length:=by simp only [jF,List.mem_filter,List.mem_range] at ha;exact ha.1
   rw [lv,dI,getElem!_pos _ a (by simpa using h5)]
   simp [lv])]
 rw [eb] at hb
 obtain ⟨c,hc⟩ : ∃ c,c=mj j:=⟨_,rfl⟩
 rw [<- hc] at hb
 simp [az]
 simp [az] at hv ht
 refine aa hv (.inl rfl) ?_
 simp
 refine aa ht (.inr rfl) ?_
 simp
 refine aa hvals (.inr rfl) ?_
 simp
 refine aa (d:=.int .i64 c) ?_ (.inl rfl) ?_
 ·rw [na]
  simp at hb
  exact hb
 simp
 refine ab (fun h1=>?_) (fun h1=>?_) <;> simp at h1 <;> simp [h1]
 ·simp [iU,h,<- hc,h1,pE,slx]
 refine ⟨by omega,?_⟩
 refine aj Nat (fun k=>[(1,.ptr (co j)),(5,bA j),(6,bV j),(7,.int .i64 c),(8,.ref (.r 10128) 0 j.below.l.length),(10128,Df j k),(9,.int .i64 ((j.below.l.length : Int) - 1 - k))])
  (fun k=>k <= j.below.l.length) (fun k=>j.below.l.length - k) 0 (by simp) (by simp [az,j1,fg,fj];exact af rfl (by omega)) ?_
 intro k hk
 rcases Nat.lt_or_ge k j.below.l.length with hkl | hkl
 ·obtain ⟨i,hi⟩ : ∃ i,i + (k + 1)=j.below.l.length:=⟨j.below.l.length - (k + 1),by omega⟩
  have e9 : (j.below.l.length : Int) - 1 - k=(i : Int):=by omega
  have hil : i < j.below.l.length:=by omega
  have hw : IntKind.wrap .i64 ((i : Int) - 1)=(j.below.l.length : Int) - 1 - ((k + 1 : Nat) : Int):=af (by omega) (by omega)
  have hbv:=fe h hil
  have hg : ∀ b : Nat,j.below.l[i]! = (b : Int) -> Bw j (fg j k) b:=fun b hb=>oK h (by rw [<- hc];exact h1) k hk b (by rcases hbv with h2 | h2 <;> omega) (by rcases hbv with h2 | h2 <;> omega)
  have hst:=uj hi
  have hlc : ∀ y,hgt j (fg j k) i=y -> C 40 [bA j,.sl ((da j i).map fun n=>[.int .i64 n]),.int .i64 i,.int .i64 y] (.tup [.int .i64 (fK (okF j i y) (da j i)).1,.int .i64 (mL j (fg j k) i)]) []:=fun y hy=>by
   have:=oO hC j false (da j i) i y hil (by rw [gM hil];exact Nat.le_refl _) (by omega)
   rw [cE] at this
   rw [mL,hy]
   exact this
  rw [e9]
  simp [hil,az]
  refine ab (fun c1=>?_) (fun c1=>?_) <;> simp [hil] at c1 <;> simp [c1,hil]
  ·obtain ⟨b,hb⟩ : ∃ b : Nat,j.below.l[i]=(b : Int):=⟨(j.below.l[i]).toNat,by rw [getElem!_pos j.below.l i hil] at hbv;rcases hbv with h2 | h2 <;> omega⟩
   have hb! : j.below.l[i]! = (b : Int):=by rw [getElem!_pos j.below.l i hil,hb]
   have hbl : b < j.below.l.length:=by rcases hbv with h2 | h2 <;> omega
   obtain ⟨s,g1,g2,_⟩:=(hg b hb!).sec
   have hh : hgt j (fg j k) i=j.secs[s].height:=by
    rw [hgt,if_neg (by rw [hb!];omega),hb!,Int.toNat_natCast,g1,Int.toNat_natCast,getElem!_pos j.secs s g2]
   simp [hb,j1,hbl,g1,g2,fw]
   refine ⟨ar (by decide +kernel),?_⟩
   simp [na,hil,wY]
   refine aa (hlc _ hh) (.inl rfl) ?_
   simp [hil,hst,hw]
   exact ⟨k + 1,by omega,by omega,by simp [az],rfl,rfl,by omega⟩
  ·have hh : hgt j (fg j k) i=4194304:=by rw [hgt,if_pos (by rw [getElem!_pos j.below.l i hil,c1])]
   simp [j1,na,hil,wY]
   refine aa (hlc _ hh) (.inl rfl) ?_
   simp [hil,hst,hw]
   exact ⟨k + 1,by omega,by omega,by simp [az],rfl,rfl,by omega⟩
 ·have : k=j.below.l.length:=by omega
  subst this
  have e9 : (j.below.l.length : Int) - 1 - j.below.l.length=-1:=by omega
  rw [e9]
  simp [j1]
  rw [iU,if_pos h,<- hc,if_neg h1]
  refine ⟨rfl,?_,rfl⟩
  rw [List.take_of_length_le (by simp)]
  simp [pE,Aj]
end Go.Gv

namespace Go.Gv
def Ln (v : Int) : Bool:=!(decide (-1 <= v) && decide (v <= 4611686018427387904))
def Pk (j : Job) (vals : List SlI) (i s : Nat) : Bool:=eK j i s && ((decide (gq j (dI vals) i s=-1) && !decide ((dI vals i)[s]! = -1)) || (!decide (gq j (dI vals) i s=-1) && (decide ((dI vals i)[s]! = -1) || decide (gq j (dI vals) i s < (dI vals i)[s]!))))
def Pj (j : Job) (vals : List SlI) (i : Nat) : Bool:=(List.range j.secs.length).any (Pk j vals i)
def HA (j : Job) (vals : List SlI) : Bool × Int × Int :=
 if ao j=false then (false,0,1) else
 if vals.length ≠ j.below.l.length \/ vals.any (fun x=>decide (x.l.length ≠ j.secs.length))=true then (false,0,3) else
 if vals.any (fun x=>x.l.any Ln)=true then (false,0,2) else
 match (List.range j.below.l.length).find? (Pj j vals) with
 | some i=>(false,i,0)
 | none=>(true,jr j (dI vals),0)
end Go.Gv

namespace Go.Gv
def S (g : Nat -> Int) : Nat -> Int
 | 0=>0
 | n + 1=>S g n + g n
def B : Int:=18014398509481984
def QB (j : Job) (i s : Nat) : Int:=j.lengths.l[i]! * j.secs[s]!.price
def fr (j : Job) (i a : Nat) : Bool:=decide (j.below.l[a]! = -1) || decide ((i : Int) <= j.below.l[a]!)
def FS (j : Job) (f : Nat -> Int) (i : Nat) : Int:=S (fun a=>if fr j i a then f a else 0) i
def AS (j : Job) (f : Nat -> Int) (i : Nat) : Int:=S (fun a=>if j.below.l[a]! = (i : Int) then f a else 0) i
def mx (l : List Int) : Int:=l.foldl max 0
end Go.Gv
namespace Go.Gv
def Rd (j : Job) : List SlI:=(List.range j.below.l.length).map fun a=>⟨false,da j a⟩
end Go.Gv

namespace Go.Gv
def jl (j : Job) (s : Int) : Bool:=decide (s < 0) || decide ((j.secs.length : Int) <= s)
def bN (j : Job) (ch : List Int) : Int:=if ao j=false then 1 else if ch.length ≠ j.below.l.length then 3 else if ch.any (jl j)=true then 2 else 0
def sT (j : Job) (ch : List Int) (i : Nat) : Nat:=(ch[i]!).toNat
def Lh (j : Job) (ch : List Int) (i : Nat) (a : Nat) : Bool:=decide (j.secs[sT j ch i]!.height < j.secs[sT j ch a]!.height)
def Pi (j : Job) (ch : List Int) (i : Nat) : Bool:=!eK j i (sT j ch i) || (ce j i).any (Lh j ch i)
def Ha (j : Job) (ch : List Int) : Bool × Int × Int:=if bN j ch ≠ 0 then (false,0,bN j ch) else
 match (List.range j.below.l.length).find? (Pi j ch) with
 | some i=>(false,i,0)
 | none=>(true,-1,0)
def HC (j : Job) (ch : List Int) : Int:=S (fun i=>QB j i (sT j ch i)) j.below.l.length
def Pp (j : Job) (ch : List Int) : Int × Int:=if bN j ch ≠ 0 then (0,bN j ch) else (HC j ch,0)
end Go.Gv

namespace Go.Gv
variable {C : CC} (hC : am prog C)
include hC
theorem yO (j : Job) (s : Int) : C 122 [.int .i64 s,.ptr (co j)] (.bool (jl j s)) []:=by
 refine al hC (nf:=N122) rfl rfl ?_
 simp [N122,az]
 refine ab (fun h=>?_) (fun h=>?_) <;> simp at h <;> simp [h,jl]
 omega
theorem vg (j : Job) (b : Bool) (ch : List Int) (hl : ch.length < 2 ^ 62) : C 120 [.agg (co j),slx b (ch.map fun n=>[.int .i64 n])] (.int .i64 (bN j ch)) []:=by
 refine al hC (nf:=N120) rfl rfl ?_
 simp [N120]
 have hv:=lR hC j
 have hh:=mw hC (b:=b) (xs:=ch) (g:=122) (cs:=[.ptr (co j)]) (jl j) hl (fun s _=>yO hC j s)
 simp [az]
 simp [az] at hv hh
 refine aa hv (.inl rfl) ?_
 cases h : ao j
 ·simp [bN,h]
 simp
 refine ab (fun h1=>?_) (fun h1=>?_) <;> simp at h1 <;> simp [h1]
 ·rw [bN,if_neg (by rw [h];simp),if_pos (by omega)]
 refine aa hh (.inl rfl) ?_
 cases h2 : ch.any (jl j)
 ·simp [bN,h,h2];omega
 ·simp [bN,h,h2];omega
end Go.Gv

namespace Go.Gv
def vF (name : List UInt8) (h p : Int) : Sec:=⟨name,h,p,false,[(0,0),(h,h * h)],false,[(0,0),(h,1000 * h)]⟩
def mo (room : Int) : Job:=⟨⟨false,[1,-1]⟩,⟨false,[1000,1000]⟩,⟨false,[1,1]⟩,⟨false,[10,10]⟩,⟨false,[room,2000]⟩,false,[vF [97] 200 5,vF [98] 300 4]⟩
theorem H8 : iU (mo 400)=(8000,(false,[1,1]),0):=by decide +kernel
theorem H7 : iU (mo 250)=(9000,(false,[0,1]),0):=by decide +kernel
theorem ex1 : ao (mo 1)=true:=by decide +kernel
variable {C : CC} (hC : am prog C)
include hC
theorem mm (b b' : Bool) (xs ys : List Int) (hx : xs.length < 2 ^ 62) (hy : ys.length < 2 ^ 62) : C 19 [slx b (xs.map fun n=>[.int .i64 n]),slx b' (ys.map fun n=>[.int .i64 n])] (.bool (decide (xs=ys))) []:=by
 refine al hC (nf:=N19) rfl rfl ?_
 simp [N19]
 refine ab (fun h=>?_) (fun h=>?_) <;> simp at h <;> simp [h]
 ·rintro rfl;exact h rfl
 have h' : xs.length=ys.length:=by omega
 refine aj Nat (fun i=>[(0,slx b (xs.map fun n=>[.int .i64 n])),(1,slx b' (ys.map fun n=>[.int .i64 n])),(12,.int .i64 ys.length),(13,.int .i64 i)])
  (fun i=>i <= ys.length /\ ∀ k,k < i -> xs[k]? = ys[k]?) (fun i=>ys.length - i) 0 (by simp) (by simp) ?_
 rintro i ⟨hi,hok⟩
 simp
 refine ab (fun h1=>?_) (fun h1=>?_) <;> simp at h1 <;> simp [h1]
 ·have hw : IntKind.wrap .i64 ((i : Int) + 1)=((i + 1 : Nat) : Int):=af (by omega) (by omega)
  have hx1 : i < xs.length:=by omega
  simp [h1,hx1]
  refine ⟨ar (by decide +kernel),?_⟩
  refine ab (fun h2=>?_) (fun h2=>?_) <;> simp [h1,hx1] at h2 <;> simp [h1,hx1,h2,hw]
  ·rintro rfl
   exact h2 rfl
  ·refine ⟨i + 1,⟨by omega,fun k hk=>?_⟩,by omega,rfl⟩
   rcases Nat.lt_succ_iff_lt_or_eq.1 hk with h5 | rfl
   ·exact hok k h5
   ·rw [List.getElem?_eq_getElem h1,List.getElem?_eq_getElem hx1,h2]
 ·refine List.ext_getElem? fun k=>?_
  rcases Nat.lt_or_ge k i with h2 | h2
  ·exact hok k h2
  ·rw [List.getElem?_eq_none (by omega),List.getElem?_eq_none (by omega)]
theorem oi (name : List UInt8) (h p : Int) (hh : 0 <= h /\ h < 1000000) : C 43 [.str name,.int .i64 h,.int .i64 p] (.agg (aW (vF name h p))) []:=by
 have e1 : IntKind.wrap .i64 (h * h)=h * h:=af rfl (by
  have:=Int.mul_nonneg hh.1 hh.1
  have:=Int.mul_le_mul (show h <= 1000000 by omega) (show h <= 1000000 by omega) hh.1 (by omega)
  omega)
 have e2 : IntKind.wrap .i64 (1000 * h)=1000 * h:=af rfl (by omega)
 refine al hC (nf:=N43) rfl rfl ?_
 simp [N43,e1,e2]
 rfl
theorem kJ (room : Int) : C 23 [.int .i64 room] (.agg (co (mo room))) []:=by
 refine al hC (nf:=N23) rfl rfl ?_
 have h1:=oi hC [97] 200 5 (by omega)
 have h2:=oi hC [98] 300 4 (by omega)
 simp [N23]
 refine aa h1 (.inr rfl) ?_
 simp
 refine aa h2 (.inr rfl) ?_
 simp [fw]
 rfl
theorem xO : C 3 [] (.bool true) []:=by
 refine al hC (nf:=N3) rfl rfl ?_
 have h1:=kJ hC 400
 have h2:=kJ hC 250
 have h3:=kJ hC 1
 have s1:=rV hC (mo 400)
 have s2:=rV hC (mo 250)
 have v3:=lR hC (mo 1)
 rw [H8] at s1
 rw [H7] at s2
 rw [ex1] at v3
 have q1:=mm hC false false [1,1] [1,1] (by simp) (by simp)
 have q2:=mm hC false false [0,1] [0,1] (by simp) (by simp)
 simp [pE] at s1 s2 q1 q2
 simp [N3]
 refine aa h1 (.inr rfl) ?_
 simp
 refine aa s1 (.inr rfl) ?_
 simp
 refine aa h2 (.inr rfl) ?_
 simp
 refine aa s2 (.inr rfl) ?_
 simp
 refine aa q1 (.inl rfl) ?_
 simp
 refine aa q2 (.inl rfl) ?_
 simp
 refine aa h3 (.inr rfl) ?_
 simp
 refine aa v3 (.inl rfl) ?_
 simp
end Go.Gv

set_option maxRecDepth 4000
namespace Go.Gv
def ef (a b : Sec) : Bool:=decide (a.name=b.name) && decide (a.height=b.height) && decide (a.price=b.price) && decide (a.area=b.area) && decide (a.conv=b.conv)
def cO : List Sec -> List Sec -> Bool
 | [],[]=>true
 | a::us,b::bs=>ef a b && cO us bs
 | _,_=>false
theorem fR : ∀ {xs ys : List Sec},xs.length ≠ ys.length -> cO xs ys=false
 | [],[],h=>by simp at h
 | [],_::_,_=>rfl
 | _::_,[],_=>rfl
 | a::us,b::bs,h=>by
  unfold cO
  rw [fR (xs:=us) (ys:=bs) (by simpa using h)]
  simp
theorem eL : ∀ {xs ys : List Sec} (hl : xs.length=ys.length),cO xs ys=true ↔ ∀ j (h : j < xs.length),ef xs[j] (ys[j]'(by omega))=true
 | [],[],_=>by simp [cO]
 | [],_::_,h=>by simp at h
 | _::_,[],h=>by simp at h
 | a::us,b::bs,hl=>by
  have ih:=eL (xs:=us) (ys:=bs) (by simpa using hl)
  unfold cO
  rw [Bool.and_eq_true,ih]
  constructor
  ·rintro ⟨h1,h2⟩ j hj
   cases j with
   | zero=>exact h1
   | succ j=>exact h2 j (by simpa using hj)
  ·intro h
   exact ⟨h 0 (by simp),fun j hj=>h (j + 1) (by simpa using hj)⟩
structure xJ (C : CC) : Prop where
 nil : ∀ ds,C 609 ds .any [.own 11 []] -> C 609 ds (.sl []) []
variable {C : CC} (hC : am prog C)
include hC
theorem Du (a b : Sec) (h1 : a.area.length < 2 ^ 62) (h2 : b.area.length < 2 ^ 62) (h3 : a.conv.length < 2 ^ 62) (h4 : b.conv.length < 2 ^ 62) : C 608 [.agg (aW a),.agg (aW b)] (.bool (ef a b)) []:=by
 have k1:=qR hC a.areaN b.areaN a.area b.area h1 h2
 have k2:=qR hC a.convN b.convN a.conv b.conv h3 h4
 refine al hC (nf:=N608) rfl rfl ?_
 simp [N608,aW]
 by_cases e1 : a.name=b.name
 ·by_cases e2 : a.height=b.height
  ·by_cases e3 : a.price=b.price
   ·simp [e1,e2,e3]
    refine aa k1 (.inl rfl) ?_
    by_cases e4 : a.area=b.area
    ·simp [e4]
     refine aa k2 (.inl rfl) ?_
     simp [ef,e1,e2,e3,e4]
    ·simp [e4,ef]
   ·simp [e1,e2,e3,ef]
  ·simp [e1,e2,ef]
 ·simp [e1,ef]
theorem vD (b b' : Bool) (xs ys : List Sec) (hx : xs.length < 2 ^ 62) (hy : ys.length < 2 ^ 62) (h1 : ∀ s ∈ xs,s.area.length < 2 ^ 62 /\ s.conv.length < 2 ^ 62) (h2 : ∀ s ∈ ys,s.area.length < 2 ^ 62 /\ s.conv.length < 2 ^ 62) :
  C 607 [slx b (xs.map aW),slx b' (ys.map aW),.fn 608 []] (.bool (cO xs ys)) []:=by
 have key:=fun (j : Nat) (h : j < xs.length) (h' : j < ys.length)=>Du hC xs[j] ys[j] (h1 _ (List.getElem_mem h)).1 (h2 _ (List.getElem_mem h')).1 (h1 _ (List.getElem_mem h)).2 (h2 _ (List.getElem_mem h')).2
 obtain ⟨r,hr⟩ : ∃ r,r=cO xs ys:=⟨_,rfl⟩
 rw [<- hr]
 refine al hC (nf:=N607) rfl rfl ?_
 simp [N607]
 by_cases hl : xs.length=ys.length
 ·have hl' : (xs.length : Int)=ys.length:=by omega
  simp [hl']
  refine aj Nat (fun j=>[(1,slx b' (ys.map aW)),(2,.fn 608 []),(15,slx b (xs.map aW)),(16,.int .i64 ys.length),(17,.int .i64 j)]) (fun j=>j <= xs.length /\ ∀ i (h : i < xs.length),i < j -> ef xs[i] (ys[i]'(by omega))=true) (fun j=>xs.length - j) 0 ⟨by omega,by omega⟩ (by simp) ?_
  rintro j ⟨hj,hok⟩
  simp
  refine ab (fun h=>?_) (fun h=>?_) <;> simp at h
  ·have hw : IntKind.wrap .i64 ((j : Int) + 1)=((j + 1 : Nat) : Int):=af (by omega) (by omega)
   have hjx : j < xs.length:=by omega
   have k:=key j hjx h
   simp only [aW] at k
   simp [h,hjx,aW]
   refine aa k (.inl rfl) ?_
   by_cases e : ef xs[j] ys[j]=true
   ·simp [e]
    exact ⟨j + 1,⟨by omega,fun i hi hij=>by rcases Nat.lt_succ_iff_lt_or_eq.1 hij with h8 | rfl;exact hok i hi h8;exact e⟩,by omega,hw⟩
   ·have e1 : r=false:=by
     rw [hr,Bool.eq_false_iff]
     exact fun h9=>e ((eL hl).1 h9 j hjx)
    simp [e,e1]
  ·have e1 : r=true:=by
    rw [hr,eL hl]
    exact fun i hi=>hok i hi (by omega)
   simp [h,e1]
 ·have e1 : r=false:=by rw [hr];exact fR hl
  have hl' : ¬ (xs.length : Int)=ys.length:=by omega
  simp [hl',e1]
omit hC in
theorem wa (ls : List Lnk) : ∀ e ∈ ls.map aD,∀ c ∈ e,aq c=true:=fun e he=>(su ls e he).2
theorem vh (l : List Lnk) (h : 0 < l.length) (h2 : l.length <= 400) (b : Bool) : C 609 [slx b (l.map aD)] (.own 11 (l.map aD)) [.nils]:=by
 have e : slx b (l.map aD)=.sl (l.map aD):=by
  cases b with
  | false=>simp
  | true =>
   unfold slx
   cases l with
   | nil=>simp at h
   | cons x xs=>simp
 have hu:=su l
 have hb : l.length * 136 <= 140737488355328:=by omega
 rw [e]
 obtain ⟨R,hR⟩ : ∃ R,R=l.map aD:=⟨_,rfl⟩
 have hRl : R.length=l.length:=by rw [hR,List.length_map]
 rw [<- hR] at hu ⊢
 refine xf hC (nf:=N609) rfl rfl rfl ?_
 simp [N609,hRl,hb]
 exact ⟨fun _=>hu,fun e=>by subst e;simp at h⟩
theorem tx (hP : xJ C) (b : Bool) : ∃ d,(d=.nils \/ d=.sl []) /\ C 609 [slx b (([] : List Lnk).map aD)] d []:=by
 cases b with
 | true =>
  refine ⟨.nils,.inl rfl,?_⟩
  show C 609 [.nils] .nils []
  refine al hC (nf:=N609) rfl rfl ?_
  simp [N609]
 | false =>
  refine ⟨.sl [],.inr rfl,?_⟩
  show C 609 [.sl []] (.sl []) []
  refine hP.nil _ ?_
  refine rO hC (nf:=N609) rfl rfl ?_
  simp [N609]
end Go.Gv

set_option maxRecDepth 4000
namespace Go.Gv
variable {C : CC} (hC : am prog C)
include hC
theorem j8 (b b' : Bool) (xs ys : List (Int × Int)) (hx : xs.length < 2 ^ 62) (hy : ys.length < 2 ^ 62) : C 637 [slx b (xs.map knD),slx b' (ys.map knD)] (.bool (decide (xs=ys))) []:=by
 obtain ⟨r,hr⟩ : ∃ r,r=decide (xs=ys):=⟨_,rfl⟩
 rw [<- hr]
 refine al hC (nf:=N637) rfl rfl ?_
 simp [N637]
 by_cases hl : xs.length=ys.length
 ·have hl' : (xs.length : Int)=ys.length:=by omega
  simp [hl']
  refine aj Nat (fun j=>[(0,slx b (xs.map knD)),(1,slx b' (ys.map knD)),(5,.int .i64 j)]) (fun j=>j <= xs.length /\ ∀ i (h : i < xs.length),i < j -> xs[i]=(ys[i]'(by omega))) (fun j=>xs.length - j) 0 ⟨by omega,by omega⟩ (by simp) ?_
  rintro j ⟨hj,hok⟩
  simp
  refine ab (fun h=>?_) (fun h=>?_) <;> simp at h
  ·have hw : IntKind.wrap .i64 ((j : Int) + 1)=((j + 1 : Nat) : Int):=af (by omega) (by omega)
   have hjy : j < ys.length:=by omega
   simp [h,hjy,knD]
   refine ⟨ar (by decide +kernel),?_⟩
   by_cases e : xs[j]=ys[j]
   ·simp [e]
    exact ⟨j + 1,⟨by omega,fun i hi hij=>by rcases Nat.lt_succ_iff_lt_or_eq.1 hij with h8 | rfl;exact hok i hi h8;exact e⟩,by omega,hw⟩
   ·have e1 : r=false:=by
     rw [hr,decide_eq_false_iff_not]
     rintro rfl
     exact e rfl
    have e2 : ¬ ((xs[j].1=ys[j].1) /\ xs[j].2=ys[j].2):=fun h=>e (Prod.ext h.1 h.2)
    by_cases e3 : xs[j].1=ys[j].1
    ·have e4 : ¬ xs[j].2=ys[j].2:=fun h=>e2 ⟨e3,h⟩
     simp [e3,e4,e1]
    ·simp [e3,e1]
  ·have e1 : r=true:=by
    rw [hr,decide_eq_true_eq]
    exact List.ext_getElem hl fun i hi _=>hok i hi (by omega)
   simp [h,e1]
 ·have e1 : r=false:=by rw [hr,decide_eq_false_iff_not];rintro rfl;exact hl rfl
  have hl' : ¬ (xs.length : Int)=ys.length:=by omega
  simp [hl',e1]
theorem j7 (b b' : Bool) (xs ys : List Int) (hx : xs.length < 2 ^ 62) (hy : ys.length < 2 ^ 62) : C 614 [slx b (xs.map fun n=>[.int .i64 n]),slx b' (ys.map fun n=>[.int .i64 n])] (.bool (decide (xs=ys))) []:=by
 obtain ⟨r,hr⟩ : ∃ r,r=decide (xs=ys):=⟨_,rfl⟩
 rw [<- hr]
 refine al hC (nf:=N614) rfl rfl ?_
 simp [N614]
 by_cases hl : xs.length=ys.length
 ·have hl' : (xs.length : Int)=ys.length:=by omega
  simp [hl']
  refine aj Nat (fun j=>[(0,slx b (xs.map fun n=>[.int .i64 n])),(1,slx b' (ys.map fun n=>[.int .i64 n])),(5,.int .i64 j)]) (fun j=>j <= xs.length /\ ∀ i (h : i < xs.length),i < j -> xs[i]=(ys[i]'(by omega))) (fun j=>xs.length - j) 0 ⟨by omega,by omega⟩ (by simp) ?_
  rintro j ⟨hj,hok⟩
  simp
  refine ab (fun h=>?_) (fun h=>?_) <;> simp at h
  ·have hw : IntKind.wrap .i64 ((j : Int) + 1)=((j + 1 : Nat) : Int):=af (by omega) (by omega)
   have hjy : j < ys.length:=by omega
   simp [h,hjy]
   refine ⟨ar (by decide +kernel),?_⟩
   by_cases e : xs[j]=ys[j]
   ·simp [e]
    exact ⟨j + 1,⟨by omega,fun i hi hij=>by rcases Nat.lt_succ_iff_lt_or_eq.1 hij with h8 | rfl;exact hok i hi h8;exact e⟩,by omega,hw⟩
   ·have e1 : r=false:=by
     rw [hr,decide_eq_false_iff_not]
     rintro rfl
     exact e rfl
    simp [e,e1]
  ·have e1 : r=true:=by
    rw [hr,decide_eq_true_eq]
    exact List.ext_getElem hl fun i hi _=>hok i hi (by omega)
   simp [h,e1]
 ·have e1 : r=false:=by rw [hr,decide_eq_false_iff_not];rintro rfl;exact hl rfl
  have hl' : ¬ (xs.length : Int)=ys.length:=by omega
  simp [hl',e1]
theorem Dn (a b : Sec) (h1 : a.area.length < 2 ^ 62) (h2 : b.area.length < 2 ^ 62) (h3 : a.conv.length < 2 ^ 62) (h4 : b.conv.length < 2 ^ 62) : C 640 [.agg (aW a),.agg (aW b)] (.bool (ef a b)) []:=by
 have k1:=j8 hC a.areaN b.areaN a.area b.area h1 h2
 have k2:=j8 hC a.convN b.convN a.conv b.conv h3 h4
 refine al hC (nf:=N640) rfl rfl ?_
 simp [N640,aW]
 by_cases e1 : a.name=b.name
 ·by_cases e2 : a.height=b.height
  ·by_cases e3 : a.price=b.price
   ·simp [e1,e2,e3]
    refine aa k1 (.inl rfl) ?_
    by_cases e4 : a.area=b.area
    ·simp [e4]
     refine aa k2 (.inl rfl) ?_
     simp [ef,e1,e2,e3,e4]
    ·simp [e4,ef]
   ·simp [e1,e2,e3,ef]
  ·simp [e1,e2,ef]
 ·simp [e1,ef]
theorem sL (b b' : Bool) (xs ys : List Sec) (hx : xs.length < 2 ^ 62) (hy : ys.length < 2 ^ 62) (h1 : ∀ s ∈ xs,s.area.length < 2 ^ 62 /\ s.conv.length < 2 ^ 62) (h2 : ∀ s ∈ ys,s.area.length < 2 ^ 62 /\ s.conv.length < 2 ^ 62) :
  C 615 [slx b (xs.map aW),slx b' (ys.map aW)] (.bool (cO xs ys)) []:=by
 have key:=fun (j : Nat) (h : j < xs.length) (h' : j < ys.length)=>Dn hC xs[j] ys[j] (h1 _ (List.getElem_mem h)).1 (h2 _ (List.getElem_mem h')).1 (h1 _ (List.getElem_mem h)).2 (h2 _ (List.getElem_mem h')).2
 obtain ⟨r,hr⟩ : ∃ r,r=cO xs ys:=⟨_,rfl⟩
 rw [<- hr]
 refine al hC (nf:=N615) rfl rfl ?_
 simp [N615]
 by_cases hl : xs.length=ys.length
 ·have hl' : (xs.length : Int)=ys.length:=by omega
  simp [hl']
  refine aj Nat (fun j=>[(0,slx b (xs.map aW)),(1,slx b' (ys.map aW)),(5,.int .i64 j)]) (fun j=>j <= xs.length /\ ∀ i (h : i < xs.length),i < j -> ef xs[i] (ys[i]'(by omega))=true) (fun j=>xs.length - j) 0 ⟨by omega,by omega⟩ (by simp) ?_
  rintro j ⟨hj,hok⟩
  simp
  refine ab (fun h=>?_) (fun h=>?_) <;> simp at h
  ·have hw : IntKind.wrap .i64 ((j : Int) + 1)=((j + 1 : Nat) : Int):=af (by omega) (by omega)
   have hjy : j < ys.length:=by omega
   have k:=key j h hjy
   simp only [aW] at k
   simp [h,hjy,aW]
   refine aa k (.inl rfl) ?_
   simp
   refine ⟨ar (by decide +kernel),?_⟩
   by_cases e : ef xs[j] ys[j]=true
   ·simp [e]
    exact ⟨j + 1,⟨by omega,fun i hi hij=>by rcases Nat.lt_succ_iff_lt_or_eq.1 hij with h8 | rfl;exact hok i hi h8;exact e⟩,by omega,hw⟩
   ·have e1 : r=false:=by
     rw [hr,Bool.eq_false_iff]
     exact fun h9=>e ((eL hl).1 h9 j h)
    simp [e,e1]
  ·have e1 : r=true:=by
    rw [hr,eL hl]
    exact fun i hi=>hok i hi (by omega)
   simp [h,e1]
 ·have e1 : r=false:=by rw [hr];exact fR hl
  have hl' : ¬ (xs.length : Int)=ys.length:=by omega
  simp [hl',e1]
end Go.Gv

set_option maxRecDepth 4000
namespace Go.Gv
def kh (nm : List UInt8) (l : Lnk) : Bool:=l.src == nm
theorem sy {ns : List Nod} {ls : List Lnk} (hv : bG ns ls=true) {nm : List UInt8} {v : Nat} (h : bB (bU nm) ns=(v : Int)) : ∃ hv : v < ns.length,ns[v].name=nm:=by
 unfold bB at h
 split at h
 ·rename_i i hi
  rw [List.findIdx?_eq_some_iff_getElem] at hi
  obtain ⟨h1,h2,_⟩:=hi
  have e : i=v:=by omega
  subst e
  exact ⟨h1,by simpa [bU] using h2⟩
 ·omega
theorem oD {ns : List Nod} {ls : List Lnk} (hv : bG ns ls=true) {i : Nat} (hi : i < ls.length) : ∃ (h1 : ((aw ns ls)[i]'(by rw [a8];exact hi)).1 < ns.length) (h2 : ((aw ns ls)[i]'(by rw [a8];exact hi)).2 < ns.length),(ns[((aw ns ls)[i]'(by rw [a8];exact hi)).1]'h1).name=ls[i].src /\ (ns[((aw ns ls)[i]'(by rw [a8];exact hi)).2]'h2).name=ls[i].dst /\ bB (bU ls[i].src) ns=((((aw ns ls)[i]'(by rw [a8];exact hi)).1 : Nat) : Int) /\ bB (bU ls[i].dst) ns=((((aw ns ls)[i]'(by rw [a8];exact hi)).2 : Nat) : Int):=by
 obtain ⟨_,_,h1,h2⟩:=gE hv hi
 have e1 : ((aw ns ls)[i]'(by rw [a8];exact hi)).1=(bB (bU ls[i].src) ns).toNat:=by simp [aw]
 have e2 : ((aw ns ls)[i]'(by rw [a8];exact hi)).2=(bB (bU ls[i].dst) ns).toNat:=by simp [aw]
 have a1 : bB (bU ls[i].src) ns=((((aw ns ls)[i]'(by rw [a8];exact hi)).1 : Nat) : Int):=by rw [e1];omega
 have a2 : bB (bU ls[i].dst) ns=((((aw ns ls)[i]'(by rw [a8];exact hi)).2 : Nat) : Int):=by rw [e2];omega
 obtain ⟨b1,c1⟩:=sy hv a1
 obtain ⟨b2,c2⟩:=sy hv a2
 exact ⟨b1,b2,c1,c2,a1,a2⟩
theorem pS {ns : List Nod} {ls : List Lnk} (hv : bG ns ls=true) {i j : Nat} (hi : i < ns.length) (hj : j < ns.length) (h : ns[i].name=ns[j].name) : i=j:=by
 have h1:=(kV hv hi).2
 have h2:=(kV hv hj).2
 rw [h,h2] at h1
 omega
theorem Dg {ns : List Nod} {ls : List Lnk} (hv : bG ns ls=true) {v : Nat} (h : v < ns.length) : bB (kh ns[v].name) ls=frI (fE (aw ns ls) v):=by
 have hel:=a8 ns ls
 have key : ∀ i (hi : i < ls.length),kh ns[v].name ls[i]=(((aw ns ls)[i]'(by rw [hel];exact hi)).1 == v):=by
  intro i hi
  obtain ⟨h1,h2,h3,_⟩:=oD hv hi
  rw [Bool.eq_iff_iff]
  simp only [kh,beq_iff_eq]
  rw [<- h3]
  constructor
  ·intro e;exact pS hv h1 h e
  ·intro e;simp only [e]
 have : ls.findIdx? (kh ns[v].name)=fE (aw ns ls) v:=by
  cases hx : fE (aw ns ls) v with
  | some x =>
   obtain ⟨h1,h2,h3⟩:=fX hx
   rw [List.findIdx?_eq_some_iff_getElem]
   refine ⟨by omega,?_,fun j hj=>?_⟩
   ·rw [key x (by omega)];simpa using h2
   ·have:=h3 j hj
    rw [key j (by omega)];simpa using this
  | none =>
   rw [oF] at hx
   rw [List.findIdx?_eq_none_iff]
   intro l hl
   obtain ⟨i,hi,rfl⟩:=List.getElem_of_mem hl
   rw [key i hi]
   simp only [beq_eq_false_iff_ne]
   intro e
   exact hx (List.mem_map.2 ⟨_,List.getElem_mem (by rw [hel];exact hi),e⟩)
 unfold bB
 rw [this]
 cases fE (aw ns ls) v <;> rfl
variable {C : CC} (hC : am prog C)
include hC
theorem KF (b1 b2 : Bool) (ns : List Nod) (ls : List Lnk) (nm : List UInt8) (hl : ls.length < 2 ^ 62) : C 639 [.agg [slx b1 (ns.map aL),slx b2 (ls.map aD)],.str nm] (.int .i64 (bB (kh nm) ls)) []:=by
 obtain ⟨r,hr⟩ : ∃ r,r=bB (kh nm) ls:=⟨_,rfl⟩
 rw [<- hr]
 refine al hC (nf:=N639) rfl rfl ?_
 simp [N639]
 refine aj Nat (fun i=>[(1,.str nm),(2,.ptr [slx b1 (ns.map aL),slx b2 (ls.map aD)]),(5,.int .i64 i)]) (fun i=>i <= ls.length /\ ∀ (j : Nat) (h : j < ls.length),j < i -> kh nm ls[j]=false) (fun i=>ls.length - i) 0 ⟨by omega,by omega⟩ (by simp) ?_
 rintro i ⟨hi,hj⟩
 simp
 refine ab (fun h=>?_) (fun h=>?_) <;> simp at h
 ·have hw : IntKind.wrap .i64 ((i : Int) + 1)=((i + 1 : Nat) : Int):=af (by omega) (by omega)
  simp [h,aD]
  by_cases e : ls[i].src=nm
  ·have e1 : r=(i : Int):=by rw [hr];exact cz hj h (by simp [kh,e])
   simp [e,e1]
  ·simp [e]
   exact ⟨i + 1,⟨by omega,fun j hl hij=>by rcases Nat.lt_succ_iff_lt_or_eq.1 hij with h8 | rfl;exact hj j hl h8;simp [kh,e]⟩,by omega,hw⟩
 ·have e1 : r=-1:=by rw [hr];exact cN (fun j hl=>hj j hl (by omega))
  simp [h,e1]
theorem uf (b1 b2 : Bool) (ns : List Nod) (ls : List Lnk) (hv : bG ns ls=true) : C 638 [.agg [slx b1 (ns.map aL),slx b2 (ls.map aD)]] (.tup [iQ ns.length (aw ns ls),.bool (decide ((dn ns.length (aw ns ls)).length=ns.length))]) []:=by
 obtain ⟨hn,hl⟩:=cp hv
 have k1:=wx hC b1 b2 ns ls hv
 have k2:=uw hC (b:=false) (n:=ns.length) (es:=aw ns ls) hn (by rw [a8];omega) (iY hv)
 rw [cE] at k2
 refine al hC (nf:=N638) rfl rfl ?_
 simp [N638]
 refine aa k1 (.inr rfl) ?_
 simp
 refine aa k2 (.inr rfl) ?_
 have hO : iQ ns.length (aw ns ls)=.nils \/ ∃ L,iQ ns.length (aw ns ls)=.sl (aG L):=by
  unfold iQ ndD;split
  ·exact .inr ⟨_,rfl⟩
  ·exact .inl rfl
 rcases hO with e | ⟨L,e⟩
 ·rw [e]
  simp
  exact ar (by decide +kernel)
 ·rw [e]
  simp
  exact ar (by decide +kernel)
theorem Do (b1 b2 : Bool) (ns : List Nod) (ls : List Lnk) (hv : bG ns ls=true) (hk : ls.any (fun l=>!decide (l.kind=1))=false) {i : Nat} (hi : i < ls.length) (cover : Int) (hcv : 0 <= cover /\ cover <= 4194304) : C 613 [.agg [slx b1 (ns.map aL),slx b2 (ls.map aD)],.agg (aD ls[i]),.int .i64 cover] (.int .i64 (pRm ns (aw ns ls) ls cover i)) []:=by
 obtain ⟨g1,g2,n1,n2,a1,a2⟩:=oD hv hi
 obtain ⟨hn,hl⟩:=cp hv
 have k1:=hD hC b1 b2 ns ls ls[i].src (by omega)
 have k2:=hD hC b1 b2 ns ls ls[i].dst (by omega)
 rw [a1] at k1
 rw [a2] at k2
 have hie : i < (aw ns ls).length:=by rw [a8];exact hi
 obtain ⟨p1,p2,p3⟩:=rE hv hk hi
 have q1:=oW hv g1
 have q2:=oW hv g2
 obtain ⟨r,hr⟩ : ∃ r,r=pRm ns (aw ns ls) ls cover i:=⟨_,rfl⟩
 have hr':=hr
 unfold pRm at hr'
 rw [getElem!_pos ls _ hi,getElem!_pos (aw ns ls) _ hie,getElem!_pos ns _ g1,getElem!_pos ns _ g2] at hr'
 rw [<- hr]
 generalize (aw ns ls)[i]=e at *
 have w1 : IntKind.wrap .i64 (ns[e.1].ground - ls[i].up)=ns[e.1].ground - ls[i].up:=af rfl (by omega)
 have w2 : IntKind.wrap .i64 (ns[e.2].ground - ls[i].down)=ns[e.2].ground - ls[i].down:=af rfl (by omega)
 refine al hC (nf:=N613) rfl rfl ?_
 simp [N613,aD]
 refine aa k1 (.inl rfl) ?_
 simp [g1,aL]
 refine ⟨ar (by decide +kernel),?_⟩
 refine aa k2 (.inl rfl) ?_
 simp [g2,aL,w1,w2]
 refine ⟨ar (by decide +kernel),?_⟩
 unfold mnI at hr'
 refine ab (fun h=>?_) (fun h=>?_) <;> simp at h
 ·rw [if_pos h] at hr'
  have w3 : IntKind.wrap .i64 (ns[e.2].ground - ls[i].down - cover)=ns[e.2].ground - ls[i].down - cover:=af rfl (by omega)
  simp [h]
  refine ab (fun h2=>?_) (fun h2=>?_) <;> simp at h2
  ·rw [if_neg (by omega)] at hr'
   simp [h2,hr']
  ·have h3 : ¬ ns[e.2].ground - ls[i].down < cover:=by omega
   simp [h3,w3]
   rw [hr'];split <;> omega
 ·have h' : ¬ ns[e.2].ground - ls[i].down < ns[e.1].ground - ls[i].up:=by omega
  rw [if_neg h'] at hr'
  have w3 : IntKind.wrap .i64 (ns[e.1].ground - ls[i].up - cover)=ns[e.1].ground - ls[i].up - cover:=af rfl (by omega)
  simp [h']
  refine ab (fun h2=>?_) (fun h2=>?_) <;> simp at h2
  ·rw [if_neg (by omega)] at hr'
   simp [h2,hr']
  ·have h3 : ¬ ns[e.1].ground - ls[i].up < cover:=by omega
   simp [h3,w3]
   rw [hr'];split <;> omega
end Go.Gv

set_option maxRecDepth 4000
namespace Go.Gv
theorem yJ {O : List Nat} {n : Nat} (hnd : O.Nodup) (hlt : ∀ v ∈ O,v < n) (hlen : O.length=n) {v : Nat} (hv : v < n) : v ∈ O:=by
 apply Classical.byContradiction
 intro hn
 have hnd2 : (v::O).Nodup:=List.nodup_cons.2 ⟨hn,hnd⟩
 have hsub : (v::O) ⊆ List.range n:=by
  intro u hu
  rcases List.mem_cons.1 hu with rfl | hu
  ·simpa using hv
  ·simpa using hlt u hu
 have:=List.Nodup.length_le_of_subset hnd2 hsub
 simp at this
 omega
theorem Dk {es : List Edg} {vs : List Nat} (h : vs.Nodup) : (ppT es vs).Nodup:=by
 unfold ppT List.Nodup
 rw [List.pairwise_filterMap]
 refine h.imp ?_
 intro a b hab x hx y hy e
 subst e
 obtain ⟨_,h2,_⟩:=fX hx
 obtain ⟨_,h4,_⟩:=fX hy
 exact hab (by rw [<- h2,<- h4])
theorem wr {es : List Edg} {n : Nat} (hlen : (dn n es).length=n) {v x : Nat} (hv : v < n) (h : fE es v=some x) : x ∈ ppL n es:=by
 unfold ppL ppT
 rw [List.mem_filterMap]
 exact ⟨v,yJ (oU n es) (fun _ h=>oT h) hlen hv,h⟩
def nlO (E : Int) (l : List (List D)) : D:=if E=0 then .sl l else .nils
variable {C : CC} (hC : am prog C)
include hC
set_option maxHeartbeats 1000000 in
theorem wz (b1 b2 : Bool) (ns : List Nod) (ls : List Lnk) (hv : bG ns ls=true) :
  C 612 [.agg [slx b1 (ns.map aL),slx b2 (ls.map aD)]] (.tup [nlO (ppE ls ns.length (aw ns ls)) (aG (ppL ns.length (aw ns ls))),nlO (ppE ls ns.length (aw ns ls)) (bT (ppB ns.length (aw ns ls))),.int .i64 (ppE ls ns.length (aw ns ls))]) []:=by
 obtain ⟨hn,hl⟩:=cp hv
 have hg:=iY hv
 have hel:=a8 ns ls
 have k1:=uf hC b1 b2 ns ls hv
 have k2:=fun nm=>KF hC b1 b2 ns ls nm (by omega)
 have ho:=fun (v : Nat) (h : v < ns.length)=>Dg hv h
 have hsd : ∀ (i : Nat) (h : i < ls.length) (h' : i < (aw ns ls).length),∃ (h1 : ((aw ns ls)[i]'h').1 < ns.length) (h2 : ((aw ns ls)[i]'h').2 < ns.length),(ns[((aw ns ls)[i]'h').1]'h1).name=ls[i].src /\ (ns[((aw ns ls)[i]'h').2]'h2).name=ls[i].dst:=fun i h h'=>by
  obtain ⟨h1,h2,h3,h4,_⟩:=oD hv h
  exact ⟨h1,h2,h3,h4⟩
 have hij:=fun (i j : Nat) (hi : i < ns.length) (hj : j < ns.length)=>pS hv hi hj
 have hfull:=fun (h : (dn ns.length (aw ns ls)).length=ns.length) (v x : Nat) (h1 : v < ns.length) (h2 : fE (aw ns ls) v=some x)=>wr h h1 h2
 generalize hes : aw ns ls=es at *
 obtain ⟨E,hE⟩ : ∃ E,E=ppE ls ns.length es:=⟨_,rfl⟩
 rw [<- hE]
 have bad : E ≠ 0 -> ∀ l,nlO E l=.nils:=fun h l=>by unfold nlO;rw [if_neg h]
 obtain ⟨R1,hR1⟩ : ∃ R,R=nlO E (aG (ppL ns.length es)):=⟨_,rfl⟩
 obtain ⟨R2,hR2⟩ : ∃ R,R=nlO E (bT (ppB ns.length es)):=⟨_,rfl⟩
 rw [<- hR1,<- hR2]
 have bad1 : E ≠ 0 -> R1=.nils:=fun h=>by rw [hR1];exact bad h _
 have bad2 : E ≠ 0 -> R2=.nils:=fun h=>by rw [hR2];exact bad h _
 refine al hC (nf:=N612) rfl rfl ?_
 simp [N612]
 refine aj Nat (fun i=>[(1,.ptr [slx b1 (ns.map aL),slx b2 (ls.map aD)]),(5,.int .i64 i)]) (fun i=>i <= ls.length /\ ∀ (j : Nat) (h : j < ls.length),j < i -> ls[j].kind=1) (fun i=>ls.length - i) 0 ⟨by omega,by omega⟩ (by simp) ?_
 rintro i ⟨hi,hki⟩
 simp
 refine ab (fun h=>?_) (fun h=>?_) <;> simp at h
 ·have hw : IntKind.wrap .i64 ((i : Int) + 1)=((i + 1 : Nat) : Int):=af (by omega) (by omega)
  simp [h,aD,cg]
  by_cases hk : ls[i].kind=1
  ·simp [hk]
   exact ⟨i + 1,⟨by omega,fun j hj hjk=>by rcases Nat.lt_succ_iff_lt_or_eq.1 hjk with h8 | rfl;exact hki j hj h8;exact hk⟩,by omega,hw⟩
  ·have e1 : E=11:=by
    rw [hE];unfold ppE
    rw [if_pos (List.any_eq_true.2 ⟨_,List.getElem_mem h,by simp [hk]⟩)]
   simp [hk,bad1 (by rw [e1];decide),bad2 (by rw [e1];decide),e1]
 have ei : i=ls.length:=by omega
 subst ei
 have hkd : ls.any (fun l=>!decide (l.kind=1))=false:=by
  rw [List.any_eq_false]
  intro l hl
  obtain ⟨j,hj,rfl⟩:=List.getElem_of_mem hl
  simpa using hki j hj hj
 simp
 refine aj Nat (fun i=>[(1,.ptr [slx b1 (ns.map aL),slx b2 (ls.map aD)]),(6,.int .i64 i)]) (fun i=>i <= ls.length /\ ((es.take i).map (·.1)).Nodup) (fun i=>ls.length - i) 0 ⟨by omega,by simp⟩ (by simp) ?_
 rintro i ⟨hi,hnd⟩
 simp
 refine ab (fun h=>?_) (fun h=>?_) <;> simp at h
 ·have hw : IntKind.wrap .i64 ((i : Int) + 1)=((i + 1 : Nat) : Int):=af (by omega) (by omega)
  simp [h]
  refine aj Nat (fun k=>[(1,.ptr [slx b1 (ns.map aL),slx b2 (ls.map aD)]),(6,.int .i64 i),(7,.int .i64 k)]) (fun k=>k <= i /\ ∀ (j : Nat) (h : j < es.length),j < k -> es[j].1 ≠ (es[i]'(by omega)).1) (fun k=>i - k) 0 ⟨by omega,by omega⟩ (by simp) ?_
  rintro k ⟨hk,hok⟩
  simp
  refine ab (fun h2=>?_) (fun h2=>?_) <;> simp at h2
  ·have hw2 : IntKind.wrap .i64 ((k : Int) + 1)=((k + 1 : Nat) : Int):=af (by omega) (by omega)
   have hkl : k < ls.length:=by omega
   obtain ⟨a1,a2,a3,_⟩:=hsd k hkl (by omega)
   obtain ⟨c1,c2,c3,_⟩:=hsd i h (by omega)
   simp [h,h2,hkl,aD,cg]
   refine ⟨ar (by decide +kernel),?_⟩
   by_cases e : ls[k].src=ls[i].src
   ·have e2 : (es[k]'(by omega)).1=(es[i]'(by omega)).1:=hij _ _ a1 c1 (by rw [a3,c3,e])
    have h3 : ¬ (es.map (·.1)).Nodup:=fun hd=>by
     have:=qx hd (k:=k) (k':=i) (by omega) (by omega) e2
     omega
    have e1 : E=25:=by rw [hE];unfold ppE;rw [if_neg (by rw [hkd];decide),if_pos h3]
    simp [e,bad1 (by rw [e1];decide),bad2 (by rw [e1];decide),e1]
   ·have e2 : (es[k]'(by omega)).1 ≠ (es[i]'(by omega)).1:=fun h8=>e (by rw [<- a3,<- c3];simp only [h8])
    simp [e]
    exact ⟨k + 1,⟨by omega,fun j hj hjk=>by rcases Nat.lt_succ_iff_lt_or_eq.1 hjk with h8 | rfl;exact hok j hj h8;exact e2⟩,by omega,hw2⟩
  ·have ek : k=i:=by omega
   subst ek
   have hie : k < es.length:=by omega
   have hf:=sB hie hnd
   have hnone : fE (es.take k) es[k].1=none:=by
    rw [oF,List.mem_map]
    rintro ⟨e,he,he2⟩
    obtain ⟨j,hj,hj2⟩:=List.getElem_of_mem he
    rw [List.getElem_take] at hj2
    have hjk : j < k:=by simp at hj;omega
    exact hok j (by omega) hjk (by rw [hj2];exact he2)
   simp [h2]
   exact ⟨k + 1,⟨by omega,by rw [<- List.map_take];exact hf.2 hnone⟩,by omega,hw⟩
 have ei : i=ls.length:=by omega
 subst ei
 rw [<- hel,List.take_length] at hnd
 simp
 refine aa k1 (.inr rfl) ?_
 by_cases h2 : ¬ (dn ns.length es).length=ns.length
 ·have hlt : (dn ns.length es).length < ns.length:=by have:=fM ns.length es;omega
  have e1 : E=22:=by rw [hE];unfold ppE;rw [if_neg (by rw [hkd];decide),if_neg (by simpa using hnd),if_pos hlt]
  have e5 : iQ ns.length es=.nils:=by unfold iQ;rw [if_neg h2]
  rw [e5]
  simp [h2,bad1 (by rw [e1];decide),bad2 (by rw [e1];decide),e1]
 have h2 : (dn ns.length es).length=ns.length:=Classical.not_not.1 h2
 have e1 : E=0:=by rw [hE];unfold ppE;rw [if_neg (by rw [hkd];decide),if_neg (by simpa using hnd),if_neg (by omega)]
 have e5 : iQ ns.length es=.sl (aG (dn ns.length es)):=by unfold iQ ndD;rw [if_pos h2]
 have e6 : R1=.sl (aG (ppL ns.length es)):=by rw [hR1,e1];rfl
 have e7 : R2=.sl (bT (ppB ns.length es)):=by rw [hR2,e1];rfl
 have e8 : ppB ns.length es=(ppL ns.length es).map (jc es (ppL ns.length es)):=rfl
 have e9 : ppL ns.length es=ppT es (dn ns.length es):=rfl
 rw [e5,e6,e7,e8,e1]
 have hfull2:=fun v x=>hfull h2 v x
 have hOn:=oU ns.length es
 have hOlt:=fun v (h : v ∈ dn ns.length es)=>oT h
 clear hfull bad1 bad2 bad hR1 hR2 e6 e7 e8 e5 k1 hE
 generalize hVd : ppL ns.length es=V at *
 generalize dn ns.length es=O at *
 have hVn : V.Nodup:=by rw [e9];exact Dk hOn
 have hib:=aC O
 simp [h2]
 refine aj Nat (fun k=>[(1,.ptr [slx b1 (ns.map aL),slx b2 (ls.map aD)]),(8,.sl (aG O)),(10,.ref (.r 10160) 0 (ppT es (O.take k)).length),(11,.ref (.r 10176) 0 0),(12,.int .i64 k),(10160,.blk 1 (aG (ppT es (O.take k)))),(10176,.blk 1 [])]) (fun k=>k <= O.length) (fun k=>O.length - k) 0 (by simp) (by simp [ppT,aG]) ?_
 intro k hk
 simp
 refine ab (fun h3=>?_) (fun h3=>?_) <;> simp [hib] at h3
 ·have hw : IntKind.wrap .i64 ((k : Int) + 1)=((k + 1 : Nat) : Int):=af (by omega) (by omega)
  have hv1:=hOlt _ (List.getElem_mem h3)
  have hTs:=pZ (es:=es) h3
  have hpl : (ppT es (O.take k)).length <= k:=Nat.le_trans (fu _ _) (by simp;omega)
  have kc:=k2 (ns[O[k]]).name
  rw [ho _ hv1] at kc
  simp [h3,hib,bf (cA h3),hv1,aL]
  refine aa kc (.inl rfl) ?_
  cases hx : fE es O[k] with
  | none =>
   rw [hx] at hTs
   simp [frI]
   refine ⟨ar (by decide +kernel),k + 1,by omega,by omega,?_⟩
   rw [hTs]
   simp [hw]
  | some x =>
   rw [hx] at hTs
   generalize ppT es (O.take k)=T at *
   have hb2 : (T.length + 1) * 8 <= 140737488355328:=by omega
   have htk : List.take T.length (aG T)=aG T:=List.take_of_length_le (by rw [aC];omega)
   have hge : (0 : Int) <= (x : Int):=by omega
   simp [frI,hge,aq,aC,hb2]
   refine ⟨ar (by decide +kernel),k + 1,by omega,by omega,by rw [hTs];simp,hw,by rw [hTs,htk];simp [aG]⟩
 have ek : k=O.length:=by omega
 subst ek
 rw [show List.take O.length O=O from List.take_length,<- e9]
 have hVl : V.length <= 300:=by rw [e9];exact Nat.le_trans (fu _ _) (by omega)
 have hVlt : ∀ l ∈ V,l < es.length:=fun l hl=>by rw [e9] at hl;exact kZ hl
 simp [h3,aC]
 refine aj Nat (fun k=>[(1,.ptr [slx b1 (ns.map aL),slx b2 (ls.map aD)]),(10,.ref (.r 10160) 0 V.length),(11,.ref (.r 10176) 0 k),(14,.int .i64 k),(10160,.blk 1 (aG V)),(10176,.blk 1 (ir es V k))]) (fun k=>k <= V.length) (fun k=>V.length - k) 0 (by simp) (by simp [nw]) ?_
 intro k hk
 simp
 refine ab (fun h4=>?_) (fun h4=>?_) <;> simp at h4
 ·have hw : IntKind.wrap .i64 ((k : Int) + 1)=((k + 1 : Nat) : Int):=af (by omega) (by omega)
  have hl2:=hVlt _ (List.getElem_mem h4)
  have hl3 : V[k] < ls.length:=by omega
  have hgl:=hg _ (List.getElem_mem hl2)
  have hB:=nv (es:=es) h4
  have hBl:=ph (es:=es) hk
  have hBc:=va es V k
  obtain ⟨a1,a2,a3,a4⟩:=hsd _ hl3 hl2
  have kc:=k2 (ls[V[k]]).dst
  rw [<- a4,ho _ a2] at kc
  have hbl : jc es V V[k]=(match fE es (es[V[k]]).2 with | some x=>(pU V x : Int) | none=>-1):=by
   unfold jc
   rw [List.getElem?_eq_getElem hl2];rfl
  have hin : ∀ x,fE es (es[V[k]]).2=some x -> x ∈ V:=fun x hx=>hfull2 _ x a2 hx
  have hb2 : (k + 1) * 8 <= 140737488355328:=by omega
  have htk : List.take k (ir es V k)=ir es V k:=List.take_of_length_le (by omega)
  simp [h4,aV (cA h4),aC,hl3,aD,cg]
  rw [<- a4]
  refine aa kc (.inl rfl) ?_
  generalize hF : fE es (es[V[k]]).2=F at *
  have hfi : frI F=-1 \/ ∃ x : Nat,frI F=(x : Int):=by cases F with | none=>exact .inl rfl | some x=>exact .inr ⟨x,rfl⟩
  simp
  refine ⟨ar (by decide +kernel),?_⟩
  refine aj (Nat × Int) (fun s=>[(1,.ptr [slx b1 (ns.map aL),slx b2 (ls.map aD)]),(10,.ref (.r 10160) 0 V.length),(11,.ref (.r 10176) 0 k),(14,.int .i64 k),(15,.int .i64 s.2),(16,.int .i64 (frI F)),(17,.int .i64 s.1),(10160,.blk 1 (aG V)),(10176,.blk 1 (ir es V k))]) (fun s=>s.1 <= V.length /\ (∀ j (hj : j < V.length),j < s.1 -> (V[j] : Int)=frI F -> s.2=(j : Int)) /\ ((∀ j (hj : j < V.length),j < s.1 -> ¬ (V[j] : Int)=frI F) -> s.2=-1)) (fun s=>V.length - s.1) (0,-1) ⟨by omega,by intro j _ h;exact absurd h (Nat.not_lt_zero _),fun _=>rfl⟩ (by simp) ?_
  rintro ⟨m,b⟩ ⟨hm,hb,hb0⟩
  simp at hm hb hb0
  simp
  refine ab (fun h5=>?_) (fun h5=>?_) <;> simp at h5
  ·have hw3 : IntKind.wrap .i64 ((m : Int) + 1)=((m + 1 : Nat) : Int):=af (by omega) (by omega)
   simp [h5,aV (cA h5),aC]
   refine ab (fun h6=>?_) (fun h6=>?_) <;> simp at h6
   ·simp [h6]
    refine ⟨m + 1,(m : Int),⟨by omega,fun j hj hjm he=>?_,fun hall=>absurd h6 (hall m h5 (by omega))⟩,by omega,rfl,hw3⟩
    have e : V[j]=V[m]:=by have:=he.trans h6.symm;omega
    have:=(List.getElem_inj hVn).1 e
    omega
   ·simp [h6]
    refine ⟨m + 1,b,⟨by omega,fun j hj hjm he=>?_,fun hall=>hb0 fun j hj hjm=>hall j hj (by omega)⟩,by omega,rfl,hw3⟩
    rcases Nat.lt_succ_iff_lt_or_eq.1 hjm with h8 | rfl
    ·exact hb j hj h8 he
    ·exact absurd he h6
  ·have em : m=V.length:=by omega
   subst em
   have hbv : b=jc es V V[k]:=by
    rw [hbl]
    cases F with
    | none =>
     exact hb0 fun j hj _ he=>by simp [frI] at he
    | some x =>
     have hxV:=hin x rfl
     have hi:=List.idxOf_lt_length_iff.2 hxV
     have:=hb _ hi hi (by simp [frI])
     simp only [pU,if_pos hxV]
     exact this
   simp [aq,hBl,hb2,htk]
   refine ⟨k + 1,by omega,by omega,by omega,hw,?_⟩
   rw [hB,hbv]
 ·have ek : k=V.length:=by omega
  subst ek
  have hBe:=pg es V
  have hVV : List.take V.length (aG V)=aG V:=List.take_of_length_le (by rw [aC];omega)
  have cV : (aG V).map (fun e=>e.map aR)=aG V:=by simp [aG,aR]
  have cW : ∀ W,(bT W).map (fun e=>e.map aR)=bT W:=by intro W;simp [bT,aR]
  have hWt : List.take V.length (bT (V.map (jc es V)))=bT (V.map (jc es V)):=List.take_of_length_le (by simp [bT])
  rw [hBe]
  simp [h4]
  rw [cV,hVV]
  refine ⟨by rw [aC];omega,rfl,?_⟩
  simp [bT,Function.comp_def,aR]
  rw [List.take_of_length_le (by simp)]
end Go.Gv

namespace Go.Gv
def eM (j : Job) (i : Nat) : Bool:=j.below.l[i]! == -1 || (decide ((i : Int) < j.below.l[i]!) && decide (j.below.l[i]! < j.below.l.length))
theorem lS {l : List Int} {lo hi : Int} : (l.all fun n=>cm n lo hi)=true ↔ ∀ i,i < l.length -> cm l[i]! lo hi=true:=by
 rw [List.all_eq_true]
 constructor
 ·intro h i hi
  rw [getElem!_pos l i hi]
  exact h _ (List.getElem_mem hi)
 ·intro h x hx
  obtain ⟨i,hi,rfl⟩:=List.getElem_of_mem hx
  have:=h i hi
  rwa [getElem!_pos l i hi] at this
theorem uk {j : Job} (h1 : j.lengths.l.length=j.below.l.length) (h2 : j.flows.l.length=j.below.l.length) (h3 : j.falls.l.length=j.below.l.length) (h4 : j.room.l.length=j.below.l.length) (hb : ∀ i,i < j.below.l.length -> eM j i=true) :
  (List.range j.below.l.length).all (ee j)=((j.lengths.l.all fun n=>cm n 1 16777216) && (j.flows.l.all fun n=>cm n 0 1099511627776) && (j.falls.l.all fun n=>cm n 0 4194304) && (j.room.l.all fun n=>cm n 0 4194304)):=by
 rw [Bool.eq_iff_iff,Bool.and_eq_true,Bool.and_eq_true,Bool.and_eq_true,lS,lS,lS,lS,List.all_eq_true,h1,h2,h3,h4]
 constructor
 ·intro h
  have key : ∀ i,i < j.below.l.length -> cm j.lengths.l[i]! 1 16777216=true /\ cm j.flows.l[i]! 0 1099511627776=true /\ cm j.falls.l[i]! 0 4194304=true /\ cm j.room.l[i]! 0 4194304=true:=fun i hi=>by
   have:=h i (by simpa using hi)
   simp only [ee,Bool.and_eq_true] at this
   exact ⟨this.1.1.1.2,this.1.1.2,this.1.2,this.2⟩
  exact ⟨⟨⟨fun i hi=>(key i hi).1,fun i hi=>(key i hi).2.1⟩,fun i hi=>(key i hi).2.2.1⟩,fun i hi=>(key i hi).2.2.2⟩
 ·rintro ⟨⟨⟨k1,k2⟩,k3⟩,k4⟩ i hi
  rw [List.mem_range] at hi
  have h0:=hb i hi
  rw [eM] at h0
  rw [ee,h0,k1 i hi,k2 i hi,k3 i hi,k4 i hi]
  rfl
variable {C : CC} (hC : am prog C)
include hC
set_option maxHeartbeats 2000000 in
theorem uo (j : Job) : C 8 [.agg (co j)] (.bool (ao j)) []:=by
 refine al hC (nf:=N8) rfl rfl ?_
 simp [N8,az]
 refine ab (fun h=>?_) (fun h=>?_) <;> simp [h] <;> simp at h
 ·simp [ao];omega
 refine ab (fun h2=>?_) (fun h2=>?_) <;> simp at h2 <;> simp [h2]
 ·rw [ao];simp;omega
 refine ab (fun h3=>?_) (fun h3=>?_) <;> simp at h3 <;> simp [h3]
 ·rw [ao];simp;omega
 refine ab (fun h4=>?_) (fun h4=>?_) <;> simp at h4 <;> simp [h4]
 ·rw [ao];simp;omega
 refine ab (fun h5=>?_) (fun h5=>?_) <;> simp at h5 <;> simp [h5]
 ·rw [ao];simp;omega
 refine ab (fun h6=>?_) (fun h6=>?_) <;> simp at h6 <;> simp [h6]
 ·have h6' : ¬ 0 < j.secs.length:=by omega
  simp [ao,h6']
 refine aa (wD hC _ _) (.inl rfl) ?_
 cases h7 : aJ j.secs
 ·simp [ao,h7]
 simp
 have bad : ∀ i,i < j.below.l.length -> eM j i=false -> ao j=false:=fun i hi e=>by
  simp only [ao,Bool.and_eq_false_iff,List.all_eq_false]
  refine .inr ⟨i,by simpa using hi,?_⟩
  rw [eM] at e
  rw [ee,e]
  simp
 have next : ∀ i,eM j i=true -> (∀ k,k < i -> eM j k=true) -> ∀ k,k < i + 1 -> eM j k=true:=fun i e hk k hk2=>by
  rcases Nat.lt_succ_iff_lt_or_eq.1 hk2 with h5 | rfl
  ·exact hk k h5
  ·exact e
 refine aj Nat (fun i=>[(1,.ptr (co j)),(3,.int .i64 j.below.l.length),(4,.int .i64 i)]) (fun i=>i <= j.below.l.length /\ ∀ k,k < i -> eM j k=true) (fun i=>j.below.l.length - i) 0 (by simp) (by simp [az]) ?_
 rintro i ⟨hi,hok⟩
 simp [az]
 refine ab (fun h8=>?_) (fun h8=>?_) <;> simp at h8 <;> simp [h8]
 ·have hw : IntKind.wrap .i64 ((i : Int) + 1)=((i + 1 : Nat) : Int):=af (by omega) (by omega)
  have hb1 : j.below.l[i]! = j.below.l[i]:=getElem!_pos j.below.l i h8
  have bo : eM j i=(j.below.l[i] == -1 || (decide ((i : Int) < j.below.l[i]) && decide (j.below.l[i] < j.below.l.length))):=by rw [eM,hb1]
  by_cases c1 : j.below.l[i]=-1
  ·simp [h8,c1,hw]
   exact ⟨i + 1,⟨by omega,next i (by rw [bo,c1];rfl) hok⟩,by omega,by simp [az],by simp⟩
  ·by_cases c2 : j.below.l[i] <= (i : Int)
   ·simp [h8,c1,c2]
    exact bad i h8 (by rw [bo];simp [c1];omega)
   ·by_cases c3 : (j.below.l.length : Int) <= j.below.l[i]
    ·simp [h8,c1,c2,c3]
     exact bad i h8 (by rw [bo];simp [c1];omega)
    ·simp [h8,c1,c2,c3,hw]
     exact ⟨i + 1,⟨by omega,next i (by rw [bo];simp;omega) hok⟩,by omega,by simp [az],by simp⟩
 ·have hp:=uk (j:=j) (by omega) (by omega) (by omega) (by omega) (fun k hk=>hok k (by omega))
  have hvd : ao j=(List.range j.below.l.length).all (ee j):=by
   rw [ao,h7,decide_eq_true (show j.below.l.length <= 400 by omega),decide_eq_true (show j.lengths.l.length=j.below.l.length by omega),decide_eq_true (show j.flows.l.length=j.below.l.length by omega),decide_eq_true (show j.falls.l.length=j.below.l.length by omega),decide_eq_true (show j.room.l.length=j.below.l.length by omega),decide_eq_true (show 0 < j.secs.length by omega)]
   simp only [Bool.true_and]
  rw [hvd,hp]
  have r1:=gH hC j.lengths.n j.lengths.l 1 16777216 (by omega)
  have r2:=gH hC j.flows.n j.flows.l 0 1099511627776 (by omega)
  have r3:=gH hC j.falls.n j.falls.l 0 4194304 (by omega)
  have r4:=gH hC j.room.n j.room.l 0 4194304 (by omega)
  obtain ⟨q1,e1⟩ : ∃ q1,q1=j.lengths.l.all fun n=>cm n 1 16777216:=⟨_,rfl⟩
  obtain ⟨q2,e2⟩ : ∃ q2,q2=j.flows.l.all fun n=>cm n 0 1099511627776:=⟨_,rfl⟩
  obtain ⟨q3,e3⟩ : ∃ q3,q3=j.falls.l.all fun n=>cm n 0 4194304:=⟨_,rfl⟩
  obtain ⟨q4,e4⟩ : ∃ q4,q4=j.room.l.all fun n=>cm n 0 4194304:=⟨_,rfl⟩
  rw [<- e1] at r1 ⊢
  rw [<- e2] at r2 ⊢
  rw [<- e3] at r3 ⊢
  rw [<- e4] at r4 ⊢
  refine aa r1 (.inl rfl) ?_
  cases q1
  ·simp
  simp
  refine aa r2 (.inl rfl) ?_
  cases q2
  ·simp
  simp
  refine aa r3 (.inl rfl) ?_
  cases q3
  ·simp
  simp
  refine aa r4 (.inl rfl) ?_
  cases q4 <;> simp
end Go.Gv

set_option maxRecDepth 4000
namespace Go.Gv
def uC (x : Nod) (b : Bool) : Nod:={ x with shapeN:=b }
def tE (x : Lnk) (b : Bool) : Lnk:={ x with curveN:=b }
def ne (n : Nod) : Bool:=decide (20 < n.shape.length) || decide (60 < n.name.length)
def ku (l : Lnk) : Bool:=decide (20 < l.curve.length) || decide (60 < l.name.length) || decide (60 < l.src.length) || decide (60 < l.dst.length) || decide (60 < l.sect.length)
def lG (ns : List Nod) (ls : List Lnk) : Bool:=decide (12 < ns.length) || decide (12 < ls.length) || ns.any ne || ls.any ku
theorem qq (xs : List Sec) : cO xs xs=true:=(eL rfl).2 fun j h=>by simp [ef]
variable {C : CC} (hC : am prog C)
include hC
theorem ut (x : Nod) (b : Bool) (h : x.shape.length < 2 ^ 62) : C 610 [.agg (aL x),.agg (aL (uC x b))] (.bool true) []:=by
 have k:=j8 hC x.shapeN b x.shape x.shape h h
 refine al hC (nf:=N610) rfl rfl ?_
 simp [N610,aL,uC]
 refine aa k (.inl rfl) ?_
 simp
theorem ur (x : Lnk) (b : Bool) (h : x.curve.length < 2 ^ 62) : C 611 [.agg (aD x),.agg (aD (tE x b))] (.bool true) []:=by
 have k:=j8 hC x.curveN b x.curve x.curve h h
 refine al hC (nf:=N611) rfl rfl ?_
 simp [N611,aD,tE]
 refine aa k (.inl rfl) ?_
 simp
theorem oa (b1 b2 b3 b4 : Bool) (ns : List Nod) (ls : List Lnk) (f : Nod -> Bool) (g : Lnk -> Bool) (hn : ns.length < 2 ^ 62) (hl : ls.length < 2 ^ 62) (hs : ∀ x ∈ ns,x.shape.length < 2 ^ 62) (hc : ∀ x ∈ ls,x.curve.length < 2 ^ 62) :
  C 568 [.agg [slx b1 (ns.map aL),slx b2 (ls.map aD)],.agg [slx b3 ((ns.map fun x=>uC x (f x)).map aL),slx b4 ((ls.map fun x=>tE x (g x)).map aD)]] (.bool true) []:=by
 have k1:=fun (i : Nat) (h : i < ns.length)=>ut hC ns[i] (f ns[i]) (hs _ (List.getElem_mem h))
 have k2:=fun (i : Nat) (h : i < ls.length)=>ur hC ls[i] (g ls[i]) (hc _ (List.getElem_mem h))
 obtain ⟨ns',hns⟩ : ∃ l,l=ns.map fun x=>uC x (f x):=⟨_,rfl⟩
 obtain ⟨ls',hls⟩ : ∃ l,l=ls.map fun x=>tE x (g x):=⟨_,rfl⟩
 rw [<- hns,<- hls]
 have e1 : ns'.length=ns.length:=by rw [hns,List.length_map]
 have e2 : ls'.length=ls.length:=by rw [hls,List.length_map]
 have k3 : ∀ (i : Nat) (h : i < ns.length) (h' : i < ns'.length),C 610 [.agg (aL ns[i]),.agg (aL ns'[i])] (.bool true) []:=by
  intro i h h'
  have : ns'[i]=uC ns[i] (f ns[i]):=by simp only [hns,List.getElem_map]
  rw [this];exact k1 i h
 have k4 : ∀ (i : Nat) (h : i < ls.length) (h' : i < ls'.length),C 611 [.agg (aD ls[i]),.agg (aD ls'[i])] (.bool true) []:=by
  intro i h h'
  have : ls'[i]=tE ls[i] (g ls[i]):=by simp only [hls,List.getElem_map]
  rw [this];exact k2 i h
 clear hns hls k1 k2
 refine al hC (nf:=N568) rfl rfl ?_
 simp [N568,e1,e2]
 refine aj Nat (fun i=>[(2,.ptr [slx b1 (ns.map aL),slx b2 (ls.map aD)]),(3,.ptr [slx b3 (ns'.map aL),slx b4 (ls'.map aD)]),(5,.int .i64 i)]) (fun i=>i <= ns.length) (fun i=>ns.length - i) 0 (by simp) (by simp) ?_
 intro i hi
 simp
 refine ab (fun h=>?_) (fun h=>?_) <;> simp at h
 ·have hw : IntKind.wrap .i64 ((i : Int) + 1)=((i + 1 : Nat) : Int):=af (by omega) (by omega)
  have h' : i < ns'.length:=by omega
  have k:=k3 i h h'
  simp only [aL] at k
  simp [h,h',aL,cg]
  refine aa k (.inl rfl) ?_
  simp
  exact ⟨ar (by decide +kernel),i + 1,by omega,by omega,hw⟩
 have ei : i=ns.length:=by omega
 subst ei
 simp
 refine aj Nat (fun i=>[(2,.ptr [slx b1 (ns.map aL),slx b2 (ls.map aD)]),(3,.ptr [slx b3 (ns'.map aL),slx b4 (ls'.map aD)]),(6,.int .i64 i)]) (fun i=>i <= ls.length) (fun i=>ls.length - i) 0 (by simp) (by simp) ?_
 intro i hi
 simp
 refine ab (fun h=>?_) (fun h=>?_) <;> simp at h
 ·have hw : IntKind.wrap .i64 ((i : Int) + 1)=((i + 1 : Nat) : Int):=af (by omega) (by omega)
  have h' : i < ls'.length:=by omega
  have k:=k4 i h h'
  simp only [aD] at k
  simp [h,h',aD,cg]
  refine aa k (.inl rfl) ?_
  simp
  exact ⟨ar (by decide +kernel),i + 1,by omega,by omega,hw⟩
 ·simp [h]
theorem k9 (a b : Job) (h1 : a.below.l=b.below.l) (h2 : a.lengths.l=b.lengths.l) (h3 : a.flows.l=b.flows.l) (h4 : a.falls.l=b.falls.l) (h5 : a.room.l=b.room.l) (h6 : a.secs=b.secs) (hl : a.below.l.length < 2 ^ 62 /\ a.lengths.l.length < 2 ^ 62 /\ a.flows.l.length < 2 ^ 62 /\ a.falls.l.length < 2 ^ 62 /\ a.room.l.length < 2 ^ 62 /\ a.secs.length < 2 ^ 62) (hs : ∀ s ∈ a.secs,s.area.length < 2 ^ 62 /\ s.conv.length < 2 ^ 62) :
  C 570 [.agg (co a),.agg (co b)] (.bool true) []:=by
 obtain ⟨l1,l2,l3,l4,l5,l6⟩:=hl
 have k1:=j7 hC a.below.n b.below.n a.below.l b.below.l l1 (by rw [<- h1];exact l1)
 have k2:=j7 hC a.lengths.n b.lengths.n a.lengths.l b.lengths.l l2 (by rw [<- h2];exact l2)
 have k3:=j7 hC a.flows.n b.flows.n a.flows.l b.flows.l l3 (by rw [<- h3];exact l3)
 have k4:=j7 hC a.falls.n b.falls.n a.falls.l b.falls.l l4 (by rw [<- h4];exact l4)
 have k5:=j7 hC a.room.n b.room.n a.room.l b.room.l l5 (by rw [<- h5];exact l5)
 have k6:=sL hC a.secN b.secN a.secs b.secs l6 (by rw [<- h6];exact l6) hs (by rw [<- h6];exact hs)
 rw [<- h1] at k1
 rw [<- h2] at k2
 rw [<- h3] at k3
 rw [<- h4] at k4
 rw [<- h5] at k5
 rw [<- h6,qq] at k6
 simp at k1 k2 k3 k4 k5
 refine al hC (nf:=N570) rfl rfl ?_
 simp [N570,co,zB,<- h1,<- h2,<- h3,<- h4,<- h5,<- h6]
 refine aa k1 (.inl rfl) ?_
 simp
 refine aa k2 (.inl rfl) ?_
 simp
 refine aa k3 (.inl rfl) ?_
 simp
 refine aa k4 (.inl rfl) ?_
 simp
 refine aa k5 (.inl rfl) ?_
 simp
 refine aa k6 (.inl rfl) ?_
 simp
theorem wC (j : Job) (b : Bool) (ch : List Int) (hv : ao j=true) (hl : ch.length < 2 ^ 62) : C 144 [.agg (co j),slx b (ch.map fun n=>[.int .i64 n])] (.int .i64 (bN j ch)) []:=by
 have hjs : j.secs.length <= 40:=by simp only [ao,aJ,Bool.and_eq_true,decide_eq_true_eq] at hv;omega
 have k:=gH hC b ch 0 ((j.secs.length : Int) - 1) hl
 have hw : IntKind.wrap .i64 ((j.secs.length : Int) - 1)=(j.secs.length : Int) - 1:=af rfl (by omega)
 have he : (ch.all fun n=>cm n 0 ((j.secs.length : Int) - 1))=!ch.any (jl j):=by
  rw [List.not_any_eq_all_not]
  congr 1
  funext n
  rw [Bool.eq_iff_iff]
  simp [cm,jl]
  omega
 rw [he,<- hw] at k
 refine al hC (nf:=N144) rfl rfl ?_
 simp [N144,az,hw]
 refine ab (fun h1=>?_) (fun h1=>?_) <;> simp at h1 <;> simp [h1]
 ·rw [bN,if_neg (by rw [hv];simp),if_pos (by omega)]
 refine aa k (.inl rfl) ?_
 cases h2 : ch.any (jl j)
 ·simp [bN,hv,h2];omega
 ·simp [bN,hv,h2];omega
theorem Ab (x : Nod) : C 603 [.agg (aL x)] (.bool (ne x)) []:=by
 refine al hC (nf:=N603) rfl rfl ?_
 simp [N603,aL]
 refine ab (fun h1=>?_) (fun h1=>?_) <;> simp [h1] <;> simp at h1
 ·simp [ne];omega
 simp [ne]
 rw [Bool.eq_iff_iff];simp
 omega
theorem Aa (x : Lnk) : C 604 [.agg (aD x)] (.bool (ku x)) []:=by
 refine al hC (nf:=N604) rfl rfl ?_
 simp [N604,aD]
 refine ab (fun h1=>?_) (fun h1=>?_) <;> simp [h1] <;> simp at h1
 ·simp [ku];omega
 refine ab (fun h2=>?_) (fun h2=>?_) <;> simp [h2] <;> simp at h2
 ·simp [ku];omega
 refine ab (fun h3=>?_) (fun h3=>?_) <;> simp [h3] <;> simp at h3
 ·simp [ku];omega
 refine ab (fun h4=>?_) (fun h4=>?_) <;> simp [h4] <;> simp at h4
 ·simp [ku];omega
 simp [ku]
 rw [Bool.eq_iff_iff];simp
 omega
theorem DM (b1 b2 : Bool) (ns : List Nod) (ls : List Lnk) (hn : ns.length < 2 ^ 62) (hl : ls.length < 2 ^ 62) : C 564 [.agg [slx b1 (ns.map aL),slx b2 (ls.map aD)]] (.bool (lG ns ls)) []:=by
 have k1:=vS hC (b:=b1) (xs:=ns) (g:=603) (cs:=[]) ne hn (fun x _=>Ab hC x)
 have k2:=pA hC (b:=b2) (xs:=ls) (g:=604) (cs:=[]) ku hl (fun x _=>Aa hC x)
 refine al hC (nf:=N564) rfl rfl ?_
 simp [N564]
 by_cases h1 : 12 < ns.length
 ·have h1' : (12 : Int) < (ns.length : Int):=by omega
  simp [h1',lG,h1]
 have h1' : ¬ (12 : Int) < (ns.length : Int):=by omega
 simp [h1']
 by_cases h2 : 12 < ls.length
 ·have h2' : (12 : Int) < (ls.length : Int):=by omega
  simp [h2',lG,h2]
 have h2' : ¬ (12 : Int) < (ls.length : Int):=by omega
 simp [h2']
 refine aa k1 (.inl rfl) ?_
 cases h3 : ns.any ne
 ·simp
  refine aa k2 (.inl rfl) ?_
  simp [lG,h1,h2,h3]
 ·simp [lG,h1,h2,h3]
end Go.Gv

set_option maxRecDepth 4000
namespace Go.Gv
theorem wu (q : List Int) : (q.all fun n=>cm n 0 1099511627776)=!q.any nl:=by
 rw [List.not_any_eq_all_not]
 congr 1
 funext n
 rw [Bool.eq_iff_iff]
 simp [cm,nl]
variable {C : CC} (hC : am prog C)
include hC
set_option maxHeartbeats 2000000 in
theorem rG (b1 b2 b3 b4 : Bool) (ns : List Nod) (ls : List Lnk) (ss : List Sec) (q : List Int) (cover : Int) (hv : bG ns ls=true) (hc : aJ ss=true) (hq : q.length < 2 ^ 62) :
  C 569 [.agg [slx b1 (ns.map aL),slx b2 (ls.map aD)],slx b3 (ss.map aW),slx b4 (q.map fun x=>[.int .i64 x]),.int .i64 cover] (.tup [.agg (co (prJ ns ls ss q cover)),.int .i64 (prE ns ls ss q cover)]) []:=by
 obtain ⟨E,hE⟩ : ∃ E,E=prE ns ls ss q cover:=⟨_,rfl⟩
 obtain ⟨J,hJ⟩ : ∃ J,J=prJ ns ls ss q cover:=⟨_,rfl⟩
 rw [<- hE,<- hJ]
 have bad : ∀ x : Int,x ≠ 0 -> E=x -> co J=[.nils,.nils,.nils,.nils,.nils,.nils] /\ E=x:=fun x hx h=>by
  have : J=kQ:=by rw [hJ];unfold prJ;rw [if_neg (by rw [<- hE,h];exact hx)]
  rw [this]
  exact ⟨mD,h⟩
 have hu : prE ns ls ss q cover=if ss.length=0 then 14 else if ppE ls ns.length (aw ns ls) ≠ 0 then ppE ls ns.length (aw ns ls) else if q.length ≠ ls.length then 3
   else if (!(decide (0 <= cover) && decide (cover <= 4194304)) || q.any nl) then 2 else if (ppL ns.length (aw ns ls)).any (eA ns (aw ns ls) ls cover) then 23 else 0:=by
  unfold prE;rw [if_neg (by simp [hv,hc])]
 have hE0:=hE
 rw [hu] at hE
 clear hu
 have k3:=wz hC b1 b2 ns ls hv
 have k4:=gH hC b4 q 0 1099511627776 hq
 rw [wu] at k4
 obtain ⟨hnl,hll⟩:=cp hv
 have hg:=iY hv
 have hel:=a8 ns ls
 refine al hC (nf:=N569) rfl rfl ?_
 simp [N569]
 by_cases h1 : ss=[]
 ·have hE1 : E=14:=by rw [hE,if_pos (by simp [h1])]
  obtain ⟨e1,e2⟩:=bad 14 (by decide) hE1
  rw [e1,e2]
  simp [h1]
 rw [if_neg (by simpa using h1)] at hE
 have eS : slx b3 (ss.map aW)=.sl (ss.map aW):=by
  cases ss with
  | nil=>exact absurd rfl h1
  | cons x xs=>simp
 simp [h1]
 refine aa k3 (.inr rfl) ?_
 by_cases h2 : ppE ls ns.length (aw ns ls)=0
 ·rw [h2]
  rw [if_neg (by simp [h2])] at hE
  simp [nlO]
  by_cases h3 : q.length=ls.length
  ·rw [if_neg (by simp [h3])] at hE
   simp [h3]
   refine aa k4 (.inl rfl) ?_
   by_cases h5 : q.any nl=true
   ·have hE1 : E=2:=by rw [hE,if_pos (by simp [h5])]
    obtain ⟨e1,e2⟩:=bad 2 (by decide) hE1
    rw [e1,e2,h5]
    simp
   rw [Bool.not_eq_true] at h5
   rw [h5]
   simp
   by_cases h4 : (0 <= cover /\ cover <= 4194304)
   ·have n1 : ¬ cover < 0:=by omega
    have n2 : ¬ 4194304 < cover:=by omega
    rw [if_neg (by simp [h5,h4.1,h4.2])] at hE
    rw [eS]
    simp [n1,n2]
    refine ki (ds:=[.sl (bT (ppB ns.length (aw ns ls))),.nils,.nils,.nils,.nils,.sl (ss.map aW)]) (b:=10208) (i:=0) (off:=0) (sz:=6) (es:=[[.own 1 [],.own 1 [],.own 1 [],.own 1 [],.own 1 [],.own 5 []]]) (r:=[.own 1 [],.own 1 [],.own 1 [],.own 1 [],.own 1 [],.own 5 []]) (by simp) (by simp [aq]) rfl rfl (by simp) (by simp) rfl (by simp) ?_
    simp [dh,dY]
    have hkd:=pY h2
    have eB : ppB ns.length (aw ns ls)=(ppL ns.length (aw ns ls)).map (jc (aw ns ls) (ppL ns.length (aw ns ls))):=rfl
    have hVl : (ppL ns.length (aw ns ls)).length <= 300:=Nat.le_trans (fu _ _) (Nat.le_trans (fM _ _) hnl)
    have hVlt : ∀ l ∈ ppL ns.length (aw ns ls),l < ls.length:=fun l hl=>by rw [<- hel];exact kZ hl
    have eJ : E=0 -> J=rF ns (aw ns ls) ls ss q cover (ppL ns.length (aw ns ls)):=fun h=>by
     have h' : prE ns ls ss q cover=0:=by rw [<- hE0];exact h
     rw [hJ];unfold prJ;rw [if_pos h']
    have kr:=fun (i : Nat) (h : i < ls.length)=>Do hC b1 b2 ns ls hv hkd h cover h4
    clear hJ k3
    generalize hVd : ppL ns.length (aw ns ls)=V at *
    generalize ppB ns.length (aw ns ls)=B at *
    generalize hes : aw ns ls=es at *
    refine aj Nat (fun k=>[(2,slx b4 (q.map fun x=>[.int .i64 x])),(3,.int .i64 cover),(4,.ptr [slx b1 (ns.map aL),slx b2 (ls.map aD)]),(8,.adr (.r 10128) 0 0),(10,.sl (aG V)),(13,.adr (.r 10208) 0 0),(14,.int .i64 k),(10128,.blk 6 [[.own 1 [],.own 1 [],.own 1 [],.own 1 [],.own 1 [],.own 5 []]]),
     (10208,.blk 6 [[.sl (bT B),.own 1 (fH (lnF ls) V k),.own 1 (fH (qvF q) V k),.own 1 (fH (pFa ls) V k),.own 1 (fH (pRm ns es ls cover) V k),.sl (ss.map aW)]])]) (fun k=>k <= V.length /\ ∀ j (hj : j < V.length),j < k -> eA ns es ls cover V[j]=false) (fun k=>V.length - k) 0 ⟨by omega,by omega⟩ (by simp [nE]) ?_
    rintro k ⟨hk,hok⟩
    simp
    refine ab (fun h=>?_) (fun h=>?_) <;> simp [aC] at h
    ·have hw : IntKind.wrap .i64 ((k : Int) + 1)=((k + 1 : Nat) : Int):=af (by omega) (by omega)
     have hi:=hVlt _ (List.getElem_mem h)
     have hie : V[k] < es.length:=by omega
     obtain ⟨p1,p2,p3⟩:=rE hv hkd hi
     have wf : IntKind.wrap .i64 (ls[V[k]].up - ls[V[k]].down)=pFa ls V[k]:=af (by unfold pFa;rw [getElem!_pos ls _ hi]) (by unfold pFa;rw [getElem!_pos ls _ hi];omega)
     have pf : pFa ls V[k]=ls[V[k]].up - ls[V[k]].down:=by unfold pFa;rw [getElem!_pos ls _ hi]
     have kc:=kr _ hi
     simp only [aD] at kc
     have bad23 : eA ns es ls cover V[k]=true -> E=23:=fun hb=>by
      rw [hE,if_pos (List.any_eq_true.2 ⟨_,List.getElem_mem h,hb⟩)]
     simp [h,bf (cA h),hi,aD,cg]
     refine ⟨ar (by decide +kernel),?_⟩
     refine aa kc (.inl rfl) ?_
     simp
     refine ab (fun h6=>?_) (fun h6=>?_) <;> simp at h6
     ·have hp : ¬ 0 <= pFa ls V[k]:=by rw [pf];omega
      obtain ⟨e1,e2⟩:=bad 23 (by decide) (bad23 (by simp [eA,hp]))
      rw [e1,e2]
      simp [h6]
     have n6 : ¬ ls[V[k]].up < ls[V[k]].down:=by omega
     have hp : 0 <= pFa ls V[k]:=by rw [pf];omega
     simp [n6,wf]
     by_cases h7 : 4194304 < pFa ls V[k]
     ·have hp2 : ¬ pFa ls V[k] <= 4194304:=by omega
      obtain ⟨e1,e2⟩:=bad 23 (by decide) (bad23 (by simp [eA,hp2]))
      rw [e1,e2]
      simp [h7]
     have hp2 : pFa ls V[k] <= 4194304:=by omega
     by_cases h8 : 4194304 < pRm ns es ls cover V[k]
     ·obtain ⟨e1,e2⟩:=bad 23 (by decide) (bad23 (by simp [eA,h8]))
      rw [e1,e2]
      simp [h7,h8]
     have hnb : eA ns es ls cover V[k]=false:=by simp [eA,hp,hp2,h8]
     have c1:=dQ (f:=lnF ls) hk
     have c2:=dQ (f:=qvF q) hk
     have c3:=dQ (f:=pFa ls) hk
     have c4:=dQ (f:=pRm ns es ls cover) hk
     have s1:=dE (f:=lnF ls) h
     have s2:=dE (f:=qvF q) h
     have s3:=dE (f:=pFa ls) h
     have s4:=dE (f:=pRm ns es ls cover) h
     have t1:=dF (f:=lnF ls) hk
     have t2:=dF (f:=qvF q) hk
     have t3:=dF (f:=pFa ls) hk
     have t4:=dF (f:=pRm ns es ls cover) hk
     have hqi : V[k] < q.length:=by omega
     have hqv : q[V[k]]=qvF q V[k]:=by unfold qvF;rw [getElem!_pos q _ hqi]
     have hlv : ls[V[k]].len=lnF ls V[k]:=by unfold lnF;rw [getElem!_pos ls _ hi]
     have hb8 : (k + 1) * 8 <= 140737488355328:=by omega
     have cc : ∀ (f : Nat -> Int) (x : Int),∀ e,e ∈ fH f V k \/ e=[D.int .i64 x] -> ∀ c ∈ e,aq c=true:=by
      rintro f x e (he | rfl)
      ·exact pp _ _ _ e he
      ·simp [aq]
     simp [h7,h8,n6,wf,bf (cA h),hqi,c1,c2,c3,c4,t1,t2,t3,t4,hb8]
     refine ⟨cc _ _,cc _ _,ar (by decide +kernel),cc _ _,cc _ _,ar (by decide +kernel),?_⟩
     refine ⟨k + 1,⟨by omega,fun j hj hjk=>by rcases Nat.lt_succ_iff_lt_or_eq.1 hjk with h8 | rfl;exact hok j hj h8;exact hnb⟩,by omega,hw,?_⟩
     rw [s1,s2,s3,s4,hqv,hlv]
     exact ⟨rfl,rfl,rfl,rfl⟩
    ·have ek : k=V.length:=by omega
     subst ek
     have hnb : V.any (eA ns es ls cover)=false:=by
      rw [List.any_eq_false]
      intro x hx
      obtain ⟨j,hj,rfl⟩:=List.getElem_of_mem hx
      simpa using hok j hj hj
     have hE1 : E=0:=by rw [hE,if_neg (by rw [hnb];decide)]
     rw [eJ hE1,hE1]
     simp [h,pn,aC]
     unfold rF co slI
     simp only [cE]
     rw [eB]
     rfl
   ·have hE1 : E=2:=by rw [hE,if_pos (by rw [Bool.or_eq_true];left;rw [Bool.not_eq_true',Bool.and_eq_false_iff];simp only [decide_eq_false_iff_not];omega)]
    obtain ⟨e1,e2⟩:=bad 2 (by decide) hE1
    rw [e1,e2]
    by_cases h6 : cover < 0
    ·simp [h6]
    ·have h7 : 4194304 < cover:=by omega
     simp [h6,h7]
  ·have hE1 : E=3:=by rw [hE,if_pos (by simp [h3])]
   obtain ⟨e1,e2⟩:=bad 3 (by decide) hE1
   rw [e1,e2]
   have h3' : ¬ (q.length : Int)=(ls.length : Int):=by omega
   simp [h3']
 ·have hE1 : E=ppE ls ns.length (aw ns ls):=by rw [hE,if_pos (by simp [h2])]
  obtain ⟨e1,e2⟩:=bad _ h2 hE1
  rw [e1,<- e2]
  rw [<- e2] at h2
  simp [h2,nlO]
end Go.Gv

set_option maxRecDepth 4000
namespace Go.Gv
def rwT {α : Type} (f : α -> List D) (l : List α) (k : Nat) : List (List D):=(l.take k).map f
theorem qp {α : Type} (f : α -> List D) (l : List α) : rwT f l 0=[]:=by simp [rwT]
theorem qo {α : Type} (f : α -> List D) {l : List α} {k : Nat} (h : k < l.length) : rwT f l (k + 1)=rwT f l k++[f l[k]]:=by
 unfold rwT
 rw [List.take_succ_eq_append_getElem h,List.map_append];rfl
theorem sS {α : Type} (f : α -> List D) {l : List α} {k : Nat} (h : k <= l.length) : (rwT f l k).length=k:=by simp [rwT];omega
theorem sQ {α : Type} (f : α -> List D) (l : List α) : rwT f l l.length=l.map f:=by unfold rwT;rw [List.take_length]
theorem sR {α : Type} {f : α -> List D} (hf : ∀ x,∀ c ∈ f x,aq c=true) (l : List α) (k : Nat) : ∀ e ∈ rwT f l k,∀ c ∈ e,aq c=true:=by
 intro e he
 simp only [rwT,List.mem_map] at he
 obtain ⟨x,_,rfl⟩:=he
 exact hf x
def cpN (x : Nod) : Nod:=uC x x.shape.isEmpty
def cpL (x : Lnk) : Lnk:=tE x x.curve.isEmpty
def kH (x : Nod) : List D:=aL (cpN x)
def ml (x : Lnk) : List D:=aD (cpL x)
theorem jR (x : Nod) : ∀ c ∈ kH x,aq c=true:=by
 have h1:=cg (cpN x).shapeN ((cpN x).shape.map knD)
 intro c hc
 simp only [kH,aL,List.mem_cons,List.not_mem_nil,or_false] at hc
 rcases hc with rfl | rfl | rfl | rfl | rfl | rfl | rfl | rfl | rfl
 all_goals first | rfl | exact h1
theorem jQ (x : Lnk) : ∀ c ∈ ml x,aq c=true:=by
 have h1:=cg (cpL x).curveN ((cpL x).curve.map knD)
 intro c hc
 simp only [ml,aD,List.mem_cons,List.not_mem_nil,or_false] at hc
 rcases hc with rfl | rfl | rfl | rfl | rfl | rfl | rfl | rfl | rfl | rfl | rfl
 all_goals first | rfl | exact h1
variable {C : CC} (hC : am prog C)
include hC
set_option maxHeartbeats 1000000 in
theorem Bt (b1 b2 : Bool) (ns : List Nod) (ls : List Lnk) (hn : ns.length <= 300) (hl : ls.length <= 400) (hs : ∀ x ∈ ns,x.shape.length < 2 ^ 40) (hc : ∀ x ∈ ls,x.curve.length < 2 ^ 40) :
  C 616 [.agg [slx b1 (ns.map aL),slx b2 (ls.map aD)]] (.agg [.own 9 (ns.map kH),.own 11 (ls.map ml)]) [.nils]:=by
 refine xf hC (nf:=N616) rfl rfl rfl ?_
 simp [N616]
 refine aj Nat (fun i=>[(1,.ptr [slx b1 (ns.map aL),slx b2 (ls.map aD)]),(2,.adr (.r 10032) 0 0),(3,.adr (.r 10048) 0 0),(4,.int .i64 i),(10032,.blk 2 [[.own 9 [],.own 11 []]]),(10048,.blk 2 [[.own 9 (rwT kH ns i),.own 11 []]])]) (fun i=>i <= ns.length) (fun i=>ns.length - i) 0 (by simp) (by simp [qp]) ?_
 intro i hi
 simp
 refine ab (fun h=>?_) (fun h=>?_) <;> simp at h
 ·have hw : IntKind.wrap .i64 ((i : Int) + 1)=((i + 1 : Nat) : Int):=af (by omega) (by omega)
  have ht:=qo kH h
  have hlen:=sS kH hi
  have hcc:=sR jR ns i
  have htk : List.take i (rwT kH ns i)=rwT kH ns i:=List.take_of_length_le (by omega)
  have hb2 : (i + 1) * 96 <= 140737488355328:=by omega
  have hsl:=hs _ (List.getElem_mem h)
  have hrow : kH ns[i]=[.str ns[i].name,.int .i64 ns[i].kind,.int .i64 ns[i].x,.int .i64 ns[i].y,.int .i64 ns[i].invert,.int .i64 ns[i].ground,slx ns[i].shape.isEmpty (ns[i].shape.map knD),.bool ns[i].prot,.int .i64 ns[i].reserve]:=rfl
  have hki:=jR ns[i]
  simp [h,aL,cg]
  refine ⟨fun e x y hx he=>by subst he;simp [knD,aq],by omega,fun e x y hx he=>by subst he;simp [knD,aq],?_⟩
  refine ab (fun h2=>?_) (fun h2=>?_) <;> simp at h2
  ·have h3 : ns[i].shape.isEmpty=true:=by simp [h2]
   rw [h3,h2] at hrow
   simp [slx] at hrow
   rw [hrow] at ht
   simp [h2,hlen,hb2,htk]
   refine ⟨fun e he=>by rcases he with he | rfl;exact hcc e he;simp [aq],i + 1,by omega,by omega,hw,?_⟩
   rw [ht]
  ·have h3 : ns[i].shape.isEmpty=false:=by simp [h2]
   rw [h3] at hrow
   simp at hrow
   rw [hrow] at ht
   simp [h2,hlen,hb2,htk]
   refine ⟨fun e he=>by rcases he with he | rfl;exact hcc e he;simp [aq],i + 1,by omega,by omega,hw,?_⟩
   rw [ht]
 have ei : i=ns.length:=by omega
 subst ei
 simp [h,sQ]
 refine aj Nat (fun i=>[(1,.ptr [slx b1 (ns.map aL),slx b2 (ls.map aD)]),(2,.adr (.r 10032) 0 0),(3,.adr (.r 10048) 0 0),(6,.int .i64 i),(10032,.blk 2 [[.own 9 [],.own 11 []]]),(10048,.blk 2 [[.own 9 (ns.map kH),.own 11 (rwT ml ls i)]])]) (fun i=>i <= ls.length) (fun i=>ls.length - i) 0 (by simp) (by simp [qp]) ?_
 intro i hi
 simp
 refine ab (fun h=>?_) (fun h=>?_) <;> simp at h
 ·have hw : IntKind.wrap .i64 ((i : Int) + 1)=((i + 1 : Nat) : Int):=af (by omega) (by omega)
  have ht:=qo ml h
  have hlen:=sS ml hi
  have hcc:=sR jQ ls i
  have htk : List.take i (rwT ml ls i)=rwT ml ls i:=List.take_of_length_le (by omega)
  have hb2 : (i + 1) * 136 <= 140737488355328:=by omega
  have hsl:=hc _ (List.getElem_mem h)
  have hrow : ml ls[i]=[.str ls[i].name,.str ls[i].src,.str ls[i].dst,.int .i64 ls[i].kind,.int .i64 ls[i].len,.int .i64 ls[i].up,.int .i64 ls[i].down,.str ls[i].sect,.int .i64 ls[i].width,.int .i64 ls[i].height,slx ls[i].curve.isEmpty (ls[i].curve.map knD)]:=rfl
  have hki:=jQ ls[i]
  simp [h,aD,cg]
  refine ⟨fun e x y hx he=>by subst he;simp [knD,aq],by omega,fun e x y hx he=>by subst he;simp [knD,aq],?_⟩
  refine ab (fun h2=>?_) (fun h2=>?_) <;> simp at h2
  ·have h3 : ls[i].curve.isEmpty=true:=by simp [h2]
   rw [h3,h2] at hrow
   simp [slx] at hrow
   rw [hrow] at ht
   simp [h2,hlen,hb2,htk]
   refine ⟨fun e he=>by rcases he with he | rfl;exact hcc e he;simp [aq],i + 1,by omega,by omega,hw,?_⟩
   rw [ht]
  ·have h3 : ls[i].curve.isEmpty=false:=by simp [h2]
   rw [h3] at hrow
   simp at hrow
   rw [hrow] at ht
   simp [h2,hlen,hb2,htk]
   refine ⟨fun e he=>by rcases he with he | rfl;exact hcc e he;simp [aq],i + 1,by omega,by omega,hw,?_⟩
   rw [ht]
 have ei : i=ls.length:=by omega
 subst ei
 simp [h,sQ]
 exact ⟨fun a _=>jR a,fun a _=>jQ a⟩
end Go.Gv

set_option maxRecDepth 4000
namespace Go.Gv
def oq (l : Lnk) (nm : List UInt8) : Lnk:={ l with sect:=nm }
def dN (ls : List Lnk) (ss : List Sec) (V : List Nat) (ch : List Int) : Nat -> List Lnk
 | 0=>ls
 | k + 1=>(dN ls ss V ch k).set (V[k]!) (oq ((dN ls ss V ch k)[V[k]!]!) ss[(ch[k]!).toNat]!.name)
theorem gG (ls : List Lnk) (ss : List Sec) (V : List Nat) (ch : List Int) : ∀ k,(dN ls ss V ch k).length=ls.length
 | 0=>rfl
 | k + 1=>by unfold dN;rw [List.length_set,gG ls ss V ch k]
def fO (ls : List Lnk) (ss : List Sec) (V : List Nat) (ch : List Int) (k : Nat) : List (List D):=(dN ls ss V ch k).map aD
theorem qa (ls : List Lnk) (ss : List Sec) (V : List Nat) (ch : List Int) (k : Nat) : (fO ls ss V ch k).length=ls.length:=by unfold fO;rw [List.length_map,gG]
theorem p9 {ls : List Lnk} (ss : List Sec) (V : List Nat) (ch : List Int) (k : Nat) {i : Nat} (h : i < ls.length) : (fO ls ss V ch k)[i]? = some (aD ((dN ls ss V ch k)[i]!)):=by
 have h' : i < (dN ls ss V ch k).length:=by rw [gG];exact h
 unfold fO
 rw [List.getElem?_map,List.getElem?_eq_getElem h',getElem!_pos _ i h'];rfl
theorem Ad (l : Lnk) (nm : List UInt8) : aD (oq l nm)=(aD l).take 7++[.str nm]++(aD l).drop 8:=by
 simp [oq,aD]
theorem qb {ls : List Lnk} {ss : List Sec} {V : List Nat} {ch : List Int} {k : Nat} (hk : k < V.length) (hc : k < ch.length) (hs : (ch[k]).toNat < ss.length) : (fO ls ss V ch k).set V[k] ((aD ((dN ls ss V ch k)[V[k]]!)).take 7++[.str ss[(ch[k]).toNat].name]++(aD ((dN ls ss V ch k)[V[k]]!)).drop 8)=fO ls ss V ch (k + 1):=by
 unfold fO
 rw [show dN ls ss V ch (k + 1)=(dN ls ss V ch k).set (V[k]!) (oq ((dN ls ss V ch k)[V[k]!]!) ss[(ch[k]!).toNat]!.name) from rfl]
 rw [List.map_set,Ad,getElem!_pos V k hk,getElem!_pos ch k hc,getElem!_pos ss _ hs]
def iv (ns : List Nod) (ls : List Lnk) (ss : List Sec) (j : Job) (ch : List Int) : Int :=
 if !(bG ns ls && aJ ss && ao j) then 1 else if ppE ls ns.length (aw ns ls) ≠ 0 then ppE ls ns.length (aw ns ls)
 else if !(decide (ppB ns.length (aw ns ls)=j.below.l) && cO ss j.secs) then 25 else bN j ch
def j6 (ns : List Nod) (ls : List Lnk) (ss : List Sec) (j : Job) (ch : List Int) : D :=
 if iv ns ls ss j ch=0 then .agg [.sl (ns.map aL),.sl (fO ls ss (ppL ns.length (aw ns ls)) ch (ppL ns.length (aw ns ls)).length)] else .agg [.nils,.nils]
variable {C : CC} (hC : am prog C)
include hC
set_option maxHeartbeats 2000000 in
theorem GS (hS : SlC C) (hL : o8 C) (hP : xJ C) (b1 b2 b3 b4 : Bool) (ns : List Nod) (ls : List Lnk) (ss : List Sec) (j : Job) (ch : List Int) (hcv : ∀ l ∈ ls,l.curve.length < 2 ^ 40) (hsh : ∀ n ∈ ns,n.shape.length < 2 ^ 40) (h1 : ∀ s ∈ ss,s.area.length < 2 ^ 62 /\ s.conv.length < 2 ^ 62) (h2 : ∀ s ∈ j.secs,s.area.length < 2 ^ 62 /\ s.conv.length < 2 ^ 62) (hch : ch.length < 2 ^ 62) :
  C 566 [.agg [slx b1 (ns.map aL),slx b2 (ls.map aD)],slx b3 (ss.map aW),.agg (co j),slx b4 (ch.map fun x=>[.int .i64 x])] (.tup [j6 ns ls ss j ch,.int .i64 (iv ns ls ss j ch)]) []:=by
 have k1:=lY hC b1 b2 ns ls (fun l h=>by have:=hcv l h;omega)
 have k2:=jt hC b3 ss
 have k3:=lR hC j
 obtain ⟨E,hE⟩ : ∃ E,E=iv ns ls ss j ch:=⟨_,rfl⟩
 obtain ⟨X,hX⟩ : ∃ X,X=j6 ns ls ss j ch:=⟨_,rfl⟩
 rw [<- hE,<- hX]
 have bad : ∀ x : Int,x ≠ 0 -> E=x -> X=.agg [.nils,.nils] /\ E=x:=fun x hx h=>by
  refine ⟨?_,h⟩
  rw [hX];unfold j6;rw [if_neg (by rw [<- hE,h];exact hx)]
 refine al hC (nf:=N566) rfl rfl ?_
 simp [N566,az]
 simp [az] at k3
 refine aa k1 (.inl rfl) ?_
 by_cases hv : bG ns ls=true
 ·rw [hv]
  simp
  refine aa k2 (.inl rfl) ?_
  by_cases hc : aJ ss=true
  ·rw [hc]
   simp
   refine aa k3 (.inl rfl) ?_
   by_cases hj : ao j=true
   ·rw [hj]
    simp
    have hu : iv ns ls ss j ch=if ppE ls ns.length (aw ns ls) ≠ 0 then ppE ls ns.length (aw ns ls) else if !(decide (ppB ns.length (aw ns ls)=j.below.l) && cO ss j.secs) then 25 else bN j ch:=by
     unfold iv;rw [if_neg (by simp [hv,hc,hj])]
    have hE0:=hE
    rw [hu] at hE
    clear hu
    have k4:=p8 hC hS b1 b2 ns ls (fun l h=>by have:=hcv l h;omega) hv
    obtain ⟨hnl,hll⟩:=cp hv
    have hel:=a8 ns ls
    have hjb : j.below.l.length <= 400:=by simp only [ao,Bool.and_eq_true,decide_eq_true_eq] at hj;omega
    have hjs : j.secs.length <= 40:=by simp only [ao,aJ,Bool.and_eq_true,decide_eq_true_eq] at hj;omega
    have hss : ss.length <= 40:=by simp only [aJ,Bool.and_eq_true,decide_eq_true_eq] at hc;omega
    refine aa k4 (.inr rfl) ?_
    by_cases h3 : ppE ls ns.length (aw ns ls)=0
    ·have eV : ppV ls ns.length (aw ns ls)=ppL ns.length (aw ns ls):=by unfold ppV;rw [if_pos h3]
     have eW : ppW ls ns.length (aw ns ls)=ppB ns.length (aw ns ls):=by unfold ppW;rw [if_pos h3]
     rw [if_neg (by simp [h3])] at hE
     have hBl : (ppB ns.length (aw ns ls)).length=(ppL ns.length (aw ns ls)).length:=by unfold ppB;rw [List.length_map]
     have hVl : (ppL ns.length (aw ns ls)).length <= 300:=Nat.le_trans (fu _ _) (Nat.le_trans (fM _ _) hnl)
     have hVlt : ∀ l ∈ ppL ns.length (aw ns ls),l < ls.length:=fun l hl=>by rw [<- hel];exact kZ hl
     have eX : E=0 -> X=.agg [.sl (ns.map aL),.sl (fO ls ss (ppL ns.length (aw ns ls)) ch (ppL ns.length (aw ns ls)).length)]:=fun h=>by
      rw [hX];unfold j6;rw [if_pos (by rw [<- hE0];exact h)]
     rw [h3,eV,eW]
     clear hE0 hX k4
     have k5:=mm hC false j.below.n (ppB ns.length (aw ns ls)) j.below.l (by omega) (by omega)
     have k6:=vD hC b3 j.secN ss j.secs (by omega) (by omega) h1 h2
     have k7:=vg hC j b4 ch hch
     generalize ppL ns.length (aw ns ls)=V at *
     generalize ppB ns.length (aw ns ls)=B at *
     rw [cE] at k5
     simp [aC]
     by_cases h4 : V.length=j.below.l.length
     ·simp [h4]
      refine aa k5 (.inl rfl) ?_
      by_cases h5 : B=j.below.l
      ·simp [h5]
       refine aa k6 (.inl rfl) ?_
       by_cases h6 : cO ss j.secs=true
       ·rw [if_neg (by simp [h5,h6])] at hE
        simp [h6]
        simp [az] at k7
        refine aa k7 (.inl rfl) ?_
        rw [<- hE]
        by_cases h7 : E=0
        ·rw [eX h7,h7]
         simp
         have hch0 : bN j ch=0:=by rw [<- hE,h7]
         have hsl : ss.length=j.secs.length:=by
          apply Classical.byContradiction
          intro h8
          rw [fR h8] at h6
          cases h6
         have hchl : ch.length=V.length:=by
          unfold bN at hch0
          rw [if_neg (by rw [hj];decide)] at hch0
          split at hch0
          ·cases hch0
          ·omega
         have hrange : ∀ k (h : k < ch.length),0 <= ch[k] /\ (ch[k]).toNat < ss.length:=by
          intro k hk
          unfold bN at hch0
          rw [if_neg (by rw [hj];decide),if_neg (by omega)] at hch0
          split at hch0
          ·cases hch0
          ·rename_i h8
           rw [Bool.not_eq_true,List.any_eq_false] at h8
           have h9:=h8 _ (List.getElem_mem hk)
           simp [jl] at h9
           omega
         rcases Nat.eq_zero_or_pos ls.length with hl0 | hl0
         ·have hl00 : ls=[]:=List.eq_nil_of_length_eq_zero hl0
          have hV0 : V=[]:=by
           cases V with
           | nil=>rfl
           | cons v V=>have:=hVlt v (by simp);omega
          subst hl00
          obtain ⟨d,hd,hcl⟩:=tx hC hP b2
          refine tq hcl ?_
          rcases hd with rfl | rfl
          ·simp
           refine ki (ds:=[.nils,.nils]) (b:=10224) (i:=0) (off:=0) (sz:=2) (es:=[[.own 9 [],.own 11 []]]) (r:=[.own 9 [],.own 11 []]) (by simp) (by simp [aq]) rfl rfl (by simp) (by simp) rfl (by simp) ?_
           simp [dh,dY]
           refine aj Nat (fun i=>[(1,slx b3 (ss.map aW)),(3,slx b4 (ch.map fun n=>[.int .i64 n])),(8,.adr (.r 10128) 0 0),(10,.sl (aG V)),(14,.adr (.r 10224) 0 0),(76,slx b1 (ns.map aL)),(77,.int .i64 ns.length),(78,.int .i64 i),(10128,.blk 2 [[.own 9 [],.own 11 []]]),(10224,.blk 2 [[.own 9 (nT ns i),.own 11 []]])]) (fun i=>i <= ns.length) (fun i=>ns.length - i) 0 (by simp) (by simp [oS]) ?_
           intro i hi
           simp
           refine ab (fun h=>?_) (fun h=>?_) <;> simp at h
           ·have hw : IntKind.wrap .i64 ((i : Int) + 1)=((i + 1 : Nat) : Int):=af (by omega) (by omega)
            have ht:=oR h
            have hlen:=ro hi
            have hk:=jO hC hL ns[i].shapeN ns[i].shape (hsh _ (List.getElem_mem h))
            have hcc:=rn ns i
            have htk : List.take i (nT ns i)=nT ns i:=List.take_of_length_le (by omega)
            have hb2 : (i + 1) * 96 <= 140737488355328:=by omega
            rcases m5 ns[i].shapeN (ns[i].shape.map knD) with e | e
            all_goals
             rw [e] at hk
             simp [h,aL,e]
             refine aa hk (.inr rfl) ?_
             simp [aL,e] at ht
             simp [hlen,hb2,htk]
             refine ⟨fun e he=>by rcases he with he | rfl;exact (hcc e he).2;simp [aq],i + 1,by omega,by omega,hw,?_⟩
             rw [ht]
           ·have ei : i=ns.length:=by omega
            subst ei
            simp [h,rl,aC]
            subst hV0
            simp
            refine aj Nat (fun i=>[(1,slx b3 (ss.map aW)),(3,slx b4 (ch.map fun n=>[.int .i64 n])),(8,.adr (.r 10128) 0 0),(14,.adr (.r 10224) 0 0),(93,.sl (aG [])),(94,.int .i64 0),(95,.int .i64 i),(10128,.blk 2 [[.own 9 [],.own 11 []]]),(10224,.blk 2 [[.own 9 (ns.map aL),.own 11 []]])]) (fun i=>i=0) (fun i=>0) 0 rfl (by simp [aG]) ?_
            rintro i rfl
            simp [fO,dN]
          ·simp
           refine ki (ds:=[.nils,.sl []]) (b:=10224) (i:=0) (off:=0) (sz:=2) (es:=[[.own 9 [],.own 11 []]]) (r:=[.own 9 [],.own 11 []]) (by simp) (by simp [aq]) rfl rfl (by simp) (by simp) rfl (by simp) ?_
           simp [dh,dY]
           refine aj Nat (fun i=>[(1,slx b3 (ss.map aW)),(3,slx b4 (ch.map fun n=>[.int .i64 n])),(8,.adr (.r 10128) 0 0),(10,.sl (aG V)),(14,.adr (.r 10224) 0 0),(76,slx b1 (ns.map aL)),(77,.int .i64 ns.length),(78,.int .i64 i),(10128,.blk 2 [[.own 9 [],.own 11 []]]),(10224,.blk 2 [[.own 9 (nT ns i),.sl []]])]) (fun i=>i <= ns.length) (fun i=>ns.length - i) 0 (by simp) (by simp [oS]) ?_
           intro i hi
           simp
           refine ab (fun h=>?_) (fun h=>?_) <;> simp at h
           ·have hw : IntKind.wrap .i64 ((i : Int) + 1)=((i + 1 : Nat) : Int):=af (by omega) (by omega)
            have ht:=oR h
            have hlen:=ro hi
            have hk:=jO hC hL ns[i].shapeN ns[i].shape (hsh _ (List.getElem_mem h))
            have hcc:=rn ns i
            have htk : List.take i (nT ns i)=nT ns i:=List.take_of_length_le (by omega)
            have hb2 : (i + 1) * 96 <= 140737488355328:=by omega
            rcases m5 ns[i].shapeN (ns[i].shape.map knD) with e | e
            all_goals
             rw [e] at hk
             simp [h,aL,e]
             refine aa hk (.inr rfl) ?_
             simp [aL,e] at ht
             simp [hlen,hb2,htk]
             refine ⟨fun e he=>by rcases he with he | rfl;exact (hcc e he).2;simp [aq],i + 1,by omega,by omega,hw,?_⟩
             rw [ht]
           ·have ei : i=ns.length:=by omega
            subst ei
            simp [h,rl,aC]
            subst hV0
            simp
            refine aj Nat (fun i=>[(1,slx b3 (ss.map aW)),(3,slx b4 (ch.map fun n=>[.int .i64 n])),(8,.adr (.r 10128) 0 0),(14,.adr (.r 10224) 0 0),(93,.sl (aG [])),(94,.int .i64 0),(95,.int .i64 i),(10128,.blk 2 [[.own 9 [],.own 11 []]]),(10224,.blk 2 [[.own 9 (ns.map aL),.sl []]])]) (fun i=>i=0) (fun i=>0) 0 rfl (by simp [aG]) ?_
            rintro i rfl
            simp [fO,dN]
         ·refine nx (vh hC ls hl0 hll b2) rfl ?_
          simp
          refine xe (ds:=[.nils,.ref (.r 11169) 0 ls.length]) (cs:=[.nils,.own 11 (ls.map aD)]) (bs:=[11169]) (b:=10224) (i:=0) (off:=0) (sz:=2) (es:=[[.own 9 [],.own 11 []]]) (r:=[.own 9 [],.own 11 []]) (by simp) rfl ?_ (by simp) (by simp) rfl (by simp) (by simp) rfl (by simp) ?_
          ·intro Q hQ
           simp [jj,dC,aq]
           exact ⟨fun a ha=>wa ls _ (List.mem_map_of_mem ha),hQ⟩
          simp [dh,dY]
          refine aj Nat (fun i=>[(1,slx b3 (ss.map aW)),(3,slx b4 (ch.map fun n=>[.int .i64 n])),(8,.adr (.r 10128) 0 0),(10,.sl (aG V)),(14,.adr (.r 10224) 0 0),(76,slx b1 (ns.map aL)),(77,.int .i64 ns.length),(78,.int .i64 i),(10128,.blk 2 [[.own 9 [],.own 11 []]]),(10224,.blk 2 [[.own 9 (nT ns i),.own 11 (ls.map aD)]])]) (fun i=>i <= ns.length) (fun i=>ns.length - i) 0 (by simp) (by simp [oS]) ?_
          intro i hi
          simp
          refine ab (fun h=>?_) (fun h=>?_) <;> simp at h
          ·have hw : IntKind.wrap .i64 ((i : Int) + 1)=((i + 1 : Nat) : Int):=af (by omega) (by omega)
           have ht:=oR h
           have hlen:=ro hi
           have hk:=jO hC hL ns[i].shapeN ns[i].shape (hsh _ (List.getElem_mem h))
           have hcc:=rn ns i
           have htk : List.take i (nT ns i)=nT ns i:=List.take_of_length_le (by omega)
           have hb2 : (i + 1) * 96 <= 140737488355328:=by omega
           rcases m5 ns[i].shapeN (ns[i].shape.map knD) with e | e
           all_goals
            rw [e] at hk
            simp [h,aL,e]
            refine aa hk (.inr rfl) ?_
            simp [aL,e] at ht
            simp [hlen,hb2,htk]
            refine ⟨fun e he=>by rcases he with he | rfl;exact (hcc e he).2;simp [aq],i + 1,by omega,by omega,hw,?_⟩
            rw [ht]
          ·have ei : i=ns.length:=by omega
           subst ei
           simp [h,rl,aC]
           refine aj Nat (fun k=>[(1,slx b3 (ss.map aW)),(3,slx b4 (ch.map fun n=>[.int .i64 n])),(8,.adr (.r 10128) 0 0),(14,.adr (.r 10224) 0 0),(93,.sl (aG V)),(94,.int .i64 V.length),(95,.int .i64 k),(10128,.blk 2 [[.own 9 [],.own 11 []]]),(10224,.blk 2 [[.own 9 (ns.map aL),.own 11 (fO ls ss V ch k)]])]) (fun k=>k <= V.length) (fun k=>V.length - k) 0 (by simp) (by simp [fO,dN]) ?_
           intro k hk
           simp
           refine ab (fun h=>?_) (fun h=>?_) <;> simp at h
           ·have hw : IntKind.wrap .i64 ((k : Int) + 1)=((k + 1 : Nat) : Int):=af (by omega) (by omega)
            have hi:=hVlt _ (List.getElem_mem h)
            have hkc : k < ch.length:=by omega
            obtain ⟨hs0,hs1⟩:=hrange k hkc
            have hget:=p9 (ls:=ls) ss V ch k hi
            have hpl:=qa ls ss V ch k
            have hset:=qb (ls:=ls) h hkc hs1
            have hrow : (fO ls ss V ch k)[V[k]]'(by rw [hpl];exact hi)=aD ((dN ls ss V ch k)[V[k]]!):=by
             have h' : V[k] < (dN ls ss V ch k).length:=by rw [gG];exact hi
             simp only [fO,List.getElem_map]
             rw [getElem!_pos (dN ls ss V ch k) V[k] h']
            simp [h,bf (cA h),hkc,hs0,hs1,aW,hpl,hi]
            refine ⟨by rw [hrow];simp [aD],ar (by decide +kernel),k + 1,by omega,by omega,hw,?_⟩
            rw [hrow,<- hset]
            simp
           ·have ek : k=V.length:=by omega
            subst ek
            simp [h]
        ·obtain ⟨e1,e2⟩:=bad E h7 rfl
         rw [e1]
         simp [h7]
       ·obtain ⟨e1,e2⟩:=bad 25 (by decide) (by rw [hE,if_pos (by simp [h6])])
        rw [e1,e2]
        simp [h6]
      ·obtain ⟨e1,e2⟩:=bad 25 (by decide) (by rw [hE,if_pos (by simp [h5])])
       rw [e1,e2]
       simp [h5]
     ·have h5 : ¬ B=j.below.l:=fun h=>h4 (by rw [<- hBl,h])
      obtain ⟨e1,e2⟩:=bad 25 (by decide) (by rw [hE,if_pos (by simp [h5])])
      have h4' : ¬ (V.length : Int)=(j.below.l.length : Int):=by omega
      rw [e1,e2]
      simp [h4']
    ·obtain ⟨e1,e2⟩:=bad _ h3 (by rw [hE,if_pos h3])
     rw [e1,<- e2]
     rw [<- e2] at h3
     simp [h3]
   ·obtain ⟨e1,e2⟩:=bad 1 (by decide) (by rw [hE];unfold iv;rw [if_pos (by simp [hj])])
    rw [e1,e2]
    simp [hj]
  ·obtain ⟨e1,e2⟩:=bad 1 (by decide) (by rw [hE];unfold iv;rw [if_pos (by simp [hc])])
   rw [e1,e2]
   simp [hc]
 ·obtain ⟨e1,e2⟩:=bad 1 (by decide) (by rw [hE];unfold iv;rw [if_pos (by simp [hv])])
  rw [e1,e2]
  simp [hv]
end Go.Gv

set_option maxRecDepth 4000
namespace Go.Gv
theorem xn (l : Lnk) (nm : List UInt8) : oq (cpL l) nm=cpL (oq l nm):=rfl
theorem sK (ls : List Lnk) (ss : List Sec) (V : List Nat) (ch : List Int) : ∀ k,dN (ls.map cpL) ss V ch k=(dN ls ss V ch k).map cpL
 | 0=>rfl
 | k + 1=>by
  unfold dN
  rw [sK ls ss V ch k]
  generalize dN ls ss V ch k=T
  generalize V[k]! = v
  by_cases h : v < T.length
  ·rw [getElem!_pos (T.map cpL) v (by simpa using h),getElem!_pos T v h,List.map_set,List.getElem_map,xn]
  ·rw [List.set_eq_of_length_le (by simpa using h),List.set_eq_of_length_le (by simpa using h)]
def jm (ns : List Nod) (ls : List Lnk) (ss : List Sec) (j : Job) (ch : List Int) : D :=
 if iv ns ls ss j ch=0 then .agg [.sl (ns.map kH),.sl (fO (ls.map cpL) ss (ppL ns.length (aw ns ls)) ch (ppL ns.length (aw ns ls)).length)] else .agg [.nils,.nils]
variable {C : CC} (hC : am prog C)
include hC
set_option maxHeartbeats 2000000 in
theorem Dm (b1 b2 b3 b4 : Bool) (ns : List Nod) (ls : List Lnk) (ss : List Sec) (j : Job) (ch : List Int) (hv : bG ns ls=true) (hc : aJ ss=true) (hj : ao j=true) (hcv : ∀ l ∈ ls,l.curve.length < 2 ^ 40) (hsh : ∀ n ∈ ns,n.shape.length < 2 ^ 40) (h1 : ∀ s ∈ ss,s.area.length < 2 ^ 62 /\ s.conv.length < 2 ^ 62) (h2 : ∀ s ∈ j.secs,s.area.length < 2 ^ 62 /\ s.conv.length < 2 ^ 62) (hch : ch.length < 2 ^ 62) :
  C 571 [.agg [slx b1 (ns.map aL),slx b2 (ls.map aD)],slx b3 (ss.map aW),.agg (co j),slx b4 (ch.map fun x=>[.int .i64 x])] (.tup [jm ns ls ss j ch,.int .i64 (iv ns ls ss j ch)]) []:=by
 obtain ⟨E,hE⟩ : ∃ E,E=iv ns ls ss j ch:=⟨_,rfl⟩
 obtain ⟨X,hX⟩ : ∃ X,X=jm ns ls ss j ch:=⟨_,rfl⟩
 rw [<- hE,<- hX]
 have bad : ∀ x : Int,x ≠ 0 -> E=x -> X=.agg [.nils,.nils] /\ E=x:=fun x hx h=>by
  refine ⟨?_,h⟩
  rw [hX];unfold jm;rw [if_neg (by rw [<- hE,h];exact hx)]
 have hu : iv ns ls ss j ch=if ppE ls ns.length (aw ns ls) ≠ 0 then ppE ls ns.length (aw ns ls) else if !(decide (ppB ns.length (aw ns ls)=j.below.l) && cO ss j.secs) then 25 else bN j ch:=by
  unfold iv;rw [if_neg (by simp [hv,hc,hj])]
 have hE0:=hE
 rw [hu] at hE
 clear hu
 have k4:=wz hC b1 b2 ns ls hv
 obtain ⟨hnl,hll⟩:=cp hv
 have hel:=a8 ns ls
 have hjb : j.below.l.length <= 400:=by simp only [ao,Bool.and_eq_true,decide_eq_true_eq] at hj;omega
 have hjs : j.secs.length <= 40:=by simp only [ao,aJ,Bool.and_eq_true,decide_eq_true_eq] at hj;omega
 have hss : ss.length <= 40:=by simp only [aJ,Bool.and_eq_true,decide_eq_true_eq] at hc;omega
 refine al hC (nf:=N571) rfl rfl ?_
 simp [N571,az]
 refine aa k4 (.inr rfl) ?_
 by_cases h3 : ppE ls ns.length (aw ns ls)=0
 ·rw [if_neg (by simp [h3])] at hE
  have hBl : (ppB ns.length (aw ns ls)).length=(ppL ns.length (aw ns ls)).length:=by unfold ppB;rw [List.length_map]
  have hVl : (ppL ns.length (aw ns ls)).length <= 300:=Nat.le_trans (fu _ _) (Nat.le_trans (fM _ _) hnl)
  have hVlt : ∀ l ∈ ppL ns.length (aw ns ls),l < ls.length:=fun l hl=>by rw [<- hel];exact kZ hl
  have eX : E=0 -> X=.agg [.sl (ns.map kH),.sl (fO (ls.map cpL) ss (ppL ns.length (aw ns ls)) ch (ppL ns.length (aw ns ls)).length)]:=fun h=>by
   rw [hX];unfold jm;rw [if_pos (by rw [<- hE0];exact h)]
  rw [h3]
  clear hE0 hX k4
  have k6:=sL hC b3 j.secN ss j.secs (by omega) (by omega) h1 h2
  have k7:=wC hC j b4 ch hj hch
  have k8:=Bt hC b1 b2 ns ls hnl hll hsh hcv
  generalize ppL ns.length (aw ns ls)=V at *
  generalize ppB ns.length (aw ns ls)=B at *
  simp [nlO]
  have hIl : (bT B).length=B.length:=by simp [bT]
  have hIg : ∀ (i : Nat) (h : i < B.length),(bT B)[i]? = some [.int .i64 B[i]]:=fun i h=>by simp [bT,h]
  have bad25 : ¬ (B=j.below.l /\ cO ss j.secs=true) -> X=.agg [.nils,.nils] /\ E=25:=fun h=>by
   refine bad 25 (by decide) ?_
   rw [hE,if_pos]
   by_cases h5 : B=j.below.l
   ·have h6 : cO ss j.secs=false:=by
     rw [<- Bool.not_eq_true]
     exact fun h6=>h ⟨h5,h6⟩
    simp [h5,h6]
   ·simp [h5]
  by_cases h4 : V.length=j.below.l.length
  ·have h4' : B.length=j.below.l.length:=by omega
   simp [hIl,h4']
   refine aa k6 (.inl rfl) ?_
   by_cases h6 : cO ss j.secs=true
   ·rw [h6]
    simp
    refine aj (Nat × Nat) (fun s=>[(1,slx b3 (ss.map aW)),(3,slx b4 (ch.map fun n=>[.int .i64 n])),(4,.ptr [slx b1 (ns.map aL),slx b2 (ls.map aD)]),(6,.ptr [slx j.below.n (j.below.l.map fun n=>[.int .i64 n]),slx j.lengths.n (j.lengths.l.map fun n=>[.int .i64 n]),slx j.flows.n (j.flows.l.map fun n=>[.int .i64 n]),slx j.falls.n (j.falls.l.map fun n=>[.int .i64 n]),slx j.room.n (j.room.l.map fun n=>[.int .i64 n]),slx j.secN (j.secs.map aW)]),(8,.adr (.r 10128) 0 0),(10,.sl (aG V)),(11,.sl (bT B)),(13,.bool (decide (s.2=1))),(14,.int .i64 s.1),(10128,.blk 2 [[.own 9 [],.own 11 []]])]) (fun s=>s.1 <= B.length /\ (s.2=1 -> ∀ i (h : i < B.length),i < s.1 -> B[i]=j.below.l[i]'(by omega)) /\ (s.2 ≠ 1 -> B ≠ j.below.l)) (fun s=>B.length - s.1) (0,1) ⟨by omega,fun _ i _ h=>absurd h (Nat.not_lt_zero _),fun h=>absurd rfl h⟩ (by simp) ?_
    rintro ⟨i,m⟩ ⟨hi,ha,hb⟩
    simp at hi ha hb
    simp
    by_cases hm : m=1
    ·have ha':=ha hm
     subst hm
     simp [hIl]
     refine ab (fun h=>?_) (fun h=>?_) <;> simp at h
     ·have hw : IntKind.wrap .i64 ((i : Int) + 1)=((i + 1 : Nat) : Int):=af (by omega) (by omega)
      have hji : i < j.below.l.length:=by omega
      simp [h,hji,bf (hIg i h)]
      refine ⟨ar (by decide +kernel),i + 1,if B[i]=j.below.l[i] then 1 else 0,⟨by omega,fun e i' hi' hii=>?_,fun e=>?_⟩,by omega,?_,hw⟩
      ·rcases Nat.lt_succ_iff_lt_or_eq.1 hii with h8 | rfl
       ·exact ha' i' hi' h8
       ·apply Classical.byContradiction
        intro h9
        rw [if_neg h9] at e
        cases e
      ·intro e9
       subst e9
       simp at e
      ·split <;> simp_all
     ·have ei : i=B.length:=by omega
      subst ei
      have hBj : B=j.below.l:=List.ext_getElem (by omega) fun i hi _=>ha' i hi hi
      rw [if_neg (by simp [hBj,h6])] at hE
      simp [h]
      simp [az] at k7
      refine aa k7 (.inl rfl) ?_
      rw [<- hE]
      by_cases h7 : E=0
      ·rw [eX h7,h7]
       simp
       have hch0 : bN j ch=0:=by rw [<- hE,h7]
       have hsl : ss.length=j.secs.length:=by
        apply Classical.byContradiction
        intro h8
        rw [fR h8] at h6
        cases h6
       have hchl : ch.length=V.length:=by
        unfold bN at hch0
        rw [if_neg (by rw [hj];decide)] at hch0
        split at hch0
        ·cases hch0
        ·omega
       have hrange : ∀ k (h : k < ch.length),0 <= ch[k] /\ (ch[k]).toNat < ss.length:=by
        intro k hk
        unfold bN at hch0
        rw [if_neg (by rw [hj];decide),if_neg (by omega)] at hch0
        split at hch0
        ·cases hch0
        ·rename_i h8
         rw [Bool.not_eq_true,List.any_eq_false] at h8
         have h9:=h8 _ (List.getElem_mem hk)
         simp [jl] at h9
         omega
       refine nx k8 rfl ?_
       simp
       refine ⟨fun a _=>jR a,fun a _=>jQ a,?_⟩
       have hL0 : ls.map ml=fO (ls.map cpL) ss V ch 0:=by simp [fO,dN,ml,Function.comp_def]
       have hLl : (ls.map cpL).length=ls.length:=by simp
       rw [hL0]
       generalize ls.map cpL=ls' at *
       have hVlt' : ∀ l ∈ V,l < ls'.length:=fun l hl=>by rw [hLl];exact hVlt l hl
       refine aj Nat (fun k=>[(1,slx b3 (ss.map aW)),(3,slx b4 (ch.map fun n=>[.int .i64 n])),(8,.adr (.r 10128) 0 0),(10,.sl (aG V)),(16,.adr (.r 10256) 0 0),(17,.int .i64 k),(10128,.blk 2 [[.own 9 [],.own 11 []]]),(10256,.blk 2 [[.own 9 (ns.map kH),.own 11 (fO ls' ss V ch k)]])]) (fun k=>k <= V.length) (fun k=>V.length - k) 0 (by simp) (by simp) ?_
       intro k hk
       simp
       refine ab (fun h=>?_) (fun h=>?_) <;> simp [aC] at h
       ·have hw : IntKind.wrap .i64 ((k : Int) + 1)=((k + 1 : Nat) : Int):=af (by omega) (by omega)
        have hi:=hVlt' _ (List.getElem_mem h)
        have hkc : k < ch.length:=by omega
        obtain ⟨hs0,hs1⟩:=hrange k hkc
        have hget:=p9 (ls:=ls') ss V ch k hi
        have hpl:=qa ls' ss V ch k
        have hset:=qb (ls:=ls') h hkc hs1
        have hrow : (fO ls' ss V ch k)[V[k]]'(by rw [hpl];exact hi)=aD ((dN ls' ss V ch k)[V[k]]!):=by
         have h' : V[k] < (dN ls' ss V ch k).length:=by rw [gG];exact hi
         simp only [fO,List.getElem_map]
         rw [getElem!_pos (dN ls' ss V ch k) V[k] h']
        simp [h,bf (cA h),hkc,hs0,hs1,aW,hpl,hi]
        refine ⟨by rw [hrow];simp [aD],ar (by decide +kernel),k + 1,by omega,by omega,hw,?_⟩
        rw [hrow,<- hset]
        simp
       ·have ek : k=V.length:=by omega
        subst ek
        simp [h,aC]
      ·obtain ⟨e1,e2⟩:=bad E h7 rfl
       rw [e1]
       simp [h7]
    ·obtain ⟨e1,e2⟩:=bad25 (fun h=>hb hm h.1)
     rw [e1,e2]
     simp [hm]
   ·rw [Bool.not_eq_true] at h6
    obtain ⟨e1,e2⟩:=bad25 (fun h=>by rw [h6] at h;exact absurd h.2 (by decide))
    rw [h6,e1,e2]
    simp
    refine aj Nat (fun s=>[(1,slx b3 (ss.map aW)),(3,slx b4 (ch.map fun n=>[.int .i64 n])),(4,.ptr [slx b1 (ns.map aL),slx b2 (ls.map aD)]),(6,.ptr [slx j.below.n (j.below.l.map fun n=>[.int .i64 n]),slx j.lengths.n (j.lengths.l.map fun n=>[.int .i64 n]),slx j.flows.n (j.flows.l.map fun n=>[.int .i64 n]),slx j.falls.n (j.falls.l.map fun n=>[.int .i64 n]),slx j.room.n (j.room.l.map fun n=>[.int .i64 n]),slx j.secN (j.secs.map aW)]),(8,.adr (.r 10128) 0 0),(10,.sl (aG V)),(11,.sl (bT B)),(13,.bool false),(14,.int .i64 0),(10128,.blk 2 [[.own 9 [],.own 11 []]])]) (fun s=>s=0) (fun s=>0) 0 rfl (by simp) ?_
    rintro s rfl
    simp
  ·have h4' : ¬ (B.length : Int)=(j.below.l.length : Int):=by omega
   obtain ⟨e1,e2⟩:=bad25 (fun h=>h4 (by rw [<- hBl,h.1]))
   rw [e1,e2]
   simp [hIl,h4']
   refine aj Nat (fun s=>[(1,slx b3 (ss.map aW)),(3,slx b4 (ch.map fun n=>[.int .i64 n])),(4,.ptr [slx b1 (ns.map aL),slx b2 (ls.map aD)]),(6,.ptr [slx j.below.n (j.below.l.map fun n=>[.int .i64 n]),slx j.lengths.n (j.lengths.l.map fun n=>[.int .i64 n]),slx j.flows.n (j.flows.l.map fun n=>[.int .i64 n]),slx j.falls.n (j.falls.l.map fun n=>[.int .i64 n]),slx j.room.n (j.room.l.map fun n=>[.int .i64 n]),slx j.secN (j.secs.map aW)]),(8,.adr (.r 10128) 0 0),(10,.sl (aG V)),(11,.sl (bT B)),(13,.bool false),(14,.int .i64 0),(10128,.blk 2 [[.own 9 [],.own 11 []]])]) (fun s=>s=0) (fun s=>0) 0 rfl (by simp) ?_
   rintro s rfl
   simp
 ·obtain ⟨e1,e2⟩:=bad _ h3 (by rw [hE,if_pos h3])
  rw [e1,<- e2]
  rw [<- e2] at h3
  simp [h3,nlO]
end Go.Gv

set_option maxRecDepth 4000
namespace Go.Gv
theorem Ac {ns : List Nod} {ls : List Lnk} (h : lG ns ls=false) : (∀ n ∈ ns,n.shape.length <= 20) /\ ∀ l ∈ ls,l.curve.length <= 20:=by
 simp only [lG,Bool.or_eq_false_iff,decide_eq_false_iff_not,List.any_eq_false] at h
 refine ⟨fun n hn=>?_,fun l hl=>?_⟩
 ·have:=h.1.2 n hn
  simp only [ne,Bool.or_eq_true,decide_eq_true_eq,not_or] at this
  omega
 ·have:=h.2 l hl
  simp only [ku,Bool.or_eq_true,decide_eq_true_eq,not_or] at this
  omega
theorem sx {l : List Sec} (h : lx l=false) : l.length <= 8 /\ ∀ s ∈ l,s.area.length <= 20 /\ s.conv.length <= 20:=by
 simp only [lx,Bool.or_eq_false_iff,decide_eq_false_iff_not,List.any_eq_false] at h
 refine ⟨by omega,fun s hs=>?_⟩
 have:=h.2 s hs
 simp only [gX,Bool.or_eq_true,decide_eq_true_eq,not_or] at this
 omega
theorem vZ {j : Job} (h : gg j=false) : lx j.secs=false:=by
 simp only [gg,Bool.or_eq_false_iff] at h
 exact h.2
theorem qc {ls : List Lnk} {ss : List Sec} {V : List Nat} {ch : List Int} {n : Nat} (h : ∀ x ∈ ls,x.curve.length <= n) : ∀ k,∀ x ∈ dN ls ss V ch k,x.curve.length <= n
 | 0=>h
 | k + 1=>by
  have ih:=qc (ss:=ss) (V:=V) (ch:=ch) h k
  intro x hx
  unfold dN at hx
  generalize dN ls ss V ch k=T at *
  generalize V[k]! = v at *
  by_cases hv : v < T.length
  ·rw [getElem!_pos T v hv] at hx
   rcases List.mem_or_eq_of_mem_set hx with hx | rfl
   ·exact ih x hx
   ·exact ih T[v] (List.getElem_mem hv)
  ·rw [List.set_eq_of_length_le (by omega)] at hx
   exact ih x hx
def Ql (P : List D) : Prop:=P=[.nils,.nils,.nils,.nils,.nils,.nils] \/ ∃ a b c d e f,P=[.sl a,.sl b,.sl c,.sl d,.sl e,.sl f]
theorem KI (ns : List Nod) (ls : List Lnk) (ss : List Sec) (q : List Int) (cover : Int) : Ql (co (prJ ns ls ss q cover)):=by
 unfold prJ
 split
 ·refine .inr ?_
  unfold rF co slI
  simp only [cE]
  exact ⟨_,_,_,_,_,_,rfl⟩
 ·exact .inl mD
theorem KJ (ns : List Nod) (ls : List Lnk) (ss : List Sec) (j : Job) (ch : List Int) : (j6 ns ls ss j ch=.agg [.nils,.nils] /\ jm ns ls ss j ch=.agg [.nils,.nils]) \/ ∃ a b c d,j6 ns ls ss j ch=.agg [.sl a,.sl b] /\ jm ns ls ss j ch=.agg [.sl c,.sl d]:=by
 unfold j6 jm
 split
 ·exact .inr ⟨_,_,_,_,rfl,rfl⟩
 ·exact .inl ⟨rfl,rfl⟩
variable {C : CC} (hC : am prog C)
include hC
theorem yM : C 567 [.agg [.nils,.nils,.nils,.nils,.nils,.nils]] (.bool true) []:=by
 have k:=k9 hC kQ kQ rfl rfl rfl rfl rfl rfl (by simp [kQ]) (by simp [kQ])
 rw [mD] at k
 refine al hC (nf:=N567) rfl rfl ?_
 simp [N567]
 refine aa k (.inl rfl) ?_
 simp
theorem sC : C 568 [.agg [.nils,.nils],.agg [.nils,.nils]] (.bool true) []:=by
 have k:=oa hC true true true true [] [] (fun _=>true) (fun _=>true) (by simp) (by simp) (by simp) (by simp)
 simpa [slx] using k
theorem uz (ns : List Nod) (ls : List Lnk) (ss : List Sec) (j : Job) (ch : List Int) (hn : ns.length < 2 ^ 62) (hl : ls.length < 2 ^ 62) (hs : ∀ x ∈ ns,x.shape.length <= 20) (hc : ∀ x ∈ ls,x.curve.length <= 20) :
  C 568 [j6 ns ls ss j ch,jm ns ls ss j ch] (.bool true) []:=by
 unfold j6 jm
 split
 ·have hT:=qc (ss:=ss) (V:=ppL ns.length (aw ns ls)) (ch:=ch) hc (ppL ns.length (aw ns ls)).length
  have k:=oa hC false false false false ns (dN ls ss (ppL ns.length (aw ns ls)) ch (ppL ns.length (aw ns ls)).length) (fun x=>x.shape.isEmpty) (fun x=>x.curve.isEmpty) hn (by rw [gG];exact hl) (fun x h=>by have:=hs x h;omega) (fun x h=>by have:=hT x h;omega)
  unfold fO
  rw [sK]
  rw [cE,cE,cE,cE,List.map_map] at k
  exact k
 ·exact sC hC
theorem uy (ns : List Nod) (ls : List Lnk) (ss : List Sec) (q : List Int) (cover : Int) (hn : ns.length <= 300) (hs : ss.length <= 8) (htb : ∀ s ∈ ss,s.area.length <= 20 /\ s.conv.length <= 20) :
  C 570 [.agg (co (prJ ns ls ss q cover)),.agg (co (prJ ns ls ss q cover))] (.bool true) []:=by
 unfold prJ
 split
 ·have hV : (ppL ns.length (aw ns ls)).length <= 300:=Nat.le_trans (fu _ _) (Nat.le_trans (fM _ _) hn)
  refine k9 hC _ _ rfl rfl rfl rfl rfl rfl ?_ (fun s h=>?_)
  ·simp only [rF,List.length_map];omega
  ·have:=htb s h;omega
 ·exact k9 hC kQ kQ rfl rfl rfl rfl rfl rfl (by simp [kQ]) (by simp [kQ])
set_option maxHeartbeats 2000000 in
theorem kz (hS : SlC C) (hL : o8 C) (hP : xJ C) (b1 b2 : Bool) (ns : List Nod) (ls : List Lnk) (hn : ns.length < 2 ^ 62) (hl : ls.length < 2 ^ 62) (hcv : ∀ l ∈ ls,l.curve.length < 2 ^ 62) (b3 : Bool) (ss : List Sec) (hs : ss.length < 2 ^ 62) (b4 : Bool) (q : List Int) (hq : q.length < 2 ^ 62) (cover : Int) (j : Job) (b6 : Bool) (ch : List Int) (hch : ch.length < 2 ^ 62) :
  C 533 [.agg [slx b1 (ns.map aL),slx b2 (ls.map aD)],slx b3 (ss.map aW),slx b4 (q.map fun n=>[.int .i64 n]),.int .i64 cover,.agg (co j),slx b6 (ch.map fun n=>[.int .i64 n])] (.bool true) []:=by
 have k0:=xO hC
 have k1:=DM hC b1 b2 ns ls hn hl
 have k2:=we hC b3 ss
 have k3:=yw hC j
 have k4:=uq hC b1 b2 ns ls
 have k5:=wD hC b3 ss
 have k6:=uo hC j
 have k7:=yM hC
 have k8:=sC hC
 refine al hC (nf:=N533) rfl rfl ?_
 simp [N533,az]
 simp [az] at k3 k6
 refine aa k0 (.inl rfl) ?_
 simp
 refine aa k1 (.inl rfl) ?_
 by_cases w1 : lG ns ls=true
 ·rw [w1];simp
 rw [Bool.not_eq_true] at w1
 rw [w1]
 simp
 refine aa k2 (.inl rfl) ?_
 by_cases w2 : lx ss=true
 ·rw [w2];simp
 rw [Bool.not_eq_true] at w2
 rw [w2]
 simp
 refine aa k3 (.inl rfl) ?_
 by_cases w3 : gg j=true
 ·rw [w3];simp
 rw [Bool.not_eq_true] at w3
 rw [w3]
 simp
 by_cases w4 : (20 : Int) < (q.length : Int)
 ·simp [w4]
 simp [w4]
 by_cases w5 : (20 : Int) < (ch.length : Int)
 ·simp [w5]
 simp [w5]
 obtain ⟨sh1,sh2⟩:=Ac w1
 obtain ⟨tb1,tb2⟩:=sx w2
 obtain ⟨tb3,tb4⟩:=sx (vZ w3)
 have p1:=tf hC hS hL b1 b2 b3 b4 ns ls ss q cover hcv (fun s h=>by have:=tb2 s h;omega) hq
 have p2:=GS hC hS hL hP b1 b2 b3 b6 ns ls ss j ch (fun l h=>by have:=sh2 l h;omega) (fun n h=>by have:=sh1 n h;omega) (fun s h=>by have:=tb2 s h;omega) (fun s h=>by have:=tb4 s h;omega) hch
 have p3:=uz hC ns ls ss j ch hn hl sh1 sh2
 have hS1:=KI ns ls ss q cover
 have hS2:=KJ ns ls ss j ch
 simp [az] at p2
 by_cases hok : (bG ns ls && aJ ss)=true
 ·obtain ⟨hv,hc⟩:=Bool.and_eq_true_iff.1 hok
  obtain ⟨hnl,hll⟩:=cp hv
  have p4:=rG hC b1 b2 b3 b4 ns ls ss q cover hv hc hq
  have p5:=uy hC ns ls ss q cover hnl tb1 tb2
  have p6:=fun hj=>Dm hC b1 b2 b3 b6 ns ls ss j ch hv hc hj (fun l h=>by have:=sh2 l h;omega) (fun n h=>by have:=sh1 n h;omega) (fun s h=>by have:=tb2 s h;omega) (fun s h=>by have:=tb4 s h;omega) hch
  simp [az] at p6
  have hnj : ao j=false -> iv ns ls ss j ch=1:=fun h=>by unfold iv;rw [if_pos (by simp [h])]
  have hnd : ao j=false -> j6 ns ls ss j ch=.agg [.nils,.nils]:=fun h=>by unfold j6;rw [if_neg (by rw [hnj h];decide)]
  generalize co (prJ ns ls ss q cover)=P at *
  generalize j6 ns ls ss j ch=Q at *
  generalize jm ns ls ss j ch=Q' at *
  generalize prE ns ls ss q cover=E at *
  generalize iv ns ls ss j ch=F at *
  rw [hv] at k4
  rw [hc] at k5
  rcases hS1 with rfl | ⟨a,b,c,d,e,f,rfl⟩ <;> rcases hS2 with ⟨rfl,rfl⟩ | ⟨u,v,x,y,rfl,rfl⟩
  all_goals
   refine aa p1 (.inr rfl) ?_
   simp
   refine aa p2 (.inr rfl) ?_
   simp
   refine aa k4 (.inl rfl) ?_
   simp
   refine aa k5 (.inl rfl) ?_
   simp
   refine aa p4 (.inr rfl) ?_
   simp
   refine aa p5 (.inl rfl) ?_
   simp
   refine aa k6 (.inl rfl) ?_
   by_cases hj : ao j=true
   ·rw [hj]
    simp
    refine aa (p6 hj) (.inr rfl) ?_
    simp
    refine aa p3 (.inl rfl) ?_
    simp
   ·rw [Bool.not_eq_true] at hj
    have e1:=hnj hj
    have e2:=hnd hj
    rw [hj]
    first | (subst e1;simp;refine aa k8 (.inl rfl) ?_;simp;done) | cases e2
 ·have e1 : prE ns ls ss q cover=1:=by unfold prE;rw [if_pos (by rw [Bool.not_eq_true] at hok;rw [hok];rfl)]
  have e2 : co (prJ ns ls ss q cover)=[.nils,.nils,.nils,.nils,.nils,.nils]:=by unfold prJ;rw [if_neg (by rw [e1];decide)];exact mD
  have e3 : iv ns ls ss j ch=1:=by unfold iv;rw [if_pos (by rw [Bool.not_eq_true] at hok;rw [hok];rfl)]
  have e4 : j6 ns ls ss j ch=.agg [.nils,.nils]:=by unfold j6;rw [if_neg (by rw [e3];decide)]
  rw [e1,e2] at p1
  rw [e3,e4] at p2
  refine aa p1 (.inr rfl) ?_
  simp
  refine aa p2 (.inr rfl) ?_
  simp
  refine aa k4 (.inl rfl) ?_
  by_cases hv : bG ns ls=true
  ·have hc : aJ ss=false:=by
    rw [<- Bool.not_eq_true]
    exact fun h=>hok (by rw [hv,h];rfl)
   rw [hv]
   simp
   refine aa k5 (.inl rfl) ?_
   rw [hc]
   simp
   refine aa k7 (.inl rfl) ?_
   simp
   refine aa k8 (.inl rfl) ?_
   simp
  ·rw [Bool.not_eq_true] at hv
   rw [hv]
   simp
   refine aa k7 (.inl rfl) ?_
   simp
   refine aa k8 (.inl rfl) ?_
   simp
end Go.Gv
