/-
  Texts of the proof: GvX, GvX2, Q2, K4, K5, K6, K7, K8, K2, K9, Q3, Q4, Q5, B1, B2, K10, B3, B4, B5, Q6, S3, Q7, Q12, S4, S5, GvX3, Q22, Q28, S0, Q29, M1, P4, M0, W1, W2, W3, W4, K11, W5, P4b, Q8, Q30, Q9, Q10, K12, M2a, K13, M2, M3, M4, P3, B6, B7, P5, M5, P1, P2, B8, P6, Q14, Q15, Q16, Q17, B9, P7, Q19, Q23, Q25, Q31, Q32, Q33, Q11, Q13, Q18, Q20, Q24, Q26, Q34, Q35, A24, K14.
-/
import Derived.Test.YtplgphagimkllaaGreatX6
import Derived.Lib.Mul64
import Derived.Laws.Bits64b
import Derived.Laws.MathBits
set_option linter.all false
namespace Go.Gv
section
variable {C : CC} {hs : Option (List Nat)} {K : Env -> Prop} {ns : List ap} {dst : Option Nat} {u : Tag (hs,K,ns)} {e : Env} {R : List Nat} {acc : List (List Nat × List Nat)}
theorem bA {sz : Nat} {es : List (List D)} {i : Nat} {c : List D} (h : es[i]? = some c) : i7 C hs K ns dst u e R acc sz es i=(c.length=sz /\ dW C hs K ns dst ⟨⟩ e R acc (.ptr c)):=by
 apply propext
 unfold i7 dW
 rw [h]
 exact ⟨fun ⟨_,h1,h2⟩=>by cases h1;exact h2,fun h2=>⟨c,rfl,h2⟩⟩
theorem aY {n : Nat} {ag : Bool} {p : Pa} {es : List (List D)} {i off : Nat} {r : List D} (hr : es[i]? = some r) : kJ C hs K ns dst u e R acc n ag p es i off=(off + n <= r.length /\ match ag with
    | true=>(((r.drop off).take n).all isV=true -> dW C hs K ns dst ⟨⟩ e R acc (.agg ((r.drop off).take n))) /\
      (((r.drop off).take n).all isV=false -> dW C hs K ns dst ⟨⟩ e R acc (.agx (((r.drop off).take n).mapIdx fun j c=>ldc p i (off + j) c)))
    | false=>dW C hs K ns dst ⟨⟩ e R acc (ldc p i off ((r.drop off).headD .any))):=by
 apply propext
 constructor
 ·rintro ⟨r',h,h1,h2⟩
  rw [hr] at h
  cases h
  refine ⟨h1,?_⟩
  cases ag <;> exact h2
 ·rintro ⟨h1,h2⟩
  refine sv hr h1 ?_
  cases ag <;> exact h2
@[simp] theorem H6 {sz : Nat} {c0 : List D} {es : List (List D)} : i7 C hs K ns dst u e R acc sz (c0::es) 0=(c0.length=sz /\ dW C hs K ns dst ⟨⟩ e R acc (.ptr c0)):=bA rfl
theorem wq {n : Nat} {ag : Bool} {p : Pa} {off : Nat} {c0 : List D} {es : List (List D)} : kJ C hs K ns dst u e R acc n ag p (c0::es) 0 off=(off + n <= c0.length /\ match ag with
    | true=>(((c0.drop off).take n).all isV=true -> dW C hs K ns dst ⟨⟩ e R acc (.agg ((c0.drop off).take n))) /\
      (((c0.drop off).take n).all isV=false -> dW C hs K ns dst ⟨⟩ e R acc (.agx (((c0.drop off).take n).mapIdx fun j c=>ldc p 0 (off + j) c)))
    | false=>dW C hs K ns dst ⟨⟩ e R acc (ldc p 0 off ((c0.drop off).headD .any))):=aY rfl
@[simp] theorem H7 {sz : Nat} {c0 c1 : List D} {es : List (List D)} : i7 C hs K ns dst u e R acc sz (c0::c1::es) 1=(c1.length=sz /\ dW C hs K ns dst ⟨⟩ e R acc (.ptr c1)):=bA rfl
theorem wr {n : Nat} {ag : Bool} {p : Pa} {off : Nat} {c0 c1 : List D} {es : List (List D)} : kJ C hs K ns dst u e R acc n ag p (c0::c1::es) 1 off=(off + n <= c1.length /\ match ag with
    | true=>(((c1.drop off).take n).all isV=true -> dW C hs K ns dst ⟨⟩ e R acc (.agg ((c1.drop off).take n))) /\
      (((c1.drop off).take n).all isV=false -> dW C hs K ns dst ⟨⟩ e R acc (.agx (((c1.drop off).take n).mapIdx fun j c=>ldc p 1 (off + j) c)))
    | false=>dW C hs K ns dst ⟨⟩ e R acc (ldc p 1 off ((c1.drop off).headD .any))):=aY rfl
@[simp] theorem H8 {sz : Nat} {c0 c1 c2 : List D} {es : List (List D)} : i7 C hs K ns dst u e R acc sz (c0::c1::c2::es) 2=(c2.length=sz /\ dW C hs K ns dst ⟨⟩ e R acc (.ptr c2)):=bA rfl
theorem wt {n : Nat} {ag : Bool} {p : Pa} {off : Nat} {c0 c1 c2 : List D} {es : List (List D)} : kJ C hs K ns dst u e R acc n ag p (c0::c1::c2::es) 2 off=(off + n <= c2.length /\ match ag with
    | true=>(((c2.drop off).take n).all isV=true -> dW C hs K ns dst ⟨⟩ e R acc (.agg ((c2.drop off).take n))) /\
      (((c2.drop off).take n).all isV=false -> dW C hs K ns dst ⟨⟩ e R acc (.agx (((c2.drop off).take n).mapIdx fun j c=>ldc p 2 (off + j) c)))
    | false=>dW C hs K ns dst ⟨⟩ e R acc (ldc p 2 off ((c2.drop off).headD .any))):=aY rfl
@[simp] theorem H9 {sz : Nat} {c0 c1 c2 c3 : List D} {es : List (List D)} : i7 C hs K ns dst u e R acc sz (c0::c1::c2::c3::es) 3=(c3.length=sz /\ dW C hs K ns dst ⟨⟩ e R acc (.ptr c3)):=bA rfl
theorem wu {n : Nat} {ag : Bool} {p : Pa} {off : Nat} {c0 c1 c2 c3 : List D} {es : List (List D)} : kJ C hs K ns dst u e R acc n ag p (c0::c1::c2::c3::es) 3 off=(off + n <= c3.length /\ match ag with
    | true=>(((c3.drop off).take n).all isV=true -> dW C hs K ns dst ⟨⟩ e R acc (.agg ((c3.drop off).take n))) /\
      (((c3.drop off).take n).all isV=false -> dW C hs K ns dst ⟨⟩ e R acc (.agx (((c3.drop off).take n).mapIdx fun j c=>ldc p 3 (off + j) c)))
    | false=>dW C hs K ns dst ⟨⟩ e R acc (ldc p 3 off ((c3.drop off).headD .any))):=aY rfl
@[simp] theorem Ia {sz : Nat} {c0 c1 c2 c3 c4 : List D} {es : List (List D)} : i7 C hs K ns dst u e R acc sz (c0::c1::c2::c3::c4::es) 4=(c4.length=sz /\ dW C hs K ns dst ⟨⟩ e R acc (.ptr c4)):=bA rfl
theorem wv {n : Nat} {ag : Bool} {p : Pa} {off : Nat} {c0 c1 c2 c3 c4 : List D} {es : List (List D)} : kJ C hs K ns dst u e R acc n ag p (c0::c1::c2::c3::c4::es) 4 off=(off + n <= c4.length /\ match ag with
    | true=>(((c4.drop off).take n).all isV=true -> dW C hs K ns dst ⟨⟩ e R acc (.agg ((c4.drop off).take n))) /\
      (((c4.drop off).take n).all isV=false -> dW C hs K ns dst ⟨⟩ e R acc (.agx (((c4.drop off).take n).mapIdx fun j c=>ldc p 4 (off + j) c)))
    | false=>dW C hs K ns dst ⟨⟩ e R acc (ldc p 4 off ((c4.drop off).headD .any))):=aY rfl
attribute [simp] wq wr wt wu wv
end
end Go.Gv

namespace Go.Gv
section
variable {C : CC} {hs : Option (List Nat)} {K : Env -> Prop} {ns : List ap} {dst : Option Nat} {u : Tag (hs,K,ns)} {e : Env} {R : List Nat} {acc : List (List Nat × List Nat)}
@[simp] theorem Ib {sz : Nat} {c0 c1 c2 c3 c4 c5 : List D} {es : List (List D)} : i7 C hs K ns dst u e R acc sz (c0::c1::c2::c3::c4::c5::es) 5=(c5.length=sz /\ dW C hs K ns dst ⟨⟩ e R acc (.ptr c5)):=bA rfl
@[simp] theorem Kw {n : Nat} {ag : Bool} {p : Pa} {off : Nat} {c0 c1 c2 c3 c4 c5 : List D} {es : List (List D)} : kJ C hs K ns dst u e R acc n ag p (c0::c1::c2::c3::c4::c5::es) 5 off=(off + n <= c5.length /\ match ag with
    | true=>(((c5.drop off).take n).all isV=true -> dW C hs K ns dst ⟨⟩ e R acc (.agg ((c5.drop off).take n))) /\
      (((c5.drop off).take n).all isV=false -> dW C hs K ns dst ⟨⟩ e R acc (.agx (((c5.drop off).take n).mapIdx fun j c=>ldc p 5 (off + j) c)))
    | false=>dW C hs K ns dst ⟨⟩ e R acc (ldc p 5 off ((c5.drop off).headD .any))):=aY rfl
@[simp] theorem Ic {sz : Nat} {c0 c1 c2 c3 c4 c5 c6 : List D} {es : List (List D)} : i7 C hs K ns dst u e R acc sz (c0::c1::c2::c3::c4::c5::c6::es) 6=(c6.length=sz /\ dW C hs K ns dst ⟨⟩ e R acc (.ptr c6)):=bA rfl
@[simp] theorem Kx {n : Nat} {ag : Bool} {p : Pa} {off : Nat} {c0 c1 c2 c3 c4 c5 c6 : List D} {es : List (List D)} : kJ C hs K ns dst u e R acc n ag p (c0::c1::c2::c3::c4::c5::c6::es) 6 off=(off + n <= c6.length /\ match ag with
    | true=>(((c6.drop off).take n).all isV=true -> dW C hs K ns dst ⟨⟩ e R acc (.agg ((c6.drop off).take n))) /\
      (((c6.drop off).take n).all isV=false -> dW C hs K ns dst ⟨⟩ e R acc (.agx (((c6.drop off).take n).mapIdx fun j c=>ldc p 6 (off + j) c)))
    | false=>dW C hs K ns dst ⟨⟩ e R acc (ldc p 6 off ((c6.drop off).headD .any))):=aY rfl
@[simp] theorem Id {sz : Nat} {c0 c1 c2 c3 c4 c5 c6 c7 : List D} {es : List (List D)} : i7 C hs K ns dst u e R acc sz (c0::c1::c2::c3::c4::c5::c6::c7::es) 7=(c7.length=sz /\ dW C hs K ns dst ⟨⟩ e R acc (.ptr c7)):=bA rfl
@[simp] theorem Ky {n : Nat} {ag : Bool} {p : Pa} {off : Nat} {c0 c1 c2 c3 c4 c5 c6 c7 : List D} {es : List (List D)} : kJ C hs K ns dst u e R acc n ag p (c0::c1::c2::c3::c4::c5::c6::c7::es) 7 off=(off + n <= c7.length /\ match ag with
    | true=>(((c7.drop off).take n).all isV=true -> dW C hs K ns dst ⟨⟩ e R acc (.agg ((c7.drop off).take n))) /\
      (((c7.drop off).take n).all isV=false -> dW C hs K ns dst ⟨⟩ e R acc (.agx (((c7.drop off).take n).mapIdx fun j c=>ldc p 7 (off + j) c)))
    | false=>dW C hs K ns dst ⟨⟩ e R acc (ldc p 7 off ((c7.drop off).headD .any))):=aY rfl
end
end Go.Gv

namespace Go.Gv
theorem su {α : Type} (n : Nat) (x : α) : List.replicate n x=(List.range n).map fun _=>x:=by simp [List.map_const']
theorem ky (l : List Nat) : aV l=(l.map fun k : Nat=>(k : Int)).map fun n=>[.int .i64 n]:=by simp [aV]
theorem x8 {l : List Int} : ∀ e ∈ (l.map fun n=>[D.int .i64 n]),e.length=1 /\ ∀ c ∈ e,ar c=true:=by
 intro e he
 simp only [List.mem_map] at he
 obtain ⟨k,_,rfl⟩:=he
 simp [ar]
theorem x9 {l : List Int} : ∀ e ∈ (l.map fun n=>[D.int .i64 n]),e.length=1 /\ ∀ c ∈ e,bi c=true:=by
 intro e he
 simp only [List.mem_map] at he
 obtain ⟨k,_,rfl⟩:=he
 simp [bi]
def ndD (l : List Nat) : D:=.sl (aV l)
def CW (n : Nat) (es : List Edg) : D:=.sl ((List.range n).map fun v=>[ndD (nxt n es v)])
def lu (n : Nat) (es : List Edg) (j : Nat) : List (List D):=(List.range n).map fun v=>[.own 1 (aV (tgs (es.take j) v))]
def lw (n : Nat) (es : List Edg) (j : Nat) : List (List D):=(List.range n).map fun v=>[.own 1 (aV (if v < j then nxt n es v else tgs es v))]
theorem aW (l : List Nat) : (aV l).length=l.length:=by simp [aV]
theorem gk (l : List Nat) : (aV l).take l.length=aV l:=by rw [<- aW l];exact List.take_length
theorem jM (l : List Nat) (k : Nat) : aV l++[[.int .i64 (k : Int)]]=aV (l++[k]):=by simp [aV]
theorem rZ {l : List Nat} : ∀ e ∈ aV l,e.length=1 /\ ∀ c ∈ e,ar c=true:=by
 intro e he
 simp only [aV,List.mem_map] at he
 obtain ⟨k,_,rfl⟩:=he
 simp [ar]
theorem ow {l : List Nat} : ∀ e ∈ aV l,e.length=1 /\ ∀ c ∈ e,bi c=true:=by
 intro e he
 simp only [aV,List.mem_map] at he
 obtain ⟨k,_,rfl⟩:=he
 simp [bi]
variable {C : CC} (hC : aj prog C)
include hC
theorem CU (hS : SlC C) {b : Bool} {n : Nat} {es : List Edg} (hn : n <= 300) (he : es.length <= 1000) (hg : inG n es) : C 517 [.int .i64 n,slx b (es.map edK)] (CW n es) []:=by
 refine au hC (nf:=N517) rfl rfl ?_
 simp [N517]
 refine ⟨by omega,?_⟩
 refine ay Nat (fun j=>[(5,.ref (.r 10080) 0 n),(10080,.blk 1 (lu n es j)),(11,slx b (es.map edK)),(12,.int .i64 es.length),(13,.int .i64 j)]) (fun j=>j <= es.length) (fun j=>es.length - j) 0 (by simp) (by simp [lu,tgs,aV,su]) ?_
 rintro j hj
 simp
 refine ae (fun h=>?_) (fun h=>?_) <;> simp [h] <;> simp at h
 ·have hw : IntKind.wrap .i64 ((j : Int) + 1)=((j + 1 : Nat) : Int):=ai (by omega) (by omega)
  have hin:=hg _ (List.getElem_mem h)
  have hr : (lu n es j)[es[j].1]? = some [.own 1 (aV (tgs (es.take j) es[j].1))]:=by simp [lu,hin.1]
  have hlt:=sE (es.take j) es[j].1
  have hb : (tgs (es.take j) es[j].1).length <= 1000:=by simp at hlt;omega
  have hrl : (lu n es j).length=n:=by simp [lu]
  have hr2 : es[j].1 < (lu n es j).length:=by omega
  simp [h,edK,knD,aY hr,hin,hr,aW]
  refine ⟨by omega,?_⟩
  simp only [gk,jM]
  have e1 : ∀ e,e ∈ aV (tgs (es.take j) es[j].1) \/ e=[.int .i64 (es[j].2 : Int)] -> ∀ c ∈ e,ar c=true:=by
   rintro e (h1 | rfl)
   ·exact (rZ e h1).2
   ·simp [ar]
  have e2 : (((lu n es j).set es[j].1 [.any]).set es[j].1 [.own 1 (aV (tgs (es.take j) es[j].1++[es[j].2]))])=lu n es (j + 1):=by
   rw [List.set_set]
   unfold lu
   rw [mP]
   apply List.map_congr_left
   intro v _
   rw [wQ h]
   by_cases e : v=es[j].1
   ·subst e;simp
   ·rw [if_neg e,if_neg (Ne.symm e),List.append_nil]
  refine ⟨e1,?_⟩
  simp [hr2,e2]
  refine ⟨aA (by decide +kernel),?_⟩
  simp [hw]
  refine ⟨j + 1,by omega,by omega,?_,by simp⟩
  simp only [gk,jM]
  rw [<- e2,List.set_set]
 ·have e0 : lu n es j=lw n es 0:=by
   unfold lu lw
   rw [List.take_of_length_le h]
   simp
  rw [e0]
  refine ay Nat (fun j=>[(5,.ref (.r 10080) 0 n),(10080,.blk 1 (lw n es j)),(32,.int .i64 n),(33,.int .i64 j)]) (fun j=>j <= n) (fun j=>n - j) 0 (by simp) (by simp) ?_
  clear e0 h hj j
  rintro j hj
  simp
  refine ae (fun h=>?_) (fun h=>?_) <;> simp [h] <;> simp at h
  ·have hw : IntKind.wrap .i64 ((j : Int) + 1)=((j + 1 : Nat) : Int):=ai (by omega) (by omega)
   have hr : (lw n es j)[j]? = some [.own 1 (aV (tgs es j))]:=by simp [lw,h]
   have hl:=sE es j
   simp [h,aY hr,hr,aW]
   have ks:=hS.sort ((tgs es j).map fun k : Nat=>(k : Int)) (by simp;omega)
   have kc:=hS.compact (((tgs es j).map fun k : Nat=>(k : Int)).mergeSort fun x y=>decide (x <= y)) (by simp [List.length_mergeSort];omega)
   rw [oh hg,<- ky] at kc
   rw [<- ky] at ks
   have hsl : (((tgs es j).map fun k : Nat=>(k : Int)).mergeSort fun x y=>decide (x <= y)).length=(tgs es j).length:=by simp [List.length_mergeSort]
   obtain ⟨zs,hz⟩ : ∃ zs,zs=((tgs es j).map fun k : Nat=>(k : Int)).mergeSort fun x y=>decide (x <= y):=⟨_,rfl⟩
   rw [<- hz] at ks kc hsl
   have hjl : j < (lw n es j).length:=by simp [lw,h]
   have e1 : (((lw n es j).set j [.own 1 (zs.map fun n=>[.int .i64 n])]).set j [.any]).set j [.own 1 (aV (nxt n es j))]=lw n es (j + 1):=by
    rw [List.set_set,List.set_set]
    unfold lw
    rw [mP]
    apply List.map_congr_left
    intro v _
    by_cases e : v=j
    ·subst e;simp
    ·rw [if_neg e]
     by_cases e2 : v < j
     ·rw [if_pos e2,if_pos (by omega)]
     ·rw [if_neg e2,if_neg (by omega)]
   refine u1 ks (by rw [List.length_map,hsl,aW]) x8 ?_
   have hset : ∀ x,((lw n es j).set j x)[j]? = some x:=fun x=>by simp [hjl]
   simp [hr,h,aY (hset _),hset]
   refine ⟨fun e he=>(x9 e (List.mem_of_mem_take he)).2,?_⟩
   have e3 : (zs.map fun n=>[D.int .i64 n]).take zs.length=zs.map fun n=>[D.int .i64 n]:=List.take_of_length_le (by simp)
   rw [e3]
   refine rO kc ow ?_
   simp [hr,h,aY (hset _),hset]
   rw [List.set_set,List.set_set] at e1
   exact ⟨fun e he=>(rZ e he).2,j + 1,by omega,by omega,e1,hw⟩
  ·have e : j=n:=by omega
   subst e
   simp [lw]
   unfold CW
   rw [List.take_of_length_le (by simp)]
   congr 1
   apply List.map_congr_left
   intro v hv
   have : v < j:=by simpa using hv
   simp [this,aQ,ndD]
end Go.Gv

namespace Go.Gv
open Go.Lib
theorem pB (a : Nat) (ha : a < 18446744073709551616) : bits .and .u64 (a : Int) 4294967295=((a % 4294967296 : Nat) : Int):=by
 have h:=bits_and_u64_nat a 4294967295 ha (by omega)
 have e : a &&& 4294967295=a % 4294967296:=Nat.and_two_pow_sub_one_eq_mod a 32
 rw [e] at h
 exact h
theorem p8 (a k : Nat) : Int.fdiv (a : Int) (2 ^ k)=((a / 2 ^ k : Nat) : Int):=by
 rw [Int.fdiv_eq_ediv_of_nonneg _ (by exact Int.pow_nonneg (by omega))]
 norm_cast
theorem sx (a : Nat) : Int.fdiv (a : Int) (2 ^ min 32 IntKind.u64.bits)=((a / 4294967296 : Nat) : Int):=p8 a 32
theorem tM (a b : Nat) : (a : Int) * (b : Int)=((a * b : Nat) : Int):=(Int.natCast_mul a b).symm
theorem GQ (a b : Nat) : (a : Int) + (b : Int)=((a + b : Nat) : Int):=(Int.natCast_add a b).symm
theorem cC (a : Nat) (ha : a < 18446744073709551616) : IntKind.u64.wrap (a : Int)=(a : Int):=by
 have e1 : IntKind.u64.signed=false:=rfl
 have e3 : (2 ^ IntKind.u64.bits : Int)=18446744073709551616:=rfl
 unfold IntKind.wrap
 simp only [e1,e3,Bool.false_and]
 simp
 omega
theorem A8 (a : Nat) : IntKind.u64.wrap (a : Int)=((a % 18446744073709551616 : Nat) : Int):=by
 have e1 : IntKind.u64.signed=false:=rfl
 have e3 : (2 ^ IntKind.u64.bits : Int)=18446744073709551616:=rfl
 unfold IntKind.wrap
 simp only [e1,e3,Bool.false_and]
 simp
variable {C : CC} (hC : aj prog C)
include hC
theorem ly (x y : Nat) (hx : x < 18446744073709551616) (hy : y < 18446744073709551616) : C 91 [.int .u64 x,.int .u64 y] (.tup [.int .u64 ((x * y / 18446744073709551616 : Nat) : Int),.int .u64 ((x * y % 18446744073709551616 : Nat) : Int)]) []:=by
 refine au hC (nf:=N91) rfl rfl ?_
 obtain ⟨bd,bt,bw,hhi⟩:=Lib.mul64_hi x y hx hy
 have ba:=Lib.half_mul_le (a:=x / 4294967296) (b:=y / 4294967296) (by omega) (by omega)
 have bb:=Lib.half_mul_le (a:=x / 4294967296) (b:=y % 4294967296) (by omega) (by omega)
 have bc:=Lib.half_mul_le (a:=x % 4294967296) (b:=y / 4294967296) (by omega) (by omega)
 have ba' : x / 4294967296 * (y / 4294967296) < 18446744073709551616:=by omega
 have bb' : x / 4294967296 * (y % 4294967296) < 18446744073709551616:=by omega
 have bc' : x % 4294967296 * (y / 4294967296) < 18446744073709551616:=by omega
 have bh1 : x / 4294967296 * (y / 4294967296) + (x / 4294967296 * (y % 4294967296) + x % 4294967296 * (y % 4294967296) / 4294967296) / 4294967296 < 18446744073709551616:=by omega
 have bh : x / 4294967296 * (y / 4294967296) + (x / 4294967296 * (y % 4294967296) + x % 4294967296 * (y % 4294967296) / 4294967296) / 4294967296 + ((x / 4294967296 * (y % 4294967296) + x % 4294967296 * (y % 4294967296) / 4294967296) % 4294967296 + x % 4294967296 * (y / 4294967296)) / 4294967296 < 18446744073709551616:=by omega
 simp [N91]
 simp only [pB x hx,pB y hy,sx,tM,GQ,cC _ bd,cC _ bb',cC _ bt,pB _ bt,cC _ bc',cC _ bw,cC _ ba',cC _ bh1,cC _ bh,A8 (x * y)]
 rw [hhi]
 exact ⟨by omega,by omega⟩
end Go.Gv

namespace Go.Gv
theorem A1 (a : Nat) : Int.fdiv (a : Int) (2 ^ min 16 IntKind.u64.bits)=((a / 65536 : Nat) : Int):=p8 a 16
theorem yU (a : Nat) : Int.fdiv (a : Int) (2 ^ min 8 IntKind.u64.bits)=((a / 256 : Nat) : Int):=p8 a 8
theorem KZ (a : Nat) (h : a < 256) : IntKind.u8.wrap (a : Int)=(a : Int):=by
 have e1 : IntKind.u8.signed=false:=rfl
 have e3 : (2 ^ IntKind.u8.bits : Int)=256:=rfl
 unfold IntKind.wrap
 simp only [e1,e3,Bool.false_and]
 simp
 omega
theorem qP : S1.length=256 /\ ∀ n : Fin 256,S1[n.val]?.getD 0=UInt8.ofNat (bitLen n.val) /\ bitLen n.val <= 8:=by decide +kernel
theorem eD {x n z : Nat} {m : Int} (hz : z < 256) (hm : m=n) (hn : n <= 56) (h : n + bitLen z=bitLen x) : 0 <= IntKind.u8.wrap (z : Int) /\ (IntKind.u8.wrap (z : Int)).toNat < S1.length /\ IntKind.i64.wrap (m + IntKind.i64.wrap ↑(S1[(IntKind.u8.wrap (z : Int)).toNat]?.getD default).toNat)=(bitLen x : Int):=by
 rw [KZ z hz]
 obtain ⟨h1,h2⟩:=qP
 obtain ⟨h3,h4⟩:=h2 ⟨z,hz⟩
 have e : (S1[(z : Int).toNat]?.getD default).toNat=bitLen z:=by
  show (S1[z]?.getD 0).toNat=bitLen z
  simp only at h3 h4
  rw [h3,UInt8.toNat_ofNat']
  omega
 simp only at h4
 rw [e]
 have e2 : IntKind.i64.wrap (bitLen z : Int)=(bitLen z : Int):=ai rfl (by omega)
 refine ⟨by omega,by omega,?_⟩
 rw [e2,hm]
 exact ai (by omega) (by omega)
variable {C : CC} (hC : aj prog C)
include hC
theorem xm (x : Nat) (hx : x < 18446744073709551616) : C 111 [.int .u64 x] (.int .i64 (bitLen x)) []:=by
 refine au hC (nf:=N111) rfl rfl ?_
 have key : ∀ (b z : Nat),2 ^ b <= z -> bitLen z=b + bitLen (z / 2 ^ b):=fun b z h=>bitLen_shift z b (by
  have:=Nat.div_pos h (Nat.two_pow_pos b)
  omega)
 simp [N111]
 refine ae (fun h1=>?_) (fun h1=>?_) <;> simp at h1
 ·obtain ⟨y,hy⟩ : ∃ y : Nat,y=x / 4294967296:=⟨_,rfl⟩
  have e1 : Int.fdiv (x : Int) (2 ^ min 32 IntKind.u64.bits)=(y : Int):=by rw [sx,hy]
  have k1:=key 32 x (by omega)
  simp [e1]
  refine ae (fun h2=>?_) (fun h2=>?_) <;> simp at h2
  ·obtain ⟨z,hz⟩ : ∃ z : Nat,z=y / 65536:=⟨_,rfl⟩
   have e2 : Int.fdiv (y : Int) (2 ^ min 16 IntKind.u64.bits)=(z : Int):=by rw [A1,hz]
   have k2:=key 16 y (by omega)
   simp [e2]
   refine ae (fun h3=>?_) (fun h3=>?_) <;> simp at h3
   ·obtain ⟨v,hv⟩ : ∃ v : Nat,v=z / 256:=⟨_,rfl⟩
    have e3 : Int.fdiv (z : Int) (2 ^ min 8 IntKind.u64.bits)=(v : Int):=by rw [yU,hv]
    have k3:=key 8 z (by omega)
    simp [e3]
    refine eD (n:=56) (by omega) ?_ (by omega) ?_
    ·decide
    ·simp only [Nat.reducePow] at k1 k2 k3
     rw [<- hy] at k1;rw [<- hz] at k2;rw [<- hv] at k3;omega
   ·simp
    refine eD (n:=48) (by omega) ?_ (by omega) ?_
    ·decide
    ·simp only [Nat.reducePow] at k1 k2
     rw [<- hy] at k1;rw [<- hz] at k2;omega
  ·simp
   refine ae (fun h3=>?_) (fun h3=>?_) <;> simp at h3
   ·obtain ⟨v,hv⟩ : ∃ v : Nat,v=y / 256:=⟨_,rfl⟩
    have e3 : Int.fdiv (y : Int) (2 ^ min 8 IntKind.u64.bits)=(v : Int):=by rw [yU,hv]
    have k3:=key 8 y (by omega)
    simp [e3]
    refine eD (n:=40) (by omega) ?_ (by omega) ?_
    ·decide
    ·simp only [Nat.reducePow] at k1 k3
     rw [<- hy] at k1;rw [<- hv] at k3;omega
   ·simp
    refine eD (n:=32) (by omega) ?_ (by omega) ?_
    ·decide
    ·simp only [Nat.reducePow] at k1
     rw [<- hy] at k1;omega
 ·simp
  refine ae (fun h2=>?_) (fun h2=>?_) <;> simp at h2
  ·obtain ⟨z,hz⟩ : ∃ z : Nat,z=x / 65536:=⟨_,rfl⟩
   have e2 : Int.fdiv (x : Int) (2 ^ min 16 IntKind.u64.bits)=(z : Int):=by rw [A1,hz]
   have k2:=key 16 x (by omega)
   simp [e2]
   refine ae (fun h3=>?_) (fun h3=>?_) <;> simp at h3
   ·obtain ⟨v,hv⟩ : ∃ v : Nat,v=z / 256:=⟨_,rfl⟩
    have e3 : Int.fdiv (z : Int) (2 ^ min 8 IntKind.u64.bits)=(v : Int):=by rw [yU,hv]
    have k3:=key 8 z (by omega)
    simp [e3]
    refine eD (n:=24) (by omega) ?_ (by omega) ?_
    ·decide
    ·simp only [Nat.reducePow] at k2 k3
     rw [<- hz] at k2;rw [<- hv] at k3;omega
   ·simp
    refine eD (n:=16) (by omega) ?_ (by omega) ?_
    ·decide
    ·simp only [Nat.reducePow] at k2
     rw [<- hz] at k2;omega
  ·simp
   refine ae (fun h3=>?_) (fun h3=>?_) <;> simp at h3
   ·obtain ⟨v,hv⟩ : ∃ v : Nat,v=x / 256:=⟨_,rfl⟩
    have e3 : Int.fdiv (x : Int) (2 ^ min 8 IntKind.u64.bits)=(v : Int):=by rw [yU,hv]
    have k3:=key 8 x (by omega)
    simp [e3]
    refine eD (n:=8) (by omega) ?_ (by omega) ?_
    ·decide
    ·simp only [Nat.reducePow] at k3
     rw [<- hv] at k3;omega
   ·simp
    have:=eD (x:=x) (n:=0) (m:=0) (z:=x) (by omega) rfl (by omega) (by omega)
    simpa using this
theorem j9 (x : Nat) (hx : x < 18446744073709551616) : C 102 [.int .u64 x] (.int .i64 ((64 - bitLen x : Nat) : Int)) []:=by
 have hb : bitLen x <= 64:=by
  unfold bitLen
  split
  ·omega
  ·rename_i h
   have:=(Nat.log2_lt h).2 (show x < 2 ^ 64 by omega)
   omega
 refine au hC (nf:=N102) rfl rfl ?_
 simp [N102]
 refine aa (xm hC x hx) (.inl rfl) ?_
 have e : IntKind.wrap .i64 (64 - (bitLen x : Int))=((64 - bitLen x : Nat) : Int):=ai (by omega) (by omega)
 simp [e]
end Go.Gv

namespace Go.Gv
structure DvI (u d a b q r : Nat) : Prop where
 sum : q * a + r=u
 ge : (u * 4294967296 + d) / (a * 4294967296 + b) <= q
 rlt : r < 4294967296
 qle : q <= 4294967297
section
variable {u d a b q r : Nat}
theorem Dv.mul (h : q * a + r=u) : q * (a * 4294967296 + b) + r * 4294967296=u * 4294967296 + q * b:=by
 subst h
 rw [Nat.mul_add,<- Nat.mul_assoc,Nat.add_mul]
 omega
theorem Dv.lt (_ : 0 < a) (hu : u < a * 4294967296 + b) (hd : d < 4294967296) : (u * 4294967296 + d) / (a * 4294967296 + b) < 4294967296:=by
 rw [Nat.div_lt_iff_lt_mul (by omega)]
 have : (u + 1) * 4294967296 <= (a * 4294967296 + b) * 4294967296:=Nat.mul_le_mul_right _ hu
 omega
theorem DvI.first (ha : 2147483648 <= a) (ha2 : a < 4294967296) (hb : b < 4294967296) (hu : u < a * 4294967296 + b) (hd : d < 4294967296) : DvI u d a b (u / a) (u % a) where
 sum:=by rw [Nat.mul_comm];exact Nat.div_add_mod u a
 rlt:=by have:=Nat.mod_lt u (show 0 < a by omega);omega
 ge:=by
  rw [Nat.le_div_iff_mul_le (by omega)]
  have h:=Nat.div_mul_le_self (u * 4294967296 + d) (a * 4294967296 + b)
  generalize (u * 4294967296 + d) / (a * 4294967296 + b)=Q at *
  rw [Nat.mul_add,<- Nat.mul_assoc] at h
  generalize Q * b=z at *
  generalize Q * a=x at *
  omega
 qle:=by
  have : u / a < 4294967298:=by
   rw [Nat.div_lt_iff_lt_mul (by omega)]
   omega
  omega
theorem DvI.more (h : DvI u d a b q r) (ha : 0 < a) (hu : u < a * 4294967296 + b) (hd : d < 4294967296) (hc : 4294967296 <= q \/ 4294967296 * r + d < q * b) : (u * 4294967296 + d) / (a * 4294967296 + b) + 1 <= q:=by
 rcases hc with hc | hc
 ·have:=Dv.lt (d:=d) ha hu hd
  omega
 ·have h1:=Dv.mul (b:=b) h.sum
  have : (u * 4294967296 + d) / (a * 4294967296 + b) < q:=by
   rw [Nat.div_lt_iff_lt_mul (by omega)]
   generalize q * (a * 4294967296 + b)=z at *
   generalize q * b=x at *
   omega
  omega
theorem DvI.done (h : DvI u d a b q r) (ha : 0 < a) (hc : q * b <= 4294967296 * r + d) : q=(u * 4294967296 + d) / (a * 4294967296 + b):=by
 have h1:=Dv.mul (b:=b) h.sum
 have h2:=h.ge
 have : q <= (u * 4294967296 + d) / (a * 4294967296 + b):=by
  rw [Nat.le_div_iff_mul_le (by omega)]
  generalize q * (a * 4294967296 + b)=z at *
  generalize q * b=x at *
  omega
 omega
theorem DvI.next (h : DvI u d a b q r) (ha : 0 < a) (hu : u < a * 4294967296 + b) (hd : d < 4294967296) (hc : 4294967296 <= q \/ 4294967296 * r + d < q * b) :
  1 <= q /\ (q - 1) * a + (r + a)=u /\ (u * 4294967296 + d) / (a * 4294967296 + b) <= q - 1 /\ q - 1 <= 4294967296:=by
 have h1:=h.more ha hu hd hc
 have h2:=h.qle
 have h3:=h.sum
 generalize (u * 4294967296 + d) / (a * 4294967296 + b)=Q at *
 obtain ⟨q',rfl⟩ : ∃ q',q=q' + 1:=⟨q - 1,by omega⟩
 refine ⟨by omega,?_,by omega,by omega⟩
 rw [Nat.add_mul] at h3
 simp only [Nat.add_sub_cancel]
 omega
theorem Dv.stop (hs : q * a + r=u) (hg : (u * 4294967296 + d) / (a * 4294967296 + b) <= q) (hq : q <= 4294967296) (ha : 0 < a) (hb : b < 4294967296) (hr : 4294967296 <= r) : q=(u * 4294967296 + d) / (a * 4294967296 + b):=by
 have h1:=Dv.mul (b:=b) hs
 have h3 : q * b <= 4294967296 * 4294967295:=Nat.mul_le_mul hq (by omega)
 have : q <= (u * 4294967296 + d) / (a * 4294967296 + b):=by
  rw [Nat.le_div_iff_mul_le (by omega)]
  generalize q * (a * 4294967296 + b)=z at *
  generalize q * b=x at *
  omega
 omega
theorem DvI.bnd (h : DvI u d a b q r) (hb : b < 4294967296) : q * b < 18446744073709551616:=by
 have:=Nat.mul_le_mul h.qle (show b <= 4294967295 by omega)
 omega
end
theorem BQ {N y S A K un0 y' : Nat} (hy : 0 < y) (hs : 0 < S) (hy' : y'=y * S) (hn : N * S=A * K + un0) :
  A / y' * K + (A % y' * K + un0) / y'=N / y /\ (A % y' * K + un0) % y' / S=N % y:=by
 have hyp : 0 < y':=by rw [hy'];exact Nat.mul_pos hy hs
 have e1:=Nat.div_add_mod A y'
 have e2:=Nat.div_add_mod (A % y' * K + un0) y'
 have l2:=Nat.mod_lt (A % y' * K + un0) hyp
 have tot : y' * (A / y' * K + (A % y' * K + un0) / y') + (A % y' * K + un0) % y'=N * S:=by
  rw [hn,Nat.mul_add,Nat.add_assoc,e2,<- Nat.mul_assoc,<- Nat.add_assoc,<- Nat.add_mul,e1]
 have hq : N * S / y'=A / y' * K + (A % y' * K + un0) / y':=by
  rw [<- tot,Nat.mul_add_div hyp,Nat.div_eq_of_lt l2,Nat.add_zero]
 have hr : N * S % y'=(A % y' * K + un0) % y':=by
  rw [<- tot,Nat.mul_add_mod,Nat.mod_eq_of_lt l2]
 rw [hy',Nat.mul_div_mul_right _ _ hs] at hq
 rw [hy',Nat.mul_mod_mul_right] at hr
 rw [hy'] at *
 exact ⟨hq.symm,by rw [<- hr,Nat.mul_div_cancel _ hs]⟩
end Go.Gv

namespace Go.Gv
theorem sD (a b : Nat) : Int.tdiv (a : Int) (b : Int)=((a / b : Nat) : Int):=by
 rw [Int.tdiv_eq_ediv_of_nonneg (by omega)];norm_cast
theorem A5 (a b : Nat) : Int.tmod (a : Int) (b : Int)=((a % b : Nat) : Int):=by
 rw [Int.tmod_eq_emod_of_nonneg (by omega)];norm_cast
theorem gZ (a : Int) : IntKind.u64.wrap a=a % 18446744073709551616:=by
 have e1 : IntKind.u64.signed=false:=rfl
 have e3 : (2 ^ IntKind.u64.bits : Int)=18446744073709551616:=rfl
 unfold IntKind.wrap
 simp only [e1,e3,Bool.false_and]
 simp
theorem orN (a b i : Nat) (hb : b < 2 ^ i) (h : a * 2 ^ i + b < 18446744073709551616) : bits .or .u64 ((a * 2 ^ i : Nat) : Int) (b : Int)=((a * 2 ^ i + b : Nat) : Int):=by
 rw [bits_or_u64_nat _ _ (by omega) (by omega),Nat.mul_comm a,Nat.two_pow_add_eq_or_of_lt hb]
theorem tN (a m b s : Nat) : (a * m + b) * s=a * s * m + b * s:=by rw [Nat.add_mul,Nat.mul_right_comm]
theorem KQ {H B W U d1 d0 : Nat} (hU : U=H + B) (h1 : d1=W / 4294967296) (h0 : d0=W % 4294967296) : H * 18446744073709551616 + (B * 18446744073709551616 + W)=(U * 4294967296 + d1) * 4294967296 + d0:=by omega
theorem CV {y s : Nat} (h0 : y ≠ 0) (hy : y < 18446744073709551616) (hs : s=64 - bitLen y) : s <= 63 /\ 9223372036854775808 <= y * 2 ^ s /\ y * 2 ^ s < 18446744073709551616:=by
 obtain ⟨h1,h2⟩:=bitLen_spec y
 have h3:=h2 h0
 have hb : bitLen y <= 64:=by
  unfold bitLen
  rw [if_neg h0]
  have:=(Nat.log2_lt h0).2 (show y < 2 ^ 64 by omega)
  omega
 have hb1 : 1 <= bitLen y:=by unfold bitLen;rw [if_neg h0];omega
 have e : bitLen y + s=64:=by omega
 refine ⟨by omega,?_,?_⟩
 ·have:=Nat.mul_le_mul_right (2 ^ s) h3
  rw [<- Nat.pow_add,show bitLen y - 1 + s=63 by omega] at this
  omega
 ·have:=Nat.mul_lt_mul_of_pos_right h1 (Nat.two_pow_pos s)
  rw [<- Nat.pow_add,e] at this
  omega
variable {C : CC} (hC : aj prog C)
include hC
theorem xk (hi lo y : Nat) (h : hi < y) (hy : y < 18446744073709551616) (hl : lo < 18446744073709551616) :
  C 92 [.int .u64 hi,.int .u64 lo,.int .u64 y] (.tup [.int .u64 (((hi * 18446744073709551616 + lo) / y : Nat) : Int),.int .u64 (((hi * 18446744073709551616 + lo) % y : Nat) : Int)]) []:=by
 refine au hC (nf:=N92) rfl rfl ?_
 have h1 : ¬ y=0:=by omega
 have h2 : ¬ y <= hi:=by omega
 generalize hres : D.tup [D.int .u64 (((hi * 18446744073709551616 + lo) / y : Nat) : Int),.int .u64 (((hi * 18446744073709551616 + lo) % y : Nat) : Int)]=res
 simp [N92]
 refine ae (fun h=>?_) (fun _=>?_)
 ·simp at h;omega
 simp
 refine ae (fun h=>?_) (fun _=>?_)
 ·simp at h;omega
 simp
 refine ae (fun h=>?_) (fun h3=>?_)
 ·simp at h
  have : hi=0:=by omega
  subst this
  have hq : lo / y < 18446744073709551616:=by have:=Nat.div_le_self lo y;omega
  obtain ⟨q,hq'⟩ : ∃ q,q=lo / y:=⟨_,rfl⟩
  obtain ⟨r,hr'⟩ : ∃ r,r=lo % y:=⟨_,rfl⟩
  have e1 : Int.tdiv (lo : Int) (y : Int)=(q : Int):=by rw [sD,hq']
  have e2 : Int.tmod (lo : Int) (y : Int)=(r : Int):=by rw [A5,hr']
  simp [h1,e1,e2,cC q (by omega)]
  refine ⟨aA (by decide +kernel),?_⟩
  rw [<- hres,hq',hr',Nat.zero_mul,Nat.zero_add]
 simp
 refine aa (j9 hC y hy) (.inl rfl) ?_
 generalize hs : 64 - bitLen y=s
 obtain ⟨s1,s2,s3⟩:=CV h1 hy hs.symm
 have w1 : IntKind.u64.wrap (s : Int)=(s : Int):=cC _ (by omega)
 have w2 : IntKind.u64.wrap (64 - (s : Int))=((64 - s : Nat) : Int):=by rw [gZ];omega
 have m1 : min s IntKind.u64.bits=s:=by show min s 64=s;omega
 have m2 : min (64 - s) IntKind.u64.bits=64 - s:=by show min (64 - s) 64=64 - s;omega
 obtain ⟨Y,hY⟩ : ∃ Y,Y=y * 2 ^ s:=⟨_,rfl⟩
 obtain ⟨H,hH⟩ : ∃ H,H=hi * 2 ^ s:=⟨_,rfl⟩
 obtain ⟨W,hW⟩ : ∃ W,W=lo * 2 ^ s % 18446744073709551616:=⟨_,rfl⟩
 obtain ⟨B,hB⟩ : ∃ B,B=lo / 2 ^ (64 - s):=⟨_,rfl⟩
 rw [<- hY] at s2 s3
 have hHY : H + 2 ^ s <= Y:=by
  have:=Nat.mul_le_mul_right (2 ^ s) h
  rw [hH,hY]
  rw [Nat.succ_mul] at this
  exact this
 have hBs : B < 2 ^ s:=by
  rw [hB,Nat.div_lt_iff_lt_mul (Nat.two_pow_pos _),<- Nat.pow_add,show s + (64 - s)=64 by omega]
  exact hl
 obtain ⟨U,hU⟩ : ∃ U,U=H + B:=⟨_,rfl⟩
 have hUY : U < Y:=by omega
 have eY : IntKind.u64.wrap ((y : Int) * 2 ^ s)=(Y : Int):=by
  rw [show (y : Int) * 2 ^ s=(Y : Int) by rw [hY];norm_cast];exact cC _ s3
 have eH : IntKind.u64.wrap ((hi : Int) * 2 ^ s)=(H : Int):=by
  rw [show (hi : Int) * 2 ^ s=(H : Int) by rw [hH];norm_cast];exact cC _ (by omega)
 have eW : IntKind.u64.wrap ((lo : Int) * 2 ^ s)=(W : Int):=by
  rw [show (lo : Int) * 2 ^ s=((lo * 2 ^ s : Nat) : Int) by norm_cast,A8,hW]
 have eB : Int.fdiv (lo : Int) (2 ^ (64 - s))=(B : Int):=by rw [p8,hB]
 have eU : bits .or .u64 (H : Int) (B : Int)=(U : Int):=by
  rw [hU,hH];exact orN hi B s hBs (by omega)
 obtain ⟨Y1,hY1⟩ : ∃ Y1,Y1=Y / 4294967296:=⟨_,rfl⟩
 obtain ⟨Y0,hY0⟩ : ∃ Y0,Y0=Y % 4294967296:=⟨_,rfl⟩
 obtain ⟨d1,hd1⟩ : ∃ d1,d1=W / 4294967296:=⟨_,rfl⟩
 obtain ⟨d0,hd0⟩ : ∃ d0,d0=W % 4294967296:=⟨_,rfl⟩
 have eY1 : Int.fdiv (Y : Int) (2 ^ min 32 IntKind.u64.bits)=(Y1 : Int):=by rw [sx,hY1]
 have eY0 : bits .and .u64 (Y : Int) 4294967295=(Y0 : Int):=by rw [pB _ s3,hY0]
 have hW64 : W < 18446744073709551616:=by rw [hW];exact Nat.mod_lt _ (by omega)
 have ed1 : Int.fdiv (W : Int) (2 ^ min 32 IntKind.u64.bits)=(d1 : Int):=by rw [sx,hd1]
 have ed0 : bits .and .u64 (W : Int) 4294967295=(d0 : Int):=by rw [pB _ hW64,hd0]
 have hY1a : 2147483648 <= Y1:=by omega
 have hY1b : Y1 < 4294967296:=by omega
 have hY0b : Y0 < 4294967296:=by omega
 have hd1b : d1 < 4294967296:=by omega
 have hd0b : d0 < 4294967296:=by omega
 have hYs : Y1 * 4294967296 + Y0=Y:=by omega
 have nz : ¬ Y1=0:=by omega
 have inv1:=DvI.first hY1a hY1b hY0b (u:=U) (d:=d1) (by omega) hd1b
 obtain ⟨q,hq⟩ : ∃ q,q=U / Y1:=⟨_,rfl⟩
 obtain ⟨r,hr⟩ : ∃ r,r=U % Y1:=⟨_,rfl⟩
 rw [<- hq,<- hr] at inv1
 have eq1 : Int.tdiv (U : Int) (Y1 : Int)=(q : Int):=by rw [sD,hq]
 have eq2 : IntKind.u64.wrap (q : Int)=(q : Int):=cC _ (by have:=inv1.qle;omega)
 have sub1 : ∀ (u a q r : Nat),q * a + r=u -> u < 18446744073709551616 -> IntKind.u64.wrap ((u : Int) - IntKind.u64.wrap ((q : Int) * (a : Int)))=(r : Int):=fun u a q r e hu=>by
  rw [tM,gZ,gZ]
  generalize q * a=z at *
  omega
 have er : IntKind.u64.wrap ((U : Int) - IntKind.u64.wrap ((q : Int) * (Y1 : Int)))=(r : Int):=sub1 _ _ _ _ inv1.sum (by omega)
 simp [w1,w2,m1,m2,eY,eH,eW,eB,eU,eY1,eY0,ed1,ed0,eq1,eq2,er,nz]
 have bm : ∀ {u d q r : Nat},DvI u d Y1 Y0 q r -> IntKind.u64.wrap ((q : Int) * (Y0 : Int))=((q * Y0 : Nat) : Int):=fun i=>by rw [tM];exact cC _ (i.bnd hY0b)
 have bp : ∀ {u d q r : Nat},d < 4294967296 -> DvI u d Y1 Y0 q r -> IntKind.u64.wrap (IntKind.u64.wrap (4294967296 * (r : Int)) + (d : Int))=((4294967296 * r + d : Nat) : Int):=fun {u d q r} hd i=>by
  have:=i.rlt
  rw [show (4294967296 : Int) * (r : Int)=((4294967296 * r : Nat) : Int) by omega,cC (4294967296 * r) (by omega),GQ]
  exact cC _ (by omega)
 obtain ⟨Q1,hQ1⟩ : ∃ Q1,Q1=(U * 4294967296 + d1) / (Y1 * 4294967296 + Y0):=⟨_,rfl⟩
 refine px 0 Nat (fun x=>[(2,.int .u64 Y),(8,.int .u64 s),(9,.int .u64 Y1),(10,.int .u64 Y0),(11,.int .u64 U),(13,.int .u64 d1),(14,.int .u64 d0),(15,.int .u64 x)]) (fun x=>x=Q1) ?_ ?_
 ·refine ay (Nat × Nat) (fun x=>[(2,.int .u64 Y),(8,.int .u64 s),(9,.int .u64 Y1),(10,.int .u64 Y0),(11,.int .u64 U),(13,.int .u64 d1),(14,.int .u64 d0),(15,.int .u64 x.1),(16,.int .u64 x.2)]) (fun x=>DvI U d1 Y1 Y0 x.1 x.2) (fun x=>4294967296 - x.2) (q,r) inv1 (by simp) ?_
  rintro ⟨a,c⟩ inv
  simp only at inv
  have b1:=bm inv
  have b2:=bp hd1b inv
  have b3:=inv.rlt
  have b4:=inv.qle
  have fin : (4294967296 <= a \/ 4294967296 * c + d1 < a * Y0) -> ∃ a' c' : Nat,IntKind.u64.wrap ((a : Int) - 1)=(a' : Int) /\ IntKind.u64.wrap ((c : Int) + (Y1 : Int))=(c' : Int) /\ c'=c + Y1 /\ (4294967296 <= c' -> a'=Q1) /\ (c' < 4294967296 -> DvI U d1 Y1 Y0 a' c'):=fun hc=>by
   obtain ⟨n1,n2,n3,n4⟩:=inv.next (by omega) (by rw [hYs];exact hUY) hd1b hc
   refine ⟨a - 1,c + Y1,by rw [gZ];omega,by rw [gZ];omega,rfl,fun hc=>(Dv.stop n2 n3 n4 (by omega) hY0b hc).trans hQ1.symm,fun hc=>⟨n2,n3,hc,by omega⟩⟩
  simp
  refine ae (fun c1=>?_) (fun c1=>?_) <;> simp [c1] <;> simp at c1
  ·obtain ⟨a',c',k1,k2,k3,k4,k5⟩:=fin (.inl (by omega))
   simp [k1,k2]
   refine ae (fun c2=>?_) (fun c2=>?_) <;> simp [c2,k1,k2] <;> simp at c2
   ·rw [k4 (by omega)]
   ·exact ⟨_,_,k5 (by omega),by omega,rfl,rfl⟩
  ·simp [b1,b2]
   refine ae (fun c3=>?_) (fun c3=>?_) <;> simp [c3] <;> simp at c3
   ·obtain ⟨a',c',k1,k2,k3,k4,k5⟩:=fin (.inr (by omega))
    simp [k1,k2]
    refine ae (fun c2=>?_) (fun c2=>?_) <;> simp [c2,k1,k2] <;> simp at c2
    ·rw [k4 (by omega)]
    ·exact ⟨_,_,k5 (by omega),by omega,rfl,rfl⟩
   ·rw [(inv.done (by omega) (by omega)).trans hQ1.symm]
 intro q1 e hq1 hw
 subst hq1
 simp at hw
 obtain ⟨g2,g8,g9,g10,g11,g13,g14,g15⟩:=hw
 obtain ⟨V,hV⟩ : ∃ V,V=(U * 4294967296 + d1) % (Y1 * 4294967296 + Y0):=⟨_,rfl⟩
 have hVY : V < Y:=by rw [hV,hYs];exact Nat.mod_lt _ (by omega)
 have sum1 : q1 * Y + V=U * 4294967296 + d1:=by rw [hQ1,hV,hYs,Nat.mul_comm];exact Nat.div_add_mod _ _
 have eV : IntKind.u64.wrap (IntKind.u64.wrap (IntKind.u64.wrap ((U : Int) * 4294967296) + (d1 : Int)) - IntKind.u64.wrap ((q1 : Int) * (Y : Int)))=(V : Int):=by
  rw [tM q1 Y]
  simp only [gZ]
  generalize q1 * Y=z at *
  omega
 have inv2:=DvI.first hY1a hY1b hY0b (u:=V) (d:=d0) (by omega) hd0b
 obtain ⟨q2,hq2⟩ : ∃ q,q=V / Y1:=⟨_,rfl⟩
 obtain ⟨r2,hr2⟩ : ∃ r,r=V % Y1:=⟨_,rfl⟩
 rw [<- hq2,<- hr2] at inv2
 have eq3 : Int.tdiv (V : Int) (Y1 : Int)=(q2 : Int):=by rw [sD,hq2]
 have eq4 : IntKind.u64.wrap (q2 : Int)=(q2 : Int):=cC _ (by have:=inv2.qle;omega)
 have er2 : IntKind.u64.wrap ((V : Int) - IntKind.u64.wrap ((q2 : Int) * (Y1 : Int)))=(r2 : Int):=sub1 _ _ _ _ inv2.sum (by omega)
 simp [g2,g8,g9,g10,g11,g13,g14,g15,eV,eq3,eq4,er2,nz]
 obtain ⟨Q0,hQ0⟩ : ∃ Q0,Q0=(V * 4294967296 + d0) / (Y1 * 4294967296 + Y0):=⟨_,rfl⟩
 refine px 2 Nat (fun x=>[(2,.int .u64 Y),(8,.int .u64 s),(14,.int .u64 d0),(15,.int .u64 q1),(17,.int .u64 V),(18,.int .u64 x)]) (fun x=>x=Q0) ?_ ?_
 ·refine ay (Nat × Nat) (fun x=>[(2,.int .u64 Y),(8,.int .u64 s),(9,.int .u64 Y1),(10,.int .u64 Y0),(14,.int .u64 d0),(15,.int .u64 q1),(16,.int .u64 x.2),(17,.int .u64 V),(18,.int .u64 x.1)]) (fun x=>DvI V d0 Y1 Y0 x.1 x.2) (fun x=>4294967296 - x.2) (q2,r2) inv2 (by simp) ?_
  rintro ⟨a,c⟩ inv
  simp only at inv
  have b1:=bm inv
  have b2:=bp hd0b inv
  have b3:=inv.rlt
  have b4:=inv.qle
  have fin : (4294967296 <= a \/ 4294967296 * c + d0 < a * Y0) -> ∃ a' c' : Nat,IntKind.u64.wrap ((a : Int) - 1)=(a' : Int) /\ IntKind.u64.wrap ((c : Int) + (Y1 : Int))=(c' : Int) /\ c'=c + Y1 /\ (4294967296 <= c' -> a'=Q0) /\ (c' < 4294967296 -> DvI V d0 Y1 Y0 a' c'):=fun hc=>by
   obtain ⟨n1,n2,n3,n4⟩:=inv.next (by omega) (by rw [hYs];exact hVY) hd0b hc
   refine ⟨a - 1,c + Y1,by rw [gZ];omega,by rw [gZ];omega,rfl,fun hc=>(Dv.stop n2 n3 n4 (by omega) hY0b hc).trans hQ0.symm,fun hc=>⟨n2,n3,hc,by omega⟩⟩
  simp
  refine ae (fun c1=>?_) (fun c1=>?_) <;> simp [c1] <;> simp at c1
  ·obtain ⟨a',c',k1,k2,k3,k4,k5⟩:=fin (.inl (by omega))
   simp [k1,k2]
   refine ae (fun c2=>?_) (fun c2=>?_) <;> simp [c2,k1,k2] <;> simp at c2
   ·rw [k4 (by omega)]
   ·exact ⟨_,_,k5 (by omega),by omega,rfl,rfl⟩
  ·simp [b1,b2]
   refine ae (fun c3=>?_) (fun c3=>?_) <;> simp [c3] <;> simp at c3
   ·obtain ⟨a',c',k1,k2,k3,k4,k5⟩:=fin (.inr (by omega))
    simp [k1,k2]
    refine ae (fun c2=>?_) (fun c2=>?_) <;> simp [c2,k1,k2] <;> simp at c2
    ·rw [k4 (by omega)]
    ·exact ⟨_,_,k5 (by omega),by omega,rfl,rfl⟩
   ·rw [(inv.done (by omega) (by omega)).trans hQ0.symm]
 intro q0 e hq0 hw
 subst hq0
 simp at hw
 obtain ⟨g2,g8,g14,g15,g17,g18⟩:=hw
 have l1 : q1 < 4294967296:=by rw [hQ1];exact Dv.lt (by omega) (by omega) hd1b
 have l0 : q0 < 4294967296:=by rw [hQ0];exact Dv.lt (by omega) (by omega) hd0b
 obtain ⟨R,hR⟩ : ∃ R,R=(V * 4294967296 + d0) % (Y1 * 4294967296 + Y0):=⟨_,rfl⟩
 have hRY : R < Y:=by rw [hR,hYs];exact Nat.mod_lt _ (by omega)
 have sum0 : q0 * Y + R=V * 4294967296 + d0:=by rw [hQ0,hR,hYs,Nat.mul_comm];exact Nat.div_add_mod _ _
 have eR : IntKind.u64.wrap (IntKind.u64.wrap (IntKind.u64.wrap ((V : Int) * 4294967296) + (d0 : Int)) - IntKind.u64.wrap ((q0 : Int) * (Y : Int)))=(R : Int):=by
  rw [tM q0 Y]
  simp only [gZ]
  generalize q0 * Y=z at *
  omega
 obtain ⟨Z,hZ⟩ : ∃ Z,Z=R / 2 ^ s:=⟨_,rfl⟩
 have eZ : Int.fdiv (R : Int) (2 ^ s)=(Z : Int):=by rw [p8,hZ]
 have eQ : IntKind.u64.wrap (IntKind.u64.wrap ((q1 : Int) * 4294967296) + (q0 : Int))=((q1 * 4294967296 + q0 : Nat) : Int):=by
  simp only [gZ]
  omega
 obtain ⟨T,hT⟩ : ∃ T,T=q1 * 4294967296 + q0:=⟨_,rfl⟩
 rw [<- hT] at eQ
 simp [g2,g8,g14,g15,g17,g18,w1,m1,eR,eZ,eQ]
 have hW2 : lo * 2 ^ s=B * 18446744073709551616 + W:=by
  have e1 : lo * 2 ^ s / 18446744073709551616=B:=by
   rw [hB,show (18446744073709551616 : Nat)=2 ^ (64 - s) * 2 ^ s by rw [<- Nat.pow_add,show 64 - s + s=64 by omega],Nat.mul_div_mul_right _ _ (Nat.two_pow_pos s)]
  have e2:=Nat.div_add_mod (lo * 2 ^ s) 18446744073709551616
  omega
 have tot : (hi * 18446744073709551616 + lo) * 2 ^ s=(U * 4294967296 + d1) * 4294967296 + d0:=by
  rw [tN,hW2,<- hH]
  exact KQ hU hd1 hd0
 obtain ⟨f1,f2⟩:=BQ (N:=hi * 18446744073709551616 + lo) (y:=y) (S:=2 ^ s) (A:=U * 4294967296 + d1) (K:=4294967296) (un0:=d0) (y':=Y1 * 4294967296 + Y0) (by omega) (Nat.two_pow_pos s) (by rw [hYs,hY]) tot
 rw [<- hV,<- hQ1,<- hQ0,<- hT] at f1
 rw [<- hV,<- hR,<- hZ] at f2
 rw [<- hres,f1,f2]
end Go.Gv

namespace Go.Gv
def cF (n : Nat) : D:=.agg [.int .u64 ((n / 18446744073709551616 : Nat) : Int),.int .u64 ((n % 18446744073709551616 : Nat) : Int)]
def lb (x : Nat) : Nat -> Nat -> Nat
 | 0,r=>r
 | i + 1,r=>lb x i (if (r + 2 ^ i) * (r + 2 ^ i) <= x then r + 2 ^ i else r)
def pU (x : Nat) : Nat:=lb x 63 0
theorem ym {x k : Nat} : x * k=(x / 18446744073709551616 * k + x % 18446744073709551616 * k / 18446744073709551616) * 18446744073709551616 + x % 18446744073709551616 * k % 18446744073709551616:=by
 have e1:=Nat.div_add_mod x 18446744073709551616
 have e2:=Nat.div_add_mod (x % 18446744073709551616 * k) 18446744073709551616
 have e3 : x * k=(18446744073709551616 * (x / 18446744073709551616) + x % 18446744073709551616) * k:=by rw [e1]
 rw [Nat.add_mul,Nat.mul_assoc] at e3
 generalize x / 18446744073709551616 * k=A at *
 generalize x % 18446744073709551616 * k=B at *
 omega
theorem xG {x n : Nat} (hn : 0 < n) : x / n=(x / 18446744073709551616 / n) * 18446744073709551616 + (x / 18446744073709551616 % n * 18446744073709551616 + x % 18446744073709551616) / n /\ (x / 18446744073709551616 % n * 18446744073709551616 + x % 18446744073709551616) / n < 18446744073709551616:=by
 obtain ⟨H,hH⟩ : ∃ H,H=x / 18446744073709551616:=⟨_,rfl⟩
 obtain ⟨L,hL⟩ : ∃ L,L=x % 18446744073709551616:=⟨_,rfl⟩
 rw [<- hH,<- hL]
 have hx : x=H * 18446744073709551616 + L:=by omega
 have hl : L < 18446744073709551616:=by omega
 have e1:=Nat.div_add_mod H n
 have l1:=Nat.mod_lt H hn
 generalize H / n=a at *
 generalize H % n=b at *
 constructor
 ·rw [hx,<- e1,show (n * a + b) * 18446744073709551616 + L=n * (a * 18446744073709551616) + (b * 18446744073709551616 + L) by rw [Nat.add_mul,Nat.mul_assoc,Nat.add_assoc],Nat.mul_add_div hn]
 ·rw [Nat.div_lt_iff_lt_mul hn]
  have : (b + 1) * 18446744073709551616 <= n * 18446744073709551616:=Nat.mul_le_mul_right _ l1
  rw [Nat.mul_comm n] at this
  omega
theorem rl (x i r : Nat) : lb x (i + 1) r=lb x i (if (r + 2 ^ i) * (r + 2 ^ i) <= x then r + 2 ^ i else r):=rfl
variable {C : CC} (hC : aj prog C)
include hC
theorem tW (a b : Nat) (ha : a < 9223372036854775808) (hb : b < 9223372036854775808) : C 74 [.int .i64 a,.int .i64 b] (cF (a * b)) []:=by
 refine au hC (nf:=N74) rfl rfl ?_
 simp [N74,cC a (by omega),cC b (by omega)]
 refine aa (ly hC a b (by omega) (by omega)) (.inl rfl) ?_
 obtain ⟨h,hh⟩ : ∃ h,h=a * b / 18446744073709551616:=⟨_,rfl⟩
 obtain ⟨l,hl⟩ : ∃ l,l=a * b % 18446744073709551616:=⟨_,rfl⟩
 rw [<- hh,<- hl,cF,<- hh,<- hl]
 simp
theorem zD (x k : Nat) (hk : k < 9223372036854775808) (hx : x < 340282366920938463463374607431768211456) (hxk : x * k < 340282366920938463463374607431768211456) : C 75 [cF x,.int .i64 k] (cF (x * k)) []:=by
 have e:=ym (x:=x) (k:=k)
 obtain ⟨h,hh⟩ : ∃ h,h=x / 18446744073709551616:=⟨_,rfl⟩
 obtain ⟨l,hl⟩ : ∃ l,l=x % 18446744073709551616:=⟨_,rfl⟩
 have hh' : h < 18446744073709551616:=by omega
 have hl' : l < 18446744073709551616:=by omega
 rw [<- hh,<- hl] at e
 obtain ⟨p,hp⟩ : ∃ p,p=l * k / 18446744073709551616:=⟨_,rfl⟩
 obtain ⟨q,hq⟩ : ∃ q,q=l * k % 18446744073709551616:=⟨_,rfl⟩
 rw [<- hp,<- hq] at e
 have hq' : q < 18446744073709551616:=by omega
 obtain ⟨z,hz⟩ : ∃ z,z=h * k:=⟨_,rfl⟩
 obtain ⟨y,hy⟩ : ∃ y,y=x * k:=⟨_,rfl⟩
 rw [<- hz,<- hy] at e
 rw [<- hy] at hxk
 obtain ⟨t,ht⟩ : ∃ t,t=z + p:=⟨_,rfl⟩
 rw [<- ht] at e
 have e1 : y / 18446744073709551616=t:=by omega
 have e2 : y % 18446744073709551616=q:=by omega
 have ht' : t < 18446744073709551616:=by omega
 have et : IntKind.u64.wrap ((p : Int) + IntKind.u64.wrap ((h : Int) * (k : Int)))=(t : Int):=by
  rw [tM h k,<- hz,gZ,gZ]
  clear hxk hx e e1 e2 hq hp hl hh hy hz
  omega
 have r1 : cF (x * k)=.agg [.int .u64 (t : Int),.int .u64 (q : Int)]:=by rw [cF,<- hy,e1,e2]
 have r2 : cF x=.agg [.int .u64 (h : Int),.int .u64 (l : Int)]:=by rw [cF,<- hh,<- hl]
 rw [r1,r2]
 clear r1 r2 e1 e2 e hh hl hx hxk
 refine au hC (nf:=N75) rfl rfl ?_
 simp [N75,cC k (by omega)]
 refine aa (ly hC l k hl' (by omega)) (.inl rfl) ?_
 rw [<- hp,<- hq]
 simp [et,cC k (by omega)]
theorem C0 (x n : Nat) (hn : 0 < n) (hn2 : n < 9223372036854775808) (hx : x < 340282366920938463463374607431768211456) : C 76 [cF x,.int .i64 n] (cF (x / n)) []:=by
 obtain ⟨e,e0⟩:=xG (x:=x) hn
 obtain ⟨h,hh⟩ : ∃ h,h=x / 18446744073709551616:=⟨_,rfl⟩
 obtain ⟨l,hl⟩ : ∃ l,l=x % 18446744073709551616:=⟨_,rfl⟩
 have hh' : h < 18446744073709551616:=by omega
 have hl' : l < 18446744073709551616:=by omega
 rw [<- hh,<- hl] at e e0
 obtain ⟨p,hp⟩ : ∃ p,p=h / n:=⟨_,rfl⟩
 obtain ⟨r,hr⟩ : ∃ r,r=h % n:=⟨_,rfl⟩
 rw [<- hp,<- hr] at e
 rw [<- hr] at e0
 obtain ⟨q,hq⟩ : ∃ q,q=(r * 18446744073709551616 + l) / n:=⟨_,rfl⟩
 rw [<- hq] at e e0
 have hrn : r < n:=by rw [hr];exact Nat.mod_lt _ hn
 have e1 : x / n / 18446744073709551616=p:=by omega
 have e2 : x / n % 18446744073709551616=q:=by omega
 have hpl : p < 18446744073709551616:=by rw [hp];have:=Nat.div_le_self h n;omega
 have ep : Int.tdiv (h : Int) (n : Int)=(p : Int):=by rw [sD,hp]
 have er : Int.tmod (h : Int) (n : Int)=(r : Int):=by rw [A5,hr]
 have r1 : cF (x / n)=.agg [.int .u64 (p : Int),.int .u64 (q : Int)]:=by rw [cF,e1,e2]
 have r2 : cF x=.agg [.int .u64 (h : Int),.int .u64 (l : Int)]:=by rw [cF,<- hh,<- hl]
 rw [r1,r2]
 clear r1 r2 e1 e2 e hh hl hx
 refine au hC (nf:=N76) rfl rfl ?_
 have hn0 : ¬ n=0:=by omega
 simp [N76,cC n (by omega),hn0,ep,er,cC p hpl]
 refine ⟨aA (by decide +kernel),?_⟩
 refine aa (xk hC r l n hrn (by omega) hl') (.inl rfl) ?_
 rw [<- hq]
 simp
theorem C9 (x : Nat) : C 77 [cF x] (.int .i64 (pU x)) []:=by
 obtain ⟨h,hh⟩ : ∃ h,h=x / 18446744073709551616:=⟨_,rfl⟩
 obtain ⟨l,hl⟩ : ∃ l,l=x % 18446744073709551616:=⟨_,rfl⟩
 have r2 : cF x=.agg [.int .u64 (h : Int),.int .u64 (l : Int)]:=by rw [cF,<- hh,<- hl]
 rw [r2]
 obtain ⟨N,hN⟩ : ∃ N,N=pU x:=⟨_,rfl⟩
 rw [<- hN]
 refine au hC (nf:=N77) rfl rfl ?_
 simp [N77]
 refine ay (Nat × Nat × Nat) (fun s=>[(1,.ptr [.int .u64 (h : Int),.int .u64 (l : Int)]),(3,.int .u64 s.2.1),(4,.int .u64 s.2.2)])
  (fun s=>s.1 <= 63 /\ (∃ a,s.2.1=a * 2 ^ s.1) /\ s.2.1 + 2 ^ s.1 <= 9223372036854775808 /\ s.2.2=(if s.1=0 then 0 else 2 ^ (s.1 - 1)) /\ lb x s.1 s.2.1=N) (fun s=>s.1) (63,0,4611686018427387904) ⟨by omega,⟨0,by simp⟩,by decide,by decide,by rw [hN];rfl⟩ (by simp) ?_
 rintro ⟨i,r,b⟩ ⟨h1,⟨a,h2⟩,h3,h4,h5⟩
 simp only at h1 h2 h3 h4 h5
 simp
 refine ae (fun c=>?_) (fun c=>?_) <;> simp [c] <;> simp at c
 ·obtain ⟨j,rfl⟩ : ∃ j,i=j + 1:=by
   cases i with
   | zero=>simp at h4;omega
   | succ j=>exact ⟨j,rfl⟩
  simp at h4
  have hb2 : 2 * b=2 ^ (j + 1):=by rw [h4,Nat.pow_succ];omega
  rw [<- hb2] at h3 h2
  have hor : bits .or .u64 (r : Int) (b : Int)=((r + b : Nat) : Int):=by
   rw [h2,show a * (2 * b)=a * 2 ^ (j + 1) by rw [hb2]]
   exact orN a b (j + 1) (by rw [<- hb2];omega) (by rw [<- hb2,<- h2];omega)
  obtain ⟨y,hy⟩ : ∃ y,y=r + b:=⟨_,rfl⟩
  rw [<- hy] at hor
  have hsh : Int.fdiv (b : Int) (2 ^ min 1 IntKind.u64.bits)=((b / 2 : Nat) : Int):=p8 b 1
  obtain ⟨b',hb'⟩ : ∃ b',b'=b / 2:=⟨_,rfl⟩
  rw [<- hb'] at hsh
  simp [hor]
  refine aa (ly hC y y (by omega) (by omega)) (.inl rfl) ?_
  obtain ⟨p,hp⟩ : ∃ p,p=y * y / 18446744073709551616:=⟨_,rfl⟩
  obtain ⟨q,hq⟩ : ∃ q,q=y * y % 18446744073709551616:=⟨_,rfl⟩
  rw [<- hp,<- hq]
  have h6 : lb x j (if y * y <= x then y else r)=N:=by rw [<- h5,rl,hy,h4]
  have hb1 : b'=if j=0 then 0 else 2 ^ (j - 1):=by
   rw [hb',h4]
   cases j with
   | zero=>rfl
   | succ j=>simp [Nat.pow_succ]
  have yes : y * y <= x -> (j <= 63 /\ (∃ a,y=a * 2 ^ j) /\ y + 2 ^ j <= 9223372036854775808 /\ b'=(if j=0 then 0 else 2 ^ (j - 1)) /\ lb x j y=N):=fun hc=>by
   rw [if_pos hc] at h6
   refine ⟨by omega,⟨2 * a + 1,?_⟩,by omega,hb1,h6⟩
   rw [hy,h2,<- h4,Nat.add_mul,Nat.mul_comm 2 a,Nat.mul_assoc]
   omega
  have no : ¬ y * y <= x -> (j <= 63 /\ (∃ a,r=a * 2 ^ j) /\ r + 2 ^ j <= 9223372036854775808 /\ b'=(if j=0 then 0 else 2 ^ (j - 1)) /\ lb x j r=N):=fun hc=>by
   rw [if_neg hc] at h6
   refine ⟨by omega,⟨2 * a,?_⟩,by omega,hb1,h6⟩
   rw [h2,<- h4,Nat.mul_comm 2 a,Nat.mul_assoc]
  simp
  generalize y * y=Z at *
  refine ae (fun c1=>?_) (fun c1=>?_) <;> simp [c1,hor,hsh] <;> simp at c1
  ·exact ⟨j,y,b',yes (by omega),by omega,rfl,rfl⟩
  ·refine ae (fun c2=>?_) (fun c2=>?_) <;> simp [c2,hor,hsh] <;> simp at c2
   ·refine ae (fun c3=>?_) (fun c3=>?_) <;> simp [c3,hor,hsh] <;> simp at c3
    ·exact ⟨j,y,b',yes (by omega),by omega,rfl,rfl⟩
    ·exact ⟨j,r,b',no (by omega),by omega,rfl,rfl⟩
   ·exact ⟨j,r,b',no (by omega),by omega,rfl,rfl⟩
 ·have hi : i=0:=by
   cases i with
   | zero=>rfl
   | succ j =>
    simp at h4
    have:=Nat.two_pow_pos j
    omega
  subst hi
  have : r=N:=h5
  simp at h3
  have e1 : IntKind.wrap .i64 (r : Int)=(r : Int):=ai rfl (by omega)
  rw [<- this,e1]
end Go.Gv

namespace Go.Gv
def pG (t : List (Int × Int)) (i : Nat) : Bool:=gg t[i]!.1 && gg t[i]!.2 && (i == 0 || (t[i - 1]!.1 < t[i]!.1 && t[i - 1]!.2 <= t[i]!.2))
def aO (t : List (Int × Int)) : Bool:=1 <= t.length && t.length <= 100 && (List.range t.length).all (pG t)
variable {C : CC} (hC : aj prog C)
include hC
theorem fg (b : Bool) (t : List (Int × Int)) : C 72 [slx b (t.map knD)] (.bool (aO t)) []:=by
 refine au hC (nf:=N72) rfl rfl ?_
 simp [N72]
 refine ae (fun h=>?_) (fun h=>?_) <;> simp at h
 ·simp [aO,show t.length=0 by omega]
 simp [h]
 refine ae (fun h2=>?_) (fun h2=>?_) <;> simp at h2
 ·simp [aO,h,h2]
  omega
 simp
 refine ay Nat (fun i=>[(0,slx b (t.map knD)),(13,slx b (t.map knD)),(14,.int .i64 t.length),(15,.int .i64 i)]) (fun i=>i <= t.length /\ ∀ j < i,pG t j=true) (fun i=>t.length - i) 0 (by simp) (by simp) ?_
 rintro i ⟨hi,hj⟩
 simp
 refine ae (fun h3=>?_) (fun h3=>?_) <;> simp at h3
 ·have bad : pG t i=false -> aO t=false:=fun hb=>by
   simp only [aO,Bool.and_eq_false_iff,List.all_eq_false]
   exact .inr ⟨i,by simpa using h3,by simp [hb]⟩
  have e1 : t[i]! = t[i]:=getElem!_pos t i h3
  have e2 : t[i - 1]! = t[i - 1]:=getElem!_pos t (i - 1) (by omega)
  simp only [pG,e1,e2] at bad
  have hw1 : IntKind.wrap .i64 ((i : Int) + 1)=((i + 1 : Nat) : Int):=ai (by omega) (by omega)
  have next : pG t i=true -> ∃ s' : Nat,(s' <= t.length /\ ∀ j < s',pG t j=true) /\ t.length - s' < t.length - i /\ s'=i + 1:=fun ho =>
   ⟨i + 1,⟨by omega,fun j hjj=>by
    rcases Nat.lt_succ_iff_lt_or_eq.1 hjj with h | rfl
    ·exact hj j h
    ·exact ho⟩,by omega,rfl⟩
  simp only [pG,e1,e2] at next
  simp [h3,knD]
  refine aa (vA hC _) (.inl rfl) ?_
  cases f1 : gg t[i].1
  ·simp
   exact ⟨aA (by decide +kernel),bad (by simp [f1])⟩
  simp
  refine aa (vA hC _) (.inl rfl) ?_
  cases f2 : gg t[i].2
  ·simp
   exact ⟨aA (by decide +kernel),bad (by simp [f2])⟩
  simp
  refine ae (fun h4=>?_) (fun h4=>?_) <;> simp at h4
  ·have hw : IntKind.wrap .i64 ((i : Int) - 1)=((i - 1 : Nat) : Int):=ai (by omega) (by omega)
   have h5 : i - 1 < t.length:=by omega
   simp [h4,hw,h5,knD]
   refine ae (fun h6=>?_) (fun h6=>?_) <;> simp [h6,hw,h5,knD] <;> simp at h6
   ·refine ⟨aA (by decide +kernel),bad ?_⟩
    simp [f1,f2]
    omega
   ·refine ⟨aA (by decide +kernel),ae (fun h7=>?_) (fun h7=>?_)⟩ <;> simp [h7,hw1] <;> simp at h7
    ·refine bad ?_
     simp [f1,f2]
     omega
    ·obtain ⟨s',g1,g2,rfl⟩:=next (by simp [f1,f2,h6,h7])
     exact ⟨_,g1,g2,rfl⟩
  ·have hi0 : i=0:=by omega
   subst hi0
   simp at hw1
   simp [hw1]
   refine ⟨aA (by decide +kernel),?_⟩
   obtain ⟨s',g1,g2,rfl⟩:=next (by simp [f1,f2])
   exact ⟨_,g1,g2,rfl⟩
 ·have : i=t.length:=by omega
  subst this
  simp [aO,h,h2]
  exact ⟨⟨by omega,by omega⟩,hj⟩
end Go.Gv

namespace Go.Gv
theorem fq {t : List (Int × Int)} (h : aO t=true) : 1 <= t.length /\ t.length <= 100:=by
 simp only [aO,Bool.and_eq_true,decide_eq_true_eq] at h
 exact h.1
theorem qd {t : List (Int × Int)} (h : aO t=true) {i : Nat} (hi : i < t.length) : gg t[i].1=true /\ gg t[i].2=true /\ ∀ j,(hj : j + 1=i) -> t[j].1 < t[i].1 /\ t[j].2 <= t[i].2:=by
 simp only [aO,Bool.and_eq_true,List.all_eq_true,List.mem_range] at h
 have:=h.2 i hi
 simp only [pG,getElem!_pos t i hi,Bool.and_eq_true,Bool.or_eq_true,beq_iff_eq,decide_eq_true_eq] at this
 refine ⟨this.1.1,this.1.2,fun j hj=>?_⟩
 subst hj
 have h2:=this.2
 rw [Nat.add_sub_cancel,getElem!_pos t j (by omega)] at h2
 rcases h2 with h2 | h2
 ·omega
 ·exact h2
theorem ut {t : List (Int × Int)} (h : aO t=true) : ∀ (j i : Nat) (hi : i < t.length) (hj : j < i),t[j].1 < t[i].1:=by
 intro j i
 induction i with
 | zero=>intro _ hj;omega
 | succ i ih =>
  intro hi hj
  have h1:=((qd h hi).2.2 i rfl).1
  by_cases e : j=i
  ·subst e;exact h1
  ·have:=ih (by omega) (by omega)
   omega
variable {C : CC} (hC : aj prog C)
include hC
theorem nh (k : Int × Int) (x : Int) : C 97 [.agg (knD k),.int .i64 x] (.int .i64 (if k.1 < x then -1 else if x < k.1 then 1 else 0)) []:=by
 refine au hC (nf:=N97) rfl rfl ?_
 simp [N97,knD]
 refine ae (fun c=>?_) (fun c=>?_)
 ·simp at c
  simp [c]
 ·simp at c
  have c1 : ¬ k.1 < x:=by omega
  simp [c1]
  refine ae (fun c2=>?_) (fun c2=>?_)
  ·simp at c2
   simp [c2,c]
  ·simp at c2
   have c3 : ¬ x < k.1:=by omega
   simp [c3,c]
theorem wz (b : Bool) (t : List (Int × Int)) (x : Int) (h : aO t=true) (n : Nat) (hn : n + 1=t.length) (hx : t[n].1=x) : C 96 [slx b (t.map knD),.int .i64 x,.fn 97 []] (.tup [.int .i64 n,.bool true]) []:=by
 obtain ⟨l1,l2⟩:=fq h
 refine au hC (nf:=N96) rfl rfl ?_
 simp [N96]
 refine ay (Nat × Nat) (fun s=>[(0,slx b (t.map knD)),(1,.int .i64 x),(2,.fn 97 []),(8,.int .i64 t.length),(9,.int .i64 s.1),(10,.int .i64 s.2)]) (fun s=>s.1 <= n /\ n <= s.2 /\ s.2 <= n + 1) (fun s=>s.2 - s.1) (0,t.length) (by simp;omega) (by simp) ?_
 rintro ⟨i,j⟩ ⟨h1,h2,h3⟩
 simp only at h1 h2 h3
 simp
 refine ae (fun c=>?_) (fun c=>?_) <;> simp [c] <;> simp at c
 ·obtain ⟨m,hm⟩ : ∃ m,m=(i + j) / 2:=⟨_,rfl⟩
  have e1 : IntKind.wrap .i64 ((i : Int) + (j : Int))=((i + j : Nat) : Int):=ai (by omega) (by omega)
  obtain ⟨s,hs⟩ : ∃ s,s=i + j:=⟨_,rfl⟩
  rw [<- hs] at e1 hm
  have e2 : Int.fdiv (s : Int) (2 ^ min 1 IntKind.u64.bits)=(m : Int):=by rw [hm];exact p8 s 1
  have e3 : IntKind.wrap .i64 (m : Int)=(m : Int):=ai rfl (by omega)
  have e4 : IntKind.wrap .i64 ((m : Int) + 1)=((m + 1 : Nat) : Int):=ai (by omega) (by omega)
  have hml : m < t.length:=by omega
  simp [e1,cC s (by omega),e2,e3,hml]
  have hc:=nh hC t[m] x
  simp [knD] at hc ⊢
  refine aa hc (.inl rfl) ?_
  by_cases hmn : m < n
  ·have:=ut h m n (by omega) hmn
   have hlt : t[m].1 < x:=by omega
   simp [hlt,e4]
   exact ⟨m + 1,j,⟨by omega,h2,h3⟩,by omega,by omega,by omega⟩
  ·have : m=n:=by omega
   subst this
   simp [hx]
   exact ⟨i,m,⟨by omega,by omega,by omega⟩,by omega,by omega,by omega⟩
 ·have : i=n:=by omega
  subst this
  have hil : i < t.length:=by omega
  simp [hil]
  have hc:=nh hC t[i] x
  simp [knD,hil] at hc ⊢
  refine aa hc (.inl rfl) ?_
  simp [hx]
theorem yz (b : Bool) (t : List (Int × Int)) (x : Int) (h : aO t=true) (n : Nat) (hn : n + 1=t.length) (hx : t[n].1=x) : C 90 [slx b (t.map knD),.int .i64 x] (.tup [.int .i64 t[n].2,.int .i64 0,.int .i64 1]) []:=by
 refine au hC (nf:=N90) rfl rfl ?_
 have hnl : n < t.length:=by omega
 simp [N90]
 refine aa (wz hC b t x h n hn hx) (.inl rfl) ?_
 simp [knD,hnl]
theorem uy (b : Bool) (t : List (Int × Int)) (x : Int) (h : aO t=true) (n : Nat) (hn : n + 1=t.length) (hx : t[n].1=x) : C 73 [slx b (t.map knD),.int .i64 x] (.tup [.int .i64 t[n].2,.int .i64 0]) []:=by
 refine au hC (nf:=N73) rfl rfl ?_
 simp [N73]
 refine aa (fg hC b t) (.inl rfl) ?_
 simp [h]
 refine aa (yz hC b t x h n hn hx) (.inl rfl) ?_
 simp
end Go.Gv

namespace Go.Gv
theorem lg {l l' : List Nat} (h1 : l.Pairwise (· < ·)) (h2 : l'.Pairwise (· < ·)) (h : ∀ x,x ∈ l ↔ x ∈ l') : l=l':=by
 have e:=jx (l:=l.map fun k : Nat=>(k : Int)) (l':=l'.map fun k : Nat=>(k : Int)) (by rw [List.pairwise_map];exact h1.imp fun h=>by omega) (by rw [List.pairwise_map];exact h2.imp fun h=>by omega) (fun x=>by
  simp only [List.mem_map]
  exact ⟨fun ⟨a,b,c⟩=>⟨a,(h a).1 b,c⟩,fun ⟨a,b,c⟩=>⟨a,(h a).2 b,c⟩⟩)
 have e2:=congrArg (List.map Int.toNat) e
 rw [List.map_map,List.map_map] at e2
 have f : (Int.toNat ∘ fun k : Nat=>(k : Int))=id:=by funext k;simp
 rw [f,List.map_id,List.map_id] at e2
 exact e2
def dj (l : List Nat) (x : Nat) : Nat:=l.findIdx fun k=>decide (x <= k)
theorem sn (l : List Nat) (x : Nat) : dj l x <= l.length:=List.findIdx_le_length
theorem so {l : List Nat} {x j : Nat} (h : j < dj l x) (hl : j < l.length) : l[j] < x:=by
 have:=List.not_of_lt_findIdx h
 simp at this
 exact this
theorem yB {l : List Nat} {x : Nat} (h : dj l x < l.length) : x <= l[dj l x]:=by
 have h2:=List.findIdx_getElem (w:=h)
 exact of_decide_eq_true h2
theorem rb {l : List Nat} {x j : Nat} (hl : j < l.length) (h : x <= l[j]) : dj l x <= j:=by
 apply Nat.le_of_not_lt
 intro hj
 have:=so hj hl
 omega
theorem mw {l : List Nat} (hs : l.Pairwise (· < ·)) {x j : Nat} (hl : j < l.length) (h : l[j] < x) : j < dj l x:=by
 apply Nat.lt_of_not_le
 intro hj
 have h1:=yB (l:=l) (x:=x) (by omega)
 rcases Nat.lt_or_eq_of_le hj with h2 | h2
 ·have:=List.pairwise_iff_getElem.1 hs (dj l x) j (by omega) hl h2
  omega
 ·simp only [h2] at h1;omega
theorem qN {l : List Nat} {x : Nat} (hs : l.Pairwise (· < ·)) (hx : x ∉ l) : (l.take (dj l x)++x::l.drop (dj l x)).Pairwise (· < ·):=by
 have hp:=hs
 rw [<- List.take_append_drop (dj l x) l,List.pairwise_append] at hp
 obtain ⟨h1,h2,h3⟩:=hp
 have lo : ∀ a ∈ l.take (dj l x),a < x:=fun a ha=>by
  obtain ⟨i,hi,rfl⟩:=List.mem_iff_getElem.1 ha
  have h4 : i < dj l x /\ i < l.length:=by simp at hi;omega
  rw [List.getElem_take]
  exact so h4.1 h4.2
 have hi : ∀ a ∈ l.drop (dj l x),x < a:=fun a ha=>by
  obtain ⟨i,hi,rfl⟩:=List.mem_iff_getElem.1 ha
  have hlt : dj l x + i < l.length:=by simp at hi;omega
  rw [List.getElem_drop]
  have hne : l[dj l x + i] ≠ x:=fun e=>hx (e ▸ List.getElem_mem hlt)
  have : ¬ l[dj l x + i] < x:=fun h=>by have:=mw hs hlt h;omega
  omega
 rw [List.pairwise_append,List.pairwise_cons]
 refine ⟨h1,⟨hi,h2⟩,fun a ha b hb=>?_⟩
 rcases List.mem_cons.1 hb with rfl | hb
 ·exact lo a ha
 ·exact h3 a ha b hb
theorem qM {n : Nat} {p q : Nat -> Bool} {x : Nat} (hx : x < n) (hp : p x=false) (hq : ∀ v,v < n -> q v=(p v || v == x)) : ((List.range n).filter p).take (dj ((List.range n).filter p) x)++x::((List.range n).filter p).drop (dj ((List.range n).filter p) x)=(List.range n).filter q:=by
 have hs : ((List.range n).filter p).Pairwise (· < ·):=List.Pairwise.filter _ List.pairwise_lt_range
 refine lg (qN hs (by simp [hp])) (List.Pairwise.filter _ List.pairwise_lt_range) fun v=>?_
 have : v ∈ (List.range n).filter p ↔ v ∈ ((List.range n).filter p).take (dj ((List.range n).filter p) x) \/ v ∈ ((List.range n).filter p).drop (dj ((List.range n).filter p) x):=by
  rw [<- List.mem_append,List.take_append_drop]
 simp only [List.mem_append,List.mem_cons]
 rw [or_left_comm,<- this]
 simp only [List.mem_filter,List.mem_range]
 constructor
 ·rintro (rfl | ⟨h1,h2⟩)
  ·exact ⟨hx,by rw [hq _ hx];simp⟩
  ·exact ⟨h1,by rw [hq _ h1,h2];rfl⟩
 ·rintro ⟨h1,h2⟩
  rw [hq _ h1,Bool.or_eq_true,beq_iff_eq] at h2
  rcases h2 with h2 | h2
  ·exact .inr ⟨h1,h2⟩
  ·exact .inl h2
structure lj (n : Nat) (es : List Edg) (out : List Nat) : Prop where
 lt : ∀ v ∈ out,v < n
 nd : out.Nodup
 pre : ∀ v ∈ out,∀ u,(u,v) ∈ es -> u ∈ out
theorem lj.nil (n : Nat) (es : List Edg) : lj n es []:=⟨by simp,by simp,by simp⟩
theorem lj.len {n : Nat} {es : List Edg} {out : List Nat} (h : lj n es out) : out.length <= n:=by
 have:=(List.nodup_range (n:=n)).sublist (List.Sublist.refl _)
 have hsub : out ⊆ List.range n:=fun v hv=>by simpa using h.lt v hv
 have:=List.Nodup.length_le_of_subset h.nd hsub
 simpa using this
theorem lj.step {n : Nat} {es : List Edg} {out : List Nat} (h : lj n es out) {i : Nat} (hi : i ∈ df n es out) : lj n es (out++[i]):=by
 obtain ⟨h1,h2,h3⟩:=iz.1 hi
 refine ⟨fun v hv=>?_,?_,fun v hv u hu=>?_⟩
 ·rcases List.mem_append.1 hv with hv | hv
  ·exact h.lt v hv
  ·simp at hv;omega
 ·rw [List.nodup_append]
  refine ⟨h.nd,by simp,fun a ha b hb=>?_⟩
  simp at hb
  subst hb
  rintro rfl
  exact h2 ha
 ·rcases List.mem_append.1 hv with hv | hv
  ·exact List.mem_append.2 (.inl (h.pre v hv u hu))
  ·simp at hv
   subst hv
   exact List.mem_append.2 (.inl (h3 u hu))
theorem jq (n : Nat) (es : List Edg) : ∀ m,lj n es (aU n es m)
 | 0=>.nil n es
 | m + 1=>by
  have ih:=jq n es m
  show lj n es (iL n es (aU n es m))
  unfold iL
  split
  ·exact ih
  ·rename_i v r e
   exact ih.step (by rw [e];simp)
theorem nG {n : Nat} {es : List Edg} {m i : Nat} {r : List Nat} (h : df n es (aU n es m)=i::r) : aU n es (m + 1)=aU n es m++[i]:=by
 show iL n es (aU n es m)=_
 unfold iL
 rw [h]
theorem mo {n : Nat} {es : List Edg} {m : Nat} (h : df n es (aU n es m)=[]) : ∀ k,aU n es (m + k)=aU n es m
 | 0=>rfl
 | k + 1=>by
  show iL n es (aU n es (m + k))=_
  rw [mo h k]
  unfold iL
  rw [h]
theorem yu {n : Nat} {es : List Edg} {m : Nat} (hl : (aU n es m).length=m) (h : df n es (aU n es m)=[]) : cl n es=aU n es m:=by
 have:=(jq n es m).len
 have e:=mo h (n - m)
 rw [show m + (n - m)=n by omega] at e
 exact e
theorem gl (n : Nat) (es : List Edg) : (cl n es).length <= n:=(jq n es n).len
theorem wm {n : Nat} {es : List Edg} {out : List Nat} (h : lj n es out) {i : Nat} {r : List Nat} (hr : df n es out=i::r) : df n es (out++[i])=(List.range n).filter fun v=>(!out.contains v && ja es out v && !(v == i)) || ((nxt n es i).contains v && ja es (out++[i]) v):=by
 have hi : i ∈ df n es out:=by rw [hr];simp
 obtain ⟨h1,h2,h3⟩:=iz.1 hi
 unfold df
 apply List.filter_congr
 intro v hv
 have hvn : v < n:=by simpa using hv
 rw [Bool.eq_iff_iff]
 simp only [Bool.and_eq_true,Bool.or_eq_true,Bool.not_eq_true',List.contains_iff_mem,jV,fS,beq_eq_false_iff_ne,ne_eq]
 simp only [List.contains_eq_mem,decide_eq_false_iff_not,List.mem_append,List.mem_singleton,not_or]
 constructor
 ·rintro ⟨⟨a1,a2⟩,a3⟩
  by_cases c : (i,v) ∈ es
  ·exact .inr ⟨⟨hvn,c⟩,a3⟩
  ·refine .inl ⟨⟨a1,fun u hu=>?_⟩,a2⟩
   rcases a3 u hu with b | rfl
   ·exact b
   ·exact absurd hu c
 ·rintro (⟨⟨a1,a2⟩,a3⟩ | ⟨⟨_,a1⟩,a2⟩)
  ·exact ⟨⟨a1,a3⟩,fun u hu=>.inl (a2 u hu)⟩
  ·refine ⟨⟨fun hv=>h2 (h.pre v hv i a1),?_⟩,a2⟩
   rintro rfl
   exact h2 (h3 _ a1)
variable {C : CC} (hC : aj prog C)
include hC
theorem Bv (x : Int) : C 299 [.int .i64 x] (.bool false) []:=by
 refine au hC (nf:=N299) rfl rfl ?_
 simp [N299]
theorem Dd (x : Int) : C 524 [.int .i64 x] (.bool false) []:=by
 refine au hC (nf:=N524) rfl rfl ?_
 simp [N524]
theorem xx (x y : Int) : C 411 [.int .i64 x,.int .i64 y] (.bool (decide (x < y))) []:=by
 refine au hC (nf:=N411) rfl rfl ?_
 simp [N411]
 refine aa (Bv hC x) (.inl rfl) ?_
 simp
theorem sU (l : List Nat) (x : Nat) (hs : l.Pairwise (· < ·)) (hl : l.length < 2 ^ 40) : C 518 [.sl (aV l),.int .i64 x] (.tup [.int .i64 (dj l x),.bool (decide (dj l x < l.length) && decide (l[dj l x]! = x))]) []:=by
 have hpl:=sn l x
 obtain ⟨n,hn⟩ : ∃ n,n=dj l x:=⟨_,rfl⟩
 obtain ⟨r,hr⟩ : ∃ r,r=(decide (dj l x < l.length) && decide (l[dj l x]! = x)):=⟨_,rfl⟩
 have hlt : ∀ j,(hj : j < l.length) -> l[j] < x -> j < n:=fun j hj h1=>hn ▸ mw hs hj h1
 have hle : ∀ j,(hj : j < l.length) -> x <= l[j] -> n <= j:=fun j hj h1=>hn ▸ rb hj h1
 rw [<- hn] at hpl ⊢
 rw [<- hn] at hr
 rw [<- hr]
 refine au hC (nf:=N518) rfl rfl ?_
 simp [N518,aV]
 refine ay (Nat × Nat) (fun s=>[(0,.sl (aV l)),(1,.int .i64 x),(6,.int .i64 l.length),(7,.int .i64 s.1),(8,.int .i64 s.2)]) (fun s=>s.1 <= n /\ n <= s.2 /\ s.2 <= l.length) (fun s=>s.2 - s.1) (0,l.length) (by simp;omega) (by simp [aV]) ?_
 rintro ⟨i,j⟩ ⟨h1,h2,h3⟩
 simp only at h1 h2 h3
 simp
 refine ae (fun g=>?_) (fun g=>?_) <;> simp at g <;> simp [g]
 ·obtain ⟨m,hm⟩ : ∃ m,m=(i + j) / 2:=⟨_,rfl⟩
  have e1 : IntKind.wrap .i64 ((i : Int) + (j : Int))=((i + j : Nat) : Int):=ai (by omega) (by omega)
  obtain ⟨s,hsm⟩ : ∃ s,s=i + j:=⟨_,rfl⟩
  rw [<- hsm] at e1 hm
  have e2 : Int.fdiv (s : Int) (2 ^ min 1 IntKind.u64.bits)=(m : Int):=by rw [hm];exact p8 s 1
  have e3 : IntKind.wrap .i64 (m : Int)=(m : Int):=ai rfl (by omega)
  have e4 : IntKind.wrap .i64 ((m : Int) + 1)=((m + 1 : Nat) : Int):=ai (by omega) (by omega)
  have hml : m < l.length:=by omega
  simp [e1,cC s (by omega),e2,e3,hml,aV]
  refine aa (xx hC l[m] x) (.inl rfl) ?_
  by_cases hmx : l[m] < x
  ·have:=hlt m hml hmx
   have hi : (l[m] : Int) < x:=by omega
   simp [hmx,e4]
   exact ⟨m + 1,j,⟨by omega,h2,h3⟩,by omega,by omega,by omega⟩
  ·have:=hle m hml (by omega)
   simp [hmx]
   exact ⟨i,m,⟨h1,by omega,by omega⟩,by omega,by omega,by omega⟩
 ·have e0 : i=n:=by omega
  subst e0
  by_cases g2 : i < l.length
  ·have eg : l[i]! = l[i]:=getElem!_pos l i g2
   rw [eg] at hr
   simp [g2,aV]
   by_cases g3 : l[i]=x
   ·simp [g3,g2] at hr ⊢
    exact hr
   ·have g3i : ¬ (l[i] : Int)=x:=by omega
    simp [g3,g3i,g2] at hr ⊢
    refine aa (Dd hC _) (.inl rfl) ?_
    simp [hr]
  ·simp [g2] at hr ⊢
   exact hr
end Go.Gv

namespace Go.Gv
def wtA (n : Nat) (f : Nat -> Nat) : List (List D):=(List.range n).map fun v=>[.int .i64 (f v : Int)]
theorem i5 {n v : Nat} (f : Nat -> Nat) (h : v < n) : (wtA n f)[v]? = some [.int .i64 (f v : Int)]:=by simp [wtA,h]
theorem sH {n v : Nat} (f : Nat -> Nat) (x : Nat) : (wtA n f).set v [.int .i64 (x : Int)]=wtA n fun u=>if u=v then x else f u:=by
 unfold wtA
 rw [mP]
 apply List.map_congr_left
 intro u _
 by_cases h : u=v <;> simp [h]
theorem vV {l : List Nat} {j v : Nat} (hj : j < l.length) : v ∈ l.take (j + 1) ↔ v ∈ l.take j \/ v=l[j]:=by
 rw [List.take_succ_eq_append_getElem hj,List.mem_append,List.mem_singleton]
theorem gC {n : Nat} {f g : Nat -> Nat} (h : ∀ v,v < n -> f v=g v) : wtA n f=wtA n g:=by
 unfold wtA
 apply List.map_congr_left
 intro u hu
 rw [h u (by simpa using hu)]
def wt1 (n : Nat) (es : List Edg) (i j v : Nat) : Nat:=km es i v + (if v ∈ (nxt n es i).take j then 1 else 0)
theorem zK {n : Nat} {es : List Edg} {i v : Nat} (hv : v < n) : wt1 n es i (nxt n es i).length v=km es (i + 1) v:=by
 unfold wt1
 rw [tg,List.take_length]
 simp [fS,hv]
theorem wZ {n : Nat} {es : List Edg} {i j : Nat} (hj : j < (nxt n es i).length) (v : Nat) : wt1 n es i (j + 1) v=if v=(nxt n es i)[j] then wt1 n es i j v + 1 else wt1 n es i j v:=by
 unfold wt1
 simp only [vV hj]
 have hnd : (nxt n es i)[j] ∉ (nxt n es i).take j:=by
  intro h
  obtain ⟨k,hk,e⟩:=List.mem_iff_getElem.1 h
  have hk2 : k < j:=by simp at hk;omega
  rw [List.getElem_take] at e
  have:=(List.getElem_inj (nE n es i)).1 e
  omega
 by_cases e : v=(nxt n es i)[j]
 ·subst e
  rw [if_pos rfl,if_pos (.inr rfl),if_neg hnd]
 ·rw [if_neg e]
  congr 1
  simp only [e,or_false]
def rd0 (n : Nat) (es : List Edg) (i : Nat) : List Nat:=(List.range i).filter fun v=>decide (eu n es [] v=0)
theorem mD (n : Nat) (es : List Edg) (i : Nat) : rd0 n es (i + 1)=rd0 n es i++(if eu n es [] i=0 then [i] else []):=by
 unfold rd0
 rw [List.range_succ,List.filter_append]
 congr 1
 by_cases h : eu n es [] i=0 <;> simp [h]
theorem yG {n : Nat} {es : List Edg} (hg : inG n es) : rd0 n es n=df n es []:=by
 unfold rd0 df
 apply List.filter_congr
 intro v _
 rw [Bool.eq_iff_iff]
 simp [nj hg]
theorem yH (n : Nat) (es : List Edg) (i : Nat) : (rd0 n es i).length <= i:=by
 have:=List.length_filter_le (fun v=>decide (eu n es [] v=0)) (List.range i)
 simpa [rd0] using this
def wt2 (n : Nat) (es : List Edg) (out : List Nat) (i j v : Nat) : Nat:=if v ∈ (nxt n es i).take j then eu n es (out++[i]) v else eu n es out v
def rdp (n : Nat) (es : List Edg) (out : List Nat) (i j v : Nat) : Bool:=(!out.contains v && ja es out v && !(v == i)) || (((nxt n es i).take j).contains v && ja es (out++[i]) v)
def rd2 (n : Nat) (es : List Edg) (out : List Nat) (i j : Nat) : List Nat:=(List.range n).filter (rdp n es out i j)
theorem yL (n : Nat) (es : List Edg) (out : List Nat) (i j : Nat) : (rd2 n es out i j).length <= n:=by
 have:=List.length_filter_le (rdp n es out i j) (List.range n)
 simpa [rd2] using this
theorem si {n : Nat} {es : List Edg} {i j : Nat} (hj : j < (nxt n es i).length) : (nxt n es i)[j] ∉ (nxt n es i).take j:=by
 intro h
 obtain ⟨k,hk,e⟩:=List.mem_iff_getElem.1 h
 have hk2 : k < j:=by simp at hk;omega
 rw [List.getElem_take] at e
 have:=(List.getElem_inj (nE n es i)).1 e
 omega
theorem pN {n : Nat} {es : List Edg} {out : List Nat} {i : Nat} {r : List Nat} (h : df n es out=i::r) : rd2 n es out i 0=r:=by
 have hs : (df n es out).Pairwise (· < ·):=List.Pairwise.filter _ List.pairwise_lt_range
 have hm : ∀ v,v ∈ df n es out ↔ v=i \/ v ∈ r:=fun v=>by rw [h];simp
 rw [h,List.pairwise_cons] at hs
 refine lg (List.Pairwise.filter _ List.pairwise_lt_range) hs.2 fun v=>?_
 have h2:=hm v
 simp only [rd2,rdp,List.mem_filter,List.mem_range,List.take_zero,List.contains_nil,Bool.false_and,Bool.or_false,Bool.and_eq_true,Bool.not_eq_true',beq_eq_false_iff_ne]
 simp only [df,List.mem_filter,List.mem_range,Bool.and_eq_true,Bool.not_eq_true'] at h2
 constructor
 ·rintro ⟨a,b,c⟩
  rcases h2.1 ⟨a,b⟩ with e | e
  ·exact absurd e c
  ·exact e
 ·intro hv
  obtain ⟨a,b⟩:=h2.2 (.inr hv)
  refine ⟨a,b,?_⟩
  rintro rfl
  have:=hs.1 v hv
  omega
theorem yJ {n : Nat} {es : List Edg} {out : List Nat} (h : lj n es out) {i : Nat} {r : List Nat} (hr : df n es out=i::r) : rd2 n es out i (nxt n es i).length=df n es (out++[i]):=by
 rw [wm h hr]
 unfold rd2 rdp
 rw [List.take_length]
theorem zM {n : Nat} {es : List Edg} {out : List Nat} {i : Nat} (hi : i < n) (ho : i ∉ out) {v : Nat} (hv : v < n) : wt2 n es out i (nxt n es i).length v=eu n es (out++[i]) v:=by
 unfold wt2
 rw [List.take_length]
 split
 ·rfl
 ·rename_i h
  rw [ni hi ho,if_neg (fun e=>h (fS.2 ⟨hv,e⟩)),Nat.add_zero]
theorem qg {n : Nat} {es : List Edg} {out : List Nat} {i j : Nat} (hj : j < (nxt n es i).length) (v : Nat) : wt2 n es out i (j + 1) v=if v=(nxt n es i)[j] then eu n es (out++[i]) v else wt2 n es out i j v:=by
 unfold wt2
 simp only [vV hj]
 by_cases e : v=(nxt n es i)[j]
 ·rw [if_pos e,if_pos (.inr e)]
 ·rw [if_neg e]
  simp only [e,or_false]
theorem pO {n : Nat} {es : List Edg} {out : List Nat} {i j : Nat} (hj : j < (nxt n es i).length) (v : Nat) : rdp n es out i (j + 1) v=(rdp n es out i j v || (v == (nxt n es i)[j] && ja es (out++[i]) v)):=by
 unfold rdp
 rw [List.take_succ_eq_append_getElem hj]
 rw [Bool.eq_iff_iff]
 simp only [Bool.or_eq_true,Bool.and_eq_true,List.contains_iff_mem,List.mem_append,List.mem_singleton,beq_iff_eq]
 constructor
 ·rintro (h | ⟨h | h,h'⟩)
  ·exact .inl (.inl h)
  ·exact .inl (.inr ⟨h,h'⟩)
  ·exact .inr ⟨h,h'⟩
 ·rintro ((h | ⟨h,h'⟩) | ⟨h,h'⟩)
  ·exact .inl h
  ·exact .inr ⟨.inl h,h'⟩
  ·exact .inr ⟨.inr h,h'⟩
theorem wk {n : Nat} {es : List Edg} {out : List Nat} {i j : Nat} (hj : j < (nxt n es i).length) (h : ja es (out++[i]) (nxt n es i)[j]=false) : rd2 n es out i (j + 1)=rd2 n es out i j:=by
 unfold rd2
 apply List.filter_congr
 intro v _
 rw [pO hj]
 by_cases e : v=(nxt n es i)[j]
 ·subst e;simp [h]
 ·simp [e]
theorem yK {n : Nat} {es : List Edg} {out : List Nat} (hI : lj n es out) {i : Nat} {r : List Nat} (hr : df n es out=i::r) {j : Nat} (hj : j < (nxt n es i).length) (h : ja es (out++[i]) (nxt n es i)[j]=true) :
  (rd2 n es out i j).take (dj (rd2 n es out i j) (nxt n es i)[j])++(nxt n es i)[j]::(rd2 n es out i j).drop (dj (rd2 n es out i j) (nxt n es i)[j])=rd2 n es out i (j + 1):=by
 obtain ⟨h1,h2⟩:=fS.1 (List.getElem_mem hj)
 have hi : i ∈ df n es out:=by rw [hr];simp
 obtain ⟨i1,i2,i3⟩:=iz.1 hi
 refine qM h1 ?_ (fun v _=>?_)
 ·unfold rdp
  rw [Bool.or_eq_false_iff]
  constructor
  ·have : ja es out (nxt n es i)[j]=false:=by
    rw [<- Bool.not_eq_true,jV]
    exact fun h=>i2 (h _ h2)
   simp [this]
  ·have:=si hj
   simp [this]
 ·rw [pO hj]
  by_cases e : v=(nxt n es i)[j]
  ·rw [e,h,Bool.and_true]
  ·have e' : (v == (nxt n es i)[j])=false:=by simpa using e
   rw [e',Bool.false_and]
theorem yI (n : Nat) (es : List Edg) (out : List Nat) (i j : Nat) : (rd2 n es out i j).Pairwise (· < ·):=List.Pairwise.filter _ List.pairwise_lt_range
theorem wl (n : Nat) (es : List Edg) (out : List Nat) : (df n es out).length <= n:=by
 have:=List.length_filter_le (fun v=>!out.contains v && ja es out v) (List.range n)
 simpa [df] using this
end Go.Gv

namespace Go.Gv
def ndR (n : Nat) (es : List Edg) : List (List D):=(List.range n).map fun v=>[ndD (nxt n es v)]
theorem sf {n v : Nat} (es : List Edg) (h : v < n) : (ndR n es)[v]? = some [ndD (nxt n es v)]:=by simp [ndR,h]
theorem Qy (n : Nat) (es : List Edg) (i : Nat) : wt1 n es i 0=km es i:=by funext v;simp [wt1]
theorem Qz (n : Nat) (es : List Edg) (out : List Nat) (i : Nat) : wt2 n es out i 0=eu n es out:=by funext v;simp [wt2]
theorem yn (n : Nat) (es : List Edg) : (ndR n es).length=n:=by simp [ndR]
theorem fz {l : List Nat} {j : Nat} (h : j < l.length) : (aV l)[j]? = some [.int .i64 (l[j] : Int)]:=by simp [aV,h]
variable {C : CC} (hC : aj prog C)
include hC
set_option maxHeartbeats 1000000 in
theorem yv (hS : SlC C) {b : Bool} {n : Nat} {es : List Edg} (hn : n <= 300) (he : es.length <= 1000) (hg : inG n es) : C 504 [.int .i64 n,slx b (es.map edK)] (ndD (cl n es)) []:=by
 have kn:=CU hC hS (b:=b) hn he hg
 have enx : CW n es=.sl (ndR n es):=rfl
 rw [enx] at kn
 refine au hC (nf:=N504) rfl rfl ?_
 simp [N504]
 refine aa kn (.inr rfl) ?_
 simp [yn]
 refine ⟨by omega,?_⟩
 refine ay Nat (fun i=>[(5,.sl (ndR n es)),(6,.ref (.r 10096) 0 n),(10096,.blk 1 (wtA n (km es i))),(25,.sl (ndR n es)),(26,.int .i64 n),(27,.int .i64 i)]) (fun i=>i <= n) (fun i=>n - i) 0 (by simp) (by simp [wtA,km,su]) ?_
 rintro i hi
 simp
 refine ae (fun h=>?_) (fun h=>?_) <;> simp [h] <;> simp at h
 ·have hw : IntKind.wrap .i64 ((i : Int) + 1)=((i + 1 : Nat) : Int):=ai (by omega) (by omega)
  have hlen:=sg n es i
  simp [h,bA (sf es h),ndD,aW]
  refine ay Nat (fun j=>[(5,.sl (ndR n es)),(6,.ref (.r 10096) 0 n),(10096,.blk 1 (wtA n (wt1 n es i j))),(25,.sl (ndR n es)),(26,.int .i64 n),(27,.int .i64 i),(31,.sl (aV (nxt n es i))),(32,.int .i64 (nxt n es i).length),(33,.int .i64 j)]) (fun j=>j <= (nxt n es i).length) (fun j=>(nxt n es i).length - j) 0 (by simp) (by simp [Qy,ndD]) ?_
  rintro j hj
  simp
  refine ae (fun g=>?_) (fun g=>?_) <;> simp [g] <;> simp at g
  ·have hw2 : IntKind.wrap .i64 ((j : Int) + 1)=((j + 1 : Nat) : Int):=ai (by omega) (by omega)
   obtain ⟨k1,k2⟩:=fS.1 (List.getElem_mem g)
   have kle:=xD es i (nxt n es i)[j]
   have hwv : IntKind.wrap .i64 ((wt1 n es i j (nxt n es i)[j] : Int) + 1)=((wt1 n es i j (nxt n es i)[j] + 1 : Nat) : Int):=ai (by omega) (by unfold wt1;split <;> omega)
   simp [g,bA (fz g),k1,aY (i5 _ k1),i5 _ k1,hwv]
   refine ⟨j + 1,by omega,by omega,?_,hw2⟩
   have e1:=sH (n:=n) (v:=(nxt n es i)[j]) (wt1 n es i j) (wt1 n es i j (nxt n es i)[j] + 1)
   rw [show ((wt1 n es i j (nxt n es i)[j] + 1 : Nat) : Int)=(wt1 n es i j (nxt n es i)[j] : Int) + 1 by omega] at e1
   rw [e1]
   refine gC fun v _=>?_
   rw [wZ g]
   split
   ·rename_i e;rw [e]
   ·rfl
  ·have ej : j=(nxt n es i).length:=by omega
   subst ej
   simp [hw]
   exact ⟨i + 1,by omega,by omega,gC fun v hv=>zK hv,by omega⟩
 ·have ei : n=i:=by omega
  subst ei
  clear h hi
  have e0 : wtA n (km es n)=wtA n (eu n es []):=gC fun v _=>u4 n es v
  rw [e0]
  refine ay Nat (fun i=>[(5,.sl (ndR n es)),(6,.ref (.r 10096) 0 n),(10096,.blk 1 (wtA n (eu n es []))),(11,.ref (.r 10176) 0 (rd0 n es i).length),(10176,.blk 1 (aV (rd0 n es i))),(12,.ref (.r 10192) 0 0),(10192,.blk 1 []),(45,.ref (.r 10096) 0 n),(46,.int .i64 n),(47,.int .i64 i)]) (fun i=>i <= n) (fun i=>n - i) 0 (by simp) (by simp [rd0,aV]) ?_
  rintro i hi
  simp
  refine ae (fun h=>?_) (fun h=>?_) <;> simp [h] <;> simp at h
  ·have hw : IntKind.wrap .i64 ((i : Int) + 1)=((i + 1 : Nat) : Int):=ai (by omega) (by omega)
   have hrl:=yH n es i
   simp [h,aY (i5 _ h),i5 _ h]
   refine ae (fun c=>?_) (fun c=>?_) <;> simp at c <;> simp [c,aW]
   ·refine ⟨by omega,i + 1,by omega,by omega,?_,?_,hw⟩
    ·rw [mD,if_pos c];simp
    ·rw [gk,jM,mD,if_pos c]
   ·simp [hw]
    refine ⟨i + 1,by omega,by omega,?_⟩
    rw [mD,if_neg c,List.append_nil]
    exact ⟨rfl,rfl,by omega⟩
  ·have ei : i=n:=by omega
   rw [ei,yG hg]
   clear ei h hi i
   refine ay (Nat × Nat × List (List D)) (fun s=>[(5,.sl (ndR n es)),(6,.ref (.r 10096) 0 n),(10096,.blk 1 (wtA n (eu n es (aU n es s.1)))),(11,.ref (.r 10176) s.2.1 (df n es (aU n es s.1)).length),(10176,.blk 1 s.2.2),(12,.ref (.r 10192) 0 s.1),(10192,.blk 1 (aV (aU n es s.1)))])
    (fun s=>(aU n es s.1).length=s.1 /\ s.2.1 + (df n es (aU n es s.1)).length <= s.2.2.length /\ (s.2.2.drop s.2.1).take (df n es (aU n es s.1)).length=aV (df n es (aU n es s.1))) (fun s=>n - s.1) (0,0,aV (df n es [])) (by simp [aU,aW,gk]) (by simp [aU,aV]) ?_
   rintro ⟨m,k,B⟩ ⟨hm,hkB,hB⟩
   simp only at hm hkB hB
   simp
   have hI:=jq n es m
   have hmn:=hI.len
   obtain ⟨out,hout⟩ : ∃ out,out=aU n es m:=⟨_,rfl⟩
   cases hr : df n es (aU n es m) with
   | nil =>
    have e1 : (aV (aU n es m)).map (fun e=>e.map aQ)=aV (aU n es m):=by simp [aV,aQ]
    have e2 : (aV (aU n es m)).take m=aV (aU n es m):=List.take_of_length_le (by rw [aW];omega)
    simp [hm]
    rw [e1,e2,yu hm hr]
    exact ⟨by rw [aW];omega,rfl⟩
   | cons i r =>
    have hi : i ∈ df n es (aU n es m):=by rw [hr];simp
    obtain ⟨i1,i2,i3⟩:=iz.1 hi
    have hrl:=wl n es (aU n es m)
    rw [hr] at hkB hB hrl
    simp only [List.length_cons] at hkB hB hrl
    have hBk : B[k]? = some [.int .i64 (i : Int)]:=by
     have:=congrArg (fun l=>l[0]?) hB
     simpa [aV] using this
    have hBr : (B.drop (k + 1)).take r.length=aV r:=by
     have:=congrArg (fun l=>l.drop 1) hB
     simp only [List.drop_take,List.drop_drop] at this
     simpa [aV] using this
    have hS1:=hI.step hi
    have hsl:=hS1.len
    have eN:=nG hr
    have e2 : (aV (aU n es m)).take m=aV (aU n es m):=List.take_of_length_le (by rw [aW];omega)
    have hlen:=sg n es i
    simp only [List.length_append,List.length_singleton,hm] at hsl
    simp [aY hBk]
    refine ⟨by rw [aW];omega,by omega,?_⟩
    rw [e2,jM,<- eN]
    simp [bA (sf es i1),ndD,aW]
    refine ay (Nat × Nat × List (List D)) (fun s=>[(5,.sl (ndR n es)),(6,.ref (.r 10096) 0 n),(10096,.blk 1 (wtA n (wt2 n es (aU n es m) i s.1))),(11,.ref (.r 10176) s.2.1 (rd2 n es (aU n es m) i s.1).length),(10176,.blk 1 s.2.2),(12,.ref (.r 10192) 0 (m + 1)),(10192,.blk 1 (aV (aU n es (m + 1)))),(74,.sl (aV (nxt n es i))),(75,.int .i64 (nxt n es i).length),(76,.int .i64 s.1)])
     (fun s=>s.1 <= (nxt n es i).length /\ s.2.1 + (rd2 n es (aU n es m) i s.1).length <= s.2.2.length /\ (s.2.2.drop s.2.1).take (rd2 n es (aU n es m) i s.1).length=aV (rd2 n es (aU n es m) i s.1)) (fun s=>(nxt n es i).length - s.1) (0,k + 1,B) (by simp [pN hr];exact ⟨by omega,hBr⟩) (by simp [pN hr,ndD,Qz]) ?_
    rintro ⟨j,k',B'⟩ ⟨hj,hkB',hB'⟩
    simp only at hj hkB' hB'
    simp
    refine ae (fun g=>?_) (fun g=>?_) <;> simp [g] <;> simp at g
    ·have hw2 : IntKind.wrap .i64 ((j : Int) + 1)=((j + 1 : Nat) : Int):=ai (by omega) (by omega)
     obtain ⟨k1,k2⟩:=fS.1 (List.getElem_mem g)
     have hw0 : wt2 n es (aU n es m) i j (nxt n es i)[j]=eu n es (aU n es m++[i]) (nxt n es i)[j] + 1:=by
      unfold wt2
      rw [if_neg (si g),ni i1 i2,if_pos k2]
     have hcl : eu n es (aU n es m++[i]) (nxt n es i)[j] <= n:=by
      have:=List.length_filter_le (fun u=>es.contains (u,(nxt n es i)[j]) && !(aU n es m++[i]).contains u) (List.range n)
      simpa [eu] using this
     have hwv : IntKind.wrap .i64 ((wt2 n es (aU n es m) i j (nxt n es i)[j] : Int) - 1)=(eu n es (aU n es m++[i]) (nxt n es i)[j] : Int):=ai (by omega) (by omega)
     have ew:=sH (n:=n) (v:=(nxt n es i)[j]) (wt2 n es (aU n es m) i j) (eu n es (aU n es m++[i]) (nxt n es i)[j])
     have ew2 : (wtA n fun u=>if u=(nxt n es i)[j] then eu n es (aU n es m++[i]) (nxt n es i)[j] else wt2 n es (aU n es m) i j u)=wtA n (wt2 n es (aU n es m) i (j + 1)):=gC fun v _=>by
      rw [qg g]
      by_cases e : v=(nxt n es i)[j]
      ·rw [if_pos e,if_pos e,e]
      ·rw [if_neg e,if_neg e]
     rw [ew2] at ew
     have hwn : wt2 n es (aU n es m) i (j + 1) (nxt n es i)[j]=eu n es (aU n es m++[i]) (nxt n es i)[j]:=by rw [qg g,if_pos rfl]
     simp [g,bA (fz g),k1,aY (i5 _ k1),i5 _ k1,hwv,ew,hwn]
     have hl2:=yL n es (aU n es m) i j
     have p0:=nj hg (out:=aU n es m++[i]) (k:=(nxt n es i)[j])
     refine ae (fun c=>?_) (fun c=>?_) <;> simp at c
     ·have pk:=p0.1 c
      have hins:=yK hI hr g pk
      have kb:=sU hC (rd2 n es (aU n es m) i j) (nxt n es i)[j] (yI n es _ i j) (by omega)
      have hpl:=sn (rd2 n es (aU n es m) i j) (nxt n es i)[j]
      have kI:=hS.insert ((rd2 n es (aU n es m) i j).map fun k : Nat=>(k : Int)) (dj (rd2 n es (aU n es m) i j) (nxt n es i)[j]) (nxt n es i)[j] (by simpa using hpl) (by simp;omega)
      have eI : ((((rd2 n es (aU n es m) i j).map fun k : Nat=>(k : Int)).take (dj (rd2 n es (aU n es m) i j) (nxt n es i)[j])++((nxt n es i)[j] : Int)::((rd2 n es (aU n es m) i j).map fun k : Nat=>(k : Int)).drop (dj (rd2 n es (aU n es m) i j) (nxt n es i)[j])).map fun n=>[D.int .i64 n])=aV (rd2 n es (aU n es m) i (j + 1)):=by
       rw [<- hins]
       simp [aV]
       rfl
      rw [eI,<- ky] at kI
      have e4 : (aV (rd2 n es (aU n es m) i j)).map (fun e=>e.map aQ)=aV (rd2 n es (aU n es m) i j):=by simp [aV,aQ]
      have e5 : (((B'.drop k').take (rd2 n es (aU n es m) i j).length).map fun e=>e.map aQ)=aV (rd2 n es (aU n es m) i j):=by rw [hB',e4]
      simp [hkB']
      simp at e5
      rw [e5]
      refine aa kb (.inl rfl) ?_
      simp [hkB',hB']
      refine ⟨fun e he=>(ow e he).2,?_⟩
      refine rO kI ow ?_
      simp [hw2,aW]
      exact ⟨j + 1,0,aV (rd2 n es (aU n es m) i (j + 1)),⟨by omega,by simp [aW],by simp [gk]⟩,by omega,by simp⟩
     ·have pk : ja es (aU n es m++[i]) (nxt n es i)[j]=false:=by
       rw [<- Bool.not_eq_true]
       exact fun e=>c (p0.2 e)
      have hsame:=wk g pk
      simp [hw2]
      exact ⟨j + 1,k',B',⟨by omega,by rw [hsame];exact hkB',by rw [hsame];exact hB'⟩,by omega,by simp [hsame]⟩
    ·have ej : j=(nxt n es i).length:=by omega
     subst ej
     have er:=yJ hI hr
     rw [<- eN] at er
     rw [er] at hkB' hB' ⊢
     exact ⟨m + 1,k',B',⟨by rw [eN];simp [hm],hkB',hB'⟩,by omega,gC fun v hv=>by rw [zM i1 i2 hv,eN],by simp⟩
end Go.Gv

namespace Go.Gv
structure Lnk where
 name : List UInt8
 src : List UInt8
 dst : List UInt8
 kind : Int
 len : Int
 up : Int
 down : Int
 sect : List UInt8
 width : Int
 height : Int
 curveN : Bool
 curve : List (Int × Int)
 deriving Inhabited
def a8 (l : Lnk) : List D:=[.str l.name,.str l.src,.str l.dst,.int .i64 l.kind,.int .i64 l.len,.int .i64 l.up,.int .i64 l.down,.str l.sect,.int .i64 l.width,.int .i64 l.height,slx l.curveN (l.curve.map knD)]
structure Nod where
 name : List UInt8
 kind : Int
 x : Int
 y : Int
 invert : Int
 ground : Int
 shapeN : Bool
 shape : List (Int × Int)
 prot : Bool
 reserve : Int
 deriving Inhabited
def bI (n : Nod) : List D:=[.str n.name,.int .i64 n.kind,.int .i64 n.x,.int .i64 n.y,.int .i64 n.invert,.int .i64 n.ground,slx n.shapeN (n.shape.map knD),.bool n.prot,.int .i64 n.reserve]
def cT (n : Int) : Bool:=decide (-4194304 <= n) && decide (n <= 4194304)
variable {C : CC} (hC : aj prog C)
include hC
theorem cQ (n a b : Int) : C 172 [.int .i64 n,.int .i64 a,.int .i64 b] (.bool (decide (a <= n) && decide (n <= b))) []:=by
 refine au hC (nf:=N172) rfl rfl ?_
 simp [N172]
 refine ae (fun h=>?_) (fun h=>?_) <;> simp at h <;> simp [h] <;> omega
theorem vU (n : Int) : C 183 [.int .i64 n] (.bool (!cT n)) []:=by
 have e : (!cT n)=(decide (n < -4194304) || decide (4194304 < n)):=by
  rw [cT,Bool.eq_iff_iff]
  simp only [Bool.not_eq_true',Bool.and_eq_false_iff,decide_eq_false_iff_not,Bool.or_eq_true,decide_eq_true_eq]
  omega
 rw [e]
 refine au hC (nf:=N183) rfl rfl ?_
 simp [N183]
 refine ae (fun h=>?_) (fun h=>?_) <;> simp at h <;> simp [h]
 intro _;omega
theorem oy (xs : List Int) (hl : xs.length < 2 ^ 62) : C 173 [.sl (xs.map fun n=>[.int .i64 n])] (.bool (xs.all cT)) []:=by
 refine au hC (nf:=N173) rfl rfl ?_
 simp [N173]
 have h:=lZ hC (b:=false) (xs:=xs) (g:=183) (cs:=[]) (fun n=>!cT n) hl (fun n _=>vU hC n)
 rw [gr] at h
 refine aa h (.inl rfl) ?_
 simp
 rw [Bool.eq_iff_iff];simp
end Go.Gv

namespace Go.Gv
def dN (nm : List UInt8) (n : Nod) : Bool:=n.name == nm
def jN (nm : List UInt8) (l : Lnk) : Bool:=l.name == nm
variable {C : CC} (hC : aj prog C)
include hC
theorem pi {b : Bool} {xs : List Nod} {g : Nat} {cs : List D} (p : Nod -> Bool) (hs : xs.length < 2 ^ 62) (hp : ∀ x ∈ xs,C g (.agg (bI x)::cs) (.bool (p x)) []) : C 175 [slx b (xs.map fun x=>bI x),.fn g cs] (.int .i64 (cd p xs)) []:=by
 refine au hC (nf:=N175) rfl rfl ?_
 simp [N175]
 refine ay Nat (fun i=>[(0,slx b (xs.map fun x=>bI x)),(1,.fn g cs),(7,.int .i64 xs.length),(8,.int .i64 i)]) (fun i=>i <= xs.length /\ ∀ (j : Nat) (h : j < xs.length),j < i -> p xs[j]=false) (fun i=>xs.length - i) 0 (by simp) (by simp) ?_
 rintro i ⟨hi,hj⟩
 simp
 refine ae (fun h=>?_) (fun h=>?_) <;> simp [h] <;> simp at h
 ·have hw : IntKind.wrap .i64 ((i : Int) + 1)=((i + 1 : Nat) : Int):=ai (by omega) (by omega)
  have hc:=hp _ (List.getElem_mem h)
  simp [h,bI] at hc ⊢
  refine aa hc (.inl rfl) ?_
  simp
  refine ae (fun h1=>?_) (fun h1=>?_) <;> simp [h1,hw]
  ·rw [dA hj h h1]
  ·refine ⟨i + 1,⟨by omega,fun j hl hjj=>?_⟩,by omega,rfl⟩
   rcases Nat.lt_succ_iff_lt_or_eq.1 hjj with h2 | rfl
   ·exact hj j hl h2
   ·exact h1
 ·rw [fk (fun j hl=>hj j hl (by omega))]
theorem ph {b : Bool} {xs : List Lnk} {g : Nat} {cs : List D} (p : Lnk -> Bool) (hs : xs.length < 2 ^ 62) (hp : ∀ x ∈ xs,C g (.agg (a8 x)::cs) (.bool (p x)) []) : C 181 [slx b (xs.map fun x=>a8 x),.fn g cs] (.int .i64 (cd p xs)) []:=by
 refine au hC (nf:=N181) rfl rfl ?_
 simp [N181]
 refine ay Nat (fun i=>[(0,slx b (xs.map fun x=>a8 x)),(1,.fn g cs),(7,.int .i64 xs.length),(8,.int .i64 i)]) (fun i=>i <= xs.length /\ ∀ (j : Nat) (h : j < xs.length),j < i -> p xs[j]=false) (fun i=>xs.length - i) 0 (by simp) (by simp) ?_
 rintro i ⟨hi,hj⟩
 simp
 refine ae (fun h=>?_) (fun h=>?_) <;> simp [h] <;> simp at h
 ·have hw : IntKind.wrap .i64 ((i : Int) + 1)=((i + 1 : Nat) : Int):=ai (by omega) (by omega)
  have hc:=hp _ (List.getElem_mem h)
  simp [h,a8] at hc ⊢
  refine aa hc (.inl rfl) ?_
  simp
  refine ae (fun h1=>?_) (fun h1=>?_) <;> simp [h1,hw]
  ·rw [dA hj h h1]
  ·refine ⟨i + 1,⟨by omega,fun j hl hjj=>?_⟩,by omega,rfl⟩
   rcases Nat.lt_succ_iff_lt_or_eq.1 hjj with h2 | rfl
   ·exact hj j hl h2
   ·exact h1
 ·rw [fk (fun j hl=>hj j hl (by omega))]
theorem x6 {b : Bool} {xs : List (Int × Int)} {g : Nat} {cs : List D} (p : (Int × Int) -> Bool) (hs : xs.length < 2 ^ 62) (hp : ∀ x ∈ xs,C g (.agg (knD x)::cs) (.bool (p x)) []) : C 185 [slx b (xs.map fun x=>knD x),.fn g cs] (.int .i64 (cd p xs)) []:=by
 refine au hC (nf:=N185) rfl rfl ?_
 simp [N185]
 refine ay Nat (fun i=>[(0,slx b (xs.map fun x=>knD x)),(1,.fn g cs),(7,.int .i64 xs.length),(8,.int .i64 i)]) (fun i=>i <= xs.length /\ ∀ (j : Nat) (h : j < xs.length),j < i -> p xs[j]=false) (fun i=>xs.length - i) 0 (by simp) (by simp) ?_
 rintro i ⟨hi,hj⟩
 simp
 refine ae (fun h=>?_) (fun h=>?_) <;> simp [h] <;> simp at h
 ·have hw : IntKind.wrap .i64 ((i : Int) + 1)=((i + 1 : Nat) : Int):=ai (by omega) (by omega)
  have hc:=hp _ (List.getElem_mem h)
  simp [h,knD] at hc ⊢
  refine aa hc (.inl rfl) ?_
  simp
  refine ae (fun h1=>?_) (fun h1=>?_) <;> simp [h1,hw]
  ·rw [dA hj h h1]
  ·refine ⟨i + 1,⟨by omega,fun j hl hjj=>?_⟩,by omega,rfl⟩
   rcases Nat.lt_succ_iff_lt_or_eq.1 hjj with h2 | rfl
   ·exact hj j hl h2
   ·exact h1
 ·rw [fk (fun j hl=>hj j hl (by omega))]
theorem x4 {b : Bool} {xs : List (Int × Int)} {g : Nat} {cs : List D} (p : (Int × Int) -> Bool) (hs : xs.length < 2 ^ 62) (hp : ∀ x ∈ xs,C g (.agg (knD x)::cs) (.bool (p x)) []) : C 179 [slx b (xs.map fun x=>knD x),.fn g cs] (.bool (xs.any p)) []:=by
 refine au hC (nf:=N179) rfl rfl ?_
 simp [N179]
 refine aa (x6 hC p hs hp) (.inl rfl) ?_
 simp [gj]
theorem ml (b1 b2 : Bool) (ns : List Nod) (ls : List Lnk) (nm : List UInt8) (hn : ns.length < 2 ^ 62) : C 169 [.agg [slx b1 (ns.map bI),slx b2 (ls.map a8)],.str nm] (.int .i64 (cd (dN nm) ns)) []:=by
 have h1 : ∀ x ∈ ns,C 176 (.agg (bI x)::[.ptr [.str nm]]) (.bool (dN nm x)) []:=fun x _=>by
  refine au hC (nf:=N176) rfl rfl ?_
  simp [N176,bI,dN]
  rw [Bool.eq_iff_iff];simp
 refine au hC (nf:=N169) rfl rfl ?_
 simp [N169]
 refine aa (pi hC (b:=b1) _ hn h1) (.inl rfl) ?_
 simp
theorem Cs (b1 b2 : Bool) (ns : List Nod) (ls : List Lnk) (nm : List UInt8) (hn : ls.length < 2 ^ 62) : C 171 [.agg [slx b1 (ns.map bI),slx b2 (ls.map a8)],.str nm] (.int .i64 (cd (jN nm) ls)) []:=by
 have h1 : ∀ x ∈ ls,C 182 (.agg (a8 x)::[.ptr [.str nm]]) (.bool (jN nm x)) []:=fun x _=>by
  refine au hC (nf:=N182) rfl rfl ?_
  simp [N182,a8,jN]
  rw [Bool.eq_iff_iff];simp
 refine au hC (nf:=N171) rfl rfl ?_
 simp [N171]
 refine aa (ph hC (b:=b2) _ hn h1) (.inl rfl) ?_
 simp
theorem qA (b b' : Bool) (xs ys : List (Int × Int)) (hx : xs.length < 2 ^ 62) (hy : ys.length < 2 ^ 62) : C 184 [slx b (xs.map knD),slx b' (ys.map knD)] (.bool (decide (xs=ys))) []:=by
 obtain ⟨r,hr⟩ : ∃ r,r=decide (xs=ys):=⟨_,rfl⟩
 rw [<- hr]
 refine au hC (nf:=N184) rfl rfl ?_
 simp [N184]
 refine ae (fun h=>?_) (fun h=>?_) <;> simp at h <;> simp [h]
 ·rw [hr,decide_eq_false]
  intro e
  exact h (by rw [e])
 have h' : xs.length=ys.length:=by omega
 refine ay Nat (fun i=>[(0,slx b (xs.map knD)),(1,slx b' (ys.map knD)),(12,.int .i64 xs.length),(13,.int .i64 i)])
  (fun i=>i <= xs.length /\ ∀ (k : Nat) (h1 : k < xs.length) (h2 : k < ys.length),k < i -> xs[k]=ys[k]) (fun i=>xs.length - i) 0 (by simp) (by simp [h']) ?_
 rintro i ⟨hi,hok⟩
 simp
 refine ae (fun h1=>?_) (fun h1=>?_) <;> simp at h1 <;> simp [h1]
 ·have hw : IntKind.wrap .i64 ((i : Int) + 1)=((i + 1 : Nat) : Int):=ai (by omega) (by omega)
  have hy1 : i < ys.length:=by omega
  simp [h1,hy1,knD]
  refine ⟨aA (by decide +kernel),?_⟩
  by_cases h2 : xs[i]=ys[i]
  ·simp [h2,hw]
   refine ⟨i + 1,⟨by omega,fun k k1 k2 hk=>?_⟩,by omega,rfl⟩
   rcases Nat.lt_succ_iff_lt_or_eq.1 hk with h5 | rfl
   ·exact hok k k1 k2 h5
   ·exact h2
  ·have h3 : ¬ (xs[i].1=ys[i].1 /\ xs[i].2=ys[i].2):=fun e=>h2 (Prod.ext e.1 e.2)
   refine ae (fun h4=>?_) (fun h4=>?_) <;> simp at h4 <;> simp [h4]
   ·rw [hr,decide_eq_false]
    intro e
    exact h2 (by simp [e])
   ·exact absurd h4 h3
 ·rw [hr,decide_eq_true]
  exact List.ext_getElem h' fun k k1 k2=>hok k k1 k2 (by omega)
end Go.Gv

namespace Go.Gv
def fO (t : List (Int × Int)) : Int × Int:=t[t.length - 1]!
def cE (t : List (Int × Int)) (hgt most : Int) : Bool:=aO t && (t[0]!.1 == 0 && t[0]!.2 == 0) && (fO t).1 == hgt && (fO t).2 <= most
def aN (s : Sec) : Bool:=bN s.name && 1 <= s.height && s.height <= 32768 && 0 <= s.price && s.price <= 1073741824 && cE s.area s.height 1073741824 && cE s.conv s.height 1099511627776
def dQ (n l : Int) : Bool:=0 <= n && n <= 4194304 && 1 <= l && l <= 16777216
def qq (s : Sec) (fall len : Int) : Nat:=pU ((fO s.conv).2.toNat * (fO s.conv).2.toNat * fall.toNat / len.toNat)
def cJ (s : Sec) (fall len : Int) : Int × Int:=if aN s then (if dQ fall len then (if 1099511627776 < qq s fall len then (0,5) else (qq s fall len,0)) else (0,2)) else (0,1)
theorem fm {t : List (Int × Int)} {n : Nat} (hn : n + 1=t.length) : fO t=t[n]:=by
 unfold fO
 rw [show t.length - 1=n by omega,getElem!_pos t n (by omega)]
variable {C : CC} (hC : aj prog C)
include hC
theorem rN (b : Bool) (t : List (Int × Int)) (hgt most : Int) : C 59 [slx b (t.map knD),.int .i64 hgt,.int .i64 most] (.bool (cE t hgt most)) []:=by
 refine au hC (nf:=N59) rfl rfl ?_
 simp [N59]
 refine aa (fg hC b t) (.inl rfl) ?_
 cases hv : aO t
 ·simp [cE,hv]
 obtain ⟨l1,l2⟩:=fq hv
 obtain ⟨n,hn⟩ : ∃ n,n + 1=t.length:=⟨t.length - 1,by omega⟩
 have e1 : IntKind.wrap .i64 ((t.length : Int) - 1)=(n : Int):=ai (by omega) (by omega)
 have hnl : n < t.length:=by omega
 have h0 : 0 < t.length:=by omega
 have e0 : t[0]! = t[0]:=getElem!_pos t 0 h0
 simp [e1,hnl,h0,knD]
 rw [cE,fm hn,e0,hv]
 have ez : (decide (t[0].fst=0) && decide (t[0].snd=0))=(t[0].1 == 0 && t[0].2 == 0):=by rw [Bool.eq_iff_iff];simp
 rw [<- ez]
 cases hz : (decide (t[0].fst=0) && decide (t[0].snd=0))
 ·simp
 simp
 refine ae (fun c=>?_) (fun c=>?_)
 ·simp at c
  simp [c]
 ·simp at c
  simp [c]
theorem sG (s : Sec) : C 51 [.agg (a7 s)] (.bool (aN s)) []:=by
 refine au hC (nf:=N51) rfl rfl ?_
 simp [N51,a7]
 refine aa (f9 hC s.name) (.inl rfl) ?_
 cases h1 : bN s.name
 ·simp [aN,h1]
 simp
 refine ae (fun c1=>?_) (fun c1=>?_) <;> simp [c1] <;> simp at c1
 ·refine ae (fun c2=>?_) (fun c2=>?_) <;> simp [c2] <;> simp at c2
  ·refine ae (fun c3=>?_) (fun c3=>?_) <;> simp [c3] <;> simp at c3
   ·refine ae (fun c4=>?_) (fun c4=>?_) <;> simp [c4] <;> simp at c4
    ·refine aa (rN hC _ _ _ _) (.inl rfl) ?_
     cases h5 : cE s.area s.height 1073741824
     ·simp [aN,h5]
     simp
     refine aa (rN hC _ _ _ _) (.inl rfl) ?_
     simp [aN,h1,c1,c2,c3,c4,h5]
    ·simp [aN];omega
   ·simp [aN];omega
  ·simp [aN];omega
 ·simp [aN];omega
end Go.Gv

namespace Go.Gv
def bf (n a b : Int) : Bool:=decide (a <= n) && decide (n <= b)
def iD (l : Lnk) : Lnk where
 name:=l.name
 src:=l.src
 dst:=l.dst
 kind:=l.kind
 len:=if l.kind=1 then l.len else 0
 up:=l.up
 down:=if l.kind=1 \/ l.kind=4 then l.down else 0
 sect:=if l.kind=1 then l.sect else []
 width:=if l.kind=2 \/ l.kind=3 then l.width else 0
 height:=if l.kind=3 then l.height else 0
 curveN:=if l.kind=4 then l.curveN else true
 curve:=if l.kind=4 then l.curve else []
def fF (a b : Lnk) : Bool:=decide (a.name=b.name) && decide (a.src=b.src) && decide (a.dst=b.dst) && decide (a.kind=b.kind) && decide (a.len=b.len) && decide (a.up=b.up) && decide (a.down=b.down) && decide (a.sect=b.sect) && decide (a.width=b.width) && decide (a.height=b.height) && decide (a.curve=b.curve)
def mA (k : Int × Int) : Bool:=bf k.1 0 4194304 && bf k.2 0 1099511627776
def jn (l : Lnk) : Bool :=
 if l.kind=1 then bf l.len 1 16777216 && cT l.down && bN l.sect
 else if l.kind=2 then bf l.width 1 1048576
 else if l.kind=3 then bf l.width 1 32768 && bf l.height 1 32768
 else if l.kind=4 then cT l.down && decide (l.down < l.up) && aO l.curve && !(l.curve.any fun k=>!mA k)
 else false
def cx (l : Lnk) : Bool:=bN l.name && bN l.src && bN l.dst && !decide (l.src=l.dst) && cT l.up && fF l (iD l) && jn l
variable {C : CC} (hC : aj prog C)
include hC
theorem yA (l : Lnk) : C 178 [.agg (a8 l)] (.agg (a8 (iD l))) []:=by
 have hs : slx l.curveN (l.curve.map knD)=.nils \/ slx l.curveN (l.curve.map knD)=.sl (l.curve.map knD):=by
  unfold slx;split
  ·exact .inl rfl
  ·exact .inr rfl
 have e0 : D.nils=slx true []:=rfl
 refine au hC (nf:=N178) rfl rfl ?_
 simp [N178,a8,iD]
 refine ae (fun h=>?_) (fun h=>?_) <;> simp at h <;> simp [h]
 ·exact ⟨aA (by decide +kernel),e0⟩
 refine ae (fun h2=>?_) (fun h2=>?_) <;> simp at h2 <;> simp [h,h2]
 ·exact e0
 refine ae (fun h3=>?_) (fun h3=>?_) <;> simp at h3 <;> simp [h,h2,h3]
 ·exact ⟨aA (by decide +kernel),e0⟩
 refine ae (fun h4=>?_) (fun h4=>?_) <;> simp at h4 <;> simp [h,h2,h3,h4]
 ·rcases hs with hs | hs <;> rw [hs] <;> simp
  ·refine ⟨aA (by decide +kernel),?_⟩
   simp [h4,hs]
  ·refine ⟨aA (by decide +kernel),?_⟩
   simp [h4,hs]
 ·exact e0
set_option maxRecDepth 8000 in
set_option maxHeartbeats 2000000 in
theorem yQ (a b : Lnk) (ha : a.curve.length < 2 ^ 62) (hb : b.curve.length < 2 ^ 62) : C 177 [.agg (a8 a),.agg (a8 b)] (.bool (fF a b)) []:=by
 have he:=qA hC a.curveN b.curveN a.curve b.curve ha hb
 refine au hC (nf:=N177) rfl rfl ?_
 simp [N177,a8]
 refine ae (fun h0=>?_) (fun h0=>?_) <;> simp at h0 <;> simp [h0]
 rotate_left
 ·simp [fF,h0]
 refine ae (fun h1=>?_) (fun h1=>?_) <;> simp at h1 <;> simp [h1]
 rotate_left
 ·simp [fF,h1]
 refine ae (fun h2=>?_) (fun h2=>?_) <;> simp at h2 <;> simp [h2]
 rotate_left
 ·simp [fF,h2]
 refine ae (fun h3=>?_) (fun h3=>?_) <;> simp at h3 <;> simp [h3]
 rotate_left
 ·simp [fF,h3]
 refine ae (fun h4=>?_) (fun h4=>?_) <;> simp at h4 <;> simp [h4]
 rotate_left
 ·simp [fF,h4]
 refine ae (fun h5=>?_) (fun h5=>?_) <;> simp at h5 <;> simp [h5]
 rotate_left
 ·simp [fF,h5]
 refine ae (fun h6=>?_) (fun h6=>?_) <;> simp at h6 <;> simp [h6]
 rotate_left
 ·simp [fF,h6]
 refine ae (fun h7=>?_) (fun h7=>?_) <;> simp at h7 <;> simp [h7]
 rotate_left
 ·simp [fF,h7]
 refine ae (fun h8=>?_) (fun h8=>?_) <;> simp at h8 <;> simp [h8]
 rotate_left
 ·simp [fF,h8]
 refine ae (fun h9=>?_) (fun h9=>?_) <;> simp at h9 <;> simp [h9]
 rotate_left
 ·simp [fF,h9]
 refine aa he (.inl rfl) ?_
 simp [fF,h0,h1,h2,h3,h4,h5,h6,h7,h8,h9]
theorem tX (k : Int × Int) : C 180 [.agg (knD k)] (.bool (!mA k)) []:=by
 refine au hC (nf:=N180) rfl rfl ?_
 simp [N180,knD]
 refine aa (cQ hC k.1 0 4194304) (.inl rfl) ?_
 have e1 : (decide (0 <= k.1) && decide (k.1 <= 4194304))=bf k.1 0 4194304:=rfl
 rw [e1]
 cases h : bf k.1 0 4194304
 ·simp [mA,h]
 simp
 refine aa (cQ hC k.2 0 1099511627776) (.inl rfl) ?_
 have e2 : (decide (0 <= k.2) && decide (k.2 <= 1099511627776))=bf k.2 0 1099511627776:=rfl
 rw [e2]
 simp [mA,h]
theorem vQ (l : Lnk) (hc : l.curve.length < 2 ^ 62) : C 170 [.agg (a8 l)] (.bool (cx l)) []:=by
 have hp : (iD l).curve.length < 2 ^ 62:=by
  simp only [iD];split
  ·exact hc
  ·simp
 have k1:=f9 hC l.name
 have k2:=f9 hC l.src
 have k3:=f9 hC l.dst
 have k4:=oy hC [l.up] (by simp)
 have k5:=yA hC l
 have k6:=yQ hC l (iD l) hc hp
 obtain ⟨q,hq⟩ : ∃ q,q=fF l (iD l):=⟨_,rfl⟩
 rw [<- hq] at k6
 simp only [a8] at k5 k6
 have kf : ∀ b,jn l=b -> (b=false \/ (bN l.name=true /\ bN l.src=true /\ bN l.dst=true /\ ¬ l.src=l.dst /\ cT l.up=true /\ q=true)) -> cx l=b:=fun b h1 h2=>by
  rcases h2 with rfl | ⟨a1,a2,a3,a4,a5,a6⟩
  ·simp [cx,h1]
  ·simp [cx,h1,a1,a2,a3,a4,a5,<- hq,a6]
 refine au hC (nf:=N170) rfl rfl ?_
 simp [N170,a8]
 refine aa k1 (.inl rfl) ?_
 cases h1 : bN l.name
 ·simp
  refine ⟨aA (by decide +kernel),?_⟩
  simp [cx,h1]
 simp
 refine aa k2 (.inl rfl) ?_
 cases h2 : bN l.src
 ·simp
  refine ⟨aA (by decide +kernel),?_⟩
  simp [cx,h2]
 simp
 refine aa k3 (.inl rfl) ?_
 cases h3 : bN l.dst
 ·simp
  refine ⟨aA (by decide +kernel),?_⟩
  simp [cx,h3]
 simp
 refine ae (fun h4=>?_) (fun h4=>?_) <;> simp at h4 <;> simp [h4]
 ·refine ⟨aA (by decide +kernel),?_⟩
  simp [cx,h4]
 refine aa k4 (.inl rfl) ?_
 cases h5 : cT l.up
 ·simp [h5]
  refine ⟨aA (by decide +kernel),?_⟩
  simp [cx,h5]
 simp [h5]
 refine aa k5 (.inr rfl) ?_
 simp
 refine aa k6 (.inl rfl) ?_
 cases h6 : q
 ·simp
  refine ⟨aA (by decide +kernel),?_⟩
  simp [cx,<- hq,h6]
 simp
 refine ⟨aA (by decide +kernel),?_⟩
 have hk : cx l=jn l:=kf _ rfl (.inr ⟨h1,h2,h3,h4,h5,h6⟩)
 rw [hk]
 obtain ⟨r,hr⟩ : ∃ r,r=jn l:=⟨_,rfl⟩
 rw [<- hr]
 unfold jn at hr
 clear k1 k2 k3 k4 k5 k6 hk kf
 have lh : ∀ n a b : Int,(decide (a <= n) && decide (n <= b))=bf n a b:=fun _ _ _=>rfl
 have kd:=oy hC [l.down] (by simp)
 refine ae (fun h7=>?_) (fun h7=>?_) <;> simp at h7 <;> simp [h7]
 ·rw [if_pos h7] at hr
  refine aa (cQ hC l.len 1 16777216) (.inl rfl) ?_
  rw [lh]
  cases a1 : bf l.len 1 16777216
  ·simp [hr,a1]
  simp
  refine aa kd (.inl rfl) ?_
  cases a2 : cT l.down
  ·simp [a2,hr]
  simp [a2]
  refine aa (f9 hC l.sect) (.inl rfl) ?_
  simp [hr,a1,a2]
 rw [if_neg h7] at hr
 refine ae (fun h8=>?_) (fun h8=>?_) <;> simp at h8 <;> simp [h8]
 ·rw [if_pos h8] at hr
  refine aa (cQ hC l.width 1 1048576) (.inl rfl) ?_
  rw [lh]
  simp [hr]
 rw [if_neg h8] at hr
 refine ae (fun h9=>?_) (fun h9=>?_) <;> simp at h9 <;> simp [h9]
 ·rw [if_pos h9] at hr
  refine aa (cQ hC l.width 1 32768) (.inl rfl) ?_
  rw [lh]
  cases a1 : bf l.width 1 32768
  ·simp [hr,a1]
  simp
  refine aa (cQ hC l.height 1 32768) (.inl rfl) ?_
  rw [lh]
  simp [hr,a1]
 rw [if_neg h9] at hr
 refine ae (fun h10=>?_) (fun h10=>?_) <;> simp at h10 <;> simp [h10]
 ·rw [if_pos h10] at hr
  refine aa kd (.inl rfl) ?_
  cases a2 : cT l.down
  ·simp [a2,hr]
  simp [a2]
  refine ae (fun h11=>?_) (fun h11=>?_) <;> simp at h11 <;> simp [h11]
  ·refine aa (fg hC l.curveN l.curve) (.inl rfl) ?_
   cases a3 : aO l.curve
   ·simp [hr,a3]
   simp
   refine aa (x4 hC (b:=l.curveN) (xs:=l.curve) (g:=180) (cs:=[]) (fun k=>!mA k) hc (fun k _=>tX hC k)) (.inl rfl) ?_
   simp [hr,a2,h11,a3]
  ·have : ¬ l.down < l.up:=by omega
   simp [hr,this]
 ·rw [if_neg h10] at hr
  simp [hr]
end Go.Gv

namespace Go.Gv
def oI (n : Nod) : Bool:=!(decide (n.ground <= n.invert)) && cE n.shape (n.ground - n.invert) 1125899906842624 && !(decide (n.kind=1) && n.prot) && (if n.prot then bf n.reserve 0 (fO n.shape).2 else decide (n.reserve=0))
def AX (n : Nod) : Bool:=decide (n.invert <= n.ground) && decide (n.shape.length=0) && !n.prot && decide (n.reserve=0)
def mj (n : Nod) : Bool:=bN n.name && bf n.x (-16777216) 16777216 && bf n.y (-16777216) 16777216 && cT n.invert && cT n.ground && (if n.kind=1 \/ n.kind=2 then oI n else if n.kind=3 then AX n else false)
variable {C : CC} (hC : aj prog C)
include hC
theorem p6 (b : Bool) (t : List (Int × Int)) (hgt : Int) : C 174 [slx b (t.map knD),.int .i64 hgt] (.bool (cE t hgt 1125899906842624)) []:=by
 refine au hC (nf:=N174) rfl rfl ?_
 simp [N174]
 refine aa (fg hC b t) (.inl rfl) ?_
 cases hv : aO t
 ·simp [cE,hv]
 obtain ⟨l1,l2⟩:=fq hv
 obtain ⟨n,hn⟩ : ∃ n,n + 1=t.length:=⟨t.length - 1,by omega⟩
 have e1 : IntKind.wrap .i64 ((t.length : Int) - 1)=(n : Int):=ai (by omega) (by omega)
 have hnl : n < t.length:=by omega
 have h0 : 0 < t.length:=by omega
 have e0 : t[0]! = t[0]:=getElem!_pos t 0 h0
 simp [e1,hnl,h0,knD]
 rw [cE,fm hn,e0,hv]
 have ez : (decide (t[0].fst=0) && decide (t[0].snd=0))=(t[0].1 == 0 && t[0].2 == 0):=by rw [Bool.eq_iff_iff];simp
 rw [<- ez]
 cases hz : (decide (t[0].fst=0) && decide (t[0].snd=0))
 ·simp
 simp
 refine ae (fun c=>?_) (fun c=>?_)
 ·simp at c
  simp [c]
 ·simp at c
  simp [c]
theorem yq (n : Nod) : C 168 [.agg (bI n)] (.bool (mj n)) []:=by
 have lh : ∀ n a b : Int,(decide (a <= n) && decide (n <= b))=bf n a b:=fun _ _ _=>rfl
 have k1:=f9 hC n.name
 have k2:=cQ hC n.x (-16777216) 16777216
 have k3:=cQ hC n.y (-16777216) 16777216
 have k4:=oy hC [n.invert,n.ground] (by simp)
 rw [lh] at k2 k3
 obtain ⟨q,hq⟩ : ∃ q,q=mj n:=⟨_,rfl⟩
 rw [<- hq]
 unfold mj at hq
 refine au hC (nf:=N168) rfl rfl ?_
 simp [N168,bI]
 refine aa k1 (.inl rfl) ?_
 cases h1 : bN n.name
 ·simp [hq,h1]
 simp
 refine aa k2 (.inl rfl) ?_
 cases h2 : bf n.x (-16777216) 16777216
 ·simp [hq,h2]
 simp
 refine aa k3 (.inl rfl) ?_
 cases h3 : bf n.y (-16777216) 16777216
 ·simp [hq,h3]
 simp
 refine aa k4 (.inl rfl) ?_
 cases h4 : cT n.invert
 ·simp [hq,h4]
 cases h5 : cT n.ground
 ·simp [hq,h4,h5]
 simp [h4,h5]
 rw [h1,h2,h3,h4,h5] at hq
 simp only [Bool.true_and] at hq
 have b1 : -4194304 <= n.invert /\ n.invert <= 4194304:=by simpa [cT] using h4
 have b2 : -4194304 <= n.ground /\ n.ground <= 4194304:=by simpa [cT] using h5
 have e1 : IntKind.wrap .i64 (n.ground - n.invert)=n.ground - n.invert:=ai rfl (by omega)
 refine ae (fun hk1=>?_) (fun hk1=>?_) <;> simp at hk1 <;> simp [hk1]
 ·rw [if_pos (by omega),oI] at hq
  refine ae (fun c1=>?_) (fun c1=>?_) <;> simp at c1 <;> simp [c1]
  ·simp [hq,c1]
  have c1' : ¬ n.ground <= n.invert:=by omega
  simp [e1]
  refine aa (p6 hC n.shapeN n.shape (n.ground - n.invert)) (.inl rfl) ?_
  cases c2 : cE n.shape (n.ground - n.invert) 1125899906842624
  ·simp [hq,c2]
  simp [hk1]
  cases c3 : n.prot
  ·simp [hq,c1',c2,c3]
  ·simp [hq,c3,hk1]
 refine ae (fun hk2=>?_) (fun hk2=>?_) <;> simp at hk2 <;> simp [hk2,hk1]
 ·rw [if_pos (by omega),oI] at hq
  refine ae (fun c1=>?_) (fun c1=>?_) <;> simp at c1 <;> simp [c1]
  ·simp [hq,c1]
  have c1' : ¬ n.ground <= n.invert:=by omega
  simp [e1]
  refine aa (p6 hC n.shapeN n.shape (n.ground - n.invert)) (.inl rfl) ?_
  cases c2 : cE n.shape (n.ground - n.invert) 1125899906842624
  ·simp [hq,c2]
  simp [hk2]
  cases c3 : n.prot
  ·simp [hq,c1',c2,c3]
  have hv : aO n.shape=true:=by
   simp only [cE,Bool.and_eq_true] at c2
   exact c2.1.1.1
  obtain ⟨l1,l2⟩:=fq hv
  obtain ⟨m,hm⟩ : ∃ m,m + 1=n.shape.length:=⟨n.shape.length - 1,by omega⟩
  have e2 : IntKind.wrap .i64 ((n.shape.length : Int) - 1)=(m : Int):=ai (by omega) (by omega)
  have hml : m < n.shape.length:=by omega
  simp [e2,hml,knD]
  have kb:=cQ hC n.reserve 0 n.shape[m].2
  rw [lh] at kb
  refine aa kb (.inl rfl) ?_
  simp
  refine ⟨aA (by decide +kernel),?_⟩
  simp [hq,c1',c2,c3,hk2,fm hm]
 rw [if_neg (by omega)] at hq
 refine ae (fun hk3=>?_) (fun hk3=>?_) <;> simp at hk3 <;> simp [hk3]
 ·rw [if_pos hk3,AX] at hq
  refine ae (fun c1=>?_) (fun c1=>?_) <;> simp at c1 <;> simp [c1]
  ·refine ae (fun c2=>?_) (fun c2=>?_) <;> simp at c2 <;> simp [c2]
   ·cases c3 : n.prot
    ·simp [hq,c1,c2,c3]
    ·simp [hq,c3]
   ·simp [hq,c2]
  ·have : ¬ n.invert <= n.ground:=by omega
   simp [hq,this]
 ·rw [if_neg hk3] at hq
  simp [hq]
end Go.Gv

namespace Go.Gv
def mi (ns : List Nod) (i : Nat) : Bool:=mj ns[i]! && decide (cd (dN ns[i]!.name) ns=(i : Int))
def lY (ns : List Nod) (nm : List UInt8) : Bool:=decide (0 <= cd (dN nm) ns) && !decide (ns[(cd (dN nm) ns).toNat]!.kind=3)
def jg (ns : List Nod) (ls : List Lnk) (i : Nat) : Bool:=cx ls[i]! && decide (cd (jN ls[i]!.name) ls=(i : Int)) && lY ns ls[i]!.src && decide (0 <= cd (dN ls[i]!.dst) ns)
def ce (ns : List Nod) (ls : List Lnk) : Bool:=decide (ns.length <= 300) && decide (ls.length <= 400) && (List.range ns.length).all (mi ns) && (List.range ls.length).all (jg ns ls)
theorem ov {α : Type} {p : α -> Bool} {xs : List α} (h : 0 <= cd p xs) : (cd p xs).toNat < xs.length:=by
 unfold cd at h ⊢
 cases e : xs.findIdx? p with
 | none=>rw [e] at h;simp at h
 | some i =>
  simp
  obtain ⟨h1,_⟩:=List.findIdx?_eq_some_iff_getElem.1 e
  exact h1
variable {C : CC} (hC : aj prog C)
include hC
theorem jO (b1 b2 : Bool) (ns : List Nod) (ls : List Lnk) (hcv : ∀ l ∈ ls,l.curve.length < 2 ^ 62) : C 164 [.agg [slx b1 (ns.map bI),slx b2 (ls.map a8)]] (.bool (ce ns ls)) []:=by
 obtain ⟨r,hr⟩ : ∃ r,r=ce ns ls:=⟨_,rfl⟩
 rw [<- hr]
 unfold ce at hr
 refine au hC (nf:=N164) rfl rfl ?_
 simp [N164]
 refine ae (fun c=>?_) (fun c=>?_) <;> simp at c <;> simp [c]
 ·simp [hr,show ¬ ns.length <= 300 by omega]
 refine ae (fun c2=>?_) (fun c2=>?_) <;> simp at c2 <;> simp [c2]
 ·simp [hr,show ¬ ls.length <= 400 by omega]
 rw [decide_eq_true (show ns.length <= 300 by omega),decide_eq_true (show ls.length <= 400 by omega)] at hr
 simp only [Bool.true_and] at hr
 have badN : ∀ i,i < ns.length -> mi ns i=false -> r=false:=fun i hi h=>by
  rw [hr,Bool.and_eq_false_iff]
  exact .inl (List.all_eq_false.2 ⟨i,by simpa using hi,by simp [h]⟩)
 have badL : ∀ i,i < ls.length -> jg ns ls i=false -> r=false:=fun i hi h=>by
  rw [hr,Bool.and_eq_false_iff]
  exact .inr (List.all_eq_false.2 ⟨i,by simpa using hi,by simp [h]⟩)
 refine ay Nat (fun i=>[(1,.ptr [slx b1 (ns.map bI),slx b2 (ls.map a8)]),(19,slx b1 (ns.map bI)),(20,.int .i64 ns.length),(21,.int .i64 i)]) (fun i=>i <= ns.length /\ ∀ j < i,mi ns j=true) (fun i=>ns.length - i) 0 (by simp) (by simp) ?_
 rintro i ⟨hi,hj⟩
 simp
 refine ae (fun h=>?_) (fun h=>?_) <;> simp at h <;> simp [h]
 ·have hw : IntKind.wrap .i64 ((i : Int) + 1)=((i + 1 : Nat) : Int):=ai (by omega) (by omega)
  have bad:=badN i h
  have e1 : ns[i]! = ns[i]:=getElem!_pos ns i h
  simp only [mi,e1] at bad
  have k1:=yq hC ns[i]
  have k2:=ml hC b1 b2 ns ls ns[i].name (by omega)
  simp only [bI] at k1
  simp [bI,h]
  refine aa k1 (.inl rfl) ?_
  cases g1 : mj ns[i]
  ·simp
   exact bad (by simp [g1])
  simp
  refine aa k2 (.inl rfl) ?_
  simp
  refine ae (fun g2=>?_) (fun g2=>?_) <;> simp at g2 <;> simp [g2]
  ·exact bad (by simp [g2])
  ·simp [hw]
   refine ⟨i + 1,⟨by omega,fun k hk=>?_⟩,by omega,by simp⟩
   rcases Nat.lt_succ_iff_lt_or_eq.1 hk with h5 | rfl
   ·exact hj k h5
   ·simp [mi,e1,g1,g2]
 have hall : (List.range ns.length).all (mi ns)=true:=by
  rw [List.all_eq_true]
  intro k hk
  exact hj k (by simp at hk;omega)
 rw [hall,Bool.true_and] at hr
 clear badN hall hj
 refine ay Nat (fun i=>[(1,.ptr [slx b1 (ns.map bI),slx b2 (ls.map a8)]),(39,slx b2 (ls.map a8)),(40,.int .i64 ls.length),(41,.int .i64 i)]) (fun i=>i <= ls.length /\ ∀ j < i,jg ns ls j=true) (fun i=>ls.length - i) 0 (by simp) (by simp) ?_
 clear h hi i
 rintro i ⟨hi,hj⟩
 simp
 refine ae (fun h=>?_) (fun h=>?_) <;> simp at h <;> simp [h]
 ·have hw : IntKind.wrap .i64 ((i : Int) + 1)=((i + 1 : Nat) : Int):=ai (by omega) (by omega)
  have bad:=badL i h
  have e1 : ls[i]! = ls[i]:=getElem!_pos ls i h
  simp only [jg,e1] at bad
  have k1:=vQ hC ls[i] (hcv _ (List.getElem_mem h))
  have k2:=Cs hC b1 b2 ns ls ls[i].name (by omega)
  have k3:=ml hC b1 b2 ns ls ls[i].src (by omega)
  have k4:=ml hC b1 b2 ns ls ls[i].dst (by omega)
  have next : jg ns ls i=true -> ∃ s' : Nat,(s' <= ls.length /\ ∀ j < s',jg ns ls j=true) /\ ls.length - s' < ls.length - i /\ (i : Int) + 1=s':=fun hl=>by
   refine ⟨i + 1,⟨by omega,fun k hk=>?_⟩,by omega,by simp⟩
   rcases Nat.lt_succ_iff_lt_or_eq.1 hk with h5 | rfl
   ·exact hj k h5
   ·exact hl
  simp only [jg,e1] at next
  simp only [a8] at k1
  simp [a8,h]
  refine aa k1 (.inl rfl) ?_
  cases g1 : cx ls[i]
  ·simp
   exact bad (by simp [g1])
  simp
  refine aa k2 (.inl rfl) ?_
  simp
  refine ae (fun g2=>?_) (fun g2=>?_) <;> simp at g2 <;> simp [g2]
  ·exact bad (by simp [g2])
  refine aa k3 (.inl rfl) ?_
  simp
  refine ae (fun g3=>?_) (fun g3=>?_) <;> simp at g3 <;> simp [g3]
  ·exact bad (by simp [lY,show ¬ 0 <= cd (dN ls[i].src) ns by omega])
  have g3' : ¬ cd (dN ls[i].src) ns < 0:=by omega
  refine aa k4 (.inl rfl) ?_
  simp
  refine ae (fun g4=>?_) (fun g4=>?_) <;> simp at g4 <;> simp [g4]
  ·exact bad (by simp [show ¬ 0 <= cd (dN ls[i].dst) ns by omega])
  have g4' : ¬ cd (dN ls[i].dst) ns < 0:=by omega
  have hf:=ov g3
  obtain ⟨f,hfe⟩:=Int.eq_ofNat_of_zero_le g3
  rw [hfe] at hf ⊢
  simp at hf
  have e2 : ns[f]! = ns[f]:=getElem!_pos ns f hf
  have hfo : lY ns ls[i].src=!decide (ns[f].kind=3):=by
   simp [lY,hfe,e2]
  simp [hf,bI]
  refine ae (fun g5=>?_) (fun g5=>?_) <;> simp at g5 <;> simp [g5]
  ·exact bad (by simp [hfo,g5])
  ·simp [hw]
   exact next (by simp [hfo,g5,g1,g2,g4])
 ·have hall : (List.range ls.length).all (jg ns ls)=true:=by
   rw [List.all_eq_true]
   intro k hk
   exact hj k (by simp at hk;omega)
  rw [hr,hall]
end Go.Gv

namespace Go.Gv
def pH (n : Nat) (es : List Edg) : Int:=if (cl n es).length < n then 22 else 0
def pJ (n : Nat) (es : List Edg) : D:=if (cl n es).length < n then .nils else ndD (cl n es)
def KR (n : Nat) (es : List Edg) : Bool:=decide ((es.map (·.1)).Nodup) && decide ((cl n es).length=n)
def KJ (es : List Edg) (j : Nat) : List Nat:=(es.take j).map (·.1)
@[simp] theorem Qt (es : List Edg) : KJ es 0=[]:=rfl
def edT (es : List Edg) (j : Nat) : List (List D):=(es.take j).map edK
theorem vk {es : List Edg} {j : Nat} (h : j < es.length) : edT es (j + 1)=edT es j++[edK es[j]]:=by
 unfold edT
 rw [List.take_succ_eq_append_getElem h,List.map_append]
 rfl
@[simp] theorem QE (es : List Edg) : edT es 0=[]:=rfl
theorem rP {es : List Edg} {j : Nat} (h : j <= es.length) : (edT es j).length=j:=by simp [edT];omega
theorem xK (es : List Edg) : edT es es.length=es.map edK:=by simp [edT]
theorem HP (es : List Edg) (j : Nat) : (edT es j).map (fun e=>e.map aQ)=edT es j:=by
 unfold edT
 rw [List.map_map]
 apply List.map_congr_left
 intro e _
 simp [edK,knD,aQ]
def QK (n : Nat) (es : List Edg) (j : Nat) : List (List D):=(List.range n).map fun v=>[.bool (decide (v ∈ KJ es j))]
def ao (ns : List Nod) (ls : List Lnk) : List Edg:=ls.map fun l=>((cd (dN l.src) ns).toNat,(cd (dN l.dst) ns).toNat)
theorem da (ns : List Nod) (ls : List Lnk) : (ao ns ls).length=ls.length:=by simp [ao]
theorem ee {ns : List Nod} {ls : List Lnk} (h : ce ns ls=true) : ns.length <= 300 /\ ls.length <= 400:=by
 simp only [ce,Bool.and_eq_true,decide_eq_true_eq] at h
 exact ⟨h.1.1.1,h.1.1.2⟩
theorem kD {ns : List Nod} {ls : List Lnk} (h : ce ns ls=true) {i : Nat} (hi : i < ls.length) : cx ls[i]=true /\ cd (jN ls[i].name) ls=(i : Int) /\ 0 <= cd (dN ls[i].src) ns /\ 0 <= cd (dN ls[i].dst) ns:=by
 simp only [ce,Bool.and_eq_true,List.all_eq_true,List.mem_range] at h
 have:=h.2 i hi
 simp only [jg,getElem!_pos ls i hi,lY,Bool.and_eq_true,decide_eq_true_eq] at this
 exact ⟨this.1.1.1,this.1.1.2,this.1.2.1,this.2⟩
theorem tO {ns : List Nod} {ls : List Lnk} (h : ce ns ls=true) {i : Nat} (hi : i < ns.length) : mj ns[i]=true /\ cd (dN ns[i].name) ns=(i : Int):=by
 simp only [ce,Bool.and_eq_true,List.all_eq_true,List.mem_range] at h
 have:=h.1.2 i hi
 simpa only [mi,getElem!_pos ns i hi,Bool.and_eq_true,decide_eq_true_eq] using this
theorem jJ {ns : List Nod} {ls : List Lnk} (h : ce ns ls=true) : inG ns.length (ao ns ls):=by
 intro e he
 simp only [ao,List.mem_map] at he
 obtain ⟨l,hl,rfl⟩:=he
 obtain ⟨i,hi,rfl⟩:=List.mem_iff_getElem.1 hl
 obtain ⟨_,_,h1,h2⟩:=kD h hi
 exact ⟨ov h1,ov h2⟩
variable {C : CC} (hC : aj prog C)
include hC
theorem vG (hS : SlC C) {b : Bool} {n : Nat} {es : List Edg} (hn : n <= 300) (he : es.length <= 1000) (hg : inG n es) : C 511 [.int .i64 n,slx b (es.map edK)] (.tup [pJ n es,.int .i64 (pH n es)]) []:=by
 have k1:=vH hC b n (es.map edI) (by simp;omega)
 rw [<- xJ,BW hC hn he hg] at k1
 have k2:=yv hC hS (b:=b) hn he hg
 refine au hC (nf:=N511) rfl rfl ?_
 simp [N511]
 refine aa k1 (.inl rfl) ?_
 simp
 refine aa k2 (.inr rfl) ?_
 unfold pJ pH
 simp [ndD,aW]
 refine ae (fun c=>?_) (fun c=>?_) <;> simp at c <;> simp [c]
theorem pE (b1 b2 : Bool) (ns : List Nod) (ls : List Lnk) (hv : ce ns ls=true) : C 499 [.agg [slx b1 (ns.map bI),slx b2 (ls.map a8)]] (.sl ((ao ns ls).map edK)) []:=by
 obtain ⟨hl1,hl2⟩:=ee hv
 refine au hC (nf:=N499) rfl rfl ?_
 simp [N499]
 refine ay Nat (fun j=>[(1,.ptr [slx b1 (ns.map bI),slx b2 (ls.map a8)]),(3,.ref (.r 10048) 0 j),(10048,.blk 2 (edT (ao ns ls) j)),(7,slx b2 (ls.map a8)),(8,.int .i64 ls.length),(9,.int .i64 j)]) (fun j=>j <= ls.length) (fun j=>ls.length - j) 0 (by simp) (by simp) ?_
 rintro j hj
 simp
 refine ae (fun h=>?_) (fun h=>?_) <;> simp [h] <;> simp at h
 ·have hw : IntKind.wrap .i64 ((j : Int) + 1)=((j + 1 : Nat) : Int):=ai (by omega) (by omega)
  obtain ⟨_,_,g1,g2⟩:=kD hv h
  have k1:=ml hC b1 b2 ns ls ls[j].src (by omega)
  have k2:=ml hC b1 b2 ns ls ls[j].dst (by omega)
  have hjl : j < (ao ns ls).length:=by rw [da];exact h
  have el:=rP (es:=ao ns ls) (j:=j) (by omega)
  simp [h,a8,el]
  refine aa k1 (.inl rfl) ?_
  simp
  refine aa k2 (.inl rfl) ?_
  simp [el]
  refine ⟨by omega,aA (by decide +kernel),j + 1,by omega,by omega,rfl,?_,hw⟩
  have e2 : (edT (ao ns ls) j).take j=edT (ao ns ls) j:=List.take_of_length_le (by omega)
  rw [e2,vk hjl]
  congr 2
  simp only [ao,List.getElem_map,edK,knD]
  rw [Int.toNat_of_nonneg g1,Int.toNat_of_nonneg g2]
 ·have ej : j=ls.length:=by omega
  subst ej
  have e0:=xK (ao ns ls)
  have el:=rP (es:=ao ns ls) (j:=ls.length) (by rw [da];exact Nat.le_refl _)
  rw [da] at e0
  simp [HP,el]
  rw [<- e0,List.take_of_length_le (by omega)]
theorem oT (b1 b2 : Bool) (ns : List Nod) (ls : List Lnk) (hcv : ∀ l ∈ ls,l.curve.length < 2 ^ 62) : C 471 [.agg [slx b1 (ns.map bI),slx b2 (ls.map a8)]] (.tup (if ce ns ls then [.sl ((ao ns ls).map edK),.int .i64 0] else [.nils,.int .i64 1])) []:=by
 refine au hC (nf:=N471) rfl rfl ?_
 simp [N471]
 refine aa (jO hC b1 b2 ns ls hcv) (.inl rfl) ?_
 cases hv : ce ns ls
 ·simp
 ·simp
  refine aa (pE hC b1 b2 ns ls hv) (.inr rfl) ?_
  simp
theorem uB (hS : SlC C) (b1 b2 : Bool) (ns : List Nod) (ls : List Lnk) (hcv : ∀ l ∈ ls,l.curve.length < 2 ^ 62) : C 495 [.agg [slx b1 (ns.map bI),slx b2 (ls.map a8)]] (.tup (if ce ns ls then [pJ ns.length (ao ns ls),.int .i64 (pH ns.length (ao ns ls))] else [.nils,.int .i64 1])) []:=by
 refine au hC (nf:=N495) rfl rfl ?_
 simp [N495]
 refine aa (jO hC b1 b2 ns ls hcv) (.inl rfl) ?_
 cases hv : ce ns ls
 ·simp
 ·obtain ⟨l1,l2⟩:=ee hv
  have k:=vG hC hS (b:=false) (n:=ns.length) (es:=ao ns ls) l1 (by rw [da];omega) (jJ hv)
  simp
  refine aa (pE hC b1 b2 ns ls hv) (.inr rfl) ?_
  simp at k ⊢
  refine aa k (.inr rfl) ?_
  unfold pJ pH ndD
  split <;> simp
  ·exact ⟨aA (by decide +kernel),by omega⟩
  ·exact ⟨aA (by decide +kernel),by omega⟩
theorem pg {b : Bool} {xs : List Lnk} {g : Nat} {cs : List D} (p : Lnk -> Bool) (hs : xs.length < 2 ^ 62) (hp : ∀ x ∈ xs,C g (.agg (a8 x)::cs) (.bool (p x)) []) : C 455 [slx b (xs.map fun x=>a8 x),.fn g cs] (.bool (xs.any p)) []:=by
 refine au hC (nf:=N455) rfl rfl ?_
 simp [N455]
 refine aa (ph hC p hs hp) (.inl rfl) ?_
 simp [gj]
theorem vK {b : Bool} {xs : List Nod} {g : Nat} {cs : List D} (p : Nod -> Bool) (hs : xs.length < 2 ^ 62) (hp : ∀ x ∈ xs,C g (.agg (bI x)::cs) (.bool (p x)) []) : C 453 [slx b (xs.map fun x=>bI x),.fn g cs] (.bool (xs.any p)) []:=by
 refine au hC (nf:=N453) rfl rfl ?_
 simp [N453]
 refine aa (pi hC p hs hp) (.inl rfl) ?_
 simp [gj]
def wR (ns : List Nod) (ls : List Lnk) : Bool:=ce ns ls && ls.all (fun l=>decide (l.kind=1)) && KR ns.length (ao ns ls)
end Go.Gv

set_option maxRecDepth 4000
namespace Go.Gv
def gO (n m : Nat) (v : Int) : List (List D):=List.replicate m [.int .i64 v]++List.replicate (n - m) [.int .i64 0]
theorem pS {n m : Nat} {v : Int} (h : m <= n) : (gO n m v).length=n:=by simp [gO];omega
theorem mG (n m : Nat) (v : Int) : ∀ e ∈ gO n m v,e.length=1 /\ ∀ c ∈ e,ar c=true:=by
 intro e he
 rcases List.mem_append.1 he with h | h <;> (rw [(List.mem_replicate.1 h).2];simp [ar])
theorem nL (n m : Nat) (v : Int) : ∀ e ∈ gO n m v,∀ c ∈ e,ar c=true:=fun e he=>(mG n m v e he).2
theorem nK (n : Nat) (v : Int) : gO n n v=List.replicate n [.int .i64 v]:=by simp [gO]
theorem nM {n m : Nat} {v : Int} (h : m <= n) : il (gO n m v) m (((gO n m v).take m).take (n - m))=gO n (min n (m + m)) v:=by
 have h1 : (gO n m v).take m=List.replicate m [.int .i64 v]:=by
  unfold gO
  rw [List.take_append_of_le_length (by simp)]
  simp
 rw [h1,List.take_replicate]
 unfold il
 rw [h1,List.length_replicate]
 unfold gO
 rw [List.drop_append,List.drop_eq_nil_of_le (by simp),List.nil_append,List.length_replicate,List.drop_replicate]
 have e1 : min n (m + m)=m + min (n - m) m:=by omega
 rw [e1,<- List.replicate_append_replicate]
 congr 2
 omega
theorem rj {n : Nat} {v : Int} (h : 0 < n) : il (List.replicate n [D.int .i64 0]) 0 ([[D.int .i64 v]].take n)=gO n 1 v:=by
 have : [[D.int .i64 v]].take n=[[.int .i64 v]]:=by
  rw [List.take_of_length_le (by simp;omega)]
 rw [this]
 unfold il gO
 simp
variable {C : CC} (hC : aj prog C)
include hC
theorem wn (v : Int) (n : Nat) (hn : n < 2 ^ 40) : C 315 [.sl [[.int .i64 v]],.int .i64 n] .any [.own 1 (List.replicate n [.int .i64 v])]:=by
 have k0:=ly hC 1 n (by omega) (by omega)
 have k1 : C 333 [.int .u64 1,.int .u64 n] (.tup [.int .u64 0,.int .u64 n]) []:=by
  have e1 : 1 * n / 2 ^ 64=0:=by omega
  have e2 : 1 * n % 2 ^ 64=n:=by omega
  rw [e1,e2] at k0
  refine au hC (nf:=N333) rfl rfl ?_
  simp [N333]
  simp at k0
  refine aa k0 (.inl rfl) ?_
  simp
 have w1 : IntKind.wrap .u64 (n : Int)=n:=by
  have e : (2 : Int) ^ IntKind.bits .u64=18446744073709551616:=by decide
  have e2 : IntKind.signed .u64=false:=rfl
  simp only [IntKind.wrap,e,e2,Bool.false_and,Bool.false_eq_true,if_false]
  omega
 have w2 : IntKind.wrap .i64 (n : Int)=n:=ai (by omega) (by omega)
 refine rq hC (nf:=N315) rfl rfl ?_
 have hn0 : ¬ (n : Int) < 0:=by omega
 have hn1 : ¬ (9223372036854775807 : Int) < n:=by omega
 have hn2 : (n : Int) * 8 <= 140737488355328:=by omega
 simp [N315,w1,hn0]
 refine aa k1 (.inl rfl) ?_
 simp [w2,hn1,hn2,ar]
 refine ⟨fun h0=>?_,fun h0=>?_⟩
 ·refine ay Nat (fun m=>[(7,.ref (.r 10112) 0 n),(8,.int .i64 m),(10112,.blk 1 (gO n m v))]) (fun m=>m <= n /\ (0 < n -> 0 < m)) (fun m=>n - m) 0 ⟨by omega,by omega⟩ (by subst h0;simp [gO]) ?_
  rintro m ⟨hm,hm0⟩
  simp
  refine ae (fun h=>?_) (fun h=>?_) <;> simp at h
  ·have hm1 : 0 < m:=hm0 (by omega)
   have hl:=pS (v:=v) hm
   have hnx:=nM (v:=v) hm
   have hc:=mG n m v
   have hc1:=nL n m v
   have hnm : ¬ n - m=0:=by omega
   have hpos : 0 < n - m:=by omega
   have htk : ∀ e ∈ (gO n m v).take m,∀ c ∈ e,ar c=true:=fun e he=>hc1 e (List.mem_of_mem_take he)
   have hw : IntKind.wrap .i64 ((m : Int) + ((min m (n - m) : Nat) : Int))=((min n (m + m) : Nat) : Int):=ai (by omega) (by omega)
   simp [h,hl,hm,lq]
   try refine ⟨htk,hm1,fun hz=>absurd hz hnm,fun _=>⟨hc1,htk,aA (by decide +kernel),min n (m + m),⟨by omega,fun _=>by omega⟩,by omega,hw,hnx⟩⟩
  ·have e : m=n:=by omega
   subst e
   simp [nK]
 ·rw [rj h0]
  have h01 : min 1 n=1:=by omega
  refine ay Nat (fun m=>[(7,.ref (.r 10112) 0 n),(8,.int .i64 m),(10112,.blk 1 (gO n m v))]) (fun m=>m <= n /\ (0 < n -> 0 < m)) (fun m=>n - m) 1 ⟨by omega,by omega⟩ (by simp [h01]) ?_
  rintro m ⟨hm,hm0⟩
  simp
  refine ae (fun h=>?_) (fun h=>?_) <;> simp at h
  ·have hm1 : 0 < m:=hm0 (by omega)
   have hl:=pS (v:=v) hm
   have hnx:=nM (v:=v) hm
   have hc:=mG n m v
   have hc1:=nL n m v
   have hnm : ¬ n - m=0:=by omega
   have hpos : 0 < n - m:=by omega
   have htk : ∀ e ∈ (gO n m v).take m,∀ c ∈ e,ar c=true:=fun e he=>hc1 e (List.mem_of_mem_take he)
   have hw : IntKind.wrap .i64 ((m : Int) + ((min m (n - m) : Nat) : Int))=((min n (m + m) : Nat) : Int):=ai (by omega) (by omega)
   simp [h,hl,hm,lq]
   try refine ⟨htk,hm1,fun hz=>absurd hz hnm,fun _=>⟨hc1,htk,aA (by decide +kernel),min n (m + m),⟨by omega,fun _=>by omega⟩,by omega,hw,hnx⟩⟩
  ·have e : m=n:=by omega
   subst e
   simp [nK]
end Go.Gv

namespace Go.Gv
abbrev Sp:=Int × Int
def HU (n : Int) : Bool:=decide (-72057594037927936 <= n) && decide (n <= 72057594037927936)
def Qr (s : Sp) : Bool:=decide (s.1 <= s.2) && HU s.1 && HU s.2
def Qs (s : Sp) : Bool:=decide (s.1 < 0) || decide (1099511627776 < s.2)
def ur (l : List Sp) (count : Int) : Int:=if l.any (fun s=>!Qr s) then 1 else if (l.length : Int)=count then (if l.any Qs then 2 else 0) else 3
def KI (a b : Sp) : Sp:=(IntKind.wrap .i64 (a.1 + b.1),IntKind.wrap .i64 (a.2 + b.2))
abbrev FSt:=(Nat -> Sp) × (Nat -> Sp)
def HT (i k : Nat) (e : Edg) (s : FSt) : FSt:=if e.1=i then (fun v=>if v=e.2 then KI (s.1 e.2) (s.1 i) else s.1 v,fun q=>if q=k then s.1 i else s.2 q) else s
def flI (es : List Edg) (i : Nat) (s : FSt) : Nat -> FSt
 | 0=>s
 | k + 1=>HT i k es[k]! (flI es i s k)
def flO (es : List Edg) (ord : List Nat) (s : FSt) : Nat -> FSt
 | 0=>s
 | m + 1=>flI es ord[m]! (flO es ord s m) es.length
def flS (l : List Sp) : FSt:=(fun v=>l[v]!,fun _=>(0,0))
def lW (n : Nat) (es : List Edg) (l : List Sp) : List Sp:=(List.range es.length).map (flO es (cl n es) (flS l) (cl n es).length).2
def G5 (l : List Sp) : Bool:=l.any fun s=>decide (1099511627776 < s.2)
def vD (n : Nat) (es : List Edg) (l : List Sp) : Int:=if G5 (lW n es l) then 5 else 0
def Py (n : Nat) (es : List Edg) (l : List Sp) : D:=if G5 (lW n es l) then .nils else .sl ((lW n es l).map knD)
def spR (n : Nat) (f : Nat -> Sp) : List (List D):=(List.range n).map fun v=>knD (f v)
variable {C : CC} (hC : aj prog C)
include hC
def Bb (ns : List Nod) (ls : List Lnk) (l : List Sp) : Int:=if wR ns ls then (if ur l ns.length=0 then vD ns.length (ao ns ls) l else ur l ns.length) else 1
def OW (ns : List Nod) (ls : List Lnk) (l : List Sp) : D:=if Bb ns ls l=0 then .sl ((lW ns.length (ao ns ls) l).map knD) else .nils
end Go.Gv

namespace Go.Gv
def wS (s : Sp) : Sp:=(IntKind.wrap .i64 s.1,IntKind.wrap .i64 s.2)
def adS (a b : Sp) : Sp:=(a.1 + b.1,a.2 + b.2)
def KP (P : Nat -> Bool) (o : Nat -> Sp) : Nat -> Sp
 | 0=>(0,0)
 | k + 1=>if P k then adS (KP P o k) (o k) else KP P o k
theorem pI (n : Nat) (es : List Edg) (m : Nat) : ∀ k,aU n es m <+: aU n es (m + k)
 | 0=>List.prefix_refl _
 | k + 1=>by
  refine (pI n es m k).trans ?_
  show _ <+: iL n es (aU n es (m + k))
  unfold iL
  split
  ·exact List.prefix_refl _
  ·exact List.prefix_append _ _
theorem kE (n : Nat) (es : List Edg) : ∀ m k,(aU n es (m + k)).length <= (aU n es m).length + k
 | m,0=>by simp
 | m,k + 1=>by
  have ih:=kE n es m k
  show (iL n es (aU n es (m + k))).length <= _
  unfold iL
  split
  ·omega
  ·simp;omega
theorem nF {n : Nat} {es : List Edg} (h : (cl n es).length=n) {m : Nat} (hm : m <= n) : (cl n es).take m=aU n es m /\ (aU n es m).length=m:=by
 have h1:=kE n es 0 m
 have h2:=kE n es m (n - m)
 have h3:=pI n es m (n - m)
 rw [show m + (n - m)=n by omega] at h2 h3
 simp only [Nat.zero_add] at h1
 have h4 : (aU n es 0).length=0:=rfl
 have hl : (aU n es m).length=m:=by
  have h5 : (aU n es n).length=n:=h
  omega
 refine ⟨?_,hl⟩
 obtain ⟨t,ht⟩:=h3
 show (aU n es n).take m=_
 rw [<- ht,List.take_append_of_le_length (by omega),List.take_of_length_le (by omega)]
theorem qb {es : List Edg} (h : (es.map (·.1)).Nodup) {k k' : Nat} (hk : k < es.length) (hk' : k' < es.length) (e : es[k].1=es[k'].1) : k=k':=by
 have h1 : k < (es.map (·.1)).length:=by simpa using hk
 have h2 : k' < (es.map (·.1)).length:=by simpa using hk'
 have:=(List.getElem_inj (xs:=es.map (·.1)) (i:=k) (j:=k') (h₀:=h1) (h₁:=h2) h).1 (by simpa using e)
 exact this
def inT (es : List Edg) (v : Nat) (done : List Nat) (k : Nat) : Bool:=decide (es[k]!.2=v) && done.contains es[k]!.1
def G3 (es : List Edg) (fl : List Sp) (s0 : Sp) (v : Nat) : Nat -> Sp
 | 0=>s0
 | k + 1=>if es[k]!.2=v then KI (G3 es fl s0 v k) fl[k]! else G3 es fl s0 v k
end Go.Gv

namespace Go.Gv
def fE (es : List Edg) (v : Nat) : Option Nat:=es.findIdx? fun e=>e.1 == v
def frI : Option Nat -> Int
 | some i=>i
 | none=>-1
theorem dK {es : List Edg} {v i : Nat} (h : fE es v=some i) : ∃ hi : i < es.length,es[i].1=v /\ ∀ j (hj : j < i),¬ es[j].1=v:=by
 unfold fE at h
 rw [List.findIdx?_eq_some_iff_getElem] at h
 obtain ⟨h1,h2,h3⟩:=h
 exact ⟨h1,by simpa using h2,fun j hj=>by simpa using h3 j hj⟩
theorem rV {es : List Edg} {v : Nat} : fE es v=none ↔ v ∉ es.map (·.1):=by
 unfold fE
 rw [List.findIdx?_eq_none_iff]
 simp only [beq_eq_false_iff_ne,ne_eq,List.mem_map,not_exists,not_and]
theorem xX {es : List Edg} {j : Nat} (hj : j < es.length) (v : Nat) : fE (es.take (j + 1)) v=(fE (es.take j) v).or (if es[j].1=v then some j else none):=by
 have hl : (es.take j).length=j:=by simp;omega
 unfold fE
 rw [List.take_succ_eq_append_getElem hj,List.findIdx?_append]
 congr 1
 by_cases h : es[j].1=v
 ·rw [if_pos h];simp [List.findIdx?_cons,h,hl]
 ·rw [if_neg h];simp [List.findIdx?_cons,h]
def frA (n : Nat) (es : List Edg) (j : Nat) : List (List D):=(List.range n).map fun v=>[.int .i64 (frI (fE (es.take j) v))]
theorem vE (n : Nat) (es : List Edg) : frA n es 0=List.replicate n [.int .i64 (-1)]:=by
 apply List.ext_getElem
 ·simp [frA]
 ·intro i h1 h2
  simp [frA,fE,frI]
theorem gJ (n : Nat) (es : List Edg) (j : Nat) : (frA n es j).length=n:=by simp [frA]
theorem oo {n v : Nat} (es : List Edg) (j : Nat) (h : v < n) : (frA n es j)[v]? = some [.int .i64 (frI (fE (es.take j) v))]:=by simp [frA,h]
theorem xY {n : Nat} {es : List Edg} {j : Nat} (hj : j < es.length) (h : fE (es.take j) es[j].1=none) : (frA n es j).set es[j].1 [.int .i64 (j : Int)]=frA n es (j + 1):=by
 unfold frA
 rw [mP]
 apply List.map_congr_left
 intro v _
 rw [xX hj]
 by_cases e : v=es[j].1
 ·subst e
  rw [if_pos rfl,h,if_pos rfl];rfl
 ·rw [if_neg e,if_neg (Ne.symm e),Option.or_none]
theorem lA {o : Option Nat} : frI o=-1 ↔ o=none:=by
 cases o with
 | none=>simp [frI]
 | some i=>simp [frI]
theorem yp {es : List Edg} {j : Nat} (hj : j < es.length) (h : ((es.take j).map (·.1)).Nodup) : ((es.take (j + 1)).map (·.1)).Nodup ↔ fE (es.take j) es[j].1=none:=by
 rw [List.take_succ_eq_append_getElem hj,List.map_append,List.nodup_append,rV]
 simp only [List.map_cons,List.map_nil,List.mem_cons,List.not_mem_nil,or_false,forall_eq,List.nodup_cons,not_false_eq_true,List.nodup_nil,and_self,true_and,h]
 constructor
 ·intro h1 h2;exact h1 _ h2 rfl
 ·rintro h1 a ha rfl;exact h1 ha
theorem CT {es : List Edg} {j : Nat} (h : ¬ ((es.take j).map (·.1)).Nodup) : ¬ (es.map (·.1)).Nodup:=fun h2=>h ((((List.take_sublist j es).map _).nodup) h2)
def ppT (es : List Edg) (vs : List Nat) : List Nat:=vs.filterMap (fE es)
theorem wd {es : List Edg} {vs : List Nat} {k : Nat} (hk : k < vs.length) : ppT es (vs.take (k + 1))=ppT es (vs.take k)++(fE es vs[k]).toList:=by
 unfold ppT
 rw [List.take_succ_eq_append_getElem hk,List.filterMap_append]
 cases h : fE es vs[k] <;> simp [h]
theorem sq {es : List Edg} {vs : List Nat} {l : Nat} (h : l ∈ ppT es vs) : ∃ v ∈ vs,fE es v=some l:=by
 simpa [ppT] using h
theorem kH {es : List Edg} {vs : List Nat} {l : Nat} (h : l ∈ ppT es vs) : l < es.length:=by
 obtain ⟨v,_,hv⟩:=sq h
 exact (dK hv).1
theorem yD {es : List Edg} {vs : List Nat} (hnd : vs.Nodup) {k : Nat} (hk : k < vs.length) {l : Nat} (hl : fE es vs[k]=some l) : l ∉ ppT es (vs.take k):=by
 intro h
 obtain ⟨v,hv,hv2⟩:=sq h
 obtain ⟨h1,h2,_⟩:=dK hl
 obtain ⟨h3,h4,_⟩:=dK hv2
 have e : v=vs[k]:=by rw [<- h2,<- h4]
 subst e
 obtain ⟨j,hj,hj2⟩:=List.getElem_of_mem hv
 rw [List.getElem_take] at hj2
 have hjk : j < k:=by simp at hj;omega
 have:=(List.getElem_inj hnd).1 hj2
 omega
theorem iY (es : List Edg) (vs : List Nat) : (ppT es vs).length <= vs.length:=List.length_filterMap_le _ _
def qY (T : List Nat) (l : Nat) : Nat:=if l ∈ T then T.idxOf l else 0
def i9 (m : Nat) (T : List Nat) : List (List D):=(List.range m).map fun l=>[.int .i64 (qY T l : Int)]
theorem tP (m : Nat) : i9 m []=List.replicate m [.int .i64 0]:=by
 apply List.ext_getElem
 ·simp [i9]
 ·intro i h1 h2
  simp [i9,qY]
theorem jQ (m : Nat) (T : List Nat) : (i9 m T).length=m:=by simp [i9]
theorem vW {m l : Nat} (T : List Nat) (h : l < m) : (i9 m T)[l]? = some [.int .i64 (qY T l : Int)]:=by simp [i9,h]
theorem vX {m : Nat} {T : List Nat} {l : Nat} (h : l ∉ T) : (i9 m T).set l [.int .i64 (T.length : Int)]=i9 m (T++[l]):=by
 unfold i9
 rw [mP]
 apply List.map_congr_left
 intro v _
 unfold qY
 by_cases e : v=l
 ·subst e
  rw [if_pos rfl,if_pos (by simp),List.idxOf_append,if_neg h]
  simp
 ·rw [if_neg e]
  by_cases hv : v ∈ T
  ·rw [if_pos hv,if_pos (by simp [hv]),List.idxOf_append,if_pos hv]
  ·rw [if_neg hv,if_neg (by simp [hv,e])]
def i6 (es : List Edg) (T : List Nat) (l : Nat) : Int:=match fE es (es[l]?.getD default).2 with
 | some x=>qY T x
 | none=>-1
def ppL (n : Nat) (es : List Edg) : List Nat:=ppT es (cl n es)
def ppB (n : Nat) (es : List Edg) : List Int:=(ppL n es).map (i6 es (ppL n es))
def lp (es : List Edg) (T : List Nat) (k : Nat) : List (List D):=(T.take k).map fun l=>[.int .i64 (i6 es T l)]
theorem sT (es : List Edg) (T : List Nat) : lp es T 0=[]:=by simp [lp]
theorem sS {es : List Edg} {T : List Nat} {k : Nat} (h : k < T.length) : lp es T (k + 1)=lp es T k++[[.int .i64 (i6 es T T[k])]]:=by
 unfold lp
 rw [List.take_succ_eq_append_getElem h,List.map_append];rfl
theorem uU {es : List Edg} {T : List Nat} {k : Nat} (h : k <= T.length) : (lp es T k).length=k:=by simp [lp];omega
theorem uT (es : List Edg) (T : List Nat) : lp es T T.length=(T.map (i6 es T)).map fun b=>[.int .i64 b]:=by
 unfold lp
 rw [List.take_length,List.map_map];rfl
theorem lF (n : Nat) (es : List Edg) : (cl n es).Nodup:=(jq n es n).nd
theorem sj {n : Nat} {es : List Edg} {v : Nat} (h : v ∈ cl n es) : v < n:=(jq n es n).lt v h
def ppE (ls : List Lnk) (n : Nat) (es : List Edg) : Int:=if ls.any (fun l=>!decide (l.kind=1)) then 11 else if ¬ (es.map (·.1)).Nodup then 25 else if (cl n es).length < n then 22 else 0
end Go.Gv

set_option maxRecDepth 4000
namespace Go.Gv
def ppV (ls : List Lnk) (n : Nat) (es : List Edg) : List Nat:=if ppE ls n es=0 then ppL n es else []
def ppW (ls : List Lnk) (n : Nat) (es : List Edg) : List Int:=if ppE ls n es=0 then ppB n es else []
def cS (l : List Int) : List (List D):=l.map fun b=>[.int .i64 b]
variable {C : CC} (hC : aj prog C)
include hC
theorem qX (l : Lnk) : C 636 [.agg (a8 l)] (.bool (!decide (l.kind=1))) []:=by
 refine au hC (nf:=N636) rfl rfl ?_
 simp [N636,a8]
 try (by_cases h : l.kind=1 <;> simp [h])
theorem pL (hS : SlC C) (b1 b2 : Bool) (ns : List Nod) (ls : List Lnk) (hcv : ∀ l ∈ ls,l.curve.length < 2 ^ 62) (hv : ce ns ls=true) :
  C 605 [.agg [slx b1 (ns.map bI),slx b2 (ls.map a8)]] (.tup [.sl (aV (ppV ls ns.length (ao ns ls))),.sl (cS (ppW ls ns.length (ao ns ls))),.int .i64 (ppE ls ns.length (ao ns ls))]) []:=by
 obtain ⟨hn,hl⟩:=ee hv
 have k1:=pg hC (b:=b2) (xs:=ls) (g:=636) (cs:=[]) (fun l=>!decide (l.kind=1)) (by omega) (fun l _=>qX hC l)
 have k2:=oT hC b1 b2 ns ls hcv
 have k3:=uB hC hS b1 b2 ns ls hcv
 have k4:=wn hC (-1) ns.length (by omega)
 have hg:=jJ hv
 have hel:=da ns ls
 rw [if_pos hv] at k2 k3
 generalize hes : ao ns ls=es at *
 obtain ⟨E,hE⟩ : ∃ E,E=ppE ls ns.length es:=⟨_,rfl⟩
 obtain ⟨V,hV⟩ : ∃ V,V=ppV ls ns.length es:=⟨_,rfl⟩
 obtain ⟨W,hW⟩ : ∃ W,W=ppW ls ns.length es:=⟨_,rfl⟩
 rw [<- hE,<- hV,<- hW]
 have bad : E ≠ 0 -> V=[] /\ W=[]:=fun h=>by
  rw [hV,hW]
  unfold ppV ppW
  rw [if_neg (by rw [<- hE];exact h),if_neg (by rw [<- hE];exact h)]
  exact ⟨rfl,rfl⟩
 refine au hC (nf:=N605) rfl rfl ?_
 simp [N605]
 refine aa k1 (.inl rfl) ?_
 by_cases h1 : ls.any (fun l=>!decide (l.kind=1))=true
 ·have e1 : E=11:=by rw [hE];unfold ppE;rw [if_pos h1]
  obtain ⟨e2,e3⟩:=bad (by rw [e1];decide)
  rw [h1,e1,e2,e3]
  simp [aV,cS]
 rw [Bool.not_eq_true] at h1
 rw [h1]
 simp
 refine aa k2 (.inr rfl) ?_
 simp
 refine sY k4 ?_
 simp
 refine ay Nat (fun j=>[(1,.ptr [slx b1 (ns.map bI),slx b2 (ls.map a8)]),(2,.ref (.r 10032) 0 0),(3,.ref (.r 10048) 0 0),(5,.sl (es.map edK)),(6,.ref (.r 10096) 0 ns.length),(34,.sl (es.map edK)),(35,.int .i64 es.length),(36,.int .i64 j),(10032,.blk 1 []),(10048,.blk 1 []),(10096,.blk 1 (frA ns.length es j))]) (fun j=>j <= es.length /\ ((es.take j).map (·.1)).Nodup) (fun j=>es.length - j) 0 ⟨by omega,by simp⟩ (by simp [vE]) ?_
 rintro j ⟨hj,hnd⟩
 simp
 refine ae (fun h=>?_) (fun h=>?_) <;> simp at h
 ·have hw : IntKind.wrap .i64 ((j : Int) + 1)=((j + 1 : Nat) : Int):=ai (by omega) (by omega)
  have hej:=hg _ (List.getElem_mem h)
  have hget:=oo es j hej.1
  have hf:=yp h hnd
  simp [h,edK,knD,hej.1,aY hget]
  refine ae (fun h2=>?_) (fun h2=>?_) <;> simp at h2
  ·have h3 : ¬ (es.map (·.1)).Nodup:=CT (j:=j + 1) (fun h3=>h2 (lA.2 (hf.1 h3)))
   have e1 : E=25:=by rw [hE];unfold ppE;rw [if_neg (by rw [h1];decide),if_pos h3]
   obtain ⟨e2,e3⟩:=bad (by rw [e1];decide)
   rw [e1,e2,e3]
   simp [h2,aV,cS]
  ·have hfn:=lA.1 h2
   have hset:=xY (n:=ns.length) h hfn
   have hrow : (frA ns.length es j)[es[j].1]'(by rw [gJ];exact hej.1)=[.int .i64 (frI (fE (es.take j) es[j].1))]:=by
    have:=List.getElem?_eq_getElem (show es[j].1 < (frA ns.length es j).length by rw [gJ];exact hej.1)
    rw [hget] at this
    exact (Option.some.inj this).symm
   simp [h2,gJ,hej.1,aY hget,hrow]
   refine ⟨j + 1,⟨by omega,by rw [<- List.map_take];exact hf.2 hfn⟩,by omega,hw,hset⟩
 ·have ej : j=es.length:=by omega
  subst ej
  rw [List.take_length] at hnd
  simp [h]
  refine aa k3 (.inr rfl) ?_
  simp
  by_cases h2 : (cl ns.length es).length < ns.length
  ·have e1 : E=22:=by rw [hE];unfold ppE;rw [if_neg (by rw [h1];decide),if_neg (by simpa using hnd),if_pos h2]
   obtain ⟨e2,e3⟩:=bad (by rw [e1];decide)
   have e4 : pH ns.length es=22:=by unfold pH;rw [if_pos h2]
   have e5 : pJ ns.length es=.nils:=by unfold pJ;rw [if_pos h2]
   rw [e1,e2,e3,e4,e5]
   simp [aV,cS]
  ·have e1 : E=0:=by rw [hE];unfold ppE;rw [if_neg (by rw [h1];decide),if_neg (by simpa using hnd),if_neg h2]
   have e4 : pH ns.length es=0:=by unfold pH;rw [if_neg h2]
   have e5 : pJ ns.length es=ndD (cl ns.length es):=by unfold pJ;rw [if_neg h2]
   have e6 : V=ppT es (cl ns.length es):=by rw [hV];unfold ppV;rw [if_pos (by rw [<- hE];exact e1)];rfl
   have e7 : W=V.map (i6 es V):=by rw [hW,e6];unfold ppW;rw [if_pos (by rw [<- hE];exact e1)];rfl
   have hOl:=gl ns.length es
   have hOn:=lF ns.length es
   have hOlt:=fun v (h : v ∈ cl ns.length es)=>sj h
   generalize cl ns.length es=O at *
   have hfr : ∀ v,fE (es.take es.length) v=fE es v:=fun v=>by rw [List.take_length]
   have hib:=aW O
   have hb8 : (es.length : Int) * 8 <= 140737488355328:=by omega
   rw [e1,e4,e5]
   simp [ndD,hib,hb8,<- hel]
   refine ay Nat (fun k=>[(2,.ref (.r 10032) 0 (ppT es (O.take k)).length),(3,.ref (.r 10048) 0 0),(5,.sl (es.map edK)),(6,.ref (.r 10096) 0 ns.length),(10,.ref (.r 10160) 0 es.length),(65,.sl (aV O)),(66,.int .i64 O.length),(67,.int .i64 k),(10032,.blk 1 (aV (ppT es (O.take k)))),(10048,.blk 1 []),(10096,.blk 1 (frA ns.length es es.length)),(10160,.blk 1 (i9 es.length (ppT es (O.take k))))]) (fun k=>k <= O.length) (fun k=>O.length - k) 0 (by simp) (by simp [ppT,aV,tP]) ?_
   intro k hk
   simp
   refine ae (fun h3=>?_) (fun h3=>?_) <;> simp at h3
   ·have hw : IntKind.wrap .i64 ((k : Int) + 1)=((k + 1 : Nat) : Int):=ai (by omega) (by omega)
    have hv1:=hOlt _ (List.getElem_mem h3)
    have hget:=oo es es.length hv1
    rw [hfr] at hget
    have hTs:=wd (es:=es) h3
    have hpl : (ppT es (O.take k)).length <= k:=Nat.le_trans (iY _ _) (by simp;omega)
    have hrow : (frA ns.length es es.length)[O[k]]'(by rw [gJ];exact hv1)=[.int .i64 (frI (fE es O[k]))]:=by
     have:=List.getElem?_eq_getElem (show O[k] < (frA ns.length es es.length).length by rw [gJ];exact hv1)
     rw [hget] at this
     exact (Option.some.inj this).symm
    simp [h3,bA (fz h3),hib,hv1,aY hget,gJ]
    refine ae (fun h4=>?_) (fun h4=>?_) <;> simp at h4
    ·cases hx : fE es O[k] with
     | none=>exact absurd (lA.2 hx) h4
     | some x =>
      obtain ⟨hxl,_,_⟩:=dK hx
      have hnew:=yD (es:=es) hOn h3 hx
      have hset:=vX (m:=es.length) hnew
      rw [hx] at hTs
      generalize ppT es (O.take k)=T at *
      have hrow2 : ((i9 es.length T)[x]'(by rw [jQ];exact hxl)).length=1:=by simp [i9]
      have hb2 : (T.length + 1) * 8 <= 140737488355328:=by omega
      have htk : List.take T.length (aV T)=aV T:=List.take_of_length_le (by rw [aW];omega)
      have htl : ((i9 es.length T)[x]'(by rw [jQ];exact hxl)).tail=[]:=by simp [i9]
      simp [frI,hx,jQ,hxl,hrow2,ar,aW,hb2]
      refine ⟨k + 1,by omega,by omega,by rw [hTs];simp,hw,by rw [hTs,htk];simp [aV],by rw [hTs,htl];exact hset⟩
    ·have hx : fE es O[k]=none:=lA.1 h4
     rw [hx] at hTs
     simp [frI,hx]
     refine ⟨k + 1,by omega,by omega,?_⟩
     rw [hTs]
     simp [hw]
   ·have ek : k=O.length:=by omega
    subst ek
    rw [List.take_length] at *
    rw [<- e6]
    have hVl : V.length <= 300:=by rw [e6];exact Nat.le_trans (iY _ _) (by omega)
    have hVlt : ∀ l ∈ V,l < es.length:=fun l hl=>by rw [e6] at hl;exact kH hl
    simp [h3,aW]
    refine ay Nat (fun k=>[(2,.ref (.r 10032) 0 V.length),(3,.ref (.r 10048) 0 k),(5,.sl (es.map edK)),(6,.ref (.r 10096) 0 ns.length),(10,.ref (.r 10160) 0 es.length),(87,.ref (.r 10032) 0 V.length),(88,.int .i64 V.length),(89,.int .i64 k),(10032,.blk 1 (aV V)),(10048,.blk 1 (lp es V k)),(10096,.blk 1 (frA ns.length es es.length)),(10160,.blk 1 (i9 es.length V))]) (fun k=>k <= V.length) (fun k=>V.length - k) 0 (by simp) (by simp [sT]) ?_
    intro k hk
    simp
    refine ae (fun h3=>?_) (fun h3=>?_) <;> simp at h3
    ·have hw : IntKind.wrap .i64 ((k : Int) + 1)=((k + 1 : Nat) : Int):=ai (by omega) (by omega)
     have hl2:=hVlt _ (List.getElem_mem h3)
     have hgl:=hg _ (List.getElem_mem hl2)
     have hgE : (es.map edK)[V[k]]? = some [.int .i64 (es[V[k]].1 : Int),.int .i64 (es[V[k]].2 : Int)]:=by simp [hl2,edK,knD]
     have hgF:=oo es es.length hgl.2
     rw [show es.take es.length=es from List.take_length] at hgF
     have hB:=sS (es:=es) h3
     have hBl:=uU (es:=es) hk
     have hbl : i6 es V V[k]=(match fE es (es[V[k]]).2 with | some x=>(qY V x : Int) | none=>-1):=by
      unfold i6
      rw [List.getElem?_eq_getElem hl2];rfl
     have hb2 : (k + 1) * 8 <= 140737488355328:=by omega
     have htk : List.take k (lp es V k)=lp es V k:=List.take_of_length_le (by omega)
     simp [h3,aY (fz h3),aW,bA hgE,hl2,aY hgF,gJ,hgl.2]
     cases hx : fE es (es[V[k]]).2 with
     | none =>
      rw [hx] at hbl
      simp only at hbl
      simp [frI,ar,hBl,hb2,htk]
      refine ⟨k + 1,by omega,by omega,by omega,hw,?_⟩
      rw [hB,hbl]
     | some x =>
      obtain ⟨hxl,_,_⟩:=dK hx
      rw [hx] at hbl
      simp only at hbl
      have hne : ¬ (x : Int)=-1:=by omega
      simp [frI,hne,aY (vW V hxl),jQ,hxl,ar,hBl,hb2,htk]
      refine ⟨k + 1,by omega,by omega,by omega,hw,?_⟩
      rw [hB,hbl]
    ·have ek : k=V.length:=by omega
     subst ek
     have hBe:=uT es V
     rw [<- e7] at hBe
     have hWl : W.length=V.length:=by rw [e7,List.length_map]
     have hVV : List.take V.length (aV V)=aV V:=List.take_of_length_le (by rw [aW];omega)
     have cV : (aV V).map (fun e=>e.map aQ)=aV V:=by simp [aV,aQ]
     have cW : (cS W).map (fun e=>e.map aQ)=cS W:=by simp [cS,aQ]
     have hWt : List.take V.length (cS W)=cS W:=List.take_of_length_le (by simp [cS,hWl])
     rw [hBe]
     have c3 : List.map ((fun e=>List.map aQ e) ∘ fun b : Int=>[D.int .i64 b]) W=cS W:=by simp [cS,Function.comp_def]
     simp [h3]
     refine ⟨⟨by rw [aW];omega,by omega⟩,by rw [cV,hVV],?_⟩
     rw [c3,hWt]
end Go.Gv

namespace Go.Gv
section
variable {C : CC} {hs : Option (List Nat)} {K : Env -> Prop} {ns : List ap} {e : Env} {R : List Nat} {acc : List (List Nat × List Nat)}
theorem mS {n m : Nat} {ms : List Nat} {a v : Opd} {v1 : _} {ds : List D} {b i off sz : Nat} {es : List (List D)} {r : List D} (hv : vd (ab e) v=.agg ds) (hc : ∀ c ∈ ds,ar c=true) (hl : (m::ms).length=ds.length) (hn : (de (m::ms) ds).length=n) (ha : vd (ab e) a=.adr (.r b) i off) (hb : ab e b=.blk sz es) (hr : es[i]? = some r) (ho : off + n <= r.length)
  (hk : doW C hs K ns ⟨⟩ e R acc [(b,.blk sz (bv es i off n (de (m::ms) ds)))] [(b,false)]) : opW C hs K ns none (.st n (m::ms) a v) v1 e R acc:=by
 unfold opW
 simp only [az]
 refine ⟨trivial,?_⟩
 rw [hv]
 simp only [eT]
 refine ⟨hc,.inr hl,hn,?_⟩
 rw [ha]
 refine ⟨rfl,?_⟩
 rw [hb]
 exact ⟨r,hr,ho,hk⟩
theorem wP {n m : Nat} {ms : List Nat} {a v : Opd} {v1 : _} {ds cs : List D} {bs : List Nat} {b i off sz : Nat} {es : List (List D)} {r : List D} (hv : vd (ab e) v=.agx ds) (hl : (m::ms).length=ds.length) (hab : ∀ Q : List D -> List Nat -> Prop,Q cs bs -> je (ab e) ds Q) (hd : bz bs=true) (hbs : bs.contains b=false) (hn : (de (m::ms) cs).length=n) (ha : vd (ab e) a=.adr (.r b) i off) (hb : ab e b=.blk sz es) (hr : es[i]? = some r) (ho : off + n <= r.length)
  (hk : doW C hs K ns ⟨⟩ e R acc ((b,.blk sz (bv es i off n (de (m::ms) cs)))::cj bs) [(b,false)]) : opW C hs K ns none (.st n (m::ms) a v) v1 e R acc:=by
 unfold opW
 simp only [az]
 refine ⟨trivial,?_⟩
 rw [hv]
 simp only [eT]
 refine ⟨.inr hl,hab _ ⟨hd,hn,?_⟩⟩
 rw [ha]
 refine ⟨hbs,?_⟩
 rw [hb]
 exact ⟨r,hr,ho,hk⟩
end
end Go.Gv

namespace Go.Gv
def qc (f : Nat -> Int) : Nat -> Int
 | 0=>0
 | k + 1=>qc f k + f k
def stp (es : List Edg) (v : Nat) : Option Nat:=(es.find? fun e=>e.1 == v).map (·.2)
def wat (es : List Edg) : Nat -> Nat -> Option Nat
 | 0,v=>some v
 | m + 1,v=>(wat es m v).bind (stp es)
def upB (n : Nat) (es : List Edg) (v x : Nat) : Bool:=(List.range n).any fun m=>wat es m v == some x
theorem Dq {es : List Edg} (hnd : (es.map (·.1)).Nodup) {y z : Nat} (h : (y,z) ∈ es) : stp es y=some z:=by
 unfold stp
 cases e : es.find? (fun e=>e.1 == y) with
 | none =>
  have:=List.find?_eq_none.1 e _ h
  simp at this
 | some p =>
  have h1:=List.find?_some e
  have h2:=List.mem_of_find?_eq_some e
  obtain ⟨a,b⟩:=p
  simp at h1
  subst h1
  obtain ⟨k,hk,ek⟩:=List.getElem_of_mem h
  obtain ⟨j,hj,ej⟩:=List.getElem_of_mem h2
  have:=qb hnd hk hj (by rw [ek,ej])
  subst this
  rw [ek] at ej
  cases ej
  rfl
theorem wa {n : Nat} {es : List Edg} (hg : inG n es) (hlen : (cl n es).length=n) {u v : Nat} (he : (u,v) ∈ es) : (cl n es).idxOf u < (cl n es).idxOf v /\ (cl n es).idxOf v < n:=by
 have hI:=jq n es n
 have hmem : ∀ v,v < n -> v ∈ cl n es:=by
  intro v hv
  apply Classical.byContradiction
  intro hn
  have hnd : (v::cl n es).Nodup:=List.nodup_cons.2 ⟨hn,hI.nd⟩
  have hsub : (v::cl n es) ⊆ List.range n:=by
   intro u hu
   rcases List.mem_cons.1 hu with rfl | hu
   ·simpa using hv
   ·simpa using hI.lt u hu
  have:=List.Nodup.length_le_of_subset hnd hsub
  simp at this
  omega
 obtain ⟨h1,h2⟩:=hg _ he
 have hv:=hmem v h2
 have hi:=List.idxOf_lt_length_iff.2 hv
 obtain ⟨m,hm⟩ : ∃ m,m=(cl n es).idxOf v:=⟨_,rfl⟩
 rw [<- hm] at hi ⊢
 have hget : (cl n es)[m]=v:=by
  subst hm
  exact List.getElem_idxOf hi
 obtain ⟨t1,t2⟩:=nF hlen (show m <= n by omega)
 obtain ⟨t3,t4⟩:=nF hlen (show m + 1 <= n by omega)
 have htk : (cl n es).take (m + 1)=(cl n es).take m++[(cl n es)[m]]:=List.take_succ_eq_append_getElem hi
 have hu : u ∈ (cl n es).take m:=by
  rw [t1]
  cases hr : df n es (aU n es m) with
  | nil =>
   have:=mo hr 1
   rw [this] at t4
   omega
  | cons j r =>
   have e1:=nG hr
   have e2 : j=v:=by
    have h5 : aU n es m++[j]=aU n es m++[v]:=by rw [<- e1,<- t3,htk,t1,hget]
    simpa using h5
   have hj : j ∈ df n es (aU n es m):=by rw [hr];simp
   rw [e2] at hj
   exact (iz.1 hj).2.2 u he
 refine ⟨?_,by omega⟩
 obtain ⟨a,ha,e⟩:=List.getElem_of_mem hu
 have ha2 : a < m:=by simp at ha;omega
 have e2 : (cl n es)[a]'(by omega)=u:=by rw [<- e];simp
 have e3 : (cl n es).idxOf ((cl n es)[a]'(by omega))=a:=hI.nd.idxOf_getElem a (show a < (cl n es).length by omega)
 rw [e2] at e3
 omega
def Rf (n : Nat) (es : List Edg) (g : Nat -> Int) (m x : Nat) : Int:=qc (fun v=>if wat es m v=some x then g v else 0) n
def upS (n : Nat) (es : List Edg) (g : Nat -> Int) (x : Nat) : Int:=qc (fun v=>if upB n es v x=true then g v else 0) n
end Go.Gv

namespace Go.Gv
inductive Pth (es : List Edg) : Nat -> Nat -> Prop
 | refl (v : Nat) : Pth es v v
 | step {u v w : Nat} : (u,v) ∈ es -> Pth es v w -> Pth es u w
theorem Pth.trans {es : List Edg} {u v w : Nat} (h : Pth es u v) (h2 : Pth es v w) : Pth es u w:=by
 induction h with
 | refl v=>exact h2
 | step e _ ih=>exact .step e (ih h2)
def RR (es : List Edg) (fr : List Nat) (v : Nat) : Prop:=∃ s ∈ fr,Pth es s v
noncomputable def rB (es : List Edg) (fr : List Nat) (v : Nat) : Bool:=@decide (RR es fr v) (Classical.propDecidable _)
def QA (n : Nat) (f : Nat -> Bool) : List (List D):=(List.range n).map fun v=>[.bool (f v)]
def wtS (f : Nat -> Nat) : Nat -> Nat
 | 0=>0
 | k + 1=>wtS f k + f k
end Go.Gv

namespace Go.Gv
variable {C : CC} (hC : aj prog C)
include hC
end Go.Gv

namespace Go.Gv
def QZ (n : Nat) (es : List Edg) (out : Nat -> Bool) : Nat:=wtS (fun v=>if out v=true then 0 else 1 + (nxt n es v).length) n
variable {C : CC} (hC : aj prog C)
include hC
end Go.Gv

namespace Go.Gv
variable {C : CC} (hC : aj prog C)
include hC
end Go.Gv

namespace Go.Gv
def BK (l : List (Int × Int)) : Bool:=aO l && decide (0 <= l[0]!.1) && decide ((fO l).1 <= 4194304) && decide (0 <= l[0]!.2) && decide ((fO l).2 <= 1099511627776)
def Jy (l : Lnk) : Bool :=
 if l.kind=1 then bf l.len 1 16777216 && bN l.sect && decide (l.width=0) && decide (l.height=0) && decide (l.curve.length=0)
 else if l.kind=2 then decide (l.len=0) && decide (l.down=0) && decide (l.sect=[]) && bf l.width 1 1048576 && decide (l.height=0) && decide (l.curve.length=0)
 else if l.kind=3 then decide (l.len=0) && decide (l.down=0) && decide (l.sect=[]) && bf l.width 1 32768 && bf l.height 1 32768 && decide (l.curve.length=0)
 else if l.kind=4 then decide (l.len=0) && decide (l.down < l.up) && decide (l.sect=[]) && decide (l.width=0) && decide (l.height=0) && BK l.curve
 else false
def JN (l : Lnk) : Bool:=bN l.name && bN l.src && bN l.dst && !decide (l.src=l.dst) && cT l.up && cT l.down && Jy l
variable {C : CC} (hC : aj prog C)
include hC
end Go.Gv

namespace Go.Gv
open Go.Lib
end Go.Gv

namespace Go.Gv
open Go.Lib
def Rc (p : Nat) (neg : Bool) : D:=.agg [.int .u64 ((p / 18446744073709551616 : Nat) : Int),.int .u64 ((p % 18446744073709551616 : Nat) : Int),.bool neg]
def wiD (p : Nat) : D:=.agg [.int .i64 ((p / 1152921504606846976 : Nat) : Int),.int .i64 ((p % 1152921504606846976 : Nat) : Int)]
variable {C : CC} (hC : aj prog C)
include hC
end Go.Gv

namespace Go.Gv
open Go.Lib
variable {C : CC} (hC : aj prog C)
include hC
end Go.Gv

namespace Go.Gv
variable {C : CC} (hC : aj prog C)
include hC
end Go.Gv

namespace Go.Gv
def kG (t : List (Int × Int)) (x : Int) : Nat:=t.findIdx fun k=>decide (x <= k.1)
def atK (t : List (Int × Int)) (x : Int) : Bool:=decide (kG t x < t.length) && decide (t[kG t x]!.1=x)
def G4 (a b : Int × Int) (x : Int) : Int × Int × Int:=(a.2 + (b.2 - a.2) * (x - a.1) / (b.1 - a.1),(b.2 - a.2) * (x - a.1) % (b.1 - a.1),b.1 - a.1)
def wc (t : List (Int × Int)) (x : Int) : Int × Int × Int :=
 if atK t x || decide (kG t x=0) then (t[kG t x]!.2,0,1)
 else if kG t x=t.length then (t[kG t x - 1]!.2,0,1)
 else G4 t[kG t x - 1]! t[kG t x]! x
variable {C : CC} (hC : aj prog C)
include hC
end Go.Gv

namespace Go.Gv
theorem tk {s : Sec} (h : aN s=true) : aO s.conv=true /\ (fO s.conv).1=s.height /\ 0 <= (fO s.conv).2 /\ (fO s.conv).2 <= 1099511627776:=by
 simp only [aN,cE,Bool.and_eq_true,decide_eq_true_eq,beq_iff_eq] at h
 obtain ⟨_,⟨⟨hv,h0⟩,h1⟩,h2⟩:=h
 obtain ⟨l1,l2⟩:=fq hv
 have hp : ∀ i (hi : i < s.conv.length),0 <= s.conv[i].2:=by
  intro i
  induction i with
  | zero=>intro hi;have:=h0.2;rw [getElem!_pos s.conv 0 hi] at this;omega
  | succ i ih =>
   intro hi
   have h3:=((qd hv hi).2.2 i rfl).2
   have:=ih (by omega)
   omega
 obtain ⟨n,hn⟩ : ∃ n,n + 1=s.conv.length:=⟨s.conv.length - 1,by omega⟩
 refine ⟨hv,h1,?_,h2⟩
 rw [fm hn]
 exact hp n (by omega)
theorem Bx {k f : Nat} (hk : k <= 1099511627776) (hf : f <= 4194304) : k * k * f <= 5070602400912917605986812821504:=by
 have h1:=Nat.mul_le_mul hk hk
 have h2:=Nat.mul_le_mul h1 hf
 exact h2
variable {C : CC} (hC : aj prog C)
include hC
theorem ta (s : Sec) (fall len : Int) (hv : aN s=true) (hs : dQ fall len=true) : C 61 [.agg (a7 s),.int .i64 s.height,.int .i64 fall,.int .i64 len] (.tup [.int .i64 (qq s fall len),.int .i64 0]) []:=by
 obtain ⟨c1,c2,c3,c4⟩:=tk hv
 simp only [dQ,Bool.and_eq_true,decide_eq_true_eq] at hs
 obtain ⟨l1,l2⟩:=fq c1
 obtain ⟨n,hn⟩ : ∃ n,n + 1=s.conv.length:=⟨s.conv.length - 1,by omega⟩
 rw [fm hn] at c2 c3 c4
 have hF:=uy hC s.convN s.conv s.height c1 n hn c2
 obtain ⟨k,hk⟩ : ∃ k : Nat,s.conv[n].2=k:=⟨s.conv[n].2.toNat,by omega⟩
 obtain ⟨f,rfl⟩ : ∃ f : Nat,fall=f:=⟨fall.toNat,by omega⟩
 obtain ⟨l,rfl⟩ : ∃ l : Nat,len=l:=⟨len.toNat,by omega⟩
 have hcap : qq s f l=pU (k * k * f / l):=by simp [qq,fm hn,hk]
 rw [hk] at hF
 rw [hcap]
 have hb:=Bx (k:=k) (f:=f) (by omega) (by omega)
 have hb0 : k * k <= 1208925819614629174706176:=Nat.mul_le_mul (show k <= 1099511627776 by omega) (show k <= 1099511627776 by omega)
 have hb2:=Nat.div_le_self (k * k * f) l
 refine au hC (nf:=N61) rfl rfl ?_
 simp [N61,a7]
 refine aa hF (.inl rfl) ?_
 simp
 refine aa (tW hC k k (by omega) (by omega)) (.inl rfl) ?_
 have v : ∀ x,isV (cF x)=true /\ (∀ f : Nat -> D,bq f (cF x)) /\ (∀ f : Nat -> D,dp f (cF x)=cF x) /\ ∀ ks,aS ks (cF x)=cF x:=fun x=>⟨rfl,fun _=>trivial,fun _=>rfl,fun _=>by simp [cF]⟩
 simp [v]
 refine aa (zD hC (k * k) f (by omega) (by omega) (by omega)) (.inl rfl) ?_
 simp [v]
 refine aa (C0 hC (k * k * f) l (by omega) (by omega) (by omega)) (.inl rfl) ?_
 simp [v]
 refine aa (C9 hC (k * k * f / l)) (.inl rfl) ?_
 simp
theorem uz (s : Sec) (fall len : Int) : C 47 [.agg (a7 s),.int .i64 fall,.int .i64 len] (.tup [.int .i64 (cJ s fall len).1,.int .i64 (cJ s fall len).2]) []:=by
 have cap : C 53 [.agg (a7 s),.int .i64 s.height,.int .i64 fall,.int .i64 len] (.tup [.int .i64 (cJ s fall len).1,.int .i64 (cJ s fall len).2]) []:=by
  refine au hC (nf:=N53) rfl rfl ?_
  simp [N53,a7]
  have hvc:=sG hC s
  rw [a7] at hvc
  refine aa hvc (.inl rfl) ?_
  cases hv : aN s
  ·simp [cJ,hv]
  have hh : ¬ s.height < 0:=by
   simp only [aN,Bool.and_eq_true,decide_eq_true_eq] at hv
   omega
  simp [hh]
  refine aa (yX hC fall len) (.inl rfl) ?_
  have es : (decide (0 <= fall) && decide (fall <= 4194304) && decide (1 <= len) && decide (len <= 16777216))=dQ fall len:=rfl
  rw [es]
  cases hs : dQ fall len
  ·simp [cJ,hv,hs]
  simp
  have hcc:=ta hC s fall len hv hs
  rw [a7] at hcc
  refine aa hcc (.inl rfl) ?_
  simp
  refine ae (fun c=>?_) (fun c=>?_) <;> simp [c] <;> simp at c
  ·have c' : 1099511627776 < qq s fall len:=by omega
   simp [cJ,hv,hs,c']
  ·have c' : ¬ 1099511627776 < qq s fall len:=by omega
   simp [cJ,hv,hs,c']
 refine au hC (nf:=N47) rfl rfl ?_
 simp [N47,a7]
 rw [a7] at cap
 refine aa cap (.inl rfl) ?_
 simp
end Go.Gv

namespace Go.Gv
def bis (p : Nat -> Bool) : Nat -> Nat -> Nat -> Nat
 | 0,lo,_=>lo
 | f + 1,lo,hi=>if lo < hi then (if p ((lo + hi) / 2) then bis p f lo ((lo + hi) / 2) else bis p f ((lo + hi) / 2 + 1) hi) else lo
def s9 (s : Sec) (depth fall len : Int) : Nat:=pU ((wc s.conv depth).1.toNat * (wc s.conv depth).1.toNat * fall.toNat / len.toNat)
def rS (s : Sec) (flow fall len : Int) (m : Nat) : Bool:=decide (flow <= (s9 s m fall len : Int))
def vP (s : Sec) (flow fall len : Int) : Nat:=bis (rS s flow fall len) 40 0 (s.height.toNat + 1)
def oi (s : Sec) (flow fall len : Int) : Int × Int :=
 if aN s then (if 0 <= flow /\ flow <= 1099511627776 /\ dQ fall len=true then (if s.height.toNat < vP s flow fall len then (0,28) else (vP s flow fall len,0)) else (0,2)) else (0,1)
variable {C : CC} (hC : aj prog C)
include hC
end Go.Gv

namespace Go.Gv
end Go.Gv

namespace Go.Gv
variable {C : CC} (hC : aj prog C)
include hC
end Go.Gv

namespace Go.Gv
variable {C : CC} (hC : aj prog C)
include hC
end Go.Gv

namespace Go.Gv
def QN (n : Nat) (out : List Nat) : List (List D):=(List.range n).map fun v=>[.bool (decide (v ∈ out))]
def JU (es : List Edg) (out : List Nat) : Nat -> Int
 | 0=>-1
 | v + 1=>if JU es out v < 0 then (if !out.contains v && ja es out v then (v : Int) else -1) else JU es out v
def prT (es : List Edg) (out : List Nat) (v j : Nat) : Bool:=ja (es.take j) out v
variable {C : CC} (hC : aj prog C)
include hC
end Go.Gv

namespace Go.Gv
def QI (n : Nat) (es : List Edg) : D:=if (cl n es).length=n then ndD (cl n es) else .nils
variable {C : CC} (hC : aj prog C)
include hC
end Go.Gv

namespace Go.Gv
def aH (l : List Sec) : Bool:=decide (l.length <= 40) && l.all aN && decide ((l.map (·.name)).Nodup)
def f6 (l : List Sec) : List D:=((l.map (·.name)).reverse).map D.str
theorem nA : ∀ (xs : List (List UInt8)) (n : Nat),n=xs.length -> ∀ s,(dM (xs.map D.str) (List.replicate n (.bool true)) (.str s)).getD (.bool false)=.bool (decide (s ∈ xs))
 | [],n,h,s=>by simp [dM]
 | x::xs,n,h,s=>by
  obtain ⟨m,rfl⟩ : ∃ m,n=m + 1:=⟨n - 1,by simp at h;omega⟩
  have ih:=nA xs m (by simpa using h) s
  simp only [List.map_cons,List.replicate_succ,dM,eqD,o8,decide_eq_true_eq]
  by_cases e : s=x
  ·subst e;simp
  ·rw [if_neg e,ih];simp [e]
variable {C : CC} (hC : aj prog C)
include hC
theorem gG (b : Bool) (l : List Sec) : C 44 [slx b (l.map a7)] (.bool (aH l)) []:=by
 refine au hC (nf:=N44) rfl rfl ?_
 simp [N44]
 refine ae (fun h=>?_) (fun h=>?_) <;> simp at h
 ·simp [aH];omega
 simp
 refine ay Nat (fun i=>[(3,.mrf 10144),(10144,.mp 0 1 (f6 (l.take i)) (List.replicate i (.bool true))),(10,slx b (l.map a7)),(11,.int .i64 l.length),(12,.int .i64 i)])
  (fun i=>i <= l.length /\ (∀ x ∈ l.take i,aN x=true) /\ ((l.map (·.name)).take i).Nodup) (fun i=>l.length - i) 0 (by simp) (by simp [f6]) ?_
 rintro i ⟨hi,hv,hn⟩
 simp
 refine ae (fun h3=>?_) (fun h3=>?_) <;> simp at h3
 ·have ht : l.take (i + 1)=l.take i++[l[i]]:=List.take_succ_eq_append_getElem h3
  have hg:=nA ((l.take i).map (·.name)).reverse i (by simp;omega) l[i].name
  rw [show ((l.take i).map (·.name)).reverse.map D.str=f6 (l.take i) from rfl] at hg
  have hk : D.str l[i].name::f6 (l.take i)=f6 (l.take (i + 1)):=by
   rw [f6,f6,ht]
   simp only [List.map_append,List.map_cons,List.map_nil,List.reverse_append,List.reverse_cons,List.reverse_nil,List.nil_append,List.cons_append]
  have hlen : (f6 (l.take i)).length < maxLen:=by
   have : (f6 (l.take i)).length <= 40:=by simp [f6];omega
   unfold maxLen;omega
  have hw : IntKind.wrap .i64 ((i : Int) + 1)=((i + 1 : Nat) : Int):=ai (by omega) (by omega)
  have bad1 : aN l[i]=false -> aH l=false:=fun e=>by
   simp only [aH,Bool.and_eq_false_iff,List.all_eq_false]
   exact .inl (.inr ⟨l[i],List.getElem_mem h3,by simp [e]⟩)
  have h5 : (l.map (·.name)).take (i + 1)=(l.map (·.name)).take i++[l[i].name]:=by
   rw [List.take_succ_eq_append_getElem (by simpa using h3)];simp
  have bad2 : l[i].name ∈ (l.map (·.name)).take i -> aH l=false:=fun e=>by
   simp only [aH,Bool.and_eq_false_iff,decide_eq_false_iff_not]
   right
   intro hnd
   have h6:=(List.take_sublist (i + 1) _).nodup hnd
   rw [h5,List.nodup_append] at h6
   exact h6.2.2 _ e _ (by simp) rfl
  simp [h3,a7]
  have hvc:=sG hC l[i]
  rw [a7] at hvc
  refine aa hvc (.inl rfl) ?_
  cases hvi : aN l[i]
  ·simp [bad1 hvi]
  ·have hnm : l[i].name.length <= maxLen:=by
    simp only [aN,bN,Bool.and_eq_true,decide_eq_true_eq] at hvi
    unfold maxLen;omega
   simp [hg,hnm]
   refine ae (fun h4=>?_) (fun h4=>?_) <;> simp [h4] <;> simp at h4
   ·exact bad2 h4
   ·simp [hlen,hnm,hw]
    refine ⟨i + 1,⟨by omega,?_,?_⟩,by omega,⟨hk,?_⟩,rfl⟩
    ·intro x hx
     rw [ht] at hx
     rcases List.mem_append.1 hx with hx | hx
     ·exact hv x hx
     ·simp at hx;subst hx;exact hvi
    ·rw [h5,List.nodup_append]
     refine ⟨hn,by simp,fun a ha b hb=>?_⟩
     simp at hb
     subst hb
     rintro rfl
     exact h4 ha
    ·rw [List.replicate_succ]
 ·have hil : i=l.length:=by omega
  subst hil
  rw [List.take_of_length_le (by simp)] at hn
  simp at hv
  simp [aH,hn]
  exact ⟨by omega,hv⟩
end Go.Gv

namespace Go.Gv
variable {C : CC} (hC : aj prog C)
include hC
end Go.Gv

namespace Go.Gv
structure Job where
 below : SlI
 lengths : SlI
 flows : SlI
 falls : SlI
 room : SlI
 secN : Bool
 secs : List Sec
 deriving Inhabited
def dc (j : Job) : List D:=[slI j.below,slI j.lengths,slI j.flows,slI j.falls,slI j.room,slx j.secN (j.secs.map a7)]
def gL (s : Sec) : Bool:=decide (20 < s.area.length) || decide (20 < s.conv.length) || decide (60 < s.name.length)
def mf (l : List Sec) : Bool:=decide (8 < l.length) || l.any gL
def PY (j : Job) : Bool:=decide (12 < j.below.l.length) || decide (12 < j.lengths.l.length) || decide (12 < j.flows.l.length) || decide (12 < j.falls.l.length) || decide (12 < j.room.l.length) || mf j.secs
def fy (n a b : Int) : Bool:=a <= n && n <= b
def eG (j : Job) (i : Nat) : Bool:=(j.below.l[i]! == -1 || (decide ((i : Int) < j.below.l[i]!) && decide (j.below.l[i]! < j.below.l.length))) && fy j.lengths.l[i]! 1 16777216 && fy j.flows.l[i]! 0 1099511627776 && fy j.falls.l[i]! 0 4194304 && fy j.room.l[i]! 0 4194304
def al (j : Job) : Bool:=decide (j.below.l.length <= 400) && decide (j.lengths.l.length=j.below.l.length) && decide (j.flows.l.length=j.below.l.length) && decide (j.falls.l.length=j.below.l.length) && decide (j.room.l.length=j.below.l.length) && decide (0 < j.secs.length) && aH j.secs && (List.range j.below.l.length).all (eG j)
@[simp] theorem yV {x : SlI} : slI x=slx x.n (x.l.map fun n=>[.int .i64 n]):=_root_.id rfl
variable {C : CC} (hC : aj prog C)
include hC
theorem fI (n a b : Int) : C 29 [.int .i64 n,.int .i64 a,.int .i64 b] (.bool (a <= n && n <= b)) []:=by
 refine au hC (nf:=N29) rfl rfl ?_
 simp [N29]
 refine ae (fun h=>?_) (fun h=>?_) <;> simp at h <;> simp [h] <;> omega
theorem tJ (s : Sec) : C 46 [.agg (a7 s)] (.bool (gL s)) []:=by
 refine au hC (nf:=N46) rfl rfl ?_
 simp [N46,a7]
 refine ae (fun h=>?_) (fun h=>?_) <;> simp [h] <;> simp at h
 ·simp [gL];omega
 ·refine ae (fun h2=>?_) (fun h2=>?_) <;> simp [h2] <;> simp at h2
  ·simp [gL];omega
  ·simp [gL]
   rw [Bool.eq_iff_iff];simp
   omega
theorem Ct (b : Bool) (l : List Sec) : C 25 [slx b (l.map a7)] (.bool (mf l)) []:=by
 refine au hC (nf:=N25) rfl rfl ?_
 simp [N25]
 refine ae (fun h=>?_) (fun h=>?_) <;> simp [h] <;> simp at h
 ·simp [mf];omega
 ·refine aa (vL hC gL (by omega) (fun x _=>tJ hC x)) (.inl rfl) ?_
  have e : ¬ 8 < l.length:=by omega
  simp [mf,e]
end Go.Gv

namespace Go.Gv
def dZ (nm : List UInt8) (s : Sec) : Bool:=s.name == nm
theorem jE (l : List Sec) : aH l=true ↔ l.length <= 40 /\ (∀ (i : Nat) (h : i < l.length),aN l[i]=true /\ cd (dZ l[i].name) l=i):=by
 simp only [aH,Bool.and_eq_true,decide_eq_true_eq,List.all_eq_true]
 constructor
 ·rintro ⟨⟨h1,h2⟩,h3⟩
  refine ⟨h1,fun i h=>⟨h2 _ (List.getElem_mem h),?_⟩⟩
  refine dA (fun k hk hki=>?_) h (by simp [dZ])
  rw [dZ,beq_eq_false_iff_ne]
  intro e
  exact List.pairwise_iff_getElem.1 h3 k i (by simpa using hk) (by simpa using h) hki (by simpa using e)
 ·rintro ⟨h1,h2⟩
  refine ⟨⟨h1,fun x hx=>?_⟩,?_⟩
  ·obtain ⟨i,h,rfl⟩:=List.getElem_of_mem hx
   exact (h2 i h).1
  ·refine List.pairwise_iff_getElem.2 fun a b ha hb hab e=>?_
   simp only [List.length_map] at ha hb
   simp only [List.getElem_map] at e
   have h3:=(h2 b hb).2
   have h4 : ∃ k,k <= a /\ cd (dZ l[b].name) l=(k : Int):=by
    unfold cd
    cases hf : l.findIdx? (dZ l[b].name) with
    | none =>
     rw [List.findIdx?_eq_none_iff] at hf
     have:=hf l[a] (List.getElem_mem _)
     simp [dZ,e] at this
    | some k =>
     refine ⟨k,?_,rfl⟩
     rw [List.findIdx?_eq_some_iff_getElem] at hf
     obtain ⟨q1,q2,q3⟩:=hf
     rcases Nat.lt_or_ge a k with hak | hak
     ·exact absurd (by simp [dZ,e]) (q3 a hak)
     ·exact hak
   obtain ⟨k,h5,h6⟩:=h4
   omega
variable {C : CC} (hC : aj prog C)
include hC
end Go.Gv

namespace Go.Gv
open Go.Lib
variable {C : CC} (hC : aj prog C)
include hC
end Go.Gv

namespace Go.Gv
def DvS (x b i a q r : Nat) : Prop:=i <= 128 /\ r < b /\ ∃ c,a=c * 2 ^ i /\ c < 2 ^ (128 - i) /\ (q * b + r) * 2 ^ (128 - i) + c=x
theorem DvS.step {x b i a q r : Nat} (h : DvS x b i a q r) (hi : i < 128) (hb : 0 < b) :
  a < 340282366920938463463374607431768211456 /\ 2 * q <= x /\
  ∀ w r' a',2 * r + a / 170141183460469231731687303715884105728=w * b + r' -> r' < b -> a'=2 * a % 340282366920938463463374607431768211456 -> DvS x b (i + 1) a' (2 * q + w) r' /\ 2 * q + w <= x:=by
 obtain ⟨_,hr,c,h1,h2,h3⟩:=h
 obtain ⟨m,hm⟩ : ∃ m,m + 1=128 - i:=⟨127 - i,by omega⟩
 have hm2 : m=128 - (i + 1):=by omega
 rw [<- hm,Nat.pow_succ] at h2 h3
 obtain ⟨V,hV⟩ : ∃ V,V=2 ^ m:=⟨_,rfl⟩
 obtain ⟨W,hW⟩ : ∃ W,W=2 ^ i:=⟨_,rfl⟩
 have hVW : V * W=170141183460469231731687303715884105728:=by
  rw [hV,hW,<- Nat.pow_add,show m + i=127 by omega]
 have hVp : 0 < V:=by rw [hV];exact Nat.two_pow_pos m
 rw [<- hV] at h2 h3
 rw [<- hW] at h1
 obtain ⟨t,ht⟩ : ∃ t,t=c / V:=⟨_,rfl⟩
 obtain ⟨d,hd⟩ : ∃ d,d=c % V:=⟨_,rfl⟩
 have hc : c=t * V + d:=by rw [ht,hd,Nat.mul_comm];exact (Nat.div_add_mod c V).symm
 have hdV : d < V:=by rw [hd];exact Nat.mod_lt _ hVp
 have ht1 : t <= 1:=by
  have : t < 2:=by rw [ht,Nat.div_lt_iff_lt_mul hVp];omega
  omega
 have ha : a=t * 170141183460469231731687303715884105728 + d * W:=by
  rw [h1,hc,Nat.add_mul,Nat.mul_assoc,hVW]
 have hdW : d * W < 170141183460469231731687303715884105728:=by
  have : (d + 1) * W <= V * W:=Nat.mul_le_mul_right _ hdV
  rw [hVW,Nat.add_mul] at this
  have hWp : 0 < W:=by rw [hW];exact Nat.two_pow_pos i
  omega
 have hbit : a / 170141183460469231731687303715884105728=t:=by
  rw [ha];generalize d * W=z at *;omega
 have fin : ∀ w r',2 * r + t=w * b + r' -> ((2 * q + w) * b + r') * V + d=x:=fun w r' e=>by
  have e1 : (2 * q + w) * b + r'=2 * (q * b + r) + t:=by
   rw [Nat.add_mul,Nat.mul_assoc]
   generalize q * b=z at *
   generalize w * b=z' at *
   omega
  rw [e1,<- h3,hc,Nat.add_mul,Nat.mul_comm V 2,<- Nat.mul_assoc,Nat.mul_comm (q * b + r) 2]
  omega
 have big : ∀ w r',2 * r + t=w * b + r' -> 2 * q + w <= x:=fun w r' e=>by
  have e1:=fin w r' e
  have e2 : 2 * q + w <= (2 * q + w) * b:=Nat.le_mul_of_pos_right _ hb
  have e3 : (2 * q + w) * b + r' <= ((2 * q + w) * b + r') * V:=Nat.le_mul_of_pos_right _ hVp
  omega
 refine ⟨?_,?_,?_⟩
 ·rw [ha];generalize d * W=z at *;omega
 ·exact Nat.le_trans (Nat.le_add_right _ _) (big _ _ (Nat.div_add_mod' (2 * r + t) b).symm)
 ·intro w r' a' e hr' ha'
  rw [hbit] at e
  refine ⟨⟨by omega,hr',d,?_,?_,?_⟩,big w r' e⟩
  ·rw [ha',ha,Nat.pow_succ,<- hW,Nat.mul_comm W 2,Nat.mul_left_comm]
   generalize d * W=z at *
   omega
  ·rw [<- hm2,<- hV];exact hdV
  ·rw [<- hm2,<- hV];exact fin w r' e
theorem DvS.last {x b a q r : Nat} (h : DvS x b 128 a q r) : q=x / b /\ r=x % b:=by
 obtain ⟨_,hr,c,h1,h2,h3⟩:=h
 simp at h2 h3
 subst h2
 simp at h3
 subst h3
 have hb : 0 < b:=by omega
 rw [Nat.mul_comm,Nat.mul_add_div hb,Nat.div_eq_of_lt hr,Nat.mul_add_mod,Nat.mod_eq_of_lt hr]
 exact ⟨rfl,rfl⟩
variable {C : CC} (hC : aj prog C)
include hC
end Go.Gv

namespace Go.Gv
variable {C : CC} (hC : aj prog C)
include hC
end Go.Gv

namespace Go.Gv
def Ra (nm : List UInt8) : Nod:={ name:=nm,kind:=1,x:=0,y:=0,invert:=0,ground:=1,shapeN:=false,shape:=[(0,0),(1,1)],prot:=false,reserve:=0 }
def Rb (nm : List UInt8) : Nod:={ name:=nm,kind:=3,x:=0,y:=0,invert:=0,ground:=0,shapeN:=true,shape:=[],prot:=false,reserve:=0 }
def sm (l : Lnk) (s : Sec) : Int:=if cx l && aN s then (if l.kind=1 then (if l.sect=s.name then 0 else 25) else 11) else 1
variable {C : CC} (hC : aj prog C)
include hC
end Go.Gv

namespace Go.Gv
def rT (k flow len n : Nat) : Bool:=decide (flow * flow * len <= k * k * n)
def JS (k flow len : Nat) : Int × Int:=if flow=0 then (0,0) else if k=0 then (0,16) else if rT k flow len 1073741824 then (bis (rT k flow len) 40 0 1073741824,0) else (0,5)
def pz (l : Lnk) (s : Sec) (flow : Int) : Int × Int:=JS (fO s.conv).2.toNat flow.toNat l.len.toNat
variable {C : CC} (hC : aj prog C)
include hC
end Go.Gv

namespace Go.Gv
def zV (x b : Nat) : Nat:=if x % b=0 then x / b else x / b + 1
def JT (k f n : Nat) : Int × Int:=if f=0 then (0,0) else if k=0 then (0,16) else if 1073741824 < zV (f * f * n) (k * k) then (0,5) else (zV (f * f * n) (k * k),0)
def pA (l : Lnk) (s : Sec) (flow : Int) : Int × Int:=JT (fO s.conv).2.toNat flow.toNat l.len.toNat
variable {C : CC} (hC : aj prog C)
include hC
end Go.Gv

namespace Go.Gv
variable {C : CC} (hC : aj prog C)
include hC
end Go.Gv

namespace Go.Gv
def Re (t : List (Int × Int)) (x : Int) : Int :=
 if kG t (x + 1)=0 then t[0]!.2 else if kG t (x + 1)=t.length then t[kG t (x + 1) - 1]!.2 else (G4 t[kG t (x + 1) - 1]! t[kG t (x + 1)]! x).1
variable {C : CC} (hC : aj prog C)
include hC
end Go.Gv

namespace Go.Gv
def vf (s : Sec) (flow fall len : Int) : Int × Int :=
 if aN s then (if 0 <= flow /\ flow <= 1099511627776 /\ dQ fall len=true then (if (s9 s s.height fall len : Int) < flow then (0,28) else (bis (rS s flow fall len) 40 0 s.height.toNat,0)) else (0,2)) else (0,1)
variable {C : CC} (hC : aj prog C)
include hC
end Go.Gv

namespace Go.Gv
def mxI (a b : Int) : Int:=if a < b then b else a
def gd (l : Lnk) : Int:=if 4194304 < l.up - l.down then 4194304 else l.up - l.down
def Qb (l : Lnk) (s : Sec) (flow level : Int) : Bool:=decide (level < l.down + s.height) && (decide ((cJ s (gd l) l.len).2=5) || (decide ((cJ s (gd l) l.len).2=0) && decide (flow <= (cJ s (gd l) l.len).1)))
def H2 (l : Lnk) (s : Sec) (flow level : Int) : Int × Int :=
 if (pz l s flow).2=0 then (if 1099511627776 < mxI (l.up + s.height) (level + (pz l s flow).1) then (0,5) else (mxI (l.up + s.height) (level + (pz l s flow).1),0)) else (0,(pz l s flow).2)
def Qc (l : Lnk) (s : Sec) (flow level : Int) : Int × Int :=
 if (oi s flow (gd l) l.len).2=0 then (mxI (l.up + (oi s flow (gd l) l.len).1) level,0) else (0,(oi s flow (gd l) l.len).2)
def GP (l : Lnk) (s : Sec) (flow level : Int) : Int × Int:=if Qb l s flow level then Qc l s flow level else H2 l s flow level
def Rd (l : Lnk) (s : Sec) (flow level : Int) : Int × Int :=
 if sm l s=0 then (if l.up < l.down then (0,23) else if bf flow 0 1099511627776 && bf level (-4194304) 1099511627776 then GP l s flow level else (0,2)) else (0,sm l s)
def QG (l : Lnk) (s : Sec) (flow : Int) : Int × Int :=
 if sm l s=0 then (if bf flow 0 1099511627776 then pz l s flow else (0,2)) else (0,sm l s)
variable {C : CC} (hC : aj prog C)
include hC
end Go.Gv

namespace Go.Gv
def grI (a b : Int) : Int:=if b < a then a else b
def oq (l : Lnk) (s : Sec) : Int:=if JN l && aN s then (if l.kind=1 then (if l.sect=s.name then 0 else 25) else 11) else 1
def H3 (l : Lnk) (s : Sec) (flow level : Int) : Int × Int :=
 if (pA l s flow).2=0 then (if 1099511627776 < grI (l.up + s.height) (level + (pA l s flow).1) then (0,5) else (grI (l.up + s.height) (level + (pA l s flow).1),0)) else (0,(pA l s flow).2)
def Bh (l : Lnk) (s : Sec) (flow level : Int) : Int × Int :=
 if (vf s flow (gd l) l.len).2=0 /\ level < l.down + s.height then (grI (l.up + (vf s flow (gd l) l.len).1) level,0) else H3 l s flow level
def upR (l : Lnk) (s : Sec) (flow level : Int) : Int × Int :=
 if oq l s=0 then (if l.up < l.down then (0,23) else if bf flow 0 1099511627776 && bf level (-4194304) 1099511627776 then Bh l s flow level else (0,2)) else (0,oq l s)
def QF (l : Lnk) (s : Sec) (flow : Int) : Int × Int :=
 if oq l s=0 then (if bf flow 0 1099511627776 then pA l s flow else (0,2)) else (0,oq l s)
variable {C : CC} (hC : aj prog C)
include hC
end Go.Gv

namespace Go.Gv
def m8 (ss : List Sec) (nm : List UInt8) : Int:=cd (dZ nm) ss
def lU (ss : List Sec) (nm : List UInt8) : Int × Int:=if aH ss then (if 0 <= m8 ss nm then (m8 ss nm,0) else (0,9)) else (0,1)
def Kd (ss : List Sec) (l : Lnk) : Bool:=decide (m8 ss l.sect < 0)
def Dw (l : Lnk) : Bool:=decide (l.up < l.down)
def Ql (ls : List Lnk) (ss : List Sec) : Int:=if ls.any (Kd ss) then 9 else if ls.any Dw then 23 else 0
def tw (ns : List Nod) (ls : List Lnk) (ss : List Sec) (q : List Sp) (count : Int) : Int:=if wR ns ls && aH ss then (if ur q count=0 then Ql ls ss else ur q count) else 1
structure jc (ss : List Sec) (l : Lnk) : Prop where
 idx : ∃ k,m8 ss l.sect=(k : Nat) /\ k < ss.length
 le : l.down <= l.up
 up : -4194304 <= l.up /\ l.up <= 4194304
 down : -4194304 <= l.down /\ l.down <= 4194304
 len : 1 <= l.len /\ l.len <= 16777216
theorem jc.fall {ss : List Sec} {l : Lnk} (h : jc ss l) : dQ (gd l) l.len=true:=by
 have:=h.le;have:=h.len;have:=h.up;have:=h.down
 by_cases h : 4194304 < l.up - l.down <;> simp [dQ,gd,h] <;> omega
theorem oe {ss : List Sec} (h : aH ss=true) {k : Nat} (hk : k < ss.length) : aN ss[k]=true:=((jE ss).1 h).2 k hk |>.1
theorem od {ss : List Sec} (h : aH ss=true) : ss.length <= 40:=((jE ss).1 h).1
variable {C : CC} (hC : aj prog C)
include hC
theorem Ba (b : Bool) (ss : List Sec) (nm : List UInt8) : C 441 [slx b (ss.map a7),.str nm] (.tup [.int .i64 (lU ss nm).1,.int .i64 (lU ss nm).2]) []:=by
 have h1 : ∀ x ∈ ss,C 480 (.agg (a7 x)::[.ptr [.str nm]]) (.bool (dZ nm x)) []:=fun x _=>by
  refine au hC (nf:=N480) rfl rfl ?_
  simp [N480,a7,dZ]
  rw [Bool.eq_iff_iff];simp
 refine au hC (nf:=N441) rfl rfl ?_
 simp [N441]
 refine aa (gG hC b ss) (.inl rfl) ?_
 unfold lU
 cases hv : aH ss
 ·simp
 simp
 have:=od hv
 refine aa (pj hC (b:=b) _ (by omega) h1) (.inl rfl) ?_
 simp
 have e : cd (dZ nm) ss=m8 ss nm:=rfl
 rw [e]
 refine ae (fun h=>?_) (fun h=>?_) <;> simp at h <;> simp [h]
 rw [if_neg (by omega)];simp
end Go.Gv

namespace Go.Gv
def sZ (s : Sec) (depth fall len : Int) : Int × Int:=if aN s then (if 0 <= depth /\ depth <= s.height /\ dQ fall len=true then (if 1099511627776 < (s9 s depth fall len : Int) then (0,5) else (s9 s depth fall len,0)) else (0,2)) else (0,1)
def pZ (ss : List Sec) (l : Lnk) : Sec:=ss[(m8 ss l.sect).toNat]?.getD ⟨[],0,0,true,[],true,[]⟩
def vF (ss : List Sec) (l : Lnk) : Int:=if (sZ (pZ ss l) (pZ ss l).height (gd l) l.len).2=5 then 1099511627776 else (sZ (pZ ss l) (pZ ss l).height (gd l) l.len).1
theorem jc.sec {ss : List Sec} {l : Lnk} (h : jc ss l) : ∃ k,m8 ss l.sect=(k : Nat) /\ ∃ hk : k < ss.length,pZ ss l=ss[k]:=by
 obtain ⟨k,hk,hl⟩:=h.idx
 refine ⟨k,hk,hl,?_⟩
 simp [pZ,hk,hl]
theorem jc.find {ss : List Sec} {l : Lnk} (hv : aH ss=true) (h : jc ss l) : lU ss l.sect=(m8 ss l.sect,0):=by
 obtain ⟨k,hk,hl⟩:=h.idx
 simp [lU,hv,hk]
theorem jc.valid {ss : List Sec} {l : Lnk} (hv : aH ss=true) (h : jc ss l) : aN (pZ ss l)=true:=by
 obtain ⟨k,hk,hl,e⟩:=h.sec
 rw [e]
 exact oe hv hl
theorem jc.wrap {ss : List Sec} {l : Lnk} (h : jc ss l) : IntKind.wrap .i64 (l.up - l.down)=l.up - l.down:=by
 have:=h.up;have:=h.down
 exact ai rfl (by omega)
variable {C : CC} (hC : aj prog C)
include hC
end Go.Gv

namespace Go.Gv
variable {C : CC} (hC : aj prog C)
include hC
end Go.Gv

namespace Go.Gv
def xE (ss : List Sec) (l : Lnk) (n : Int) : Int × Int:=oi (pZ ss l) n (gd l) l.len
def O9 (ss : List Sec) (l : Lnk) (s : Sp) : Bool:=!decide ((xE ss l s.1).2=0) || !decide ((xE ss l s.2).2=0)
def dSp (ss : List Sec) (l : Lnk) (s : Sp) : Sp:=((xE ss l s.1).1,(xE ss l s.2).1)
def Bp (ss : List Sec) (ls : List Lnk) (q : List Sp) : Bool:=(ls.zip q).any fun p=>O9 ss p.1 p.2
def Pb (ss : List Sec) (ls : List Lnk) (q : List Sp) : List Sp:=List.zipWith (dSp ss) ls q
def OV (ns : List Nod) (ls : List Lnk) (ss : List Sec) (q : List Sp) : Int:=if tw ns ls ss q ls.length=0 then (if Bp ss ls q then 28 else 0) else tw ns ls ss q ls.length
def QS (ns : List Nod) (ls : List Lnk) (ss : List Sec) (q : List Sp) : D:=if OV ns ls ss q=0 then .sl ((Pb ss ls q).map knD) else .nils
def spT (l : List Sp) (j : Nat) : List (List D):=(l.take j).map knD
variable {C : CC} (hC : aj prog C)
include hC
end Go.Gv

namespace Go.Gv
end Go.Gv

namespace Go.Gv
end Go.Gv

namespace Go.Gv
def PZ (ss : List Sec) (l : Lnk) (s : Sp) : Sp:=(1000 * s.1 / vF ss l,(1000 * s.2 + vF ss l - 1) / vF ss l)
def K0 (ss : List Sec) (l : Lnk) : Bool:=decide (vF ss l=0)
def ldL (ss : List Sec) (ls : List Lnk) (q : List Sp) : List Sp:=List.zipWith (PZ ss) ls q
def OY (ss : List Sec) (ls : List Lnk) : Bool:=ls.any (K0 ss)
def LdE (ns : List Nod) (ls : List Lnk) (ss : List Sec) (q : List Sp) : Int:=if tw ns ls ss q ls.length=0 then (if OY ss ls then 16 else 0) else tw ns ls ss q ls.length
def LdV (ns : List Nod) (ls : List Lnk) (ss : List Sec) (q : List Sp) : D:=if LdE ns ls ss q=0 then .sl ((ldL ss ls q).map knD) else .nils
variable {C : CC} (hC : aj prog C)
include hC
end Go.Gv

namespace Go.Gv
def ovG (ss : List Sec) (f : Sp -> Int) (p : Lnk × Sp) : Option (List UInt8):=if vF ss p.1 < f p.2 then some p.1.name else none
def Qk (ss : List Sec) (f : Sp -> Int) (ls : List Lnk) (fl : List Sp) (i : Nat) : List (List UInt8):=((ls.zip fl).take i).filterMap (ovG ss f)
def Dr (l : List (List UInt8)) : List (List D):=l.map fun s=>[.str s]
def OvE (ns : List Nod) (ls : List Lnk) (ss : List Sec) (q : List Sp) : Int:=if tw ns ls ss q ns.length=0 then vD ns.length (ao ns ls) q else tw ns ls ss q ns.length
def OvV (f : Sp -> Int) (ns : List Nod) (ls : List Lnk) (ss : List Sec) (q : List Sp) : D:=if OvE ns ls ss q=0 then .sl (Dr (Qk ss f ls (lW ns.length (ao ns ls) q) ls.length)) else .nils
variable {C : CC} (hC : aj prog C)
include hC
end Go.Gv

namespace Go.Gv
variable {C : CC} (hC : aj prog C)
include hC
end Go.Gv

namespace Go.Gv
def trn (es : List Edg) : List Edg:=es.map fun e=>(e.2,e.1)
def Ke (ns : List Nod) (k : Nat) : List UInt8:=(ns[k]?.map (·.name)).getD []
def nmT (ns : List Nod) (f : Nat -> Bool) : Nat -> List (List UInt8)
 | 0=>[]
 | k + 1=>nmT ns f k++(if f k=true then [Ke ns k] else [])
def trA (es : List Edg) (j : Nat) : List (List D):=(List.range es.length).map fun k=>edK (if k < j then (es[k]!.2,es[k]!.1) else es[k]!)
def KV (ns : List Nod) (nm : List UInt8) : Int:=if 0 <= cd (dN nm) ns then 0 else 9
noncomputable def KW (ns : List Nod) (te : List Edg) (nm : List UInt8) : List (List UInt8):=nmT ns (rB te (tgs te (cd (dN nm) ns).toNat)) ns.length
noncomputable def KX (ns : List Nod) (te : List Edg) (nm : List UInt8) : D:=if 0 <= cd (dN nm) ns then .sl (Dr (KW ns te nm)) else .nils
variable {C : CC} (hC : aj prog C)
include hC
def OT (ns : List Nod) (ls : List Lnk) (nm : List UInt8) : Int:=if ce ns ls=true then KV ns nm else 1
noncomputable def OU (ns : List Nod) (ls : List Lnk) (nm : List UInt8) : D:=if ce ns ls=true then KX ns (trn (ao ns ls)) nm else .nils
end Go.Gv

namespace Go.Gv
def QH (n : Nat) (out : Nat -> Bool) : Nat:=wtS (fun v=>if out v=true then 0 else 1) n
variable {C : CC} (hC : aj prog C)
include hC
end Go.Gv

namespace Go.Gv
noncomputable def Qu (es : List Edg) (x : Nat) : Nat -> Bool:=rB (trn es) (tgs (trn es) x)
variable {C : CC} (hC : aj prog C)
include hC
noncomputable def upX (ns : List Nod) (ls : List Lnk) (x v : Nat) : Bool:=if v=x then true else Qu (ao ns ls) x v
end Go.Gv

namespace Go.Gv
def Bs (n : Nod) : Bool:=decide (110 < n.shape.length) || decide (100 < n.name.length)
def Br (l : Lnk) : Bool:=decide (110 < l.curve.length) || decide (100 < l.name.length) || decide (100 < l.src.length) || decide (100 < l.dst.length) || decide (100 < l.sect.length)
def Bt (s : Sec) : Bool:=decide (110 < s.area.length) || decide (110 < s.conv.length) || decide (100 < s.name.length)
def NR (ns : List Nod) (ls : List Lnk) (ss : List Sec) (k : Nat) : Bool:=decide (12 < ns.length) || decide (20 < ls.length) || decide (12 < ss.length) || decide (25 < k) || ns.any Bs || ls.any Br || ss.any Bt
def Ar (nm : UInt8) : Nod:=⟨[nm],1,0,0,0,9,false,[(0,0),(9,5)],false,0⟩
def Aq (nm a b : UInt8) : Lnk:=⟨[nm],[a],[b],1,5,3,0,[115],0,0,true,[]⟩
def exN : List Nod:=[Ar 97,Ar 98,⟨[111],3,0,0,0,0,true,[],false,0⟩]
def QW : List Lnk:=[Aq 112 97 98,Aq 113 98 111]
variable {C : CC} (hC : aj prog C)
include hC
end Go.Gv

namespace Go.Gv
variable {C : CC} (hC : aj prog C)
include hC
end Go.Gv

namespace Go.Gv
structure rE (s : Sec) (fall len : Int) (y : Sp) : Prop where
 lo : 0 <= y.1
 hi : y.1 <= s.height
 fl : y.2 <= 1099511627776
 yes : y.2 <= (s9 s y.1 fall len : Int)
 no : 0 < y.1 -> (s9 s (y.1 - 1) fall len : Int) < y.2
theorem rE.cap {s : Sec} {fall len : Int} {y : Sp} (h : rE s fall len y) (hs : aN s=true) (hf : dQ fall len=true) : (sZ s y.1 fall len).2=5 \/ ((sZ s y.1 fall len).2=0 /\ y.2 <= (sZ s y.1 fall len).1):=by
 have:=h.yes
 unfold sZ
 rw [if_pos hs,if_pos ⟨h.lo,h.hi,hf⟩]
 split
 ·exact .inl rfl
 ·exact .inr ⟨rfl,this⟩
variable {C : CC} (hC : aj prog C)
include hC
end Go.Gv

namespace Go.Gv
variable {C : CC} (hC : aj prog C)
include hC
end Go.Gv

namespace Go.Gv
def ptN (at' : List Int) (i : Nat) (s : Sp) : Int:=if at'.length=0 then s.1 else s.1 + at'[i % at'.length]! % (s.2 - s.1 + 1)
def Qm (at' : List Int) (i : Nat) (s : Sp) : Sp:=(ptN at' i s,ptN at' i s)
def ptL (at' : List Int) (q : List Sp) : List Sp:=(List.range q.length).map fun i=>Qm at' i q[i]!
def QX (a b : Sp) : Bool:=decide (b.1 <= a.1) && decide (a.2 <= b.2)
variable {C : CC} (hC : aj prog C)
include hC
end Go.Gv

namespace Go.Gv
structure QT (a b : List Sp) : Prop where
 len : b.length=a.length
 get : ∀ (i : Nat) (h : i < a.length) (h' : i < b.length),0 <= a[i].1 /\ a[i].1 <= b[i].1 /\ b[i].1=b[i].2 /\ b[i].2 <= a[i].2
end Go.Gv

namespace Go.Gv
theorem Pth.wat {es : List Edg} (hnd : (es.map (·.1)).Nodup) {v x : Nat} (h : Pth es v x) : ∃ m,wat es m v=some x:=by
 have cons : ∀ {u v : Nat},(u,v) ∈ es -> ∀ m,Go.Gv.wat es (m + 1) u=Go.Gv.wat es m v:=fun {u v} e m=>by
  induction m with
  | zero=>show (some u).bind (stp es)=some v;exact Dq hnd e
  | succ m ih =>
   show (Go.Gv.wat es (m + 1) u).bind (stp es)=(Go.Gv.wat es m v).bind (stp es)
   rw [ih]
 induction h with
 | refl v=>exact ⟨0,rfl⟩
 | step e _ ih =>
  obtain ⟨m,hm⟩:=ih
  exact ⟨m + 1,by rw [cons e];exact hm⟩
def QQ (q : List Sp) (f : Nat -> Bool) (k : Nat) : Sp:=(qc (fun v=>if f v=true then q[v]!.1 else 0) k,qc (fun v=>if f v=true then q[v]!.2 else 0) k)
variable {C : CC} (hC : aj prog C)
include hC
end Go.Gv

namespace Go.Gv
noncomputable def Qq (ns : List Nod) (ls : List Lnk) (q : List Sp) (x v : Nat) : Bool:=upX ns ls x v && decide (0 < q[v]!.2)
def OX (ns : List Nod) (ls : List Lnk) (q : List Sp) (nm : List UInt8) : Int:=if wR ns ls=true then (if ur q ns.length=0 then (if 0 <= cd (jN nm) ls then 0 else 9) else ur q ns.length) else 1
noncomputable def QU (ns : List Nod) (ls : List Lnk) (q : List Sp) (nm : List UInt8) : D:=if OX ns ls q nm=0 then .sl (Dr (nmT ns (Qq ns ls q ((ao ns ls)[(cd (jN nm) ls).toNat]!).1) ns.length)) else .nils
variable {C : CC} (hC : aj prog C)
include hC
end Go.Gv


set_option maxRecDepth 4000
namespace Go.Gv
structure oS (C : CC) : Prop where
 nil : ∀ ds,C 598 ds .any [.own 2 []] -> C 598 ds (.sl []) []
theorem yr (ns : List Nod) : ∀ e ∈ ns.map bI,e.length=9 /\ ∀ c ∈ e,ar c=true:=by
 intro e he
 obtain ⟨n,_,rfl⟩:=List.mem_map.1 he
 have : ar (slx n.shapeN (n.shape.map knD))=true:=by unfold slx;split <;> rfl
 refine ⟨rfl,fun c hc=>?_⟩
 simp only [bI,List.mem_cons,List.not_mem_nil,or_false] at hc
 rcases hc with rfl | rfl | rfl | rfl | rfl | rfl | rfl | rfl | rfl
 all_goals first | rfl | exact this
theorem sd (ls : List Lnk) : ∀ e ∈ ls.map a8,e.length=11 /\ ∀ c ∈ e,ar c=true:=by
 intro e he
 obtain ⟨n,_,rfl⟩:=List.mem_map.1 he
 have : ar (slx n.curveN (n.curve.map knD))=true:=by unfold slx;split <;> rfl
 refine ⟨rfl,fun c hc=>?_⟩
 simp only [a8,List.mem_cons,List.not_mem_nil,or_false] at hc
 rcases hc with rfl | rfl | rfl | rfl | rfl | rfl | rfl | rfl | rfl | rfl | rfl
 all_goals first | rfl | exact this
def nT (ns : List Nod) (j : Nat) : List (List D):=(ns.take j).map bI
def lT (ls : List Lnk) (i j : Nat) : List (List D):=((ls.take j).eraseIdx i).map a8
theorem oB (ns : List Nod) : nT ns 0=[]:=by simp [nT]
theorem qV {ns : List Nod} {j : Nat} (h : j <= ns.length) : (nT ns j).length=j:=by simp [nT];omega
theorem oA {ns : List Nod} {j : Nat} (h : j < ns.length) : nT ns (j + 1)=nT ns j++[bI ns[j]]:=by
 unfold nT
 rw [List.take_succ_eq_append_getElem h,List.map_append];rfl
theorem qT (ns : List Nod) : nT ns ns.length=ns.map bI:=by unfold nT;rw [List.take_length]
theorem qU (ns : List Nod) (j : Nat) : ∀ e ∈ nT ns j,e.length=9 /\ ∀ c ∈ e,ar c=true:=yr _
@[simp high] theorem KO (b : Bool) (xs : List (List D)) (k : Nat) : stK (slx b xs) [] k=[]:=by unfold slx;split <;> rfl
theorem iV (b : Bool) (xs : List (List D)) : ar (slx b xs)=true:=by unfold slx;split <;> rfl
theorem mR (b : Bool) (xs : List (List D)) : slx b xs=.nils \/ slx b xs=.sl xs:=by
 unfold slx
 split
 ·exact .inl rfl
 ·exact .inr rfl
variable {C : CC} (hC : aj prog C)
include hC
theorem jF (hL : oS C) (b : Bool) (l : List (Int × Int)) (hl : l.length < 2 ^ 40) : C 598 [slx b (l.map knD)] (slx b (l.map knD)) []:=by
 have hf : ∀ e ∈ l.map knD,e.length=2 /\ (∀ c ∈ e,ar c=true) /\ ∀ c ∈ e,bi c=true:=by
  intro e he
  obtain ⟨s,_,rfl⟩:=List.mem_map.1 he
  simp [knD,ar,bi]
 cases l with
 | nil =>
  cases b with
  | true =>
   show C 598 [.nils] .nils []
   refine au hC (nf:=N598) rfl rfl ?_
   simp [N598]
  | false =>
   show C 598 [.sl []] (.sl []) []
   refine hL.nil _ ?_
   refine rq hC (nf:=N598) rfl rfl ?_
   simp [N598]
 | cons x xs =>
  have e : slx b ((x::xs).map knD)=.sl ((x::xs).map knD):=by cases b <;> rfl
  rw [e]
  obtain ⟨l,hl2⟩ : ∃ l,l=(x::xs).map knD:=⟨_,rfl⟩
  have h : 0 < l.length:=by rw [hl2];simp
  have h2 : l.length < 1099511627776:=by rw [hl2];simpa using hl
  have hV : l.map (fun e=>e.map aQ)=l:=by
   rw [hl2,List.map_map]
   apply List.map_congr_left
   intro v _
   simp [knD,aQ]
  rw [<- hl2] at hf ⊢
  clear hl2 e hl
  refine au hC (nf:=N598) rfl rfl ?_
  simp [N598]
  refine ⟨fun _=>⟨fun e he=>⟨(hf e he).1,(hf e he).2.1⟩,by omega,?_⟩,fun h0=>?_⟩
  ·simp [hV]
  ·subst h0
   simp at h
end Go.Gv

namespace Go.Gv
variable {C : CC} (hC : aj prog C)
include hC
theorem lz (j : Job) : C 24 [.agg (dc j)] (.bool (al j)) []:=by
 refine au hC (nf:=N24) rfl rfl ?_
 simp [N24,dc]
 refine ae (fun h=>?_) (fun h=>?_) <;> simp [h] <;> simp at h
 ·simp [al];omega
 refine ae (fun h2=>?_) (fun h2=>?_) <;> simp [h2] <;> simp at h2
 ·simp [al];omega
 refine ae (fun h3=>?_) (fun h3=>?_) <;> simp [h3] <;> simp at h3
 ·simp [al];omega
 refine ae (fun h4=>?_) (fun h4=>?_) <;> simp [h4] <;> simp at h4
 ·simp [al];omega
 refine ae (fun h5=>?_) (fun h5=>?_) <;> simp [h5] <;> simp at h5
 ·simp [al];omega
 refine ae (fun h6=>?_) (fun h6=>?_) <;> simp [h6] <;> simp at h6
 ·simp [al,h6]
 refine aa (gG hC _ _) (.inl rfl) ?_
 cases h7 : aH j.secs
 ·simp [al,h7]
 simp
 refine ay Nat (fun i=>[(1,.ptr [slx j.below.n (List.map (fun n=>[D.int IntKind.i64 n]) j.below.l),
      slx j.lengths.n (List.map (fun n=>[D.int IntKind.i64 n]) j.lengths.l),
      slx j.flows.n (List.map (fun n=>[D.int IntKind.i64 n]) j.flows.l),
      slx j.falls.n (List.map (fun n=>[D.int IntKind.i64 n]) j.falls.l),
      slx j.room.n (List.map (fun n=>[D.int IntKind.i64 n]) j.room.l),slx j.secN (List.map a7 j.secs)]),(3,.int .i64 j.below.l.length),(51,.int .i64 j.below.l.length),(52,.int .i64 i)])
  (fun i=>i <= j.below.l.length /\ ∀ k < i,eG j k=true) (fun i=>j.below.l.length - i) 0 (by simp) (by simp) ?_
 rintro i ⟨hi,hp⟩
 simp
 refine ae (fun h8=>?_) (fun h8=>?_) <;> simp [h8] <;> simp at h8
 ·have g2 : i < j.lengths.l.length:=by omega
  have g3 : i < j.flows.l.length:=by omega
  have g4 : i < j.falls.l.length:=by omega
  have g5 : i < j.room.l.length:=by omega
  have hw : IntKind.wrap .i64 ((i : Int) + 1)=((i + 1 : Nat) : Int):=ai (by omega) (by omega)
  have bad : eG j i=false -> al j=false:=fun e=>by
   simp only [al,Bool.and_eq_false_iff,List.all_eq_false]
   exact .inr ⟨i,by simpa using h8,by simp [e]⟩
  have next : eG j i=true -> ∃ s' : Nat,(s' <= j.below.l.length /\ ∀ k < s',eG j k=true) /\ j.below.l.length - s' < j.below.l.length - i /\ s'=i + 1:=fun e=>⟨i + 1,⟨by omega,fun k hk=>by
   rcases Nat.lt_succ_iff_lt_or_eq.1 hk with hk | rfl
   ·exact hp k hk
   ·exact e⟩,by omega,rfl⟩
  have he : eG j i=((j.below.l[i] == -1 || (decide ((i : Int) < j.below.l[i]) && decide (j.below.l[i] < j.below.l.length))) && (fy j.lengths.l[i] 1 16777216 && fy j.flows.l[i] 0 1099511627776 && fy j.falls.l[i] 0 4194304 && fy j.room.l[i] 0 4194304)):=by
   simp only [eG,getElem!_pos j.below.l i h8,getElem!_pos j.lengths.l i g2,getElem!_pos j.flows.l i g3,getElem!_pos j.falls.l i g4,getElem!_pos j.room.l i g5,Bool.and_assoc]
  rw [he] at bad next
  have e1 : j.below.l[i]?.getD 0=j.below.l[i]:=by simp [h8]
  simp [h8]
  have cbs : (j.below.l[i] == -1 || (decide ((i : Int) < j.below.l[i]) && decide (j.below.l[i] < j.below.l.length)))=true -> ((fy j.lengths.l[i] 1 16777216 && fy j.flows.l[i] 0 1099511627776 && fy j.falls.l[i] 0 4194304 && fy j.room.l[i] 0 4194304)=false -> al j=false) /\
    ((fy j.lengths.l[i] 1 16777216 && fy j.flows.l[i] 0 1099511627776 && fy j.falls.l[i] 0 4194304 && fy j.room.l[i] 0 4194304)=true -> ∃ s' : Nat,(s' <= j.below.l.length /\ ∀ k < s',eG j k=true) /\ j.below.l.length - s' < j.below.l.length - i /\ s'=i + 1):=fun cb=>by
   rw [cb] at bad next
   exact ⟨fun h=>bad (by rw [Bool.true_and];exact h),fun h=>next (by rw [Bool.true_and];exact h)⟩
  refine ae (fun c1=>?pa) (fun c1=>?pb) <;> simp [h8] at c1 <;> simp [c1,h8,g2]
  case' pa =>
   refine ae (fun c2=>?_) (fun c2=>?_) <;> simp [h8] at c2 <;> simp [c2,h8,g2]
   ·refine bad ?_
    have : ¬ (i : Int) < j.below.l[i]:=by omega
    simp [c1,this]
   refine ae (fun c3=>?_) (fun c3=>?_) <;> simp [h8] at c3 <;> simp [c3,h8,g2]
   ·refine bad ?_
    have : ¬ j.below.l[i] < (j.below.l.length : Int):=by omega
    simp [c1,this]
   obtain ⟨bad',next'⟩:=cbs (by simp [c3];omega)
  case' pb=>obtain ⟨bad',next'⟩:=cbs (by simp [c1])
  all_goals
   clear bad next cbs
   refine aa (fI hC _ _ _) (.inl rfl) ?_
   cases d1 : (decide (1 <= j.lengths.l[i]) && decide (j.lengths.l[i] <= 16777216))
   ·simp [d1,h8]
    exact bad' (by simp only [fy,d1,Bool.false_and])
   simp [d1,h8,g3]
   refine aa (fI hC _ _ _) (.inl rfl) ?_
   cases d2 : (decide (0 <= j.flows.l[i]) && decide (j.flows.l[i] <= 1099511627776))
   ·simp [d2,h8]
    exact bad' (by simp only [fy,d2,Bool.false_and,Bool.and_false])
   simp [d2,h8,g4]
   refine aa (fI hC _ _ _) (.inl rfl) ?_
   cases d3 : (decide (0 <= j.falls.l[i]) && decide (j.falls.l[i] <= 4194304))
   ·simp [d3,h8]
    exact bad' (by simp only [fy,d3,Bool.false_and,Bool.and_false])
   simp [d3,h8,g5]
   refine aa (fI hC _ _ _) (.inl rfl) ?_
   cases d4 : (decide (0 <= j.room.l[i]) && decide (j.room.l[i] <= 4194304))
   ·simp [d4,h8]
    exact bad' (by simp only [fy,d4,Bool.false_and,Bool.and_false])
   simp [d4,h8,hw]
   obtain ⟨s',q1,q2,rfl⟩:=next' (by simp only [fy,d1,d2,d3,d4,Bool.and_true])
   exact ⟨_,q1,q2,rfl⟩
 ·have : i=j.below.l.length:=by omega
  subst this
  have h6' : 0 < j.secs.length:=List.length_pos_iff.2 h6
  simp [al,h7,h6',show j.below.l.length <= 400 by omega,show j.lengths.l.length=j.below.l.length by omega,show j.flows.l.length=j.below.l.length by omega,show j.falls.l.length=j.below.l.length by omega,show j.room.l.length=j.below.l.length by omega]
  exact hp
end Go.Gv
