/-
  Texts of the proof: GvX, GvX2, Q2, K4, K5, K6, K7, K8, K2, K9, Q3, Q4, Q5, B1, B2, K10, B3, B4, B5, Q6, S3, Q7, Q12, S4, S5, GvX3, Q22, Q28, S0, Q29, M1, P4, M0, W1, W2, W3, W4, K11, W5, P4b, Q8, Q30, Q9, Q10, K12, M2a, K13.
-/
import Derived.Test.YtplgphagimkllaaGreatX6
import Derived.Lib.Mul64
import Derived.Laws.Bits64b
import Derived.Laws.MathBits
set_option linter.all false
namespace Go.Gv
section
variable {C : CC} {hs : Option (List Nat)} {K : Env -> Prop} {ns : List av} {dst : Option Nat} {u : Tag (hs,K,ns)} {e : Env} {R : List Nat} {acc : List (List Nat × List Nat)}
theorem bf {sz : Nat} {es : List (List D)} {i : Nat} {c : List D} (h : es[i]? = some c) : jd C hs K ns dst u e R acc sz es i=(c.length=sz /\ dW C hs K ns dst ⟨⟩ e R acc (.ptr c)):=by
 apply propext
 unfold jd dW
 rw [h]
 exact ⟨fun ⟨_,h1,h2⟩=>by cases h1;exact h2,fun h2=>⟨c,rfl,h2⟩⟩
theorem aV {n : Nat} {ag : Bool} {p : Pa} {es : List (List D)} {i off : Nat} {r : List D} (hr : es[i]? = some r) : la C hs K ns dst u e R acc n ag p es i off=(off + n <= r.length /\ match ag with
    | true=>(((r.drop off).take n).all isV=true -> dW C hs K ns dst ⟨⟩ e R acc (.agg ((r.drop off).take n))) /\
      (((r.drop off).take n).all isV=false -> dW C hs K ns dst ⟨⟩ e R acc (.agx (((r.drop off).take n).mapIdx fun j c=>ldc p i (off + j) c)))
    | false=>dW C hs K ns dst ⟨⟩ e R acc (ldc p i off ((r.drop off).headD .any))):=by
 apply propext
 constructor
 ·rintro ⟨r',h,h1,h2⟩
  rw [hr] at h
  cases h
  refine ⟨h1,?_⟩
  cases ag <;> exact h2
 ·rintro ⟨h1,h2⟩
  refine sO hr h1 ?_
  cases ag <;> exact h2
@[simp] theorem Im {sz : Nat} {c0 : List D} {es : List (List D)} : jd C hs K ns dst u e R acc sz (c0::es) 0=(c0.length=sz /\ dW C hs K ns dst ⟨⟩ e R acc (.ptr c0)):=bf rfl
theorem wJ {n : Nat} {ag : Bool} {p : Pa} {off : Nat} {c0 : List D} {es : List (List D)} : la C hs K ns dst u e R acc n ag p (c0::es) 0 off=(off + n <= c0.length /\ match ag with
    | true=>(((c0.drop off).take n).all isV=true -> dW C hs K ns dst ⟨⟩ e R acc (.agg ((c0.drop off).take n))) /\
      (((c0.drop off).take n).all isV=false -> dW C hs K ns dst ⟨⟩ e R acc (.agx (((c0.drop off).take n).mapIdx fun j c=>ldc p 0 (off + j) c)))
    | false=>dW C hs K ns dst ⟨⟩ e R acc (ldc p 0 off ((c0.drop off).headD .any))):=aV rfl
@[simp] theorem Io {sz : Nat} {c0 c1 : List D} {es : List (List D)} : jd C hs K ns dst u e R acc sz (c0::c1::es) 1=(c1.length=sz /\ dW C hs K ns dst ⟨⟩ e R acc (.ptr c1)):=bf rfl
theorem wK {n : Nat} {ag : Bool} {p : Pa} {off : Nat} {c0 c1 : List D} {es : List (List D)} : la C hs K ns dst u e R acc n ag p (c0::c1::es) 1 off=(off + n <= c1.length /\ match ag with
    | true=>(((c1.drop off).take n).all isV=true -> dW C hs K ns dst ⟨⟩ e R acc (.agg ((c1.drop off).take n))) /\
      (((c1.drop off).take n).all isV=false -> dW C hs K ns dst ⟨⟩ e R acc (.agx (((c1.drop off).take n).mapIdx fun j c=>ldc p 1 (off + j) c)))
    | false=>dW C hs K ns dst ⟨⟩ e R acc (ldc p 1 off ((c1.drop off).headD .any))):=aV rfl
@[simp] theorem Ip {sz : Nat} {c0 c1 c2 : List D} {es : List (List D)} : jd C hs K ns dst u e R acc sz (c0::c1::c2::es) 2=(c2.length=sz /\ dW C hs K ns dst ⟨⟩ e R acc (.ptr c2)):=bf rfl
theorem wL {n : Nat} {ag : Bool} {p : Pa} {off : Nat} {c0 c1 c2 : List D} {es : List (List D)} : la C hs K ns dst u e R acc n ag p (c0::c1::c2::es) 2 off=(off + n <= c2.length /\ match ag with
    | true=>(((c2.drop off).take n).all isV=true -> dW C hs K ns dst ⟨⟩ e R acc (.agg ((c2.drop off).take n))) /\
      (((c2.drop off).take n).all isV=false -> dW C hs K ns dst ⟨⟩ e R acc (.agx (((c2.drop off).take n).mapIdx fun j c=>ldc p 2 (off + j) c)))
    | false=>dW C hs K ns dst ⟨⟩ e R acc (ldc p 2 off ((c2.drop off).headD .any))):=aV rfl
@[simp] theorem Iq {sz : Nat} {c0 c1 c2 c3 : List D} {es : List (List D)} : jd C hs K ns dst u e R acc sz (c0::c1::c2::c3::es) 3=(c3.length=sz /\ dW C hs K ns dst ⟨⟩ e R acc (.ptr c3)):=bf rfl
theorem wM {n : Nat} {ag : Bool} {p : Pa} {off : Nat} {c0 c1 c2 c3 : List D} {es : List (List D)} : la C hs K ns dst u e R acc n ag p (c0::c1::c2::c3::es) 3 off=(off + n <= c3.length /\ match ag with
    | true=>(((c3.drop off).take n).all isV=true -> dW C hs K ns dst ⟨⟩ e R acc (.agg ((c3.drop off).take n))) /\
      (((c3.drop off).take n).all isV=false -> dW C hs K ns dst ⟨⟩ e R acc (.agx (((c3.drop off).take n).mapIdx fun j c=>ldc p 3 (off + j) c)))
    | false=>dW C hs K ns dst ⟨⟩ e R acc (ldc p 3 off ((c3.drop off).headD .any))):=aV rfl
@[simp] theorem Ir {sz : Nat} {c0 c1 c2 c3 c4 : List D} {es : List (List D)} : jd C hs K ns dst u e R acc sz (c0::c1::c2::c3::c4::es) 4=(c4.length=sz /\ dW C hs K ns dst ⟨⟩ e R acc (.ptr c4)):=bf rfl
theorem wO {n : Nat} {ag : Bool} {p : Pa} {off : Nat} {c0 c1 c2 c3 c4 : List D} {es : List (List D)} : la C hs K ns dst u e R acc n ag p (c0::c1::c2::c3::c4::es) 4 off=(off + n <= c4.length /\ match ag with
    | true=>(((c4.drop off).take n).all isV=true -> dW C hs K ns dst ⟨⟩ e R acc (.agg ((c4.drop off).take n))) /\
      (((c4.drop off).take n).all isV=false -> dW C hs K ns dst ⟨⟩ e R acc (.agx (((c4.drop off).take n).mapIdx fun j c=>ldc p 4 (off + j) c)))
    | false=>dW C hs K ns dst ⟨⟩ e R acc (ldc p 4 off ((c4.drop off).headD .any))):=aV rfl
attribute [simp] wJ wK wL wM wO
end
end Go.Gv

namespace Go.Gv
section
variable {C : CC} {hs : Option (List Nat)} {K : Env -> Prop} {ns : List av} {dst : Option Nat} {u : Tag (hs,K,ns)} {e : Env} {R : List Nat} {acc : List (List Nat × List Nat)}
@[simp] theorem Is {sz : Nat} {c0 c1 c2 c3 c4 c5 : List D} {es : List (List D)} : jd C hs K ns dst u e R acc sz (c0::c1::c2::c3::c4::c5::es) 5=(c5.length=sz /\ dW C hs K ns dst ⟨⟩ e R acc (.ptr c5)):=bf rfl
@[simp] theorem KM {n : Nat} {ag : Bool} {p : Pa} {off : Nat} {c0 c1 c2 c3 c4 c5 : List D} {es : List (List D)} : la C hs K ns dst u e R acc n ag p (c0::c1::c2::c3::c4::c5::es) 5 off=(off + n <= c5.length /\ match ag with
    | true=>(((c5.drop off).take n).all isV=true -> dW C hs K ns dst ⟨⟩ e R acc (.agg ((c5.drop off).take n))) /\
      (((c5.drop off).take n).all isV=false -> dW C hs K ns dst ⟨⟩ e R acc (.agx (((c5.drop off).take n).mapIdx fun j c=>ldc p 5 (off + j) c)))
    | false=>dW C hs K ns dst ⟨⟩ e R acc (ldc p 5 off ((c5.drop off).headD .any))):=aV rfl
@[simp] theorem It {sz : Nat} {c0 c1 c2 c3 c4 c5 c6 : List D} {es : List (List D)} : jd C hs K ns dst u e R acc sz (c0::c1::c2::c3::c4::c5::c6::es) 6=(c6.length=sz /\ dW C hs K ns dst ⟨⟩ e R acc (.ptr c6)):=bf rfl
@[simp] theorem KN {n : Nat} {ag : Bool} {p : Pa} {off : Nat} {c0 c1 c2 c3 c4 c5 c6 : List D} {es : List (List D)} : la C hs K ns dst u e R acc n ag p (c0::c1::c2::c3::c4::c5::c6::es) 6 off=(off + n <= c6.length /\ match ag with
    | true=>(((c6.drop off).take n).all isV=true -> dW C hs K ns dst ⟨⟩ e R acc (.agg ((c6.drop off).take n))) /\
      (((c6.drop off).take n).all isV=false -> dW C hs K ns dst ⟨⟩ e R acc (.agx (((c6.drop off).take n).mapIdx fun j c=>ldc p 6 (off + j) c)))
    | false=>dW C hs K ns dst ⟨⟩ e R acc (ldc p 6 off ((c6.drop off).headD .any))):=aV rfl
@[simp] theorem Iu {sz : Nat} {c0 c1 c2 c3 c4 c5 c6 c7 : List D} {es : List (List D)} : jd C hs K ns dst u e R acc sz (c0::c1::c2::c3::c4::c5::c6::c7::es) 7=(c7.length=sz /\ dW C hs K ns dst ⟨⟩ e R acc (.ptr c7)):=bf rfl
@[simp] theorem KO {n : Nat} {ag : Bool} {p : Pa} {off : Nat} {c0 c1 c2 c3 c4 c5 c6 c7 : List D} {es : List (List D)} : la C hs K ns dst u e R acc n ag p (c0::c1::c2::c3::c4::c5::c6::c7::es) 7 off=(off + n <= c7.length /\ match ag with
    | true=>(((c7.drop off).take n).all isV=true -> dW C hs K ns dst ⟨⟩ e R acc (.agg ((c7.drop off).take n))) /\
      (((c7.drop off).take n).all isV=false -> dW C hs K ns dst ⟨⟩ e R acc (.agx (((c7.drop off).take n).mapIdx fun j c=>ldc p 7 (off + j) c)))
    | false=>dW C hs K ns dst ⟨⟩ e R acc (ldc p 7 off ((c7.drop off).headD .any))):=aV rfl
end
end Go.Gv

namespace Go.Gv
theorem oX {α : Type} (n : Nat) (x : α) : List.replicate n x=(List.range n).map fun _=>x:=by simp [List.map_const']
theorem kP (l : List Nat) : aG l=(l.map fun k : Nat=>(k : Int)).map fun n=>[.int .i64 n]:=by simp [aG]
theorem yu {l : List Int} : ∀ e ∈ (l.map fun n=>[D.int .i64 n]),e.length=1 /\ ∀ c ∈ e,aq c=true:=by
 intro e he
 simp only [List.mem_map] at he
 obtain ⟨k,_,rfl⟩:=he
 simp [aq]
theorem yv {l : List Int} : ∀ e ∈ (l.map fun n=>[D.int .i64 n]),e.length=1 /\ ∀ c ∈ e,bj c=true:=by
 intro e he
 simp only [List.mem_map] at he
 obtain ⟨k,_,rfl⟩:=he
 simp [bj]
def ndD (l : List Nat) : D:=.sl (aG l)
def Dc (n : Nat) (es : List Edg) : D:=.sl ((List.range n).map fun v=>[ndD (nxt n es v)])
def lM (n : Nat) (es : List Edg) (j : Nat) : List (List D):=(List.range n).map fun v=>[.own 1 (aG (tgs (es.take j) v))]
def lN (n : Nat) (es : List Edg) (j : Nat) : List (List D):=(List.range n).map fun v=>[.own 1 (aG (if v < j then nxt n es v else tgs es v))]
theorem aC (l : List Nat) : (aG l).length=l.length:=by simp [aG]
theorem gD (l : List Nat) : (aG l).take l.length=aG l:=by rw [<- aC l];exact List.take_length
theorem gC (l : List Nat) (k : Nat) : aG l++[[.int .i64 (k : Int)]]=aG (l++[k]):=by simp [aG]
theorem sn {l : List Nat} : ∀ e ∈ aG l,e.length=1 /\ ∀ c ∈ e,aq c=true:=by
 intro e he
 simp only [aG,List.mem_map] at he
 obtain ⟨k,_,rfl⟩:=he
 simp [aq]
theorem oN {l : List Nat} : ∀ e ∈ aG l,e.length=1 /\ ∀ c ∈ e,bj c=true:=by
 intro e he
 simp only [aG,List.mem_map] at he
 obtain ⟨k,_,rfl⟩:=he
 simp [bj]
variable {C : CC} (hC : am prog C)
include hC
theorem C9 (hS : SlC C) {b : Bool} {n : Nat} {es : List Edg} (hn : n <= 300) (he : es.length <= 1000) (hg : inG n es) : C 517 [.int .i64 n,slx b (es.map edK)] (Dc n es) []:=by
 refine al hC (nf:=N517) rfl rfl ?_
 simp [N517]
 refine ⟨by omega,?_⟩
 refine aj Nat (fun j=>[(5,.ref (.r 10080) 0 n),(10080,.blk 1 (lM n es j)),(11,slx b (es.map edK)),(12,.int .i64 es.length),(13,.int .i64 j)]) (fun j=>j <= es.length) (fun j=>es.length - j) 0 (by simp) (by simp [lM,tgs,aG,oX]) ?_
 rintro j hj
 simp
 refine ab (fun h=>?_) (fun h=>?_) <;> simp [h] <;> simp at h
 ·have hw : IntKind.wrap .i64 ((j : Int) + 1)=((j + 1 : Nat) : Int):=af (by omega) (by omega)
  have hin:=hg _ (List.getElem_mem h)
  have hr : (lM n es j)[es[j].1]? = some [.own 1 (aG (tgs (es.take j) es[j].1))]:=by simp [lM,hin.1]
  have hlt:=s9 (es.take j) es[j].1
  have hb : (tgs (es.take j) es[j].1).length <= 1000:=by simp at hlt;omega
  have hrl : (lM n es j).length=n:=by simp [lM]
  have hr2 : es[j].1 < (lM n es j).length:=by omega
  simp [h,edK,knD,aV hr,hin,hr,aC]
  refine ⟨by omega,?_⟩
  simp only [gD,gC]
  have e1 : ∀ e,e ∈ aG (tgs (es.take j) es[j].1) \/ e=[.int .i64 (es[j].2 : Int)] -> ∀ c ∈ e,aq c=true:=by
   rintro e (h1 | rfl)
   ·exact (sn e h1).2
   ·simp [aq]
  have e2 : (((lM n es j).set es[j].1 [.any]).set es[j].1 [.own 1 (aG (tgs (es.take j) es[j].1++[es[j].2]))])=lM n es (j + 1):=by
   rw [List.set_set]
   unfold lM
   rw [lb]
   apply List.map_congr_left
   intro v _
   rw [xg h]
   by_cases e : v=es[j].1
   ·subst e;simp
   ·rw [if_neg e,if_neg (Ne.symm e),List.append_nil]
  refine ⟨e1,?_⟩
  simp [hr2,e2]
  refine ⟨ar (by decide +kernel),?_⟩
  simp [hw]
  refine ⟨j + 1,by omega,by omega,?_,by simp⟩
  simp only [gD,gC]
  rw [<- e2,List.set_set]
 ·have e0 : lM n es j=lN n es 0:=by
   unfold lM lN
   rw [List.take_of_length_le h]
   simp
  rw [e0]
  refine aj Nat (fun j=>[(5,.ref (.r 10080) 0 n),(10080,.blk 1 (lN n es j)),(32,.int .i64 n),(33,.int .i64 j)]) (fun j=>j <= n) (fun j=>n - j) 0 (by simp) (by simp) ?_
  clear e0 h hj j
  rintro j hj
  simp
  refine ab (fun h=>?_) (fun h=>?_) <;> simp [h] <;> simp at h
  ·have hw : IntKind.wrap .i64 ((j : Int) + 1)=((j + 1 : Nat) : Int):=af (by omega) (by omega)
   have hr : (lN n es j)[j]? = some [.own 1 (aG (tgs es j))]:=by simp [lN,h]
   have hl:=s9 es j
   simp [h,aV hr,hr,aC]
   have ks:=hS.sort ((tgs es j).map fun k : Nat=>(k : Int)) (by simp;omega)
   have kc:=hS.compact (((tgs es j).map fun k : Nat=>(k : Int)).mergeSort fun x y=>decide (x <= y)) (by simp [List.length_mergeSort];omega)
   rw [oB hg,<- kP] at kc
   rw [<- kP] at ks
   have hsl : (((tgs es j).map fun k : Nat=>(k : Int)).mergeSort fun x y=>decide (x <= y)).length=(tgs es j).length:=by simp [List.length_mergeSort]
   obtain ⟨zs,hz⟩ : ∃ zs,zs=((tgs es j).map fun k : Nat=>(k : Int)).mergeSort fun x y=>decide (x <= y):=⟨_,rfl⟩
   rw [<- hz] at ks kc hsl
   have hjl : j < (lN n es j).length:=by simp [lN,h]
   have e1 : (((lN n es j).set j [.own 1 (zs.map fun n=>[.int .i64 n])]).set j [.any]).set j [.own 1 (aG (nxt n es j))]=lN n es (j + 1):=by
    rw [List.set_set,List.set_set]
    unfold lN
    rw [lb]
    apply List.map_congr_left
    intro v _
    by_cases e : v=j
    ·subst e;simp
    ·rw [if_neg e]
     by_cases e2 : v < j
     ·rw [if_pos e2,if_pos (by omega)]
     ·rw [if_neg e2,if_neg (by omega)]
   refine vf ks (by rw [List.length_map,hsl,aC]) yu ?_
   have hset : ∀ x,((lN n es j).set j x)[j]? = some x:=fun x=>by simp [hjl]
   simp [hr,h,aV (hset _),hset]
   refine ⟨fun e he=>(yv e (List.mem_of_mem_take he)).2,?_⟩
   have e3 : (zs.map fun n=>[D.int .i64 n]).take zs.length=zs.map fun n=>[D.int .i64 n]:=List.take_of_length_le (by simp)
   rw [e3]
   refine sc kc oN ?_
   simp [hr,h,aV (hset _),hset]
   rw [List.set_set,List.set_set] at e1
   exact ⟨fun e he=>(sn e he).2,j + 1,by omega,by omega,e1,hw⟩
  ·have e : j=n:=by omega
   subst e
   simp [lN]
   unfold Dc
   rw [List.take_of_length_le (by simp)]
   congr 1
   apply List.map_congr_left
   intro v hv
   have : v < j:=by simpa using hv
   simp [this,aR,ndD]
end Go.Gv

namespace Go.Gv
open Go.Lib
theorem pO (a : Nat) (ha : a < 18446744073709551616) : bits .and .u64 (a : Int) 4294967295=((a % 4294967296 : Nat) : Int):=by
 have h:=bits_and_u64_nat a 4294967295 ha (by omega)
 have e : a &&& 4294967295=a % 4294967296:=Nat.and_two_pow_sub_one_eq_mod a 32
 rw [e] at h
 exact h
theorem qu (a k : Nat) : Int.fdiv (a : Int) (2 ^ k)=((a / 2 ^ k : Nat) : Int):=by
 rw [Int.fdiv_eq_ediv_of_nonneg _ (by exact Int.pow_nonneg (by omega))]
 norm_cast
theorem sU (a : Nat) : Int.fdiv (a : Int) (2 ^ min 32 IntKind.u64.bits)=((a / 4294967296 : Nat) : Int):=qu a 32
theorem ua (a b : Nat) : (a : Int) * (b : Int)=((a * b : Nat) : Int):=(Int.natCast_mul a b).symm
theorem G5 (a b : Nat) : (a : Int) + (b : Int)=((a + b : Nat) : Int):=(Int.natCast_add a b).symm
theorem cM (a : Nat) (ha : a < 18446744073709551616) : IntKind.u64.wrap (a : Int)=(a : Int):=by
 have e1 : IntKind.u64.signed=false:=rfl
 have e3 : (2 ^ IntKind.u64.bits : Int)=18446744073709551616:=rfl
 unfold IntKind.wrap
 simp only [e1,e3,Bool.false_and]
 simp
 omega
theorem Br (a : Nat) : IntKind.u64.wrap (a : Int)=((a % 18446744073709551616 : Nat) : Int):=by
 have e1 : IntKind.u64.signed=false:=rfl
 have e3 : (2 ^ IntKind.u64.bits : Int)=18446744073709551616:=rfl
 unfold IntKind.wrap
 simp only [e1,e3,Bool.false_and]
 simp
variable {C : CC} (hC : am prog C)
include hC
theorem lQ (x y : Nat) (hx : x < 18446744073709551616) (hy : y < 18446744073709551616) : C 91 [.int .u64 x,.int .u64 y] (.tup [.int .u64 ((x * y / 18446744073709551616 : Nat) : Int),.int .u64 ((x * y % 18446744073709551616 : Nat) : Int)]) []:=by
 refine al hC (nf:=N91) rfl rfl ?_
 obtain ⟨bd,bt,bw,hhi⟩:=Lib.mul64_hi x y hx hy
 have ba:=Lib.half_mul_le (a:=x / 4294967296) (b:=y / 4294967296) (by omega) (by omega)
 have bb:=Lib.half_mul_le (a:=x / 4294967296) (b:=y % 4294967296) (by omega) (by omega)
 have bc:=Lib.half_mul_le (a:=x % 4294967296) (b:=y / 4294967296) (by omega) (by omega)
 have ba' : x / 4294967296 * (y / 4294967296) < 18446744073709551616:=by omega
 have bb' : x / 4294967296 * (y % 4294967296) < 18446744073709551616:=by omega
 have bc' : x % 4294967296 * (y / 4294967296) < 18446744073709551616:=by omega
 have bh1 : x / 4294967296 * (y / 4294967296) + (x / 4294967296 * (y % 4294967296) + x % 4294967296 * (y % 4294967296) / 4294967296) / 4294967296 < 18446744073709551616:=by omega
 have bh : x / 4294967296 * (y / 4294967296) + (x / 4294967296 * (y % 4294967296) + x % 4294967296 * (y % 4294967296) / 4294967296) / 4294967296 + ((x / 4294967296 * (y % 4294967296) + x % 4294967296 * (y % 4294967296) / 4294967296) % 4294967296 + x % 4294967296 * (y / 4294967296)) / 4294967296 < 18446744073709551616:=by omega
 simp [N91]
 simp only [pO x hx,pO y hy,sU,ua,G5,cM _ bd,cM _ bb',cM _ bt,pO _ bt,cM _ bc',cM _ bw,cM _ ba',cM _ bh1,cM _ bh,Br (x * y)]
 rw [hhi]
 exact ⟨by omega,by omega⟩
end Go.Gv

namespace Go.Gv
theorem Bm (a : Nat) : Int.fdiv (a : Int) (2 ^ min 16 IntKind.u64.bits)=((a / 65536 : Nat) : Int):=qu a 16
theorem zA (a : Nat) : Int.fdiv (a : Int) (2 ^ min 8 IntKind.u64.bits)=((a / 256 : Nat) : Int):=qu a 8
theorem Lo (a : Nat) (h : a < 256) : IntKind.u8.wrap (a : Int)=(a : Int):=by
 have e1 : IntKind.u8.signed=false:=rfl
 have e3 : (2 ^ IntKind.u8.bits : Int)=256:=rfl
 unfold IntKind.wrap
 simp only [e1,e3,Bool.false_and]
 simp
 omega
theorem ri : S1.length=256 /\ ∀ n : Fin 256,S1[n.val]?.getD 0=UInt8.ofNat (bitLen n.val) /\ bitLen n.val <= 8:=by decide +kernel
theorem fc {x n z : Nat} {m : Int} (hz : z < 256) (hm : m=n) (hn : n <= 56) (h : n + bitLen z=bitLen x) : 0 <= IntKind.u8.wrap (z : Int) /\ (IntKind.u8.wrap (z : Int)).toNat < S1.length /\ IntKind.i64.wrap (m + IntKind.i64.wrap ↑(S1[(IntKind.u8.wrap (z : Int)).toNat]?.getD default).toNat)=(bitLen x : Int):=by
 rw [Lo z hz]
 obtain ⟨h1,h2⟩:=ri
 obtain ⟨h3,h4⟩:=h2 ⟨z,hz⟩
 have e : (S1[(z : Int).toNat]?.getD default).toNat=bitLen z:=by
  show (S1[z]?.getD 0).toNat=bitLen z
  simp only at h3 h4
  rw [h3,UInt8.toNat_ofNat']
  omega
 simp only at h4
 rw [e]
 have e2 : IntKind.i64.wrap (bitLen z : Int)=(bitLen z : Int):=af rfl (by omega)
 refine ⟨by omega,by omega,?_⟩
 rw [e2,hm]
 exact af (by omega) (by omega)
variable {C : CC} (hC : am prog C)
include hC
theorem xI (x : Nat) (hx : x < 18446744073709551616) : C 111 [.int .u64 x] (.int .i64 (bitLen x)) []:=by
 refine al hC (nf:=N111) rfl rfl ?_
 have key : ∀ (b z : Nat),2 ^ b <= z -> bitLen z=b + bitLen (z / 2 ^ b):=fun b z h=>bitLen_shift z b (by
  have:=Nat.div_pos h (Nat.two_pow_pos b)
  omega)
 simp [N111]
 refine ab (fun h1=>?_) (fun h1=>?_) <;> simp at h1
 ·obtain ⟨y,hy⟩ : ∃ y : Nat,y=x / 4294967296:=⟨_,rfl⟩
  have e1 : Int.fdiv (x : Int) (2 ^ min 32 IntKind.u64.bits)=(y : Int):=by rw [sU,hy]
  have k1:=key 32 x (by omega)
  simp [e1]
  refine ab (fun h2=>?_) (fun h2=>?_) <;> simp at h2
  ·obtain ⟨z,hz⟩ : ∃ z : Nat,z=y / 65536:=⟨_,rfl⟩
   have e2 : Int.fdiv (y : Int) (2 ^ min 16 IntKind.u64.bits)=(z : Int):=by rw [Bm,hz]
   have k2:=key 16 y (by omega)
   simp [e2]
   refine ab (fun h3=>?_) (fun h3=>?_) <;> simp at h3
   ·obtain ⟨v,hv⟩ : ∃ v : Nat,v=z / 256:=⟨_,rfl⟩
    have e3 : Int.fdiv (z : Int) (2 ^ min 8 IntKind.u64.bits)=(v : Int):=by rw [zA,hv]
    have k3:=key 8 z (by omega)
    simp [e3]
    refine fc (n:=56) (by omega) ?_ (by omega) ?_
    ·decide
    ·simp only [Nat.reducePow] at k1 k2 k3
     rw [<- hy] at k1;rw [<- hz] at k2;rw [<- hv] at k3;omega
   ·simp
    refine fc (n:=48) (by omega) ?_ (by omega) ?_
    ·decide
    ·simp only [Nat.reducePow] at k1 k2
     rw [<- hy] at k1;rw [<- hz] at k2;omega
  ·simp
   refine ab (fun h3=>?_) (fun h3=>?_) <;> simp at h3
   ·obtain ⟨v,hv⟩ : ∃ v : Nat,v=y / 256:=⟨_,rfl⟩
    have e3 : Int.fdiv (y : Int) (2 ^ min 8 IntKind.u64.bits)=(v : Int):=by rw [zA,hv]
    have k3:=key 8 y (by omega)
    simp [e3]
    refine fc (n:=40) (by omega) ?_ (by omega) ?_
    ·decide
    ·simp only [Nat.reducePow] at k1 k3
     rw [<- hy] at k1;rw [<- hv] at k3;omega
   ·simp
    refine fc (n:=32) (by omega) ?_ (by omega) ?_
    ·decide
    ·simp only [Nat.reducePow] at k1
     rw [<- hy] at k1;omega
 ·simp
  refine ab (fun h2=>?_) (fun h2=>?_) <;> simp at h2
  ·obtain ⟨z,hz⟩ : ∃ z : Nat,z=x / 65536:=⟨_,rfl⟩
   have e2 : Int.fdiv (x : Int) (2 ^ min 16 IntKind.u64.bits)=(z : Int):=by rw [Bm,hz]
   have k2:=key 16 x (by omega)
   simp [e2]
   refine ab (fun h3=>?_) (fun h3=>?_) <;> simp at h3
   ·obtain ⟨v,hv⟩ : ∃ v : Nat,v=z / 256:=⟨_,rfl⟩
    have e3 : Int.fdiv (z : Int) (2 ^ min 8 IntKind.u64.bits)=(v : Int):=by rw [zA,hv]
    have k3:=key 8 z (by omega)
    simp [e3]
    refine fc (n:=24) (by omega) ?_ (by omega) ?_
    ·decide
    ·simp only [Nat.reducePow] at k2 k3
     rw [<- hz] at k2;rw [<- hv] at k3;omega
   ·simp
    refine fc (n:=16) (by omega) ?_ (by omega) ?_
    ·decide
    ·simp only [Nat.reducePow] at k2
     rw [<- hz] at k2;omega
  ·simp
   refine ab (fun h3=>?_) (fun h3=>?_) <;> simp at h3
   ·obtain ⟨v,hv⟩ : ∃ v : Nat,v=x / 256:=⟨_,rfl⟩
    have e3 : Int.fdiv (x : Int) (2 ^ min 8 IntKind.u64.bits)=(v : Int):=by rw [zA,hv]
    have k3:=key 8 x (by omega)
    simp [e3]
    refine fc (n:=8) (by omega) ?_ (by omega) ?_
    ·decide
    ·simp only [Nat.reducePow] at k3
     rw [<- hv] at k3;omega
   ·simp
    have:=fc (x:=x) (n:=0) (m:=0) (z:=x) (by omega) rfl (by omega) (by omega)
    simpa using this
theorem ky (x : Nat) (hx : x < 18446744073709551616) : C 102 [.int .u64 x] (.int .i64 ((64 - bitLen x : Nat) : Int)) []:=by
 have hb : bitLen x <= 64:=by
  unfold bitLen
  split
  ·omega
  ·rename_i h
   have:=(Nat.log2_lt h).2 (show x < 2 ^ 64 by omega)
   omega
 refine al hC (nf:=N102) rfl rfl ?_
 simp [N102]
 refine aa (xI hC x hx) (.inl rfl) ?_
 have e : IntKind.wrap .i64 (64 - (bitLen x : Int))=((64 - bitLen x : Nat) : Int):=af (by omega) (by omega)
 simp [e]
end Go.Gv

namespace Go.Gv
structure DvI (u d a b q r : Nat) : Prop where
 sum : q * a + r=u
 ge : (u * 4294967296 + d) / (a * 4294967296 + b) <= q
 rlt : r < 4294967296
 qle : q <= 4294967297
section
variable {u d a b q r : Nat}
theorem Dv.mul (h : q * a + r=u) : q * (a * 4294967296 + b) + r * 4294967296=u * 4294967296 + q * b:=by
 subst h
 rw [Nat.mul_add,<- Nat.mul_assoc,Nat.add_mul]
 omega
theorem Dv.lt (_ : 0 < a) (hu : u < a * 4294967296 + b) (hd : d < 4294967296) : (u * 4294967296 + d) / (a * 4294967296 + b) < 4294967296:=by
 rw [Nat.div_lt_iff_lt_mul (by omega)]
 have : (u + 1) * 4294967296 <= (a * 4294967296 + b) * 4294967296:=Nat.mul_le_mul_right _ hu
 omega
theorem DvI.first (ha : 2147483648 <= a) (ha2 : a < 4294967296) (hb : b < 4294967296) (hu : u < a * 4294967296 + b) (hd : d < 4294967296) : DvI u d a b (u / a) (u % a) where
 sum:=by rw [Nat.mul_comm];exact Nat.div_add_mod u a
 rlt:=by have:=Nat.mod_lt u (show 0 < a by omega);omega
 ge:=by
  rw [Nat.le_div_iff_mul_le (by omega)]
  have h:=Nat.div_mul_le_self (u * 4294967296 + d) (a * 4294967296 + b)
  generalize (u * 4294967296 + d) / (a * 4294967296 + b)=Q at *
  rw [Nat.mul_add,<- Nat.mul_assoc] at h
  generalize Q * b=z at *
  generalize Q * a=x at *
  omega
 qle:=by
  have : u / a < 4294967298:=by
   rw [Nat.div_lt_iff_lt_mul (by omega)]
   omega
  omega
theorem DvI.more (h : DvI u d a b q r) (ha : 0 < a) (hu : u < a * 4294967296 + b) (hd : d < 4294967296) (hc : 4294967296 <= q \/ 4294967296 * r + d < q * b) : (u * 4294967296 + d) / (a * 4294967296 + b) + 1 <= q:=by
 rcases hc with hc | hc
 ·have:=Dv.lt (d:=d) ha hu hd
  omega
 ·have h1:=Dv.mul (b:=b) h.sum
  have : (u * 4294967296 + d) / (a * 4294967296 + b) < q:=by
   rw [Nat.div_lt_iff_lt_mul (by omega)]
   generalize q * (a * 4294967296 + b)=z at *
   generalize q * b=x at *
   omega
  omega
theorem DvI.done (h : DvI u d a b q r) (ha : 0 < a) (hc : q * b <= 4294967296 * r + d) : q=(u * 4294967296 + d) / (a * 4294967296 + b):=by
 have h1:=Dv.mul (b:=b) h.sum
 have h2:=h.ge
 have : q <= (u * 4294967296 + d) / (a * 4294967296 + b):=by
  rw [Nat.le_div_iff_mul_le (by omega)]
  generalize q * (a * 4294967296 + b)=z at *
  generalize q * b=x at *
  omega
 omega
theorem DvI.next (h : DvI u d a b q r) (ha : 0 < a) (hu : u < a * 4294967296 + b) (hd : d < 4294967296) (hc : 4294967296 <= q \/ 4294967296 * r + d < q * b) :
  1 <= q /\ (q - 1) * a + (r + a)=u /\ (u * 4294967296 + d) / (a * 4294967296 + b) <= q - 1 /\ q - 1 <= 4294967296:=by
 have h1:=h.more ha hu hd hc
 have h2:=h.qle
 have h3:=h.sum
 generalize (u * 4294967296 + d) / (a * 4294967296 + b)=Q at *
 obtain ⟨q',rfl⟩ : ∃ q',q=q' + 1:=⟨q - 1,by omega⟩
 refine ⟨by omega,?_,by omega,by omega⟩
 rw [Nat.add_mul] at h3
 simp only [Nat.add_sub_cancel]
 omega
theorem Dv.stop (hs : q * a + r=u) (hg : (u * 4294967296 + d) / (a * 4294967296 + b) <= q) (hq : q <= 4294967296) (ha : 0 < a) (hb : b < 4294967296) (hr : 4294967296 <= r) : q=(u * 4294967296 + d) / (a * 4294967296 + b):=by
 have h1:=Dv.mul (b:=b) hs
 have h3 : q * b <= 4294967296 * 4294967295:=Nat.mul_le_mul hq (by omega)
 have : q <= (u * 4294967296 + d) / (a * 4294967296 + b):=by
  rw [Nat.le_div_iff_mul_le (by omega)]
  generalize q * (a * 4294967296 + b)=z at *
  generalize q * b=x at *
  omega
 omega
theorem DvI.bnd (h : DvI u d a b q r) (hb : b < 4294967296) : q * b < 18446744073709551616:=by
 have:=Nat.mul_le_mul h.qle (show b <= 4294967295 by omega)
 omega
end
theorem Ci {N y S A K un0 y' : Nat} (hy : 0 < y) (hs : 0 < S) (hy' : y'=y * S) (hn : N * S=A * K + un0) :
  A / y' * K + (A % y' * K + un0) / y'=N / y /\ (A % y' * K + un0) % y' / S=N % y:=by
 have hyp : 0 < y':=by rw [hy'];exact Nat.mul_pos hy hs
 have e1:=Nat.div_add_mod A y'
 have e2:=Nat.div_add_mod (A % y' * K + un0) y'
 have l2:=Nat.mod_lt (A % y' * K + un0) hyp
 have tot : y' * (A / y' * K + (A % y' * K + un0) / y') + (A % y' * K + un0) % y'=N * S:=by
  rw [hn,Nat.mul_add,Nat.add_assoc,e2,<- Nat.mul_assoc,<- Nat.add_assoc,<- Nat.add_mul,e1]
 have hq : N * S / y'=A / y' * K + (A % y' * K + un0) / y':=by
  rw [<- tot,Nat.mul_add_div hyp,Nat.div_eq_of_lt l2,Nat.add_zero]
 have hr : N * S % y'=(A % y' * K + un0) % y':=by
  rw [<- tot,Nat.mul_add_mod,Nat.mod_eq_of_lt l2]
 rw [hy',Nat.mul_div_mul_right _ _ hs] at hq
 rw [hy',Nat.mul_mod_mul_right] at hr
 rw [hy'] at *
 exact ⟨hq.symm,by rw [<- hr,Nat.mul_div_cancel _ hs]⟩
end Go.Gv

namespace Go.Gv
theorem sZ (a b : Nat) : Int.tdiv (a : Int) (b : Int)=((a / b : Nat) : Int):=by
 rw [Int.tdiv_eq_ediv_of_nonneg (by omega)];norm_cast
theorem Bp (a b : Nat) : Int.tmod (a : Int) (b : Int)=((a % b : Nat) : Int):=by
 rw [Int.tmod_eq_emod_of_nonneg (by omega)];norm_cast
theorem iq (a : Int) : IntKind.u64.wrap a=a % 18446744073709551616:=by
 have e1 : IntKind.u64.signed=false:=rfl
 have e3 : (2 ^ IntKind.u64.bits : Int)=18446744073709551616:=rfl
 unfold IntKind.wrap
 simp only [e1,e3,Bool.false_and]
 simp
theorem orN (a b i : Nat) (hb : b < 2 ^ i) (h : a * 2 ^ i + b < 18446744073709551616) : bits .or .u64 ((a * 2 ^ i : Nat) : Int) (b : Int)=((a * 2 ^ i + b : Nat) : Int):=by
 rw [bits_or_u64_nat _ _ (by omega) (by omega),Nat.mul_comm a,Nat.two_pow_add_eq_or_of_lt hb]
theorem ub (a m b s : Nat) : (a * m + b) * s=a * s * m + b * s:=by rw [Nat.add_mul,Nat.mul_right_comm]
theorem Lf {H B W U d1 d0 : Nat} (hU : U=H + B) (h1 : d1=W / 4294967296) (h0 : d0=W % 4294967296) : H * 18446744073709551616 + (B * 18446744073709551616 + W)=(U * 4294967296 + d1) * 4294967296 + d0:=by omega
theorem Db {y s : Nat} (h0 : y ≠ 0) (hy : y < 18446744073709551616) (hs : s=64 - bitLen y) : s <= 63 /\ 9223372036854775808 <= y * 2 ^ s /\ y * 2 ^ s < 18446744073709551616:=by
 obtain ⟨h1,h2⟩:=bitLen_spec y
 have h3:=h2 h0
 have hb : bitLen y <= 64:=by
  unfold bitLen
  rw [if_neg h0]
  have:=(Nat.log2_lt h0).2 (show y < 2 ^ 64 by omega)
  omega
 have hb1 : 1 <= bitLen y:=by unfold bitLen;rw [if_neg h0];omega
 have e : bitLen y + s=64:=by omega
 refine ⟨by omega,?_,?_⟩
 ·have:=Nat.mul_le_mul_right (2 ^ s) h3
  rw [<- Nat.pow_add,show bitLen y - 1 + s=63 by omega] at this
  omega
 ·have:=Nat.mul_lt_mul_of_pos_right h1 (Nat.two_pow_pos s)
  rw [<- Nat.pow_add,e] at this
  omega
variable {C : CC} (hC : am prog C)
include hC
theorem xH (hi lo y : Nat) (h : hi < y) (hy : y < 18446744073709551616) (hl : lo < 18446744073709551616) :
  C 92 [.int .u64 hi,.int .u64 lo,.int .u64 y] (.tup [.int .u64 (((hi * 18446744073709551616 + lo) / y : Nat) : Int),.int .u64 (((hi * 18446744073709551616 + lo) % y : Nat) : Int)]) []:=by
 refine al hC (nf:=N92) rfl rfl ?_
 have h1 : ¬ y=0:=by omega
 have h2 : ¬ y <= hi:=by omega
 generalize hres : D.tup [D.int .u64 (((hi * 18446744073709551616 + lo) / y : Nat) : Int),.int .u64 (((hi * 18446744073709551616 + lo) % y : Nat) : Int)]=res
 simp [N92]
 refine ab (fun h=>?_) (fun _=>?_)
 ·simp at h;omega
 simp
 refine ab (fun h=>?_) (fun _=>?_)
 ·simp at h;omega
 simp
 refine ab (fun h=>?_) (fun h3=>?_)
 ·simp at h
  have : hi=0:=by omega
  subst this
  have hq : lo / y < 18446744073709551616:=by have:=Nat.div_le_self lo y;omega
  obtain ⟨q,hq'⟩ : ∃ q,q=lo / y:=⟨_,rfl⟩
  obtain ⟨r,hr'⟩ : ∃ r,r=lo % y:=⟨_,rfl⟩
  have e1 : Int.tdiv (lo : Int) (y : Int)=(q : Int):=by rw [sZ,hq']
  have e2 : Int.tmod (lo : Int) (y : Int)=(r : Int):=by rw [Bp,hr']
  simp [h1,e1,e2,cM q (by omega)]
  refine ⟨ar (by decide +kernel),?_⟩
  rw [<- hres,hq',hr',Nat.zero_mul,Nat.zero_add]
 simp
 refine aa (ky hC y hy) (.inl rfl) ?_
 generalize hs : 64 - bitLen y=s
 obtain ⟨s1,s2,s3⟩:=Db h1 hy hs.symm
 have w1 : IntKind.u64.wrap (s : Int)=(s : Int):=cM _ (by omega)
 have w2 : IntKind.u64.wrap (64 - (s : Int))=((64 - s : Nat) : Int):=by rw [iq];omega
 have m1 : min s IntKind.u64.bits=s:=by show min s 64=s;omega
 have m2 : min (64 - s) IntKind.u64.bits=64 - s:=by show min (64 - s) 64=64 - s;omega
 obtain ⟨Y,hY⟩ : ∃ Y,Y=y * 2 ^ s:=⟨_,rfl⟩
 obtain ⟨H,hH⟩ : ∃ H,H=hi * 2 ^ s:=⟨_,rfl⟩
 obtain ⟨W,hW⟩ : ∃ W,W=lo * 2 ^ s % 18446744073709551616:=⟨_,rfl⟩
 obtain ⟨B,hB⟩ : ∃ B,B=lo / 2 ^ (64 - s):=⟨_,rfl⟩
 rw [<- hY] at s2 s3
 have hHY : H + 2 ^ s <= Y:=by
  have:=Nat.mul_le_mul_right (2 ^ s) h
  rw [hH,hY]
  rw [Nat.succ_mul] at this
  exact this
 have hBs : B < 2 ^ s:=by
  rw [hB,Nat.div_lt_iff_lt_mul (Nat.two_pow_pos _),<- Nat.pow_add,show s + (64 - s)=64 by omega]
  exact hl
 obtain ⟨U,hU⟩ : ∃ U,U=H + B:=⟨_,rfl⟩
 have hUY : U < Y:=by omega
 have eY : IntKind.u64.wrap ((y : Int) * 2 ^ s)=(Y : Int):=by
  rw [show (y : Int) * 2 ^ s=(Y : Int) by rw [hY];norm_cast];exact cM _ s3
 have eH : IntKind.u64.wrap ((hi : Int) * 2 ^ s)=(H : Int):=by
  rw [show (hi : Int) * 2 ^ s=(H : Int) by rw [hH];norm_cast];exact cM _ (by omega)
 have eW : IntKind.u64.wrap ((lo : Int) * 2 ^ s)=(W : Int):=by
  rw [show (lo : Int) * 2 ^ s=((lo * 2 ^ s : Nat) : Int) by norm_cast,Br,hW]
 have eB : Int.fdiv (lo : Int) (2 ^ (64 - s))=(B : Int):=by rw [qu,hB]
 have eU : bits .or .u64 (H : Int) (B : Int)=(U : Int):=by
  rw [hU,hH];exact orN hi B s hBs (by omega)
 obtain ⟨Y1,hY1⟩ : ∃ Y1,Y1=Y / 4294967296:=⟨_,rfl⟩
 obtain ⟨Y0,hY0⟩ : ∃ Y0,Y0=Y % 4294967296:=⟨_,rfl⟩
 obtain ⟨d1,hd1⟩ : ∃ d1,d1=W / 4294967296:=⟨_,rfl⟩
 obtain ⟨d0,hd0⟩ : ∃ d0,d0=W % 4294967296:=⟨_,rfl⟩
 have eY1 : Int.fdiv (Y : Int) (2 ^ min 32 IntKind.u64.bits)=(Y1 : Int):=by rw [sU,hY1]
 have eY0 : bits .and .u64 (Y : Int) 4294967295=(Y0 : Int):=by rw [pO _ s3,hY0]
 have hW64 : W < 18446744073709551616:=by rw [hW];exact Nat.mod_lt _ (by omega)
 have ed1 : Int.fdiv (W : Int) (2 ^ min 32 IntKind.u64.bits)=(d1 : Int):=by rw [sU,hd1]
 have ed0 : bits .and .u64 (W : Int) 4294967295=(d0 : Int):=by rw [pO _ hW64,hd0]
 have hY1a : 2147483648 <= Y1:=by omega
 have hY1b : Y1 < 4294967296:=by omega
 have hY0b : Y0 < 4294967296:=by omega
 have hd1b : d1 < 4294967296:=by omega
 have hd0b : d0 < 4294967296:=by omega
 have hYs : Y1 * 4294967296 + Y0=Y:=by omega
 have nz : ¬ Y1=0:=by omega
 have inv1:=DvI.first hY1a hY1b hY0b (u:=U) (d:=d1) (by omega) hd1b
 obtain ⟨q,hq⟩ : ∃ q,q=U / Y1:=⟨_,rfl⟩
 obtain ⟨r,hr⟩ : ∃ r,r=U % Y1:=⟨_,rfl⟩
 rw [<- hq,<- hr] at inv1
 have eq1 : Int.tdiv (U : Int) (Y1 : Int)=(q : Int):=by rw [sZ,hq]
 have eq2 : IntKind.u64.wrap (q : Int)=(q : Int):=cM _ (by have:=inv1.qle;omega)
 have sub1 : ∀ (u a q r : Nat),q * a + r=u -> u < 18446744073709551616 -> IntKind.u64.wrap ((u : Int) - IntKind.u64.wrap ((q : Int) * (a : Int)))=(r : Int):=fun u a q r e hu=>by
  rw [ua,iq,iq]
  generalize q * a=z at *
  omega
 have er : IntKind.u64.wrap ((U : Int) - IntKind.u64.wrap ((q : Int) * (Y1 : Int)))=(r : Int):=sub1 _ _ _ _ inv1.sum (by omega)
 simp [w1,w2,m1,m2,eY,eH,eW,eB,eU,eY1,eY0,ed1,ed0,eq1,eq2,er,nz]
 have bm : ∀ {u d q r : Nat},DvI u d Y1 Y0 q r -> IntKind.u64.wrap ((q : Int) * (Y0 : Int))=((q * Y0 : Nat) : Int):=fun i=>by rw [ua];exact cM _ (i.bnd hY0b)
 have bp : ∀ {u d q r : Nat},d < 4294967296 -> DvI u d Y1 Y0 q r -> IntKind.u64.wrap (IntKind.u64.wrap (4294967296 * (r : Int)) + (d : Int))=((4294967296 * r + d : Nat) : Int):=fun {u d q r} hd i=>by
  have:=i.rlt
  rw [show (4294967296 : Int) * (r : Int)=((4294967296 * r : Nat) : Int) by omega,cM (4294967296 * r) (by omega),G5]
  exact cM _ (by omega)
 obtain ⟨Q1,hQ1⟩ : ∃ Q1,Q1=(U * 4294967296 + d1) / (Y1 * 4294967296 + Y0):=⟨_,rfl⟩
 refine pL 0 Nat (fun x=>[(2,.int .u64 Y),(8,.int .u64 s),(9,.int .u64 Y1),(10,.int .u64 Y0),(11,.int .u64 U),(13,.int .u64 d1),(14,.int .u64 d0),(15,.int .u64 x)]) (fun x=>x=Q1) ?_ ?_
 ·refine aj (Nat × Nat) (fun x=>[(2,.int .u64 Y),(8,.int .u64 s),(9,.int .u64 Y1),(10,.int .u64 Y0),(11,.int .u64 U),(13,.int .u64 d1),(14,.int .u64 d0),(15,.int .u64 x.1),(16,.int .u64 x.2)]) (fun x=>DvI U d1 Y1 Y0 x.1 x.2) (fun x=>4294967296 - x.2) (q,r) inv1 (by simp) ?_
  rintro ⟨a,c⟩ inv
  simp only at inv
  have b1:=bm inv
  have b2:=bp hd1b inv
  have b3:=inv.rlt
  have b4:=inv.qle
  have fin : (4294967296 <= a \/ 4294967296 * c + d1 < a * Y0) -> ∃ a' c' : Nat,IntKind.u64.wrap ((a : Int) - 1)=(a' : Int) /\ IntKind.u64.wrap ((c : Int) + (Y1 : Int))=(c' : Int) /\ c'=c + Y1 /\ (4294967296 <= c' -> a'=Q1) /\ (c' < 4294967296 -> DvI U d1 Y1 Y0 a' c'):=fun hc=>by
   obtain ⟨n1,n2,n3,n4⟩:=inv.next (by omega) (by rw [hYs];exact hUY) hd1b hc
   refine ⟨a - 1,c + Y1,by rw [iq];omega,by rw [iq];omega,rfl,fun hc=>(Dv.stop n2 n3 n4 (by omega) hY0b hc).trans hQ1.symm,fun hc=>⟨n2,n3,hc,by omega⟩⟩
  simp
  refine ab (fun c1=>?_) (fun c1=>?_) <;> simp [c1] <;> simp at c1
  ·obtain ⟨a',c',k1,k2,k3,k4,k5⟩:=fin (.inl (by omega))
   simp [k1,k2]
   refine ab (fun c2=>?_) (fun c2=>?_) <;> simp [c2,k1,k2] <;> simp at c2
   ·rw [k4 (by omega)]
   ·exact ⟨_,_,k5 (by omega),by omega,rfl,rfl⟩
  ·simp [b1,b2]
   refine ab (fun c3=>?_) (fun c3=>?_) <;> simp [c3] <;> simp at c3
   ·obtain ⟨a',c',k1,k2,k3,k4,k5⟩:=fin (.inr (by omega))
    simp [k1,k2]
    refine ab (fun c2=>?_) (fun c2=>?_) <;> simp [c2,k1,k2] <;> simp at c2
    ·rw [k4 (by omega)]
    ·exact ⟨_,_,k5 (by omega),by omega,rfl,rfl⟩
   ·rw [(inv.done (by omega) (by omega)).trans hQ1.symm]
 intro q1 e hq1 hw
 subst hq1
 simp at hw
 obtain ⟨g2,g8,g9,g10,g11,g13,g14,g15⟩:=hw
 obtain ⟨V,hV⟩ : ∃ V,V=(U * 4294967296 + d1) % (Y1 * 4294967296 + Y0):=⟨_,rfl⟩
 have hVY : V < Y:=by rw [hV,hYs];exact Nat.mod_lt _ (by omega)
 have sum1 : q1 * Y + V=U * 4294967296 + d1:=by rw [hQ1,hV,hYs,Nat.mul_comm];exact Nat.div_add_mod _ _
 have eV : IntKind.u64.wrap (IntKind.u64.wrap (IntKind.u64.wrap ((U : Int) * 4294967296) + (d1 : Int)) - IntKind.u64.wrap ((q1 : Int) * (Y : Int)))=(V : Int):=by
  rw [ua q1 Y]
  simp only [iq]
  generalize q1 * Y=z at *
  omega
 have inv2:=DvI.first hY1a hY1b hY0b (u:=V) (d:=d0) (by omega) hd0b
 obtain ⟨q2,hq2⟩ : ∃ q,q=V / Y1:=⟨_,rfl⟩
 obtain ⟨r2,hr2⟩ : ∃ r,r=V % Y1:=⟨_,rfl⟩
 rw [<- hq2,<- hr2] at inv2
 have eq3 : Int.tdiv (V : Int) (Y1 : Int)=(q2 : Int):=by rw [sZ,hq2]
 have eq4 : IntKind.u64.wrap (q2 : Int)=(q2 : Int):=cM _ (by have:=inv2.qle;omega)
 have er2 : IntKind.u64.wrap ((V : Int) - IntKind.u64.wrap ((q2 : Int) * (Y1 : Int)))=(r2 : Int):=sub1 _ _ _ _ inv2.sum (by omega)
 simp [g2,g8,g9,g10,g11,g13,g14,g15,eV,eq3,eq4,er2,nz]
 obtain ⟨Q0,hQ0⟩ : ∃ Q0,Q0=(V * 4294967296 + d0) / (Y1 * 4294967296 + Y0):=⟨_,rfl⟩
 refine pL 2 Nat (fun x=>[(2,.int .u64 Y),(8,.int .u64 s),(14,.int .u64 d0),(15,.int .u64 q1),(17,.int .u64 V),(18,.int .u64 x)]) (fun x=>x=Q0) ?_ ?_
 ·refine aj (Nat × Nat) (fun x=>[(2,.int .u64 Y),(8,.int .u64 s),(9,.int .u64 Y1),(10,.int .u64 Y0),(14,.int .u64 d0),(15,.int .u64 q1),(16,.int .u64 x.2),(17,.int .u64 V),(18,.int .u64 x.1)]) (fun x=>DvI V d0 Y1 Y0 x.1 x.2) (fun x=>4294967296 - x.2) (q2,r2) inv2 (by simp) ?_
  rintro ⟨a,c⟩ inv
  simp only at inv
  have b1:=bm inv
  have b2:=bp hd0b inv
  have b3:=inv.rlt
  have b4:=inv.qle
  have fin : (4294967296 <= a \/ 4294967296 * c + d0 < a * Y0) -> ∃ a' c' : Nat,IntKind.u64.wrap ((a : Int) - 1)=(a' : Int) /\ IntKind.u64.wrap ((c : Int) + (Y1 : Int))=(c' : Int) /\ c'=c + Y1 /\ (4294967296 <= c' -> a'=Q0) /\ (c' < 4294967296 -> DvI V d0 Y1 Y0 a' c'):=fun hc=>by
   obtain ⟨n1,n2,n3,n4⟩:=inv.next (by omega) (by rw [hYs];exact hVY) hd0b hc
   refine ⟨a - 1,c + Y1,by rw [iq];omega,by rw [iq];omega,rfl,fun hc=>(Dv.stop n2 n3 n4 (by omega) hY0b hc).trans hQ0.symm,fun hc=>⟨n2,n3,hc,by omega⟩⟩
  simp
  refine ab (fun c1=>?_) (fun c1=>?_) <;> simp [c1] <;> simp at c1
  ·obtain ⟨a',c',k1,k2,k3,k4,k5⟩:=fin (.inl (by omega))
   simp [k1,k2]
   refine ab (fun c2=>?_) (fun c2=>?_) <;> simp [c2,k1,k2] <;> simp at c2
   ·rw [k4 (by omega)]
   ·exact ⟨_,_,k5 (by omega),by omega,rfl,rfl⟩
  ·simp [b1,b2]
   refine ab (fun c3=>?_) (fun c3=>?_) <;> simp [c3] <;> simp at c3
   ·obtain ⟨a',c',k1,k2,k3,k4,k5⟩:=fin (.inr (by omega))
    simp [k1,k2]
    refine ab (fun c2=>?_) (fun c2=>?_) <;> simp [c2,k1,k2] <;> simp at c2
    ·rw [k4 (by omega)]
    ·exact ⟨_,_,k5 (by omega),by omega,rfl,rfl⟩
   ·rw [(inv.done (by omega) (by omega)).trans hQ0.symm]
 intro q0 e hq0 hw
 subst hq0
 simp at hw
 obtain ⟨g2,g8,g14,g15,g17,g18⟩:=hw
 have l1 : q1 < 4294967296:=by rw [hQ1];exact Dv.lt (by omega) (by omega) hd1b
 have l0 : q0 < 4294967296:=by rw [hQ0];exact Dv.lt (by omega) (by omega) hd0b
 obtain ⟨R,hR⟩ : ∃ R,R=(V * 4294967296 + d0) % (Y1 * 4294967296 + Y0):=⟨_,rfl⟩
 have hRY : R < Y:=by rw [hR,hYs];exact Nat.mod_lt _ (by omega)
 have sum0 : q0 * Y + R=V * 4294967296 + d0:=by rw [hQ0,hR,hYs,Nat.mul_comm];exact Nat.div_add_mod _ _
 have eR : IntKind.u64.wrap (IntKind.u64.wrap (IntKind.u64.wrap ((V : Int) * 4294967296) + (d0 : Int)) - IntKind.u64.wrap ((q0 : Int) * (Y : Int)))=(R : Int):=by
  rw [ua q0 Y]
  simp only [iq]
  generalize q0 * Y=z at *
  omega
 obtain ⟨Z,hZ⟩ : ∃ Z,Z=R / 2 ^ s:=⟨_,rfl⟩
 have eZ : Int.fdiv (R : Int) (2 ^ s)=(Z : Int):=by rw [qu,hZ]
 have eQ : IntKind.u64.wrap (IntKind.u64.wrap ((q1 : Int) * 4294967296) + (q0 : Int))=((q1 * 4294967296 + q0 : Nat) : Int):=by
  simp only [iq]
  omega
 obtain ⟨T,hT⟩ : ∃ T,T=q1 * 4294967296 + q0:=⟨_,rfl⟩
 rw [<- hT] at eQ
 simp [g2,g8,g14,g15,g17,g18,w1,m1,eR,eZ,eQ]
 have hW2 : lo * 2 ^ s=B * 18446744073709551616 + W:=by
  have e1 : lo * 2 ^ s / 18446744073709551616=B:=by
   rw [hB,show (18446744073709551616 : Nat)=2 ^ (64 - s) * 2 ^ s by rw [<- Nat.pow_add,show 64 - s + s=64 by omega],Nat.mul_div_mul_right _ _ (Nat.two_pow_pos s)]
  have e2:=Nat.div_add_mod (lo * 2 ^ s) 18446744073709551616
  omega
 have tot : (hi * 18446744073709551616 + lo) * 2 ^ s=(U * 4294967296 + d1) * 4294967296 + d0:=by
  rw [ub,hW2,<- hH]
  exact Lf hU hd1 hd0
 obtain ⟨f1,f2⟩:=Ci (N:=hi * 18446744073709551616 + lo) (y:=y) (S:=2 ^ s) (A:=U * 4294967296 + d1) (K:=4294967296) (un0:=d0) (y':=Y1 * 4294967296 + Y0) (by omega) (Nat.two_pow_pos s) (by rw [hYs,hY]) tot
 rw [<- hV,<- hQ1,<- hQ0,<- hT] at f1
 rw [<- hV,<- hR,<- hZ] at f2
 rw [<- hres,f1,f2]
end Go.Gv

namespace Go.Gv
def cP (n : Nat) : D:=.agg [.int .u64 ((n / 18446744073709551616 : Nat) : Int),.int .u64 ((n % 18446744073709551616 : Nat) : Int)]
def lD (x : Nat) : Nat -> Nat -> Nat
 | 0,r=>r
 | i + 1,r=>lD x i (if (r + 2 ^ i) * (r + 2 ^ i) <= x then r + 2 ^ i else r)
def qk (x : Nat) : Nat:=lD x 63 0
theorem yH {x k : Nat} : x * k=(x / 18446744073709551616 * k + x % 18446744073709551616 * k / 18446744073709551616) * 18446744073709551616 + x % 18446744073709551616 * k % 18446744073709551616:=by
 have e1:=Nat.div_add_mod x 18446744073709551616
 have e2:=Nat.div_add_mod (x % 18446744073709551616 * k) 18446744073709551616
 have e3 : x * k=(18446744073709551616 * (x / 18446744073709551616) + x % 18446744073709551616) * k:=by rw [e1]
 rw [Nat.add_mul,Nat.mul_assoc] at e3
 generalize x / 18446744073709551616 * k=A at *
 generalize x % 18446744073709551616 * k=B at *
 omega
theorem xZ {x n : Nat} (hn : 0 < n) : x / n=(x / 18446744073709551616 / n) * 18446744073709551616 + (x / 18446744073709551616 % n * 18446744073709551616 + x % 18446744073709551616) / n /\ (x / 18446744073709551616 % n * 18446744073709551616 + x % 18446744073709551616) / n < 18446744073709551616:=by
 obtain ⟨H,hH⟩ : ∃ H,H=x / 18446744073709551616:=⟨_,rfl⟩
 obtain ⟨L,hL⟩ : ∃ L,L=x % 18446744073709551616:=⟨_,rfl⟩
 rw [<- hH,<- hL]
 have hx : x=H * 18446744073709551616 + L:=by omega
 have hl : L < 18446744073709551616:=by omega
 have e1:=Nat.div_add_mod H n
 have l1:=Nat.mod_lt H hn
 generalize H / n=a at *
 generalize H % n=b at *
 constructor
 ·rw [hx,<- e1,show (n * a + b) * 18446744073709551616 + L=n * (a * 18446744073709551616) + (b * 18446744073709551616 + L) by rw [Nat.add_mul,Nat.mul_assoc,Nat.add_assoc],Nat.mul_add_div hn]
 ·rw [Nat.div_lt_iff_lt_mul hn]
  have : (b + 1) * 18446744073709551616 <= n * 18446744073709551616:=Nat.mul_le_mul_right _ l1
  rw [Nat.mul_comm n] at this
  omega
theorem rJ (x i r : Nat) : lD x (i + 1) r=lD x i (if (r + 2 ^ i) * (r + 2 ^ i) <= x then r + 2 ^ i else r):=rfl
variable {C : CC} (hC : am prog C)
include hC
theorem ul (a b : Nat) (ha : a < 9223372036854775808) (hb : b < 9223372036854775808) : C 74 [.int .i64 a,.int .i64 b] (cP (a * b)) []:=by
 refine al hC (nf:=N74) rfl rfl ?_
 simp [N74,cM a (by omega),cM b (by omega)]
 refine aa (lQ hC a b (by omega) (by omega)) (.inl rfl) ?_
 obtain ⟨h,hh⟩ : ∃ h,h=a * b / 18446744073709551616:=⟨_,rfl⟩
 obtain ⟨l,hl⟩ : ∃ l,l=a * b % 18446744073709551616:=⟨_,rfl⟩
 rw [<- hh,<- hl,cP,<- hh,<- hl]
 simp
theorem z6 (x k : Nat) (hk : k < 9223372036854775808) (hx : x < 340282366920938463463374607431768211456) (hxk : x * k < 340282366920938463463374607431768211456) : C 75 [cP x,.int .i64 k] (cP (x * k)) []:=by
 have e:=yH (x:=x) (k:=k)
 obtain ⟨h,hh⟩ : ∃ h,h=x / 18446744073709551616:=⟨_,rfl⟩
 obtain ⟨l,hl⟩ : ∃ l,l=x % 18446744073709551616:=⟨_,rfl⟩
 have hh' : h < 18446744073709551616:=by omega
 have hl' : l < 18446744073709551616:=by omega
 rw [<- hh,<- hl] at e
 obtain ⟨p,hp⟩ : ∃ p,p=l * k / 18446744073709551616:=⟨_,rfl⟩
 obtain ⟨q,hq⟩ : ∃ q,q=l * k % 18446744073709551616:=⟨_,rfl⟩
 rw [<- hp,<- hq] at e
 have hq' : q < 18446744073709551616:=by omega
 obtain ⟨z,hz⟩ : ∃ z,z=h * k:=⟨_,rfl⟩
 obtain ⟨y,hy⟩ : ∃ y,y=x * k:=⟨_,rfl⟩
 rw [<- hz,<- hy] at e
 rw [<- hy] at hxk
 obtain ⟨t,ht⟩ : ∃ t,t=z + p:=⟨_,rfl⟩
 rw [<- ht] at e
 have e1 : y / 18446744073709551616=t:=by omega
 have e2 : y % 18446744073709551616=q:=by omega
 have ht' : t < 18446744073709551616:=by omega
 have et : IntKind.u64.wrap ((p : Int) + IntKind.u64.wrap ((h : Int) * (k : Int)))=(t : Int):=by
  rw [ua h k,<- hz,iq,iq]
  clear hxk hx e e1 e2 hq hp hl hh hy hz
  omega
 have r1 : cP (x * k)=.agg [.int .u64 (t : Int),.int .u64 (q : Int)]:=by rw [cP,<- hy,e1,e2]
 have r2 : cP x=.agg [.int .u64 (h : Int),.int .u64 (l : Int)]:=by rw [cP,<- hh,<- hl]
 rw [r1,r2]
 clear r1 r2 e1 e2 e hh hl hx hxk
 refine al hC (nf:=N75) rfl rfl ?_
 simp [N75,cM k (by omega)]
 refine aa (lQ hC l k hl' (by omega)) (.inl rfl) ?_
 rw [<- hp,<- hq]
 simp [et,cM k (by omega)]
theorem Dh (x n : Nat) (hn : 0 < n) (hn2 : n < 9223372036854775808) (hx : x < 340282366920938463463374607431768211456) : C 76 [cP x,.int .i64 n] (cP (x / n)) []:=by
 obtain ⟨e,e0⟩:=xZ (x:=x) hn
 obtain ⟨h,hh⟩ : ∃ h,h=x / 18446744073709551616:=⟨_,rfl⟩
 obtain ⟨l,hl⟩ : ∃ l,l=x % 18446744073709551616:=⟨_,rfl⟩
 have hh' : h < 18446744073709551616:=by omega
 have hl' : l < 18446744073709551616:=by omega
 rw [<- hh,<- hl] at e e0
 obtain ⟨p,hp⟩ : ∃ p,p=h / n:=⟨_,rfl⟩
 obtain ⟨r,hr⟩ : ∃ r,r=h % n:=⟨_,rfl⟩
 rw [<- hp,<- hr] at e
 rw [<- hr] at e0
 obtain ⟨q,hq⟩ : ∃ q,q=(r * 18446744073709551616 + l) / n:=⟨_,rfl⟩
 rw [<- hq] at e e0
 have hrn : r < n:=by rw [hr];exact Nat.mod_lt _ hn
 have e1 : x / n / 18446744073709551616=p:=by omega
 have e2 : x / n % 18446744073709551616=q:=by omega
 have hpl : p < 18446744073709551616:=by rw [hp];have:=Nat.div_le_self h n;omega
 have ep : Int.tdiv (h : Int) (n : Int)=(p : Int):=by rw [sZ,hp]
 have er : Int.tmod (h : Int) (n : Int)=(r : Int):=by rw [Bp,hr]
 have r1 : cP (x / n)=.agg [.int .u64 (p : Int),.int .u64 (q : Int)]:=by rw [cP,e1,e2]
 have r2 : cP x=.agg [.int .u64 (h : Int),.int .u64 (l : Int)]:=by rw [cP,<- hh,<- hl]
 rw [r1,r2]
 clear r1 r2 e1 e2 e hh hl hx
 refine al hC (nf:=N76) rfl rfl ?_
 have hn0 : ¬ n=0:=by omega
 simp [N76,cM n (by omega),hn0,ep,er,cM p hpl]
 refine ⟨ar (by decide +kernel),?_⟩
 refine aa (xH hC r l n hrn (by omega) hl') (.inl rfl) ?_
 rw [<- hq]
 simp
theorem Dp (x : Nat) : C 77 [cP x] (.int .i64 (qk x)) []:=by
 obtain ⟨h,hh⟩ : ∃ h,h=x / 18446744073709551616:=⟨_,rfl⟩
 obtain ⟨l,hl⟩ : ∃ l,l=x % 18446744073709551616:=⟨_,rfl⟩
 have r2 : cP x=.agg [.int .u64 (h : Int),.int .u64 (l : Int)]:=by rw [cP,<- hh,<- hl]
 rw [r2]
 obtain ⟨N,hN⟩ : ∃ N,N=qk x:=⟨_,rfl⟩
 rw [<- hN]
 refine al hC (nf:=N77) rfl rfl ?_
 simp [N77]
 refine aj (Nat × Nat × Nat) (fun s=>[(1,.ptr [.int .u64 (h : Int),.int .u64 (l : Int)]),(3,.int .u64 s.2.1),(4,.int .u64 s.2.2)])
  (fun s=>s.1 <= 63 /\ (∃ a,s.2.1=a * 2 ^ s.1) /\ s.2.1 + 2 ^ s.1 <= 9223372036854775808 /\ s.2.2=(if s.1=0 then 0 else 2 ^ (s.1 - 1)) /\ lD x s.1 s.2.1=N) (fun s=>s.1) (63,0,4611686018427387904) ⟨by omega,⟨0,by simp⟩,by decide,by decide,by rw [hN];rfl⟩ (by simp) ?_
 rintro ⟨i,r,b⟩ ⟨h1,⟨a,h2⟩,h3,h4,h5⟩
 simp only at h1 h2 h3 h4 h5
 simp
 refine ab (fun c=>?_) (fun c=>?_) <;> simp [c] <;> simp at c
 ·obtain ⟨j,rfl⟩ : ∃ j,i=j + 1:=by
   cases i with
   | zero=>simp at h4;omega
   | succ j=>exact ⟨j,rfl⟩
  simp at h4
  have hb2 : 2 * b=2 ^ (j + 1):=by rw [h4,Nat.pow_succ];omega
  rw [<- hb2] at h3 h2
  have hor : bits .or .u64 (r : Int) (b : Int)=((r + b : Nat) : Int):=by
   rw [h2,show a * (2 * b)=a * 2 ^ (j + 1) by rw [hb2]]
   exact orN a b (j + 1) (by rw [<- hb2];omega) (by rw [<- hb2,<- h2];omega)
  obtain ⟨y,hy⟩ : ∃ y,y=r + b:=⟨_,rfl⟩
  rw [<- hy] at hor
  have hsh : Int.fdiv (b : Int) (2 ^ min 1 IntKind.u64.bits)=((b / 2 : Nat) : Int):=qu b 1
  obtain ⟨b',hb'⟩ : ∃ b',b'=b / 2:=⟨_,rfl⟩
  rw [<- hb'] at hsh
  simp [hor]
  refine aa (lQ hC y y (by omega) (by omega)) (.inl rfl) ?_
  obtain ⟨p,hp⟩ : ∃ p,p=y * y / 18446744073709551616:=⟨_,rfl⟩
  obtain ⟨q,hq⟩ : ∃ q,q=y * y % 18446744073709551616:=⟨_,rfl⟩
  rw [<- hp,<- hq]
  have h6 : lD x j (if y * y <= x then y else r)=N:=by rw [<- h5,rJ,hy,h4]
  have hb1 : b'=if j=0 then 0 else 2 ^ (j - 1):=by
   rw [hb',h4]
   cases j with
   | zero=>rfl
   | succ j=>simp [Nat.pow_succ]
  have yes : y * y <= x -> (j <= 63 /\ (∃ a,y=a * 2 ^ j) /\ y + 2 ^ j <= 9223372036854775808 /\ b'=(if j=0 then 0 else 2 ^ (j - 1)) /\ lD x j y=N):=fun hc=>by
   rw [if_pos hc] at h6
   refine ⟨by omega,⟨2 * a + 1,?_⟩,by omega,hb1,h6⟩
   rw [hy,h2,<- h4,Nat.add_mul,Nat.mul_comm 2 a,Nat.mul_assoc]
   omega
  have no : ¬ y * y <= x -> (j <= 63 /\ (∃ a,r=a * 2 ^ j) /\ r + 2 ^ j <= 9223372036854775808 /\ b'=(if j=0 then 0 else 2 ^ (j - 1)) /\ lD x j r=N):=fun hc=>by
   rw [if_neg hc] at h6
   refine ⟨by omega,⟨2 * a,?_⟩,by omega,hb1,h6⟩
   rw [h2,<- h4,Nat.mul_comm 2 a,Nat.mul_assoc]
  simp
  generalize y * y=Z at *
  refine ab (fun c1=>?_) (fun c1=>?_) <;> simp [c1,hor,hsh] <;> simp at c1
  ·exact ⟨j,y,b',yes (by omega),by omega,rfl,rfl⟩
  ·refine ab (fun c2=>?_) (fun c2=>?_) <;> simp [c2,hor,hsh] <;> simp at c2
   ·refine ab (fun c3=>?_) (fun c3=>?_) <;> simp [c3,hor,hsh] <;> simp at c3
    ·exact ⟨j,y,b',yes (by omega),by omega,rfl,rfl⟩
    ·exact ⟨j,r,b',no (by omega),by omega,rfl,rfl⟩
   ·exact ⟨j,r,b',no (by omega),by omega,rfl,rfl⟩
 ·have hi : i=0:=by
   cases i with
   | zero=>rfl
   | succ j =>
    simp at h4
    have:=Nat.two_pow_pos j
    omega
  subst hi
  have : r=N:=h5
  simp at h3
  have e1 : IntKind.wrap .i64 (r : Int)=(r : Int):=af rfl (by omega)
  rw [<- this,e1]
end Go.Gv

namespace Go.Gv
def jZ (t : List (Int × Int)) (i : Nat) : Bool:=ft t[i]!.1 && ft t[i]!.2 && (i == 0 || (t[i - 1]!.1 < t[i]!.1 && t[i - 1]!.2 <= t[i]!.2))
def aA (t : List (Int × Int)) : Bool:=1 <= t.length && t.length <= 100 && (List.range t.length).all (jZ t)
variable {C : CC} (hC : am prog C)
include hC
theorem fy (b : Bool) (t : List (Int × Int)) : C 72 [slx b (t.map knD)] (.bool (aA t)) []:=by
 refine al hC (nf:=N72) rfl rfl ?_
 simp [N72]
 refine ab (fun h=>?_) (fun h=>?_) <;> simp at h
 ·simp [aA,show t.length=0 by omega]
 simp [h]
 refine ab (fun h2=>?_) (fun h2=>?_) <;> simp at h2
 ·simp [aA,h,h2]
  omega
 simp
 refine aj Nat (fun i=>[(0,slx b (t.map knD)),(13,slx b (t.map knD)),(14,.int .i64 t.length),(15,.int .i64 i)]) (fun i=>i <= t.length /\ ∀ j < i,jZ t j=true) (fun i=>t.length - i) 0 (by simp) (by simp) ?_
 rintro i ⟨hi,hj⟩
 simp
 refine ab (fun h3=>?_) (fun h3=>?_) <;> simp at h3
 ·have bad : jZ t i=false -> aA t=false:=fun hb=>by
   simp only [aA,Bool.and_eq_false_iff,List.all_eq_false]
   exact .inr ⟨i,by simpa using h3,by simp [hb]⟩
  have e1 : t[i]! = t[i]:=getElem!_pos t i h3
  have e2 : t[i - 1]! = t[i - 1]:=getElem!_pos t (i - 1) (by omega)
  simp only [jZ,e1,e2] at bad
  have hw1 : IntKind.wrap .i64 ((i : Int) + 1)=((i + 1 : Nat) : Int):=af (by omega) (by omega)
  have next : jZ t i=true -> ∃ s' : Nat,(s' <= t.length /\ ∀ j < s',jZ t j=true) /\ t.length - s' < t.length - i /\ s'=i + 1:=fun ho =>
   ⟨i + 1,⟨by omega,fun j hjj=>by
    rcases Nat.lt_succ_iff_lt_or_eq.1 hjj with h | rfl
    ·exact hj j h
    ·exact ho⟩,by omega,rfl⟩
  simp only [jZ,e1,e2] at next
  simp [h3,knD]
  refine aa (vI hC _) (.inl rfl) ?_
  cases f1 : ft t[i].1
  ·simp
   exact ⟨ar (by decide +kernel),bad (by simp [f1])⟩
  simp
  refine aa (vI hC _) (.inl rfl) ?_
  cases f2 : ft t[i].2
  ·simp
   exact ⟨ar (by decide +kernel),bad (by simp [f2])⟩
  simp
  refine ab (fun h4=>?_) (fun h4=>?_) <;> simp at h4
  ·have hw : IntKind.wrap .i64 ((i : Int) - 1)=((i - 1 : Nat) : Int):=af (by omega) (by omega)
   have h5 : i - 1 < t.length:=by omega
   simp [h4,hw,h5,knD]
   refine ab (fun h6=>?_) (fun h6=>?_) <;> simp [h6,hw,h5,knD] <;> simp at h6
   ·refine ⟨ar (by decide +kernel),bad ?_⟩
    simp [f1,f2]
    omega
   ·refine ⟨ar (by decide +kernel),ab (fun h7=>?_) (fun h7=>?_)⟩ <;> simp [h7,hw1] <;> simp at h7
    ·refine bad ?_
     simp [f1,f2]
     omega
    ·obtain ⟨s',g1,g2,rfl⟩:=next (by simp [f1,f2,h6,h7])
     exact ⟨_,g1,g2,rfl⟩
  ·have hi0 : i=0:=by omega
   subst hi0
   simp at hw1
   simp [hw1]
   refine ⟨ar (by decide +kernel),?_⟩
   obtain ⟨s',g1,g2,rfl⟩:=next (by simp [f1,f2])
   exact ⟨_,g1,g2,rfl⟩
 ·have : i=t.length:=by omega
  subst this
  simp [aA,h,h2]
  exact ⟨⟨by omega,by omega⟩,hj⟩
end Go.Gv

namespace Go.Gv
theorem cF {t : List (Int × Int)} (h : aA t=true) : 1 <= t.length /\ t.length <= 100:=by
 simp only [aA,Bool.and_eq_true,decide_eq_true_eq] at h
 exact h.1
theorem m9 {t : List (Int × Int)} (h : aA t=true) {i : Nat} (hi : i < t.length) : ft t[i].1=true /\ ft t[i].2=true /\ ∀ j,(hj : j + 1=i) -> t[j].1 < t[i].1 /\ t[j].2 <= t[i].2:=by
 simp only [aA,Bool.and_eq_true,List.all_eq_true,List.mem_range] at h
 have:=h.2 i hi
 simp only [jZ,getElem!_pos t i hi,Bool.and_eq_true,Bool.or_eq_true,beq_iff_eq,decide_eq_true_eq] at this
 refine ⟨this.1.1,this.1.2,fun j hj=>?_⟩
 subst hj
 have h2:=this.2
 rw [Nat.add_sub_cancel,getElem!_pos t j (by omega)] at h2
 rcases h2 with h2 | h2
 ·omega
 ·exact h2
theorem om {t : List (Int × Int)} (h : aA t=true) : ∀ (j i : Nat) (hi : i < t.length) (hj : j < i),t[j].1 < t[i].1:=by
 intro j i
 induction i with
 | zero=>intro _ hj;omega
 | succ i ih =>
  intro hi hj
  have h1:=((m9 h hi).2.2 i rfl).1
  by_cases e : j=i
  ·subst e;exact h1
  ·have:=ih (by omega) (by omega)
   omega
variable {C : CC} (hC : am prog C)
include hC
theorem nB (k : Int × Int) (x : Int) : C 97 [.agg (knD k),.int .i64 x] (.int .i64 (if k.1 < x then -1 else if x < k.1 then 1 else 0)) []:=by
 refine al hC (nf:=N97) rfl rfl ?_
 simp [N97,knD]
 refine ab (fun c=>?_) (fun c=>?_)
 ·simp at c
  simp [c]
 ·simp at c
  have c1 : ¬ k.1 < x:=by omega
  simp [c1]
  refine ab (fun c2=>?_) (fun c2=>?_)
  ·simp at c2
   simp [c2,c]
  ·simp at c2
   have c3 : ¬ x < k.1:=by omega
   simp [c3,c]
theorem wT (b : Bool) (t : List (Int × Int)) (x : Int) (h : aA t=true) (n : Nat) (hn : n + 1=t.length) (hx : t[n].1=x) : C 96 [slx b (t.map knD),.int .i64 x,.fn 97 []] (.tup [.int .i64 n,.bool true]) []:=by
 obtain ⟨l1,l2⟩:=cF h
 refine al hC (nf:=N96) rfl rfl ?_
 simp [N96]
 refine aj (Nat × Nat) (fun s=>[(0,slx b (t.map knD)),(1,.int .i64 x),(2,.fn 97 []),(8,.int .i64 t.length),(9,.int .i64 s.1),(10,.int .i64 s.2)]) (fun s=>s.1 <= n /\ n <= s.2 /\ s.2 <= n + 1) (fun s=>s.2 - s.1) (0,t.length) (by simp;omega) (by simp) ?_
 rintro ⟨i,j⟩ ⟨h1,h2,h3⟩
 simp only at h1 h2 h3
 simp
 refine ab (fun c=>?_) (fun c=>?_) <;> simp [c] <;> simp at c
 ·obtain ⟨m,hm⟩ : ∃ m,m=(i + j) / 2:=⟨_,rfl⟩
  have e1 : IntKind.wrap .i64 ((i : Int) + (j : Int))=((i + j : Nat) : Int):=af (by omega) (by omega)
  obtain ⟨s,hs⟩ : ∃ s,s=i + j:=⟨_,rfl⟩
  rw [<- hs] at e1 hm
  have e2 : Int.fdiv (s : Int) (2 ^ min 1 IntKind.u64.bits)=(m : Int):=by rw [hm];exact qu s 1
  have e3 : IntKind.wrap .i64 (m : Int)=(m : Int):=af rfl (by omega)
  have e4 : IntKind.wrap .i64 ((m : Int) + 1)=((m + 1 : Nat) : Int):=af (by omega) (by omega)
  have hml : m < t.length:=by omega
  simp [e1,cM s (by omega),e2,e3,hml]
  have hc:=nB hC t[m] x
  simp [knD] at hc ⊢
  refine aa hc (.inl rfl) ?_
  by_cases hmn : m < n
  ·have:=om h m n (by omega) hmn
   have hlt : t[m].1 < x:=by omega
   simp [hlt,e4]
   exact ⟨m + 1,j,⟨by omega,h2,h3⟩,by omega,by omega,by omega⟩
  ·have : m=n:=by omega
   subst this
   simp [hx]
   exact ⟨i,m,⟨by omega,by omega,by omega⟩,by omega,by omega,by omega⟩
 ·have : i=n:=by omega
  subst this
  have hil : i < t.length:=by omega
  simp [hil]
  have hc:=nB hC t[i] x
  simp [knD,hil] at hc ⊢
  refine aa hc (.inl rfl) ?_
  simp [hx]
theorem yR (b : Bool) (t : List (Int × Int)) (x : Int) (h : aA t=true) (n : Nat) (hn : n + 1=t.length) (hx : t[n].1=x) : C 90 [slx b (t.map knD),.int .i64 x] (.tup [.int .i64 t[n].2,.int .i64 0,.int .i64 1]) []:=by
 refine al hC (nf:=N90) rfl rfl ?_
 have hnl : n < t.length:=by omega
 simp [N90]
 refine aa (wT hC b t x h n hn hx) (.inl rfl) ?_
 simp [knD,hnl]
theorem uT (b : Bool) (t : List (Int × Int)) (x : Int) (h : aA t=true) (n : Nat) (hn : n + 1=t.length) (hx : t[n].1=x) : C 73 [slx b (t.map knD),.int .i64 x] (.tup [.int .i64 t[n].2,.int .i64 0]) []:=by
 refine al hC (nf:=N73) rfl rfl ?_
 simp [N73]
 refine aa (fy hC b t) (.inl rfl) ?_
 simp [h]
 refine aa (yR hC b t x h n hn hx) (.inl rfl) ?_
 simp
end Go.Gv

namespace Go.Gv
theorem lF {l l' : List Nat} (h1 : l.Pairwise (· < ·)) (h2 : l'.Pairwise (· < ·)) (h : ∀ x,x ∈ l ↔ x ∈ l') : l=l':=by
 have e:=jH (l:=l.map fun k : Nat=>(k : Int)) (l':=l'.map fun k : Nat=>(k : Int)) (by rw [List.pairwise_map];exact h1.imp fun h=>by omega) (by rw [List.pairwise_map];exact h2.imp fun h=>by omega) (fun x=>by
  simp only [List.mem_map]
  exact ⟨fun ⟨a,b,c⟩=>⟨a,(h a).1 b,c⟩,fun ⟨a,b,c⟩=>⟨a,(h a).2 b,c⟩⟩)
 have e2:=congrArg (List.map Int.toNat) e
 rw [List.map_map,List.map_map] at e2
 have f : (Int.toNat ∘ fun k : Nat=>(k : Int))=id:=by funext k;simp
 rw [f,List.map_id,List.map_id] at e2
 exact e2
def dy (l : List Nat) (x : Nat) : Nat:=l.findIdx fun k=>decide (x <= k)
theorem sH (l : List Nat) (x : Nat) : dy l x <= l.length:=List.findIdx_le_length
theorem sI {l : List Nat} {x j : Nat} (h : j < dy l x) (hl : j < l.length) : l[j] < x:=by
 have:=List.not_of_lt_findIdx h
 simp at this
 exact this
theorem yT {l : List Nat} {x : Nat} (h : dy l x < l.length) : x <= l[dy l x]:=by
 have h2:=List.findIdx_getElem (w:=h)
 exact of_decide_eq_true h2
theorem rA {l : List Nat} {x j : Nat} (hl : j < l.length) (h : x <= l[j]) : dy l x <= j:=by
 apply Nat.le_of_not_lt
 intro hj
 have:=sI hj hl
 omega
theorem mM {l : List Nat} (hs : l.Pairwise (· < ·)) {x j : Nat} (hl : j < l.length) (h : l[j] < x) : j < dy l x:=by
 apply Nat.lt_of_not_le
 intro hj
 have h1:=yT (l:=l) (x:=x) (by omega)
 rcases Nat.lt_or_eq_of_le hj with h2 | h2
 ·have:=List.pairwise_iff_getElem.1 hs (dy l x) j (by omega) hl h2
  omega
 ·simp only [h2] at h1;omega
theorem rg {l : List Nat} {x : Nat} (hs : l.Pairwise (· < ·)) (hx : x ∉ l) : (l.take (dy l x)++x::l.drop (dy l x)).Pairwise (· < ·):=by
 have hp:=hs
 rw [<- List.take_append_drop (dy l x) l,List.pairwise_append] at hp
 obtain ⟨h1,h2,h3⟩:=hp
 have lo : ∀ a ∈ l.take (dy l x),a < x:=fun a ha=>by
  obtain ⟨i,hi,rfl⟩:=List.mem_iff_getElem.1 ha
  have h4 : i < dy l x /\ i < l.length:=by simp at hi;omega
  rw [List.getElem_take]
  exact sI h4.1 h4.2
 have hi : ∀ a ∈ l.drop (dy l x),x < a:=fun a ha=>by
  obtain ⟨i,hi,rfl⟩:=List.mem_iff_getElem.1 ha
  have hlt : dy l x + i < l.length:=by simp at hi;omega
  rw [List.getElem_drop]
  have hne : l[dy l x + i] ≠ x:=fun e=>hx (e ▸ List.getElem_mem hlt)
  have : ¬ l[dy l x + i] < x:=fun h=>by have:=mM hs hlt h;omega
  omega
 rw [List.pairwise_append,List.pairwise_cons]
 refine ⟨h1,⟨hi,h2⟩,fun a ha b hb=>?_⟩
 rcases List.mem_cons.1 hb with rfl | hb
 ·exact lo a ha
 ·exact h3 a ha b hb
theorem rf {n : Nat} {p q : Nat -> Bool} {x : Nat} (hx : x < n) (hp : p x=false) (hq : ∀ v,v < n -> q v=(p v || v == x)) : ((List.range n).filter p).take (dy ((List.range n).filter p) x)++x::((List.range n).filter p).drop (dy ((List.range n).filter p) x)=(List.range n).filter q:=by
 have hs : ((List.range n).filter p).Pairwise (· < ·):=List.Pairwise.filter _ List.pairwise_lt_range
 refine lF (rg hs (by simp [hp])) (List.Pairwise.filter _ List.pairwise_lt_range) fun v=>?_
 have : v ∈ (List.range n).filter p ↔ v ∈ ((List.range n).filter p).take (dy ((List.range n).filter p) x) \/ v ∈ ((List.range n).filter p).drop (dy ((List.range n).filter p) x):=by
  rw [<- List.mem_append,List.take_append_drop]
 simp only [List.mem_append,List.mem_cons]
 rw [or_left_comm,<- this]
 simp only [List.mem_filter,List.mem_range]
 constructor
 ·rintro (rfl | ⟨h1,h2⟩)
  ·exact ⟨hx,by rw [hq _ hx];simp⟩
  ·exact ⟨h1,by rw [hq _ h1,h2];rfl⟩
 ·rintro ⟨h1,h2⟩
  rw [hq _ h1,Bool.or_eq_true,beq_iff_eq] at h2
  rcases h2 with h2 | h2
  ·exact .inr ⟨h1,h2⟩
  ·exact .inl h2
structure lI (n : Nat) (es : List Edg) (out : List Nat) : Prop where
 lt : ∀ v ∈ out,v < n
 nd : out.Nodup
 pre : ∀ v ∈ out,∀ u,(u,v) ∈ es -> u ∈ out
theorem lI.nil (n : Nat) (es : List Edg) : lI n es []:=⟨by simp,by simp,by simp⟩
theorem lI.len {n : Nat} {es : List Edg} {out : List Nat} (h : lI n es out) : out.length <= n:=by
 have:=(List.nodup_range (n:=n)).sublist (List.Sublist.refl _)
 have hsub : out ⊆ List.range n:=fun v hv=>by simpa using h.lt v hv
 have:=List.Nodup.length_le_of_subset h.nd hsub
 simpa using this
theorem lI.step {n : Nat} {es : List Edg} {out : List Nat} (h : lI n es out) {i : Nat} (hi : i ∈ cQ n es out) : lI n es (out++[i]):=by
 obtain ⟨h1,h2,h3⟩:=jW.1 hi
 refine ⟨fun v hv=>?_,?_,fun v hv u hu=>?_⟩
 ·rcases List.mem_append.1 hv with hv | hv
  ·exact h.lt v hv
  ·simp at hv;omega
 ·rw [List.nodup_append]
  refine ⟨h.nd,by simp,fun a ha b hb=>?_⟩
  simp at hb
  subst hb
  rintro rfl
  exact h2 ha
 ·rcases List.mem_append.1 hv with hv | hv
  ·exact List.mem_append.2 (.inl (h.pre v hv u hu))
  ·simp at hv
   subst hv
   exact List.mem_append.2 (.inl (h3 u hu))
theorem jA (n : Nat) (es : List Edg) : ∀ m,lI n es (aI n es m)
 | 0=>.nil n es
 | m + 1=>by
  have ih:=jA n es m
  show lI n es (m7 n es (aI n es m))
  unfold m7
  split
  ·exact ih
  ·rename_i v r e
   exact ih.step (by rw [e];simp)
theorem kW {n : Nat} {es : List Edg} {m i : Nat} {r : List Nat} (h : cQ n es (aI n es m)=i::r) : aI n es (m + 1)=aI n es m++[i]:=by
 show m7 n es (aI n es m)=_
 unfold m7
 rw [h]
theorem pW {n : Nat} {es : List Edg} {m : Nat} (h : cQ n es (aI n es m)=[]) : ∀ k,aI n es (m + k)=aI n es m
 | 0=>rfl
 | k + 1=>by
  show m7 n es (aI n es (m + k))=_
  rw [pW h k]
  unfold m7
  rw [h]
theorem sF {n : Nat} {es : List Edg} {m : Nat} (hl : (aI n es m).length=m) (h : cQ n es (aI n es m)=[]) : dn n es=aI n es m:=by
 have:=(jA n es m).len
 have e:=pW h (n - m)
 rw [show m + (n - m)=n by omega] at e
 exact e
theorem fM (n : Nat) (es : List Edg) : (dn n es).length <= n:=(jA n es n).len
theorem wG {n : Nat} {es : List Edg} {out : List Nat} (h : lI n es out) {i : Nat} {r : List Nat} (hr : cQ n es out=i::r) : cQ n es (out++[i])=(List.range n).filter fun v=>(!out.contains v && fN es out v && !(v == i)) || ((nxt n es i).contains v && fN es (out++[i]) v):=by
 have hi : i ∈ cQ n es out:=by rw [hr];simp
 obtain ⟨h1,h2,h3⟩:=jW.1 hi
 unfold cQ
 apply List.filter_congr
 intro v hv
 have hvn : v < n:=by simpa using hv
 rw [Bool.eq_iff_iff]
 simp only [Bool.and_eq_true,Bool.or_eq_true,Bool.not_eq_true',List.contains_iff_mem,j5,f7,beq_eq_false_iff_ne,ne_eq]
 simp only [List.contains_eq_mem,decide_eq_false_iff_not,List.mem_append,List.mem_singleton,not_or]
 constructor
 ·rintro ⟨⟨a1,a2⟩,a3⟩
  by_cases c : (i,v) ∈ es
  ·exact .inr ⟨⟨hvn,c⟩,a3⟩
  ·refine .inl ⟨⟨a1,fun u hu=>?_⟩,a2⟩
   rcases a3 u hu with b | rfl
   ·exact b
   ·exact absurd hu c
 ·rintro (⟨⟨a1,a2⟩,a3⟩ | ⟨⟨_,a1⟩,a2⟩)
  ·exact ⟨⟨a1,a3⟩,fun u hu=>.inl (a2 u hu)⟩
  ·refine ⟨⟨fun hv=>h2 (h.pre v hv i a1),?_⟩,a2⟩
   rintro rfl
   exact h2 (h3 _ a1)
variable {C : CC} (hC : am prog C)
include hC
theorem BN (x : Int) : C 299 [.int .i64 x] (.bool false) []:=by
 refine al hC (nf:=N299) rfl rfl ?_
 simp [N299]
theorem Dt (x : Int) : C 524 [.int .i64 x] (.bool false) []:=by
 refine al hC (nf:=N524) rfl rfl ?_
 simp [N524]
theorem xQ (x y : Int) : C 411 [.int .i64 x,.int .i64 y] (.bool (decide (x < y))) []:=by
 refine al hC (nf:=N411) rfl rfl ?_
 simp [N411]
 refine aa (BN hC x) (.inl rfl) ?_
 simp
theorem tn (l : List Nat) (x : Nat) (hs : l.Pairwise (· < ·)) (hl : l.length < 2 ^ 40) : C 518 [.sl (aG l),.int .i64 x] (.tup [.int .i64 (dy l x),.bool (decide (dy l x < l.length) && decide (l[dy l x]! = x))]) []:=by
 have hpl:=sH l x
 obtain ⟨n,hn⟩ : ∃ n,n=dy l x:=⟨_,rfl⟩
 obtain ⟨r,hr⟩ : ∃ r,r=(decide (dy l x < l.length) && decide (l[dy l x]! = x)):=⟨_,rfl⟩
 have hlt : ∀ j,(hj : j < l.length) -> l[j] < x -> j < n:=fun j hj h1=>hn ▸ mM hs hj h1
 have hle : ∀ j,(hj : j < l.length) -> x <= l[j] -> n <= j:=fun j hj h1=>hn ▸ rA hj h1
 rw [<- hn] at hpl ⊢
 rw [<- hn] at hr
 rw [<- hr]
 refine al hC (nf:=N518) rfl rfl ?_
 simp [N518,aG]
 refine aj (Nat × Nat) (fun s=>[(0,.sl (aG l)),(1,.int .i64 x),(6,.int .i64 l.length),(7,.int .i64 s.1),(8,.int .i64 s.2)]) (fun s=>s.1 <= n /\ n <= s.2 /\ s.2 <= l.length) (fun s=>s.2 - s.1) (0,l.length) (by simp;omega) (by simp [aG]) ?_
 rintro ⟨i,j⟩ ⟨h1,h2,h3⟩
 simp only at h1 h2 h3
 simp
 refine ab (fun g=>?_) (fun g=>?_) <;> simp at g <;> simp [g]
 ·obtain ⟨m,hm⟩ : ∃ m,m=(i + j) / 2:=⟨_,rfl⟩
  have e1 : IntKind.wrap .i64 ((i : Int) + (j : Int))=((i + j : Nat) : Int):=af (by omega) (by omega)
  obtain ⟨s,hsm⟩ : ∃ s,s=i + j:=⟨_,rfl⟩
  rw [<- hsm] at e1 hm
  have e2 : Int.fdiv (s : Int) (2 ^ min 1 IntKind.u64.bits)=(m : Int):=by rw [hm];exact qu s 1
  have e3 : IntKind.wrap .i64 (m : Int)=(m : Int):=af rfl (by omega)
  have e4 : IntKind.wrap .i64 ((m : Int) + 1)=((m + 1 : Nat) : Int):=af (by omega) (by omega)
  have hml : m < l.length:=by omega
  simp [e1,cM s (by omega),e2,e3,hml,aG]
  refine aa (xQ hC l[m] x) (.inl rfl) ?_
  by_cases hmx : l[m] < x
  ·have:=hlt m hml hmx
   have hi : (l[m] : Int) < x:=by omega
   simp [hmx,e4]
   exact ⟨m + 1,j,⟨by omega,h2,h3⟩,by omega,by omega,by omega⟩
  ·have:=hle m hml (by omega)
   simp [hmx]
   exact ⟨i,m,⟨h1,by omega,by omega⟩,by omega,by omega,by omega⟩
 ·have e0 : i=n:=by omega
  subst e0
  by_cases g2 : i < l.length
  ·have eg : l[i]! = l[i]:=getElem!_pos l i g2
   rw [eg] at hr
   simp [g2,aG]
   by_cases g3 : l[i]=x
   ·simp [g3,g2] at hr ⊢
    exact hr
   ·have g3i : ¬ (l[i] : Int)=x:=by omega
    simp [g3,g3i,g2] at hr ⊢
    refine aa (Dt hC _) (.inl rfl) ?_
    simp [hr]
  ·simp [g2] at hr ⊢
   exact hr
end Go.Gv

namespace Go.Gv
def wtA (n : Nat) (f : Nat -> Nat) : List (List D):=(List.range n).map fun v=>[.int .i64 (f v : Int)]
theorem jb {n v : Nat} (f : Nat -> Nat) (h : v < n) : (wtA n f)[v]? = some [.int .i64 (f v : Int)]:=by simp [wtA,h]
theorem tc {n v : Nat} (f : Nat -> Nat) (x : Nat) : (wtA n f).set v [.int .i64 (x : Int)]=wtA n fun u=>if u=v then x else f u:=by
 unfold wtA
 rw [lb]
 apply List.map_congr_left
 intro u _
 by_cases h : u=v <;> simp [h]
theorem wg {l : List Nat} {j v : Nat} (hj : j < l.length) : v ∈ l.take (j + 1) ↔ v ∈ l.take j \/ v=l[j]:=by
 rw [List.take_succ_eq_append_getElem hj,List.mem_append,List.mem_singleton]
theorem gP {n : Nat} {f g : Nat -> Nat} (h : ∀ v,v < n -> f v=g v) : wtA n f=wtA n g:=by
 unfold wtA
 apply List.map_congr_left
 intro u hu
 rw [h u (by simpa using hu)]
def wt1 (n : Nat) (es : List Edg) (i j v : Nat) : Nat:=kG es i v + (if v ∈ (nxt n es i).take j then 1 else 0)
theorem Ae {n : Nat} {es : List Edg} {i v : Nat} (hv : v < n) : wt1 n es i (nxt n es i).length v=kG es (i + 1) v:=by
 unfold wt1
 rw [tA,List.take_length]
 simp [f7,hv]
theorem xp {n : Nat} {es : List Edg} {i j : Nat} (hj : j < (nxt n es i).length) (v : Nat) : wt1 n es i (j + 1) v=if v=(nxt n es i)[j] then wt1 n es i j v + 1 else wt1 n es i j v:=by
 unfold wt1
 simp only [wg hj]
 have hnd : (nxt n es i)[j] ∉ (nxt n es i).take j:=by
  intro h
  obtain ⟨k,hk,e⟩:=List.mem_iff_getElem.1 h
  have hk2 : k < j:=by simp at hk;omega
  rw [List.getElem_take] at e
  have:=(List.getElem_inj (nV n es i)).1 e
  omega
 by_cases e : v=(nxt n es i)[j]
 ·subst e
  rw [if_pos rfl,if_pos (.inr rfl),if_neg hnd]
 ·rw [if_neg e]
  congr 1
  simp only [e,or_false]
def rd0 (n : Nat) (es : List Edg) (i : Nat) : List Nat:=(List.range i).filter fun v=>decide (eT n es [] v=0)
theorem mQ (n : Nat) (es : List Edg) (i : Nat) : rd0 n es (i + 1)=rd0 n es i++(if eT n es [] i=0 then [i] else []):=by
 unfold rd0
 rw [List.range_succ,List.filter_append]
 congr 1
 by_cases h : eT n es [] i=0 <;> simp [h]
theorem y4 {n : Nat} {es : List Edg} (hg : inG n es) : rd0 n es n=cQ n es []:=by
 unfold rd0 cQ
 apply List.filter_congr
 intro v _
 rw [Bool.eq_iff_iff]
 simp [nD hg]
theorem y5 (n : Nat) (es : List Edg) (i : Nat) : (rd0 n es i).length <= i:=by
 have:=List.length_filter_le (fun v=>decide (eT n es [] v=0)) (List.range i)
 simpa [rd0] using this
def wt2 (n : Nat) (es : List Edg) (out : List Nat) (i j v : Nat) : Nat:=if v ∈ (nxt n es i).take j then eT n es (out++[i]) v else eT n es out v
def rdp (n : Nat) (es : List Edg) (out : List Nat) (i j v : Nat) : Bool:=(!out.contains v && fN es out v && !(v == i)) || (((nxt n es i).take j).contains v && fN es (out++[i]) v)
def rd2 (n : Nat) (es : List Edg) (out : List Nat) (i j : Nat) : List Nat:=(List.range n).filter (rdp n es out i j)
theorem y9 (n : Nat) (es : List Edg) (out : List Nat) (i j : Nat) : (rd2 n es out i j).length <= n:=by
 have:=List.length_filter_le (rdp n es out i j) (List.range n)
 simpa [rd2] using this
theorem sE {n : Nat} {es : List Edg} {i j : Nat} (hj : j < (nxt n es i).length) : (nxt n es i)[j] ∉ (nxt n es i).take j:=by
 intro h
 obtain ⟨k,hk,e⟩:=List.mem_iff_getElem.1 h
 have hk2 : k < j:=by simp at hk;omega
 rw [List.getElem_take] at e
 have:=(List.getElem_inj (nV n es i)).1 e
 omega
theorem qd {n : Nat} {es : List Edg} {out : List Nat} {i : Nat} {r : List Nat} (h : cQ n es out=i::r) : rd2 n es out i 0=r:=by
 have hs : (cQ n es out).Pairwise (· < ·):=List.Pairwise.filter _ List.pairwise_lt_range
 have hm : ∀ v,v ∈ cQ n es out ↔ v=i \/ v ∈ r:=fun v=>by rw [h];simp
 rw [h,List.pairwise_cons] at hs
 refine lF (List.Pairwise.filter _ List.pairwise_lt_range) hs.2 fun v=>?_
 have h2:=hm v
 simp only [rd2,rdp,List.mem_filter,List.mem_range,List.take_zero,List.contains_nil,Bool.false_and,Bool.or_false,Bool.and_eq_true,Bool.not_eq_true',beq_eq_false_iff_ne]
 simp only [cQ,List.mem_filter,List.mem_range,Bool.and_eq_true,Bool.not_eq_true'] at h2
 constructor
 ·rintro ⟨a,b,c⟩
  rcases h2.1 ⟨a,b⟩ with e | e
  ·exact absurd e c
  ·exact e
 ·intro hv
  obtain ⟨a,b⟩:=h2.2 (.inr hv)
  refine ⟨a,b,?_⟩
  rintro rfl
  have:=hs.1 v hv
  omega
theorem y7 {n : Nat} {es : List Edg} {out : List Nat} (h : lI n es out) {i : Nat} {r : List Nat} (hr : cQ n es out=i::r) : rd2 n es out i (nxt n es i).length=cQ n es (out++[i]):=by
 rw [wG h hr]
 unfold rd2 rdp
 rw [List.take_length]
theorem Af {n : Nat} {es : List Edg} {out : List Nat} {i : Nat} (hi : i < n) (ho : i ∉ out) {v : Nat} (hv : v < n) : wt2 n es out i (nxt n es i).length v=eT n es (out++[i]) v:=by
 unfold wt2
 rw [List.take_length]
 split
 ·rfl
 ·rename_i h
  rw [nC hi ho,if_neg (fun e=>h (f7.2 ⟨hv,e⟩)),Nat.add_zero]
theorem qC {n : Nat} {es : List Edg} {out : List Nat} {i j : Nat} (hj : j < (nxt n es i).length) (v : Nat) : wt2 n es out i (j + 1) v=if v=(nxt n es i)[j] then eT n es (out++[i]) v else wt2 n es out i j v:=by
 unfold wt2
 simp only [wg hj]
 by_cases e : v=(nxt n es i)[j]
 ·rw [if_pos e,if_pos (.inr e)]
 ·rw [if_neg e]
  simp only [e,or_false]
theorem qe {n : Nat} {es : List Edg} {out : List Nat} {i j : Nat} (hj : j < (nxt n es i).length) (v : Nat) : rdp n es out i (j + 1) v=(rdp n es out i j v || (v == (nxt n es i)[j] && fN es (out++[i]) v)):=by
 unfold rdp
 rw [List.take_succ_eq_append_getElem hj]
 rw [Bool.eq_iff_iff]
 simp only [Bool.or_eq_true,Bool.and_eq_true,List.contains_iff_mem,List.mem_append,List.mem_singleton,beq_iff_eq]
 constructor
 ·rintro (h | ⟨h | h,h'⟩)
  ·exact .inl (.inl h)
  ·exact .inl (.inr ⟨h,h'⟩)
  ·exact .inr ⟨h,h'⟩
 ·rintro ((h | ⟨h,h'⟩) | ⟨h,h'⟩)
  ·exact .inl h
  ·exact .inr ⟨.inl h,h'⟩
  ·exact .inr ⟨.inr h,h'⟩
theorem wE {n : Nat} {es : List Edg} {out : List Nat} {i j : Nat} (hj : j < (nxt n es i).length) (h : fN es (out++[i]) (nxt n es i)[j]=false) : rd2 n es out i (j + 1)=rd2 n es out i j:=by
 unfold rd2
 apply List.filter_congr
 intro v _
 rw [qe hj]
 by_cases e : v=(nxt n es i)[j]
 ·subst e;simp [h]
 ·simp [e]
theorem y8 {n : Nat} {es : List Edg} {out : List Nat} (hI : lI n es out) {i : Nat} {r : List Nat} (hr : cQ n es out=i::r) {j : Nat} (hj : j < (nxt n es i).length) (h : fN es (out++[i]) (nxt n es i)[j]=true) :
  (rd2 n es out i j).take (dy (rd2 n es out i j) (nxt n es i)[j])++(nxt n es i)[j]::(rd2 n es out i j).drop (dy (rd2 n es out i j) (nxt n es i)[j])=rd2 n es out i (j + 1):=by
 obtain ⟨h1,h2⟩:=f7.1 (List.getElem_mem hj)
 have hi : i ∈ cQ n es out:=by rw [hr];simp
 obtain ⟨i1,i2,i3⟩:=jW.1 hi
 refine rf h1 ?_ (fun v _=>?_)
 ·unfold rdp
  rw [Bool.or_eq_false_iff]
  constructor
  ·have : fN es out (nxt n es i)[j]=false:=by
    rw [<- Bool.not_eq_true,j5]
    exact fun h=>i2 (h _ h2)
   simp [this]
  ·have:=sE hj
   simp [this]
 ·rw [qe hj]
  by_cases e : v=(nxt n es i)[j]
  ·rw [e,h,Bool.and_true]
  ·have e' : (v == (nxt n es i)[j])=false:=by simpa using e
   rw [e',Bool.false_and]
theorem y6 (n : Nat) (es : List Edg) (out : List Nat) (i j : Nat) : (rd2 n es out i j).Pairwise (· < ·):=List.Pairwise.filter _ List.pairwise_lt_range
theorem wF (n : Nat) (es : List Edg) (out : List Nat) : (cQ n es out).length <= n:=by
 have:=List.length_filter_le (fun v=>!out.contains v && fN es out v) (List.range n)
 simpa [cQ] using this
end Go.Gv

namespace Go.Gv
def ndR (n : Nat) (es : List Edg) : List (List D):=(List.range n).map fun v=>[ndD (nxt n es v)]
theorem sA {n v : Nat} (es : List Edg) (h : v < n) : (ndR n es)[v]? = some [ndD (nxt n es v)]:=by simp [ndR,h]
theorem QP (n : Nat) (es : List Edg) (i : Nat) : wt1 n es i 0=kG es i:=by funext v;simp [wt1]
theorem QQ (n : Nat) (es : List Edg) (out : List Nat) (i : Nat) : wt2 n es out i 0=eT n es out:=by funext v;simp [wt2]
theorem yI (n : Nat) (es : List Edg) : (ndR n es).length=n:=by simp [ndR]
theorem cA {l : List Nat} {j : Nat} (h : j < l.length) : (aG l)[j]? = some [.int .i64 (l[j] : Int)]:=by simp [aG,h]
variable {C : CC} (hC : am prog C)
include hC
set_option maxHeartbeats 1000000 in
theorem yN (hS : SlC C) {b : Bool} {n : Nat} {es : List Edg} (hn : n <= 300) (he : es.length <= 1000) (hg : inG n es) : C 504 [.int .i64 n,slx b (es.map edK)] (ndD (dn n es)) []:=by
 have kn:=C9 hC hS (b:=b) hn he hg
 have enx : Dc n es=.sl (ndR n es):=rfl
 rw [enx] at kn
 refine al hC (nf:=N504) rfl rfl ?_
 simp [N504]
 refine aa kn (.inr rfl) ?_
 simp [yI]
 refine ⟨by omega,?_⟩
 refine aj Nat (fun i=>[(5,.sl (ndR n es)),(6,.ref (.r 10096) 0 n),(10096,.blk 1 (wtA n (kG es i))),(25,.sl (ndR n es)),(26,.int .i64 n),(27,.int .i64 i)]) (fun i=>i <= n) (fun i=>n - i) 0 (by simp) (by simp [wtA,kG,oX]) ?_
 rintro i hi
 simp
 refine ab (fun h=>?_) (fun h=>?_) <;> simp [h] <;> simp at h
 ·have hw : IntKind.wrap .i64 ((i : Int) + 1)=((i + 1 : Nat) : Int):=af (by omega) (by omega)
  have hlen:=sD n es i
  simp [h,bf (sA es h),ndD,aC]
  refine aj Nat (fun j=>[(5,.sl (ndR n es)),(6,.ref (.r 10096) 0 n),(10096,.blk 1 (wtA n (wt1 n es i j))),(25,.sl (ndR n es)),(26,.int .i64 n),(27,.int .i64 i),(31,.sl (aG (nxt n es i))),(32,.int .i64 (nxt n es i).length),(33,.int .i64 j)]) (fun j=>j <= (nxt n es i).length) (fun j=>(nxt n es i).length - j) 0 (by simp) (by simp [QP,ndD]) ?_
  rintro j hj
  simp
  refine ab (fun g=>?_) (fun g=>?_) <;> simp [g] <;> simp at g
  ·have hw2 : IntKind.wrap .i64 ((j : Int) + 1)=((j + 1 : Nat) : Int):=af (by omega) (by omega)
   obtain ⟨k1,k2⟩:=f7.1 (List.getElem_mem g)
   have kle:=xW es i (nxt n es i)[j]
   have hwv : IntKind.wrap .i64 ((wt1 n es i j (nxt n es i)[j] : Int) + 1)=((wt1 n es i j (nxt n es i)[j] + 1 : Nat) : Int):=af (by omega) (by unfold wt1;split <;> omega)
   simp [g,bf (cA g),k1,aV (jb _ k1),jb _ k1,hwv]
   refine ⟨j + 1,by omega,by omega,?_,hw2⟩
   have e1:=tc (n:=n) (v:=(nxt n es i)[j]) (wt1 n es i j) (wt1 n es i j (nxt n es i)[j] + 1)
   rw [show ((wt1 n es i j (nxt n es i)[j] + 1 : Nat) : Int)=(wt1 n es i j (nxt n es i)[j] : Int) + 1 by omega] at e1
   rw [e1]
   refine gP fun v _=>?_
   rw [xp g]
   split
   ·rename_i e;rw [e]
   ·rfl
  ·have ej : j=(nxt n es i).length:=by omega
   subst ej
   simp [hw]
   exact ⟨i + 1,by omega,by omega,gP fun v hv=>Ae hv,by omega⟩
 ·have ei : n=i:=by omega
  subst ei
  clear h hi
  have e0 : wtA n (kG es n)=wtA n (eT n es []):=gP fun v _=>vi n es v
  rw [e0]
  refine aj Nat (fun i=>[(5,.sl (ndR n es)),(6,.ref (.r 10096) 0 n),(10096,.blk 1 (wtA n (eT n es []))),(11,.ref (.r 10176) 0 (rd0 n es i).length),(10176,.blk 1 (aG (rd0 n es i))),(12,.ref (.r 10192) 0 0),(10192,.blk 1 []),(45,.ref (.r 10096) 0 n),(46,.int .i64 n),(47,.int .i64 i)]) (fun i=>i <= n) (fun i=>n - i) 0 (by simp) (by simp [rd0,aG]) ?_
  rintro i hi
  simp
  refine ab (fun h=>?_) (fun h=>?_) <;> simp [h] <;> simp at h
  ·have hw : IntKind.wrap .i64 ((i : Int) + 1)=((i + 1 : Nat) : Int):=af (by omega) (by omega)
   have hrl:=y5 n es i
   simp [h,aV (jb _ h),jb _ h]
   refine ab (fun c=>?_) (fun c=>?_) <;> simp at c <;> simp [c,aC]
   ·refine ⟨by omega,i + 1,by omega,by omega,?_,?_,hw⟩
    ·rw [mQ,if_pos c];simp
    ·rw [gD,gC,mQ,if_pos c]
   ·simp [hw]
    refine ⟨i + 1,by omega,by omega,?_⟩
    rw [mQ,if_neg c,List.append_nil]
    exact ⟨rfl,rfl,by omega⟩
  ·have ei : i=n:=by omega
   rw [ei,y4 hg]
   clear ei h hi i
   refine aj (Nat × Nat × List (List D)) (fun s=>[(5,.sl (ndR n es)),(6,.ref (.r 10096) 0 n),(10096,.blk 1 (wtA n (eT n es (aI n es s.1)))),(11,.ref (.r 10176) s.2.1 (cQ n es (aI n es s.1)).length),(10176,.blk 1 s.2.2),(12,.ref (.r 10192) 0 s.1),(10192,.blk 1 (aG (aI n es s.1)))])
    (fun s=>(aI n es s.1).length=s.1 /\ s.2.1 + (cQ n es (aI n es s.1)).length <= s.2.2.length /\ (s.2.2.drop s.2.1).take (cQ n es (aI n es s.1)).length=aG (cQ n es (aI n es s.1))) (fun s=>n - s.1) (0,0,aG (cQ n es [])) (by simp [aI,aC,gD]) (by simp [aI,aG]) ?_
   rintro ⟨m,k,B⟩ ⟨hm,hkB,hB⟩
   simp only at hm hkB hB
   simp
   have hI:=jA n es m
   have hmn:=hI.len
   obtain ⟨out,hout⟩ : ∃ out,out=aI n es m:=⟨_,rfl⟩
   cases hr : cQ n es (aI n es m) with
   | nil =>
    have e1 : (aG (aI n es m)).map (fun e=>e.map aR)=aG (aI n es m):=by simp [aG,aR]
    have e2 : (aG (aI n es m)).take m=aG (aI n es m):=List.take_of_length_le (by rw [aC];omega)
    simp [hm]
    rw [e1,e2,sF hm hr]
    exact ⟨by rw [aC];omega,rfl⟩
   | cons i r =>
    have hi : i ∈ cQ n es (aI n es m):=by rw [hr];simp
    obtain ⟨i1,i2,i3⟩:=jW.1 hi
    have hrl:=wF n es (aI n es m)
    rw [hr] at hkB hB hrl
    simp only [List.length_cons] at hkB hB hrl
    have hBk : B[k]? = some [.int .i64 (i : Int)]:=by
     have:=congrArg (fun l=>l[0]?) hB
     simpa [aG] using this
    have hBr : (B.drop (k + 1)).take r.length=aG r:=by
     have:=congrArg (fun l=>l.drop 1) hB
     simp only [List.drop_take,List.drop_drop] at this
     simpa [aG] using this
    have hS1:=hI.step hi
    have hsl:=hS1.len
    have eN:=kW hr
    have e2 : (aG (aI n es m)).take m=aG (aI n es m):=List.take_of_length_le (by rw [aC];omega)
    have hlen:=sD n es i
    simp only [List.length_append,List.length_singleton,hm] at hsl
    simp [aV hBk]
    refine ⟨by rw [aC];omega,by omega,?_⟩
    rw [e2,gC,<- eN]
    simp [bf (sA es i1),ndD,aC]
    refine aj (Nat × Nat × List (List D)) (fun s=>[(5,.sl (ndR n es)),(6,.ref (.r 10096) 0 n),(10096,.blk 1 (wtA n (wt2 n es (aI n es m) i s.1))),(11,.ref (.r 10176) s.2.1 (rd2 n es (aI n es m) i s.1).length),(10176,.blk 1 s.2.2),(12,.ref (.r 10192) 0 (m + 1)),(10192,.blk 1 (aG (aI n es (m + 1)))),(74,.sl (aG (nxt n es i))),(75,.int .i64 (nxt n es i).length),(76,.int .i64 s.1)])
     (fun s=>s.1 <= (nxt n es i).length /\ s.2.1 + (rd2 n es (aI n es m) i s.1).length <= s.2.2.length /\ (s.2.2.drop s.2.1).take (rd2 n es (aI n es m) i s.1).length=aG (rd2 n es (aI n es m) i s.1)) (fun s=>(nxt n es i).length - s.1) (0,k + 1,B) (by simp [qd hr];exact ⟨by omega,hBr⟩) (by simp [qd hr,ndD,QQ]) ?_
    rintro ⟨j,k',B'⟩ ⟨hj,hkB',hB'⟩
    simp only at hj hkB' hB'
    simp
    refine ab (fun g=>?_) (fun g=>?_) <;> simp [g] <;> simp at g
    ·have hw2 : IntKind.wrap .i64 ((j : Int) + 1)=((j + 1 : Nat) : Int):=af (by omega) (by omega)
     obtain ⟨k1,k2⟩:=f7.1 (List.getElem_mem g)
     have hw0 : wt2 n es (aI n es m) i j (nxt n es i)[j]=eT n es (aI n es m++[i]) (nxt n es i)[j] + 1:=by
      unfold wt2
      rw [if_neg (sE g),nC i1 i2,if_pos k2]
     have hcl : eT n es (aI n es m++[i]) (nxt n es i)[j] <= n:=by
      have:=List.length_filter_le (fun u=>es.contains (u,(nxt n es i)[j]) && !(aI n es m++[i]).contains u) (List.range n)
      simpa [eT] using this
     have hwv : IntKind.wrap .i64 ((wt2 n es (aI n es m) i j (nxt n es i)[j] : Int) - 1)=(eT n es (aI n es m++[i]) (nxt n es i)[j] : Int):=af (by omega) (by omega)
     have ew:=tc (n:=n) (v:=(nxt n es i)[j]) (wt2 n es (aI n es m) i j) (eT n es (aI n es m++[i]) (nxt n es i)[j])
     have ew2 : (wtA n fun u=>if u=(nxt n es i)[j] then eT n es (aI n es m++[i]) (nxt n es i)[j] else wt2 n es (aI n es m) i j u)=wtA n (wt2 n es (aI n es m) i (j + 1)):=gP fun v _=>by
      rw [qC g]
      by_cases e : v=(nxt n es i)[j]
      ·rw [if_pos e,if_pos e,e]
      ·rw [if_neg e,if_neg e]
     rw [ew2] at ew
     have hwn : wt2 n es (aI n es m) i (j + 1) (nxt n es i)[j]=eT n es (aI n es m++[i]) (nxt n es i)[j]:=by rw [qC g,if_pos rfl]
     simp [g,bf (cA g),k1,aV (jb _ k1),jb _ k1,hwv,ew,hwn]
     have hl2:=y9 n es (aI n es m) i j
     have p0:=nD hg (out:=aI n es m++[i]) (k:=(nxt n es i)[j])
     refine ab (fun c=>?_) (fun c=>?_) <;> simp at c
     ·have pk:=p0.1 c
      have hins:=y8 hI hr g pk
      have kb:=tn hC (rd2 n es (aI n es m) i j) (nxt n es i)[j] (y6 n es _ i j) (by omega)
      have hpl:=sH (rd2 n es (aI n es m) i j) (nxt n es i)[j]
      have kI:=hS.insert ((rd2 n es (aI n es m) i j).map fun k : Nat=>(k : Int)) (dy (rd2 n es (aI n es m) i j) (nxt n es i)[j]) (nxt n es i)[j] (by simpa using hpl) (by simp;omega)
      have eI : ((((rd2 n es (aI n es m) i j).map fun k : Nat=>(k : Int)).take (dy (rd2 n es (aI n es m) i j) (nxt n es i)[j])++((nxt n es i)[j] : Int)::((rd2 n es (aI n es m) i j).map fun k : Nat=>(k : Int)).drop (dy (rd2 n es (aI n es m) i j) (nxt n es i)[j])).map fun n=>[D.int .i64 n])=aG (rd2 n es (aI n es m) i (j + 1)):=by
       rw [<- hins]
       simp [aG]
       rfl
      rw [eI,<- kP] at kI
      have e4 : (aG (rd2 n es (aI n es m) i j)).map (fun e=>e.map aR)=aG (rd2 n es (aI n es m) i j):=by simp [aG,aR]
      have e5 : (((B'.drop k').take (rd2 n es (aI n es m) i j).length).map fun e=>e.map aR)=aG (rd2 n es (aI n es m) i j):=by rw [hB',e4]
      simp [hkB']
      simp at e5
      rw [e5]
      refine aa kb (.inl rfl) ?_
      simp [hkB',hB']
      refine ⟨fun e he=>(oN e he).2,?_⟩
      refine sc kI oN ?_
      simp [hw2,aC]
      exact ⟨j + 1,0,aG (rd2 n es (aI n es m) i (j + 1)),⟨by omega,by simp [aC],by simp [gD]⟩,by omega,by simp⟩
     ·have pk : fN es (aI n es m++[i]) (nxt n es i)[j]=false:=by
       rw [<- Bool.not_eq_true]
       exact fun e=>c (p0.2 e)
      have hsame:=wE g pk
      simp [hw2]
      exact ⟨j + 1,k',B',⟨by omega,by rw [hsame];exact hkB',by rw [hsame];exact hB'⟩,by omega,by simp [hsame]⟩
    ·have ej : j=(nxt n es i).length:=by omega
     subst ej
     have er:=y7 hI hr
     rw [<- eN] at er
     rw [er] at hkB' hB' ⊢
     exact ⟨m + 1,k',B',⟨by rw [eN];simp [hm],hkB',hB'⟩,by omega,gP fun v hv=>by rw [Af i1 i2 hv,eN],by simp⟩
end Go.Gv

namespace Go.Gv
structure Lnk where
 name : List UInt8
 src : List UInt8
 dst : List UInt8
 kind : Int
 len : Int
 up : Int
 down : Int
 sect : List UInt8
 width : Int
 height : Int
 curveN : Bool
 curve : List (Int × Int)
 deriving Inhabited
def aD (l : Lnk) : List D:=[.str l.name,.str l.src,.str l.dst,.int .i64 l.kind,.int .i64 l.len,.int .i64 l.up,.int .i64 l.down,.str l.sect,.int .i64 l.width,.int .i64 l.height,slx l.curveN (l.curve.map knD)]
structure Nod where
 name : List UInt8
 kind : Int
 x : Int
 y : Int
 invert : Int
 ground : Int
 shapeN : Bool
 shape : List (Int × Int)
 prot : Bool
 reserve : Int
 deriving Inhabited
def aL (n : Nod) : List D:=[.str n.name,.int .i64 n.kind,.int .i64 n.x,.int .i64 n.y,.int .i64 n.invert,.int .i64 n.ground,slx n.shapeN (n.shape.map knD),.bool n.prot,.int .i64 n.reserve]
def cl (n : Int) : Bool:=decide (-4194304 <= n) && decide (n <= 4194304)
variable {C : CC} (hC : am prog C)
include hC
theorem c8 (n a b : Int) : C 172 [.int .i64 n,.int .i64 a,.int .i64 b] (.bool (decide (a <= n) && decide (n <= b))) []:=by
 refine al hC (nf:=N172) rfl rfl ?_
 simp [N172]
 refine ab (fun h=>?_) (fun h=>?_) <;> simp at h <;> simp [h] <;> omega
theorem wd (n : Int) : C 183 [.int .i64 n] (.bool (!cl n)) []:=by
 have e : (!cl n)=(decide (n < -4194304) || decide (4194304 < n)):=by
  rw [cl,Bool.eq_iff_iff]
  simp only [Bool.not_eq_true',Bool.and_eq_false_iff,decide_eq_false_iff_not,Bool.or_eq_true,decide_eq_true_eq]
  omega
 rw [e]
 refine al hC (nf:=N183) rfl rfl ?_
 simp [N183]
 refine ab (fun h=>?_) (fun h=>?_) <;> simp at h <;> simp [h]
 intro _;omega
theorem oP (xs : List Int) (hl : xs.length < 2 ^ 62) : C 173 [.sl (xs.map fun n=>[.int .i64 n])] (.bool (xs.all cl)) []:=by
 refine al hC (nf:=N173) rfl rfl ?_
 simp [N173]
 have h:=mw hC (b:=false) (xs:=xs) (g:=183) (cs:=[]) (fun n=>!cl n) hl (fun n _=>wd hC n)
 rw [cE] at h
 refine aa h (.inl rfl) ?_
 simp
 rw [Bool.eq_iff_iff];simp
end Go.Gv

namespace Go.Gv
def bU (nm : List UInt8) (n : Nod) : Bool:=n.name == nm
def iH (nm : List UInt8) (l : Lnk) : Bool:=l.name == nm
variable {C : CC} (hC : am prog C)
include hC
theorem pC {b : Bool} {xs : List Nod} {g : Nat} {cs : List D} (p : Nod -> Bool) (hs : xs.length < 2 ^ 62) (hp : ∀ x ∈ xs,C g (.agg (aL x)::cs) (.bool (p x)) []) : C 175 [slx b (xs.map fun x=>aL x),.fn g cs] (.int .i64 (bB p xs)) []:=by
 refine al hC (nf:=N175) rfl rfl ?_
 simp [N175]
 refine aj Nat (fun i=>[(0,slx b (xs.map fun x=>aL x)),(1,.fn g cs),(7,.int .i64 xs.length),(8,.int .i64 i)]) (fun i=>i <= xs.length /\ ∀ (j : Nat) (h : j < xs.length),j < i -> p xs[j]=false) (fun i=>xs.length - i) 0 (by simp) (by simp) ?_
 rintro i ⟨hi,hj⟩
 simp
 refine ab (fun h=>?_) (fun h=>?_) <;> simp [h] <;> simp at h
 ·have hw : IntKind.wrap .i64 ((i : Int) + 1)=((i + 1 : Nat) : Int):=af (by omega) (by omega)
  have hc:=hp _ (List.getElem_mem h)
  simp [h,aL] at hc ⊢
  refine aa hc (.inl rfl) ?_
  simp
  refine ab (fun h1=>?_) (fun h1=>?_) <;> simp [h1,hw]
  ·rw [cz hj h h1]
  ·refine ⟨i + 1,⟨by omega,fun j hl hjj=>?_⟩,by omega,rfl⟩
   rcases Nat.lt_succ_iff_lt_or_eq.1 hjj with h2 | rfl
   ·exact hj j hl h2
   ·exact h1
 ·rw [cN (fun j hl=>hj j hl (by omega))]
theorem pB {b : Bool} {xs : List Lnk} {g : Nat} {cs : List D} (p : Lnk -> Bool) (hs : xs.length < 2 ^ 62) (hp : ∀ x ∈ xs,C g (.agg (aD x)::cs) (.bool (p x)) []) : C 181 [slx b (xs.map fun x=>aD x),.fn g cs] (.int .i64 (bB p xs)) []:=by
 refine al hC (nf:=N181) rfl rfl ?_
 simp [N181]
 refine aj Nat (fun i=>[(0,slx b (xs.map fun x=>aD x)),(1,.fn g cs),(7,.int .i64 xs.length),(8,.int .i64 i)]) (fun i=>i <= xs.length /\ ∀ (j : Nat) (h : j < xs.length),j < i -> p xs[j]=false) (fun i=>xs.length - i) 0 (by simp) (by simp) ?_
 rintro i ⟨hi,hj⟩
 simp
 refine ab (fun h=>?_) (fun h=>?_) <;> simp [h] <;> simp at h
 ·have hw : IntKind.wrap .i64 ((i : Int) + 1)=((i + 1 : Nat) : Int):=af (by omega) (by omega)
  have hc:=hp _ (List.getElem_mem h)
  simp [h,aD] at hc ⊢
  refine aa hc (.inl rfl) ?_
  simp
  refine ab (fun h1=>?_) (fun h1=>?_) <;> simp [h1,hw]
  ·rw [cz hj h h1]
  ·refine ⟨i + 1,⟨by omega,fun j hl hjj=>?_⟩,by omega,rfl⟩
   rcases Nat.lt_succ_iff_lt_or_eq.1 hjj with h2 | rfl
   ·exact hj j hl h2
   ·exact h1
 ·rw [cN (fun j hl=>hj j hl (by omega))]
theorem yr {b : Bool} {xs : List (Int × Int)} {g : Nat} {cs : List D} (p : (Int × Int) -> Bool) (hs : xs.length < 2 ^ 62) (hp : ∀ x ∈ xs,C g (.agg (knD x)::cs) (.bool (p x)) []) : C 185 [slx b (xs.map fun x=>knD x),.fn g cs] (.int .i64 (bB p xs)) []:=by
 refine al hC (nf:=N185) rfl rfl ?_
 simp [N185]
 refine aj Nat (fun i=>[(0,slx b (xs.map fun x=>knD x)),(1,.fn g cs),(7,.int .i64 xs.length),(8,.int .i64 i)]) (fun i=>i <= xs.length /\ ∀ (j : Nat) (h : j < xs.length),j < i -> p xs[j]=false) (fun i=>xs.length - i) 0 (by simp) (by simp) ?_
 rintro i ⟨hi,hj⟩
 simp
 refine ab (fun h=>?_) (fun h=>?_) <;> simp [h] <;> simp at h
 ·have hw : IntKind.wrap .i64 ((i : Int) + 1)=((i + 1 : Nat) : Int):=af (by omega) (by omega)
  have hc:=hp _ (List.getElem_mem h)
  simp [h,knD] at hc ⊢
  refine aa hc (.inl rfl) ?_
  simp
  refine ab (fun h1=>?_) (fun h1=>?_) <;> simp [h1,hw]
  ·rw [cz hj h h1]
  ·refine ⟨i + 1,⟨by omega,fun j hl hjj=>?_⟩,by omega,rfl⟩
   rcases Nat.lt_succ_iff_lt_or_eq.1 hjj with h2 | rfl
   ·exact hj j hl h2
   ·exact h1
 ·rw [cN (fun j hl=>hj j hl (by omega))]
theorem yp {b : Bool} {xs : List (Int × Int)} {g : Nat} {cs : List D} (p : (Int × Int) -> Bool) (hs : xs.length < 2 ^ 62) (hp : ∀ x ∈ xs,C g (.agg (knD x)::cs) (.bool (p x)) []) : C 179 [slx b (xs.map fun x=>knD x),.fn g cs] (.bool (xs.any p)) []:=by
 refine al hC (nf:=N179) rfl rfl ?_
 simp [N179]
 refine aa (yr hC p hs hp) (.inl rfl) ?_
 simp [gz]
theorem mI (b1 b2 : Bool) (ns : List Nod) (ls : List Lnk) (nm : List UInt8) (hn : ns.length < 2 ^ 62) : C 169 [.agg [slx b1 (ns.map aL),slx b2 (ls.map aD)],.str nm] (.int .i64 (bB (bU nm) ns)) []:=by
 have h1 : ∀ x ∈ ns,C 176 (.agg (aL x)::[.ptr [.str nm]]) (.bool (bU nm x)) []:=fun x _=>by
  refine al hC (nf:=N176) rfl rfl ?_
  simp [N176,aL,bU]
  rw [Bool.eq_iff_iff];simp
 refine al hC (nf:=N169) rfl rfl ?_
 simp [N169]
 refine aa (pC hC (b:=b1) _ hn h1) (.inl rfl) ?_
 simp
theorem CJ (b1 b2 : Bool) (ns : List Nod) (ls : List Lnk) (nm : List UInt8) (hn : ls.length < 2 ^ 62) : C 171 [.agg [slx b1 (ns.map aL),slx b2 (ls.map aD)],.str nm] (.int .i64 (bB (iH nm) ls)) []:=by
 have h1 : ∀ x ∈ ls,C 182 (.agg (aD x)::[.ptr [.str nm]]) (.bool (iH nm x)) []:=fun x _=>by
  refine al hC (nf:=N182) rfl rfl ?_
  simp [N182,aD,iH]
  rw [Bool.eq_iff_iff];simp
 refine al hC (nf:=N171) rfl rfl ?_
 simp [N171]
 refine aa (pB hC (b:=b2) _ hn h1) (.inl rfl) ?_
 simp
theorem qR (b b' : Bool) (xs ys : List (Int × Int)) (hx : xs.length < 2 ^ 62) (hy : ys.length < 2 ^ 62) : C 184 [slx b (xs.map knD),slx b' (ys.map knD)] (.bool (decide (xs=ys))) []:=by
 obtain ⟨r,hr⟩ : ∃ r,r=decide (xs=ys):=⟨_,rfl⟩
 rw [<- hr]
 refine al hC (nf:=N184) rfl rfl ?_
 simp [N184]
 refine ab (fun h=>?_) (fun h=>?_) <;> simp at h <;> simp [h]
 ·rw [hr,decide_eq_false]
  intro e
  exact h (by rw [e])
 have h' : xs.length=ys.length:=by omega
 refine aj Nat (fun i=>[(0,slx b (xs.map knD)),(1,slx b' (ys.map knD)),(12,.int .i64 xs.length),(13,.int .i64 i)])
  (fun i=>i <= xs.length /\ ∀ (k : Nat) (h1 : k < xs.length) (h2 : k < ys.length),k < i -> xs[k]=ys[k]) (fun i=>xs.length - i) 0 (by simp) (by simp [h']) ?_
 rintro i ⟨hi,hok⟩
 simp
 refine ab (fun h1=>?_) (fun h1=>?_) <;> simp at h1 <;> simp [h1]
 ·have hw : IntKind.wrap .i64 ((i : Int) + 1)=((i + 1 : Nat) : Int):=af (by omega) (by omega)
  have hy1 : i < ys.length:=by omega
  simp [h1,hy1,knD]
  refine ⟨ar (by decide +kernel),?_⟩
  by_cases h2 : xs[i]=ys[i]
  ·simp [h2,hw]
   refine ⟨i + 1,⟨by omega,fun k k1 k2 hk=>?_⟩,by omega,rfl⟩
   rcases Nat.lt_succ_iff_lt_or_eq.1 hk with h5 | rfl
   ·exact hok k k1 k2 h5
   ·exact h2
  ·have h3 : ¬ (xs[i].1=ys[i].1 /\ xs[i].2=ys[i].2):=fun e=>h2 (Prod.ext e.1 e.2)
   refine ab (fun h4=>?_) (fun h4=>?_) <;> simp at h4 <;> simp [h4]
   ·rw [hr,decide_eq_false]
    intro e
    exact h2 (by simp [e])
   ·exact absurd h4 h3
 ·rw [hr,decide_eq_true]
  exact List.ext_getElem h' fun k k1 k2=>hok k k1 k2 (by omega)
end Go.Gv

namespace Go.Gv
def fZ (t : List (Int × Int)) : Int × Int:=t[t.length - 1]!
def bE (t : List (Int × Int)) (hgt most : Int) : Bool:=aA t && (t[0]!.1 == 0 && t[0]!.2 == 0) && (fZ t).1 == hgt && (fZ t).2 <= most
def aH (s : Sec) : Bool:=bk s.name && 1 <= s.height && s.height <= 32768 && 0 <= s.price && s.price <= 1073741824 && bE s.area s.height 1073741824 && bE s.conv s.height 1099511627776
def en (n l : Int) : Bool:=0 <= n && n <= 4194304 && 1 <= l && l <= 16777216
def qK (s : Sec) (fall len : Int) : Nat:=qk ((fZ s.conv).2.toNat * (fZ s.conv).2.toNat * fall.toNat / len.toNat)
def dR (s : Sec) (fall len : Int) : Int × Int:=if aH s then (if en fall len then (if 1099511627776 < qK s fall len then (0,5) else (qK s fall len,0)) else (0,2)) else (0,1)
theorem cC {t : List (Int × Int)} {n : Nat} (hn : n + 1=t.length) : fZ t=t[n]:=by
 unfold fZ
 rw [show t.length - 1=n by omega,getElem!_pos t n (by omega)]
variable {C : CC} (hC : am prog C)
include hC
theorem sb (b : Bool) (t : List (Int × Int)) (hgt most : Int) : C 59 [slx b (t.map knD),.int .i64 hgt,.int .i64 most] (.bool (bE t hgt most)) []:=by
 refine al hC (nf:=N59) rfl rfl ?_
 simp [N59]
 refine aa (fy hC b t) (.inl rfl) ?_
 cases hv : aA t
 ·simp [bE,hv]
 obtain ⟨l1,l2⟩:=cF hv
 obtain ⟨n,hn⟩ : ∃ n,n + 1=t.length:=⟨t.length - 1,by omega⟩
 have e1 : IntKind.wrap .i64 ((t.length : Int) - 1)=(n : Int):=af (by omega) (by omega)
 have hnl : n < t.length:=by omega
 have h0 : 0 < t.length:=by omega
 have e0 : t[0]! = t[0]:=getElem!_pos t 0 h0
 simp [e1,hnl,h0,knD]
 rw [bE,cC hn,e0,hv]
 have ez : (decide (t[0].fst=0) && decide (t[0].snd=0))=(t[0].1 == 0 && t[0].2 == 0):=by rw [Bool.eq_iff_iff];simp
 rw [<- ez]
 cases hz : (decide (t[0].fst=0) && decide (t[0].snd=0))
 ·simp
 simp
 refine ab (fun c=>?_) (fun c=>?_)
 ·simp at c
  simp [c]
 ·simp at c
  simp [c]
theorem tb (s : Sec) : C 51 [.agg (aW s)] (.bool (aH s)) []:=by
 refine al hC (nf:=N51) rfl rfl ?_
 simp [N51,aW]
 refine aa (gl hC s.name) (.inl rfl) ?_
 cases h1 : bk s.name
 ·simp [aH,h1]
 simp
 refine ab (fun c1=>?_) (fun c1=>?_) <;> simp [c1] <;> simp at c1
 ·refine ab (fun c2=>?_) (fun c2=>?_) <;> simp [c2] <;> simp at c2
  ·refine ab (fun c3=>?_) (fun c3=>?_) <;> simp [c3] <;> simp at c3
   ·refine ab (fun c4=>?_) (fun c4=>?_) <;> simp [c4] <;> simp at c4
    ·refine aa (sb hC _ _ _ _) (.inl rfl) ?_
     cases h5 : bE s.area s.height 1073741824
     ·simp [aH,h5]
     simp
     refine aa (sb hC _ _ _ _) (.inl rfl) ?_
     simp [aH,h1,c1,c2,c3,c4,h5]
    ·simp [aH];omega
   ·simp [aH];omega
  ·simp [aH];omega
 ·simp [aH];omega
end Go.Gv

namespace Go.Gv
def aM (n a b : Int) : Bool:=decide (a <= n) && decide (n <= b)
def iO (l : Lnk) : Lnk where
 name:=l.name
 src:=l.src
 dst:=l.dst
 kind:=l.kind
 len:=if l.kind=1 then l.len else 0
 up:=l.up
 down:=if l.kind=1 \/ l.kind=4 then l.down else 0
 sect:=if l.kind=1 then l.sect else []
 width:=if l.kind=2 \/ l.kind=3 then l.width else 0
 height:=if l.kind=3 then l.height else 0
 curveN:=if l.kind=4 then l.curveN else true
 curve:=if l.kind=4 then l.curve else []
def fQ (a b : Lnk) : Bool:=decide (a.name=b.name) && decide (a.src=b.src) && decide (a.dst=b.dst) && decide (a.kind=b.kind) && decide (a.len=b.len) && decide (a.up=b.up) && decide (a.down=b.down) && decide (a.sect=b.sect) && decide (a.width=b.width) && decide (a.height=b.height) && decide (a.curve=b.curve)
def gi (k : Int × Int) : Bool:=aM k.1 0 4194304 && aM k.2 0 1099511627776
def jx (l : Lnk) : Bool :=
 if l.kind=1 then aM l.len 1 16777216 && cl l.down && bk l.sect
 else if l.kind=2 then aM l.width 1 1048576
 else if l.kind=3 then aM l.width 1 32768 && aM l.height 1 32768
 else if l.kind=4 then cl l.down && decide (l.down < l.up) && aA l.curve && !(l.curve.any fun k=>!gi k)
 else false
def cI (l : Lnk) : Bool:=bk l.name && bk l.src && bk l.dst && !decide (l.src=l.dst) && cl l.up && fQ l (iO l) && jx l
variable {C : CC} (hC : am prog C)
include hC
theorem yS (l : Lnk) : C 178 [.agg (aD l)] (.agg (aD (iO l))) []:=by
 have hs : slx l.curveN (l.curve.map knD)=.nils \/ slx l.curveN (l.curve.map knD)=.sl (l.curve.map knD):=by
  unfold slx;split
  ·exact .inl rfl
  ·exact .inr rfl
 have e0 : D.nils=slx true []:=rfl
 refine al hC (nf:=N178) rfl rfl ?_
 simp [N178,aD,iO]
 refine ab (fun h=>?_) (fun h=>?_) <;> simp at h <;> simp [h]
 ·exact ⟨ar (by decide +kernel),e0⟩
 refine ab (fun h2=>?_) (fun h2=>?_) <;> simp at h2 <;> simp [h,h2]
 ·exact e0
 refine ab (fun h3=>?_) (fun h3=>?_) <;> simp at h3 <;> simp [h,h2,h3]
 ·exact ⟨ar (by decide +kernel),e0⟩
 refine ab (fun h4=>?_) (fun h4=>?_) <;> simp at h4 <;> simp [h,h2,h3,h4]
 ·rcases hs with hs | hs <;> rw [hs] <;> simp
  ·refine ⟨ar (by decide +kernel),?_⟩
   simp [h4,hs]
  ·refine ⟨ar (by decide +kernel),?_⟩
   simp [h4,hs]
 ·exact e0
set_option maxRecDepth 8000 in
set_option maxHeartbeats 2000000 in
theorem zu (a b : Lnk) (ha : a.curve.length < 2 ^ 62) (hb : b.curve.length < 2 ^ 62) : C 177 [.agg (aD a),.agg (aD b)] (.bool (fQ a b)) []:=by
 have he:=qR hC a.curveN b.curveN a.curve b.curve ha hb
 refine al hC (nf:=N177) rfl rfl ?_
 simp [N177,aD]
 refine ab (fun h0=>?_) (fun h0=>?_) <;> simp at h0 <;> simp [h0]
 rotate_left
 ·simp [fQ,h0]
 refine ab (fun h1=>?_) (fun h1=>?_) <;> simp at h1 <;> simp [h1]
 rotate_left
 ·simp [fQ,h1]
 refine ab (fun h2=>?_) (fun h2=>?_) <;> simp at h2 <;> simp [h2]
 rotate_left
 ·simp [fQ,h2]
 refine ab (fun h3=>?_) (fun h3=>?_) <;> simp at h3 <;> simp [h3]
 rotate_left
 ·simp [fQ,h3]
 refine ab (fun h4=>?_) (fun h4=>?_) <;> simp at h4 <;> simp [h4]
 rotate_left
 ·simp [fQ,h4]
 refine ab (fun h5=>?_) (fun h5=>?_) <;> simp at h5 <;> simp [h5]
 rotate_left
 ·simp [fQ,h5]
 refine ab (fun h6=>?_) (fun h6=>?_) <;> simp at h6 <;> simp [h6]
 rotate_left
 ·simp [fQ,h6]
 refine ab (fun h7=>?_) (fun h7=>?_) <;> simp at h7 <;> simp [h7]
 rotate_left
 ·simp [fQ,h7]
 refine ab (fun h8=>?_) (fun h8=>?_) <;> simp at h8 <;> simp [h8]
 rotate_left
 ·simp [fQ,h8]
 refine ab (fun h9=>?_) (fun h9=>?_) <;> simp at h9 <;> simp [h9]
 rotate_left
 ·simp [fQ,h9]
 refine aa he (.inl rfl) ?_
 simp [fQ,h0,h1,h2,h3,h4,h5,h6,h7,h8,h9]
theorem um (k : Int × Int) : C 180 [.agg (knD k)] (.bool (!gi k)) []:=by
 refine al hC (nf:=N180) rfl rfl ?_
 simp [N180,knD]
 refine aa (c8 hC k.1 0 4194304) (.inl rfl) ?_
 have e1 : (decide (0 <= k.1) && decide (k.1 <= 4194304))=aM k.1 0 4194304:=rfl
 rw [e1]
 cases h : aM k.1 0 4194304
 ·simp [gi,h]
 simp
 refine aa (c8 hC k.2 0 1099511627776) (.inl rfl) ?_
 have e2 : (decide (0 <= k.2) && decide (k.2 <= 1099511627776))=aM k.2 0 1099511627776:=rfl
 rw [e2]
 simp [gi,h]
theorem v7 (l : Lnk) (hc : l.curve.length < 2 ^ 62) : C 170 [.agg (aD l)] (.bool (cI l)) []:=by
 have hp : (iO l).curve.length < 2 ^ 62:=by
  simp only [iO];split
  ·exact hc
  ·simp
 have k1:=gl hC l.name
 have k2:=gl hC l.src
 have k3:=gl hC l.dst
 have k4:=oP hC [l.up] (by simp)
 have k5:=yS hC l
 have k6:=zu hC l (iO l) hc hp
 obtain ⟨q,hq⟩ : ∃ q,q=fQ l (iO l):=⟨_,rfl⟩
 rw [<- hq] at k6
 simp only [aD] at k5 k6
 have kf : ∀ b,jx l=b -> (b=false \/ (bk l.name=true /\ bk l.src=true /\ bk l.dst=true /\ ¬ l.src=l.dst /\ cl l.up=true /\ q=true)) -> cI l=b:=fun b h1 h2=>by
  rcases h2 with rfl | ⟨a1,a2,a3,a4,a5,a6⟩
  ·simp [cI,h1]
  ·simp [cI,h1,a1,a2,a3,a4,a5,<- hq,a6]
 refine al hC (nf:=N170) rfl rfl ?_
 simp [N170,aD]
 refine aa k1 (.inl rfl) ?_
 cases h1 : bk l.name
 ·simp
  refine ⟨ar (by decide +kernel),?_⟩
  simp [cI,h1]
 simp
 refine aa k2 (.inl rfl) ?_
 cases h2 : bk l.src
 ·simp
  refine ⟨ar (by decide +kernel),?_⟩
  simp [cI,h2]
 simp
 refine aa k3 (.inl rfl) ?_
 cases h3 : bk l.dst
 ·simp
  refine ⟨ar (by decide +kernel),?_⟩
  simp [cI,h3]
 simp
 refine ab (fun h4=>?_) (fun h4=>?_) <;> simp at h4 <;> simp [h4]
 ·refine ⟨ar (by decide +kernel),?_⟩
  simp [cI,h4]
 refine aa k4 (.inl rfl) ?_
 cases h5 : cl l.up
 ·simp [h5]
  refine ⟨ar (by decide +kernel),?_⟩
  simp [cI,h5]
 simp [h5]
 refine aa k5 (.inr rfl) ?_
 simp
 refine aa k6 (.inl rfl) ?_
 cases h6 : q
 ·simp
  refine ⟨ar (by decide +kernel),?_⟩
  simp [cI,<- hq,h6]
 simp
 refine ⟨ar (by decide +kernel),?_⟩
 have hk : cI l=jx l:=kf _ rfl (.inr ⟨h1,h2,h3,h4,h5,h6⟩)
 rw [hk]
 obtain ⟨r,hr⟩ : ∃ r,r=jx l:=⟨_,rfl⟩
 rw [<- hr]
 unfold jx at hr
 clear k1 k2 k3 k4 k5 k6 hk kf
 have lh : ∀ n a b : Int,(decide (a <= n) && decide (n <= b))=aM n a b:=fun _ _ _=>rfl
 have kd:=oP hC [l.down] (by simp)
 refine ab (fun h7=>?_) (fun h7=>?_) <;> simp at h7 <;> simp [h7]
 ·rw [if_pos h7] at hr
  refine aa (c8 hC l.len 1 16777216) (.inl rfl) ?_
  rw [lh]
  cases a1 : aM l.len 1 16777216
  ·simp [hr,a1]
  simp
  refine aa kd (.inl rfl) ?_
  cases a2 : cl l.down
  ·simp [a2,hr]
  simp [a2]
  refine aa (gl hC l.sect) (.inl rfl) ?_
  simp [hr,a1,a2]
 rw [if_neg h7] at hr
 refine ab (fun h8=>?_) (fun h8=>?_) <;> simp at h8 <;> simp [h8]
 ·rw [if_pos h8] at hr
  refine aa (c8 hC l.width 1 1048576) (.inl rfl) ?_
  rw [lh]
  simp [hr]
 rw [if_neg h8] at hr
 refine ab (fun h9=>?_) (fun h9=>?_) <;> simp at h9 <;> simp [h9]
 ·rw [if_pos h9] at hr
  refine aa (c8 hC l.width 1 32768) (.inl rfl) ?_
  rw [lh]
  cases a1 : aM l.width 1 32768
  ·simp [hr,a1]
  simp
  refine aa (c8 hC l.height 1 32768) (.inl rfl) ?_
  rw [lh]
  simp [hr,a1]
 rw [if_neg h9] at hr
 refine ab (fun h10=>?_) (fun h10=>?_) <;> simp at h10 <;> simp [h10]
 ·rw [if_pos h10] at hr
  refine aa kd (.inl rfl) ?_
  cases a2 : cl l.down
  ·simp [a2,hr]
  simp [a2]
  refine ab (fun h11=>?_) (fun h11=>?_) <;> simp at h11 <;> simp [h11]
  ·refine aa (fy hC l.curveN l.curve) (.inl rfl) ?_
   cases a3 : aA l.curve
   ·simp [hr,a3]
   simp
   refine aa (yp hC (b:=l.curveN) (xs:=l.curve) (g:=180) (cs:=[]) (fun k=>!gi k) hc (fun k _=>um hC k)) (.inl rfl) ?_
   simp [hr,a2,h11,a3]
  ·have : ¬ l.down < l.up:=by omega
   simp [hr,this]
 ·rw [if_neg h10] at hr
  simp [hr]
end Go.Gv

namespace Go.Gv
def l9 (n : Nod) : Bool:=!(decide (n.ground <= n.invert)) && bE n.shape (n.ground - n.invert) 1125899906842624 && !(decide (n.kind=1) && n.prot) && (if n.prot then aM n.reserve 0 (fZ n.shape).2 else decide (n.reserve=0))
def wo (n : Nod) : Bool:=decide (n.invert <= n.ground) && decide (n.shape.length=0) && !n.prot && decide (n.reserve=0)
def iK (n : Nod) : Bool:=bk n.name && aM n.x (-16777216) 16777216 && aM n.y (-16777216) 16777216 && cl n.invert && cl n.ground && (if n.kind=1 \/ n.kind=2 then l9 n else if n.kind=3 then wo n else false)
variable {C : CC} (hC : am prog C)
include hC
theorem qt (b : Bool) (t : List (Int × Int)) (hgt : Int) : C 174 [slx b (t.map knD),.int .i64 hgt] (.bool (bE t hgt 1125899906842624)) []:=by
 refine al hC (nf:=N174) rfl rfl ?_
 simp [N174]
 refine aa (fy hC b t) (.inl rfl) ?_
 cases hv : aA t
 ·simp [bE,hv]
 obtain ⟨l1,l2⟩:=cF hv
 obtain ⟨n,hn⟩ : ∃ n,n + 1=t.length:=⟨t.length - 1,by omega⟩
 have e1 : IntKind.wrap .i64 ((t.length : Int) - 1)=(n : Int):=af (by omega) (by omega)
 have hnl : n < t.length:=by omega
 have h0 : 0 < t.length:=by omega
 have e0 : t[0]! = t[0]:=getElem!_pos t 0 h0
 simp [e1,hnl,h0,knD]
 rw [bE,cC hn,e0,hv]
 have ez : (decide (t[0].fst=0) && decide (t[0].snd=0))=(t[0].1 == 0 && t[0].2 == 0):=by rw [Bool.eq_iff_iff];simp
 rw [<- ez]
 cases hz : (decide (t[0].fst=0) && decide (t[0].snd=0))
 ·simp
 simp
 refine ab (fun c=>?_) (fun c=>?_)
 ·simp at c
  simp [c]
 ·simp at c
  simp [c]
theorem yK (n : Nod) : C 168 [.agg (aL n)] (.bool (iK n)) []:=by
 have lh : ∀ n a b : Int,(decide (a <= n) && decide (n <= b))=aM n a b:=fun _ _ _=>rfl
 have k1:=gl hC n.name
 have k2:=c8 hC n.x (-16777216) 16777216
 have k3:=c8 hC n.y (-16777216) 16777216
 have k4:=oP hC [n.invert,n.ground] (by simp)
 rw [lh] at k2 k3
 obtain ⟨q,hq⟩ : ∃ q,q=iK n:=⟨_,rfl⟩
 rw [<- hq]
 unfold iK at hq
 refine al hC (nf:=N168) rfl rfl ?_
 simp [N168,aL]
 refine aa k1 (.inl rfl) ?_
 cases h1 : bk n.name
 ·simp [hq,h1]
 simp
 refine aa k2 (.inl rfl) ?_
 cases h2 : aM n.x (-16777216) 16777216
 ·simp [hq,h2]
 simp
 refine aa k3 (.inl rfl) ?_
 cases h3 : aM n.y (-16777216) 16777216
 ·simp [hq,h3]
 simp
 refine aa k4 (.inl rfl) ?_
 cases h4 : cl n.invert
 ·simp [hq,h4]
 cases h5 : cl n.ground
 ·simp [hq,h4,h5]
 simp [h4,h5]
 rw [h1,h2,h3,h4,h5] at hq
 simp only [Bool.true_and] at hq
 have b1 : -4194304 <= n.invert /\ n.invert <= 4194304:=by simpa [cl] using h4
 have b2 : -4194304 <= n.ground /\ n.ground <= 4194304:=by simpa [cl] using h5
 have e1 : IntKind.wrap .i64 (n.ground - n.invert)=n.ground - n.invert:=af rfl (by omega)
 refine ab (fun hk1=>?_) (fun hk1=>?_) <;> simp at hk1 <;> simp [hk1]
 ·rw [if_pos (by omega),l9] at hq
  refine ab (fun c1=>?_) (fun c1=>?_) <;> simp at c1 <;> simp [c1]
  ·simp [hq,c1]
  have c1' : ¬ n.ground <= n.invert:=by omega
  simp [e1]
  refine aa (qt hC n.shapeN n.shape (n.ground - n.invert)) (.inl rfl) ?_
  cases c2 : bE n.shape (n.ground - n.invert) 1125899906842624
  ·simp [hq,c2]
  simp [hk1]
  cases c3 : n.prot
  ·simp [hq,c1',c2,c3]
  ·simp [hq,c3,hk1]
 refine ab (fun hk2=>?_) (fun hk2=>?_) <;> simp at hk2 <;> simp [hk2,hk1]
 ·rw [if_pos (by omega),l9] at hq
  refine ab (fun c1=>?_) (fun c1=>?_) <;> simp at c1 <;> simp [c1]
  ·simp [hq,c1]
  have c1' : ¬ n.ground <= n.invert:=by omega
  simp [e1]
  refine aa (qt hC n.shapeN n.shape (n.ground - n.invert)) (.inl rfl) ?_
  cases c2 : bE n.shape (n.ground - n.invert) 1125899906842624
  ·simp [hq,c2]
  simp [hk2]
  cases c3 : n.prot
  ·simp [hq,c1',c2,c3]
  have hv : aA n.shape=true:=by
   simp only [bE,Bool.and_eq_true] at c2
   exact c2.1.1.1
  obtain ⟨l1,l2⟩:=cF hv
  obtain ⟨m,hm⟩ : ∃ m,m + 1=n.shape.length:=⟨n.shape.length - 1,by omega⟩
  have e2 : IntKind.wrap .i64 ((n.shape.length : Int) - 1)=(m : Int):=af (by omega) (by omega)
  have hml : m < n.shape.length:=by omega
  simp [e2,hml,knD]
  have kb:=c8 hC n.reserve 0 n.shape[m].2
  rw [lh] at kb
  refine aa kb (.inl rfl) ?_
  simp
  refine ⟨ar (by decide +kernel),?_⟩
  simp [hq,c1',c2,c3,hk2,cC hm]
 rw [if_neg (by omega)] at hq
 refine ab (fun hk3=>?_) (fun hk3=>?_) <;> simp at hk3 <;> simp [hk3]
 ·rw [if_pos hk3,wo] at hq
  refine ab (fun c1=>?_) (fun c1=>?_) <;> simp at c1 <;> simp [c1]
  ·refine ab (fun c2=>?_) (fun c2=>?_) <;> simp at c2 <;> simp [c2]
   ·cases c3 : n.prot
    ·simp [hq,c1,c2,c3]
    ·simp [hq,c3]
   ·simp [hq,c2]
  ·have : ¬ n.invert <= n.ground:=by omega
   simp [hq,this]
 ·rw [if_neg hk3] at hq
  simp [hq]
end Go.Gv

namespace Go.Gv
def im (ns : List Nod) (i : Nat) : Bool:=iK ns[i]! && decide (bB (bU ns[i]!.name) ns=(i : Int))
def iE (ns : List Nod) (nm : List UInt8) : Bool:=decide (0 <= bB (bU nm) ns) && !decide (ns[(bB (bU nm) ns).toNat]!.kind=3)
def fm (ns : List Nod) (ls : List Lnk) (i : Nat) : Bool:=cI ls[i]! && decide (bB (iH ls[i]!.name) ls=(i : Int)) && iE ns ls[i]!.src && decide (0 <= bB (bU ls[i]!.dst) ns)
def bG (ns : List Nod) (ls : List Lnk) : Bool:=decide (ns.length <= 300) && decide (ls.length <= 400) && (List.range ns.length).all (im ns) && (List.range ls.length).all (fm ns ls)
theorem lW {α : Type} {p : α -> Bool} {xs : List α} (h : 0 <= bB p xs) : (bB p xs).toNat < xs.length:=by
 unfold bB at h ⊢
 cases e : xs.findIdx? p with
 | none=>rw [e] at h;simp at h
 | some i =>
  simp
  obtain ⟨h1,_⟩:=List.findIdx?_eq_some_iff_getElem.1 e
  exact h1
variable {C : CC} (hC : am prog C)
include hC
theorem lY (b1 b2 : Bool) (ns : List Nod) (ls : List Lnk) (hcv : ∀ l ∈ ls,l.curve.length < 2 ^ 62) : C 164 [.agg [slx b1 (ns.map aL),slx b2 (ls.map aD)]] (.bool (bG ns ls)) []:=by
 obtain ⟨r,hr⟩ : ∃ r,r=bG ns ls:=⟨_,rfl⟩
 rw [<- hr]
 unfold bG at hr
 refine al hC (nf:=N164) rfl rfl ?_
 simp [N164]
 refine ab (fun c=>?_) (fun c=>?_) <;> simp at c <;> simp [c]
 ·simp [hr,show ¬ ns.length <= 300 by omega]
 refine ab (fun c2=>?_) (fun c2=>?_) <;> simp at c2 <;> simp [c2]
 ·simp [hr,show ¬ ls.length <= 400 by omega]
 rw [decide_eq_true (show ns.length <= 300 by omega),decide_eq_true (show ls.length <= 400 by omega)] at hr
 simp only [Bool.true_and] at hr
 have badN : ∀ i,i < ns.length -> im ns i=false -> r=false:=fun i hi h=>by
  rw [hr,Bool.and_eq_false_iff]
  exact .inl (List.all_eq_false.2 ⟨i,by simpa using hi,by simp [h]⟩)
 have badL : ∀ i,i < ls.length -> fm ns ls i=false -> r=false:=fun i hi h=>by
  rw [hr,Bool.and_eq_false_iff]
  exact .inr (List.all_eq_false.2 ⟨i,by simpa using hi,by simp [h]⟩)
 refine aj Nat (fun i=>[(1,.ptr [slx b1 (ns.map aL),slx b2 (ls.map aD)]),(19,slx b1 (ns.map aL)),(20,.int .i64 ns.length),(21,.int .i64 i)]) (fun i=>i <= ns.length /\ ∀ j < i,im ns j=true) (fun i=>ns.length - i) 0 (by simp) (by simp) ?_
 rintro i ⟨hi,hj⟩
 simp
 refine ab (fun h=>?_) (fun h=>?_) <;> simp at h <;> simp [h]
 ·have hw : IntKind.wrap .i64 ((i : Int) + 1)=((i + 1 : Nat) : Int):=af (by omega) (by omega)
  have bad:=badN i h
  have e1 : ns[i]! = ns[i]:=getElem!_pos ns i h
  simp only [im,e1] at bad
  have k1:=yK hC ns[i]
  have k2:=mI hC b1 b2 ns ls ns[i].name (by omega)
  simp only [aL] at k1
  simp [aL,h]
  refine aa k1 (.inl rfl) ?_
  cases g1 : iK ns[i]
  ·simp
   exact bad (by simp [g1])
  simp
  refine aa k2 (.inl rfl) ?_
  simp
  refine ab (fun g2=>?_) (fun g2=>?_) <;> simp at g2 <;> simp [g2]
  ·exact bad (by simp [g2])
  ·simp [hw]
   refine ⟨i + 1,⟨by omega,fun k hk=>?_⟩,by omega,by simp⟩
   rcases Nat.lt_succ_iff_lt_or_eq.1 hk with h5 | rfl
   ·exact hj k h5
   ·simp [im,e1,g1,g2]
 have hall : (List.range ns.length).all (im ns)=true:=by
  rw [List.all_eq_true]
  intro k hk
  exact hj k (by simp at hk;omega)
 rw [hall,Bool.true_and] at hr
 clear badN hall hj
 refine aj Nat (fun i=>[(1,.ptr [slx b1 (ns.map aL),slx b2 (ls.map aD)]),(39,slx b2 (ls.map aD)),(40,.int .i64 ls.length),(41,.int .i64 i)]) (fun i=>i <= ls.length /\ ∀ j < i,fm ns ls j=true) (fun i=>ls.length - i) 0 (by simp) (by simp) ?_
 clear h hi i
 rintro i ⟨hi,hj⟩
 simp
 refine ab (fun h=>?_) (fun h=>?_) <;> simp at h <;> simp [h]
 ·have hw : IntKind.wrap .i64 ((i : Int) + 1)=((i + 1 : Nat) : Int):=af (by omega) (by omega)
  have bad:=badL i h
  have e1 : ls[i]! = ls[i]:=getElem!_pos ls i h
  simp only [fm,e1] at bad
  have k1:=v7 hC ls[i] (hcv _ (List.getElem_mem h))
  have k2:=CJ hC b1 b2 ns ls ls[i].name (by omega)
  have k3:=mI hC b1 b2 ns ls ls[i].src (by omega)
  have k4:=mI hC b1 b2 ns ls ls[i].dst (by omega)
  have next : fm ns ls i=true -> ∃ s' : Nat,(s' <= ls.length /\ ∀ j < s',fm ns ls j=true) /\ ls.length - s' < ls.length - i /\ (i : Int) + 1=s':=fun hl=>by
   refine ⟨i + 1,⟨by omega,fun k hk=>?_⟩,by omega,by simp⟩
   rcases Nat.lt_succ_iff_lt_or_eq.1 hk with h5 | rfl
   ·exact hj k h5
   ·exact hl
  simp only [fm,e1] at next
  simp only [aD] at k1
  simp [aD,h]
  refine aa k1 (.inl rfl) ?_
  cases g1 : cI ls[i]
  ·simp
   exact bad (by simp [g1])
  simp
  refine aa k2 (.inl rfl) ?_
  simp
  refine ab (fun g2=>?_) (fun g2=>?_) <;> simp at g2 <;> simp [g2]
  ·exact bad (by simp [g2])
  refine aa k3 (.inl rfl) ?_
  simp
  refine ab (fun g3=>?_) (fun g3=>?_) <;> simp at g3 <;> simp [g3]
  ·exact bad (by simp [iE,show ¬ 0 <= bB (bU ls[i].src) ns by omega])
  have g3' : ¬ bB (bU ls[i].src) ns < 0:=by omega
  refine aa k4 (.inl rfl) ?_
  simp
  refine ab (fun g4=>?_) (fun g4=>?_) <;> simp at g4 <;> simp [g4]
  ·exact bad (by simp [show ¬ 0 <= bB (bU ls[i].dst) ns by omega])
  have g4' : ¬ bB (bU ls[i].dst) ns < 0:=by omega
  have hf:=lW g3
  obtain ⟨f,hfe⟩:=Int.eq_ofNat_of_zero_le g3
  rw [hfe] at hf ⊢
  simp at hf
  have e2 : ns[f]! = ns[f]:=getElem!_pos ns f hf
  have hfo : iE ns ls[i].src=!decide (ns[f].kind=3):=by
   simp [iE,hfe,e2]
  simp [hf,aL]
  refine ab (fun g5=>?_) (fun g5=>?_) <;> simp at g5 <;> simp [g5]
  ·exact bad (by simp [hfo,g5])
  ·simp [hw]
   exact next (by simp [hfo,g5,g1,g2,g4])
 ·have hall : (List.range ls.length).all (fm ns ls)=true:=by
   rw [List.all_eq_true]
   intro k hk
   exact hj k (by simp at hk;omega)
  rw [hr,hall]
end Go.Gv

namespace Go.Gv
def pV (n : Nat) (es : List Edg) : Int:=if (dn n es).length < n then 22 else 0
def pX (n : Nat) (es : List Edg) : D:=if (dn n es).length < n then .nils else ndD (dn n es)
def Lg (n : Nat) (es : List Edg) : Bool:=decide ((es.map (·.1)).Nodup) && decide ((dn n es).length=n)
def K0 (es : List Edg) (j : Nat) : List Nat:=(es.take j).map (·.1)
@[simp] theorem QJ (es : List Edg) : K0 es 0=[]:=rfl
def edT (es : List Edg) (j : Nat) : List (List D):=(es.take j).map edK
theorem pr {es : List Edg} {j : Nat} (h : j < es.length) : edT es (j + 1)=edT es j++[edK es[j]]:=by
 unfold edT
 rw [List.take_succ_eq_append_getElem h,List.map_append]
 rfl
@[simp] theorem QV (es : List Edg) : edT es 0=[]:=rfl
theorem lU {es : List Edg} {j : Nat} (h : j <= es.length) : (edT es j).length=j:=by simp [edT];omega
theorem sd (es : List Edg) : edT es es.length=es.map edK:=by simp [edT]
theorem AK (es : List Edg) (j : Nat) : (edT es j).map (fun e=>e.map aR)=edT es j:=by
 unfold edT
 rw [List.map_map]
 apply List.map_congr_left
 intro e _
 simp [edK,knD,aR]
def QZ (n : Nat) (es : List Edg) (j : Nat) : List (List D):=(List.range n).map fun v=>[.bool (decide (v ∈ K0 es j))]
def aw (ns : List Nod) (ls : List Lnk) : List Edg:=ls.map fun l=>((bB (bU l.src) ns).toNat,(bB (bU l.dst) ns).toNat)
theorem a8 (ns : List Nod) (ls : List Lnk) : (aw ns ls).length=ls.length:=by simp [aw]
theorem cp {ns : List Nod} {ls : List Lnk} (h : bG ns ls=true) : ns.length <= 300 /\ ls.length <= 400:=by
 simp only [bG,Bool.and_eq_true,decide_eq_true_eq] at h
 exact ⟨h.1.1.1,h.1.1.2⟩
theorem gE {ns : List Nod} {ls : List Lnk} (h : bG ns ls=true) {i : Nat} (hi : i < ls.length) : cI ls[i]=true /\ bB (iH ls[i].name) ls=(i : Int) /\ 0 <= bB (bU ls[i].src) ns /\ 0 <= bB (bU ls[i].dst) ns:=by
 simp only [bG,Bool.and_eq_true,List.all_eq_true,List.mem_range] at h
 have:=h.2 i hi
 simp only [fm,getElem!_pos ls i hi,iE,Bool.and_eq_true,decide_eq_true_eq] at this
 exact ⟨this.1.1.1,this.1.1.2,this.1.2.1,this.2⟩
theorem kV {ns : List Nod} {ls : List Lnk} (h : bG ns ls=true) {i : Nat} (hi : i < ns.length) : iK ns[i]=true /\ bB (bU ns[i].name) ns=(i : Int):=by
 simp only [bG,Bool.and_eq_true,List.all_eq_true,List.mem_range] at h
 have:=h.1.2 i hi
 simpa only [im,getElem!_pos ns i hi,Bool.and_eq_true,decide_eq_true_eq] using this
theorem iY {ns : List Nod} {ls : List Lnk} (h : bG ns ls=true) : inG ns.length (aw ns ls):=by
 intro e he
 simp only [aw,List.mem_map] at he
 obtain ⟨l,hl,rfl⟩:=he
 obtain ⟨i,hi,rfl⟩:=List.mem_iff_getElem.1 hl
 obtain ⟨_,_,h1,h2⟩:=gE h hi
 exact ⟨lW h1,lW h2⟩
variable {C : CC} (hC : am prog C)
include hC
theorem vO (hS : SlC C) {b : Bool} {n : Nat} {es : List Edg} (hn : n <= 300) (he : es.length <= 1000) (hg : inG n es) : C 511 [.int .i64 n,slx b (es.map edK)] (.tup [pX n es,.int .i64 (pV n es)]) []:=by
 have k1:=vP hC b n (es.map edI) (by simp;omega)
 rw [<- x8,Co hC hn he hg] at k1
 have k2:=yN hC hS (b:=b) hn he hg
 refine al hC (nf:=N511) rfl rfl ?_
 simp [N511]
 refine aa k1 (.inl rfl) ?_
 simp
 refine aa k2 (.inr rfl) ?_
 unfold pX pV
 simp [ndD,aC]
 refine ab (fun c=>?_) (fun c=>?_) <;> simp at c <;> simp [c]
theorem pR (b1 b2 : Bool) (ns : List Nod) (ls : List Lnk) (hv : bG ns ls=true) : C 499 [.agg [slx b1 (ns.map aL),slx b2 (ls.map aD)]] (.sl ((aw ns ls).map edK)) []:=by
 obtain ⟨hl1,hl2⟩:=cp hv
 refine al hC (nf:=N499) rfl rfl ?_
 simp [N499]
 refine aj Nat (fun j=>[(1,.ptr [slx b1 (ns.map aL),slx b2 (ls.map aD)]),(3,.ref (.r 10048) 0 j),(10048,.blk 2 (edT (aw ns ls) j)),(7,slx b2 (ls.map aD)),(8,.int .i64 ls.length),(9,.int .i64 j)]) (fun j=>j <= ls.length) (fun j=>ls.length - j) 0 (by simp) (by simp) ?_
 rintro j hj
 simp
 refine ab (fun h=>?_) (fun h=>?_) <;> simp [h] <;> simp at h
 ·have hw : IntKind.wrap .i64 ((j : Int) + 1)=((j + 1 : Nat) : Int):=af (by omega) (by omega)
  obtain ⟨_,_,g1,g2⟩:=gE hv h
  have k1:=mI hC b1 b2 ns ls ls[j].src (by omega)
  have k2:=mI hC b1 b2 ns ls ls[j].dst (by omega)
  have hjl : j < (aw ns ls).length:=by rw [a8];exact h
  have el:=lU (es:=aw ns ls) (j:=j) (by omega)
  simp [h,aD,el]
  refine aa k1 (.inl rfl) ?_
  simp
  refine aa k2 (.inl rfl) ?_
  simp [el]
  refine ⟨by omega,ar (by decide +kernel),j + 1,by omega,by omega,rfl,?_,hw⟩
  have e2 : (edT (aw ns ls) j).take j=edT (aw ns ls) j:=List.take_of_length_le (by omega)
  rw [e2,pr hjl]
  congr 2
  simp only [aw,List.getElem_map,edK,knD]
  rw [Int.toNat_of_nonneg g1,Int.toNat_of_nonneg g2]
 ·have ej : j=ls.length:=by omega
  subst ej
  have e0:=sd (aw ns ls)
  have el:=lU (es:=aw ns ls) (j:=ls.length) (by rw [a8];exact Nat.le_refl _)
  rw [a8] at e0
  simp [AK,el]
  rw [<- e0,List.take_of_length_le (by omega)]
theorem o9 (b1 b2 : Bool) (ns : List Nod) (ls : List Lnk) (hcv : ∀ l ∈ ls,l.curve.length < 2 ^ 62) : C 471 [.agg [slx b1 (ns.map aL),slx b2 (ls.map aD)]] (.tup (if bG ns ls then [.sl ((aw ns ls).map edK),.int .i64 0] else [.nils,.int .i64 1])) []:=by
 refine al hC (nf:=N471) rfl rfl ?_
 simp [N471]
 refine aa (lY hC b1 b2 ns ls hcv) (.inl rfl) ?_
 cases hv : bG ns ls
 ·simp
 ·simp
  refine aa (pR hC b1 b2 ns ls hv) (.inr rfl) ?_
  simp
theorem uV (hS : SlC C) (b1 b2 : Bool) (ns : List Nod) (ls : List Lnk) (hcv : ∀ l ∈ ls,l.curve.length < 2 ^ 62) : C 495 [.agg [slx b1 (ns.map aL),slx b2 (ls.map aD)]] (.tup (if bG ns ls then [pX ns.length (aw ns ls),.int .i64 (pV ns.length (aw ns ls))] else [.nils,.int .i64 1])) []:=by
 refine al hC (nf:=N495) rfl rfl ?_
 simp [N495]
 refine aa (lY hC b1 b2 ns ls hcv) (.inl rfl) ?_
 cases hv : bG ns ls
 ·simp
 ·obtain ⟨l1,l2⟩:=cp hv
  have k:=vO hC hS (b:=false) (n:=ns.length) (es:=aw ns ls) l1 (by rw [a8];omega) (iY hv)
  simp
  refine aa (pR hC b1 b2 ns ls hv) (.inr rfl) ?_
  simp at k ⊢
  refine aa k (.inr rfl) ?_
  unfold pX pV ndD
  split <;> simp
  ·exact ⟨ar (by decide +kernel),by omega⟩
  ·exact ⟨ar (by decide +kernel),by omega⟩
theorem pA {b : Bool} {xs : List Lnk} {g : Nat} {cs : List D} (p : Lnk -> Bool) (hs : xs.length < 2 ^ 62) (hp : ∀ x ∈ xs,C g (.agg (aD x)::cs) (.bool (p x)) []) : C 455 [slx b (xs.map fun x=>aD x),.fn g cs] (.bool (xs.any p)) []:=by
 refine al hC (nf:=N455) rfl rfl ?_
 simp [N455]
 refine aa (pB hC p hs hp) (.inl rfl) ?_
 simp [gz]
theorem vS {b : Bool} {xs : List Nod} {g : Nat} {cs : List D} (p : Nod -> Bool) (hs : xs.length < 2 ^ 62) (hp : ∀ x ∈ xs,C g (.agg (aL x)::cs) (.bool (p x)) []) : C 453 [slx b (xs.map fun x=>aL x),.fn g cs] (.bool (xs.any p)) []:=by
 refine al hC (nf:=N453) rfl rfl ?_
 simp [N453]
 refine aa (pC hC p hs hp) (.inl rfl) ?_
 simp [gz]
def xh (ns : List Nod) (ls : List Lnk) : Bool:=bG ns ls && ls.all (fun l=>decide (l.kind=1)) && Lg ns.length (aw ns ls)
end Go.Gv

set_option maxRecDepth 4000
namespace Go.Gv
def ia (n m : Nat) (v : Int) : List (List D):=List.replicate m [.int .i64 v]++List.replicate (n - m) [.int .i64 0]
theorem qi {n m : Nat} {v : Int} (h : m <= n) : (ia n m v).length=n:=by simp [ia];omega
theorem mT (n m : Nat) (v : Int) : ∀ e ∈ ia n m v,e.length=1 /\ ∀ c ∈ e,aq c=true:=by
 intro e he
 rcases List.mem_append.1 he with h | h <;> (rw [(List.mem_replicate.1 h).2];simp [aq])
theorem od (n m : Nat) (v : Int) : ∀ e ∈ ia n m v,∀ c ∈ e,aq c=true:=fun e he=>(mT n m v e he).2
theorem oc (n : Nat) (v : Int) : ia n n v=List.replicate n [.int .i64 v]:=by simp [ia]
theorem oe {n m : Nat} {v : Int} (h : m <= n) : iz (ia n m v) m (((ia n m v).take m).take (n - m))=ia n (min n (m + m)) v:=by
 have h1 : (ia n m v).take m=List.replicate m [.int .i64 v]:=by
  unfold ia
  rw [List.take_append_of_le_length (by simp)]
  simp
 rw [h1,List.take_replicate]
 unfold iz
 rw [h1,List.length_replicate]
 unfold ia
 rw [List.drop_append,List.drop_eq_nil_of_le (by simp),List.nil_append,List.length_replicate,List.drop_replicate]
 have e1 : min n (m + m)=m + min (n - m) m:=by omega
 rw [e1,<- List.replicate_append_replicate]
 congr 2
 omega
theorem rH {n : Nat} {v : Int} (h : 0 < n) : iz (List.replicate n [D.int .i64 0]) 0 ([[D.int .i64 v]].take n)=ia n 1 v:=by
 have : [[D.int .i64 v]].take n=[[.int .i64 v]]:=by
  rw [List.take_of_length_le (by simp;omega)]
 rw [this]
 unfold iz ia
 simp
variable {C : CC} (hC : am prog C)
include hC
theorem wH (v : Int) (n : Nat) (hn : n < 2 ^ 40) : C 315 [.sl [[.int .i64 v]],.int .i64 n] .any [.own 1 (List.replicate n [.int .i64 v])]:=by
 have k0:=lQ hC 1 n (by omega) (by omega)
 have k1 : C 333 [.int .u64 1,.int .u64 n] (.tup [.int .u64 0,.int .u64 n]) []:=by
  have e1 : 1 * n / 2 ^ 64=0:=by omega
  have e2 : 1 * n % 2 ^ 64=n:=by omega
  rw [e1,e2] at k0
  refine al hC (nf:=N333) rfl rfl ?_
  simp [N333]
  simp at k0
  refine aa k0 (.inl rfl) ?_
  simp
 have w1 : IntKind.wrap .u64 (n : Int)=n:=by
  have e : (2 : Int) ^ IntKind.bits .u64=18446744073709551616:=by decide
  have e2 : IntKind.signed .u64=false:=rfl
  simp only [IntKind.wrap,e,e2,Bool.false_and,Bool.false_eq_true,if_false]
  omega
 have w2 : IntKind.wrap .i64 (n : Int)=n:=af (by omega) (by omega)
 refine rO hC (nf:=N315) rfl rfl ?_
 have hn0 : ¬ (n : Int) < 0:=by omega
 have hn1 : ¬ (9223372036854775807 : Int) < n:=by omega
 have hn2 : (n : Int) * 8 <= 140737488355328:=by omega
 simp [N315,w1,hn0]
 refine aa k1 (.inl rfl) ?_
 simp [w2,hn1,hn2,aq]
 refine ⟨fun h0=>?_,fun h0=>?_⟩
 ·refine aj Nat (fun m=>[(7,.ref (.r 10112) 0 n),(8,.int .i64 m),(10112,.blk 1 (ia n m v))]) (fun m=>m <= n /\ (0 < n -> 0 < m)) (fun m=>n - m) 0 ⟨by omega,by omega⟩ (by subst h0;simp [ia]) ?_
  rintro m ⟨hm,hm0⟩
  simp
  refine ab (fun h=>?_) (fun h=>?_) <;> simp at h
  ·have hm1 : 0 < m:=hm0 (by omega)
   have hl:=qi (v:=v) hm
   have hnx:=oe (v:=v) hm
   have hc:=mT n m v
   have hc1:=od n m v
   have hnm : ¬ n - m=0:=by omega
   have hpos : 0 < n - m:=by omega
   have htk : ∀ e ∈ (ia n m v).take m,∀ c ∈ e,aq c=true:=fun e he=>hc1 e (List.mem_of_mem_take he)
   have hw : IntKind.wrap .i64 ((m : Int) + ((min m (n - m) : Nat) : Int))=((min n (m + m) : Nat) : Int):=af (by omega) (by omega)
   simp [h,hl,hm,lK]
   try refine ⟨htk,hm1,fun hz=>absurd hz hnm,fun _=>⟨hc1,htk,ar (by decide +kernel),min n (m + m),⟨by omega,fun _=>by omega⟩,by omega,hw,hnx⟩⟩
  ·have e : m=n:=by omega
   subst e
   simp [oc]
 ·rw [rH h0]
  have h01 : min 1 n=1:=by omega
  refine aj Nat (fun m=>[(7,.ref (.r 10112) 0 n),(8,.int .i64 m),(10112,.blk 1 (ia n m v))]) (fun m=>m <= n /\ (0 < n -> 0 < m)) (fun m=>n - m) 1 ⟨by omega,by omega⟩ (by simp [h01]) ?_
  rintro m ⟨hm,hm0⟩
  simp
  refine ab (fun h=>?_) (fun h=>?_) <;> simp at h
  ·have hm1 : 0 < m:=hm0 (by omega)
   have hl:=qi (v:=v) hm
   have hnx:=oe (v:=v) hm
   have hc:=mT n m v
   have hc1:=od n m v
   have hnm : ¬ n - m=0:=by omega
   have hpos : 0 < n - m:=by omega
   have htk : ∀ e ∈ (ia n m v).take m,∀ c ∈ e,aq c=true:=fun e he=>hc1 e (List.mem_of_mem_take he)
   have hw : IntKind.wrap .i64 ((m : Int) + ((min m (n - m) : Nat) : Int))=((min n (m + m) : Nat) : Int):=af (by omega) (by omega)
   simp [h,hl,hm,lK]
   try refine ⟨htk,hm1,fun hz=>absurd hz hnm,fun _=>⟨hc1,htk,ar (by decide +kernel),min n (m + m),⟨by omega,fun _=>by omega⟩,by omega,hw,hnx⟩⟩
  ·have e : m=n:=by omega
   subst e
   simp [oc]
end Go.Gv

namespace Go.Gv
abbrev Sp:=Int × Int
def Ia (n : Int) : Bool:=decide (-72057594037927936 <= n) && decide (n <= 72057594037927936)
def QH (s : Sp) : Bool:=decide (s.1 <= s.2) && Ia s.1 && Ia s.2
def QI (s : Sp) : Bool:=decide (s.1 < 0) || decide (1099511627776 < s.2)
def uP (l : List Sp) (count : Int) : Int:=if l.any (fun s=>!QH s) then 1 else if (l.length : Int)=count then (if l.any QI then 2 else 0) else 3
def KZ (a b : Sp) : Sp:=(IntKind.wrap .i64 (a.1 + b.1),IntKind.wrap .i64 (a.2 + b.2))
abbrev FSt:=(Nat -> Sp) × (Nat -> Sp)
def H9 (i k : Nat) (e : Edg) (s : FSt) : FSt:=if e.1=i then (fun v=>if v=e.2 then KZ (s.1 e.2) (s.1 i) else s.1 v,fun q=>if q=k then s.1 i else s.2 q) else s
def flI (es : List Edg) (i : Nat) (s : FSt) : Nat -> FSt
 | 0=>s
 | k + 1=>H9 i k es[k]! (flI es i s k)
def flO (es : List Edg) (ord : List Nat) (s : FSt) : Nat -> FSt
 | 0=>s
 | m + 1=>flI es ord[m]! (flO es ord s m) es.length
def flS (l : List Sp) : FSt:=(fun v=>l[v]!,fun _=>(0,0))
def mr (n : Nat) (es : List Edg) (l : List Sp) : List Sp:=(List.range es.length).map (flO es (dn n es) (flS l) (dn n es).length).2
def Hl (l : List Sp) : Bool:=l.any fun s=>decide (1099511627776 < s.2)
def vL (n : Nat) (es : List Edg) (l : List Sp) : Int:=if Hl (mr n es l) then 5 else 0
def PO (n : Nat) (es : List Edg) (l : List Sp) : D:=if Hl (mr n es l) then .nils else .sl ((mr n es l).map knD)
def spR (n : Nat) (f : Nat -> Sp) : List (List D):=(List.range n).map fun v=>knD (f v)
variable {C : CC} (hC : am prog C)
include hC
def Bu (ns : List Nod) (ls : List Lnk) (l : List Sp) : Int:=if xh ns ls then (if uP l ns.length=0 then vL ns.length (aw ns ls) l else uP l ns.length) else 1
def Pd (ns : List Nod) (ls : List Lnk) (l : List Sp) : D:=if Bu ns ls l=0 then .sl ((mr ns.length (aw ns ls) l).map knD) else .nils
end Go.Gv

namespace Go.Gv
def wS (s : Sp) : Sp:=(IntKind.wrap .i64 s.1,IntKind.wrap .i64 s.2)
def adS (a b : Sp) : Sp:=(a.1 + b.1,a.2 + b.2)
def Le (P : Nat -> Bool) (o : Nat -> Sp) : Nat -> Sp
 | 0=>(0,0)
 | k + 1=>if P k then adS (Le P o k) (o k) else Le P o k
theorem qx {es : List Edg} (h : (es.map (·.1)).Nodup) {k k' : Nat} (hk : k < es.length) (hk' : k' < es.length) (e : es[k].1=es[k'].1) : k=k':=by
 have h1 : k < (es.map (·.1)).length:=by simpa using hk
 have h2 : k' < (es.map (·.1)).length:=by simpa using hk'
 have:=(List.getElem_inj (xs:=es.map (·.1)) (i:=k) (j:=k') (h₀:=h1) (h₁:=h2) h).1 (by simpa using e)
 exact this
def inT (es : List Edg) (v : Nat) (done : List Nat) (k : Nat) : Bool:=decide (es[k]!.2=v) && done.contains es[k]!.1
def Hj (es : List Edg) (fl : List Sp) (s0 : Sp) (v : Nat) : Nat -> Sp
 | 0=>s0
 | k + 1=>if es[k]!.2=v then KZ (Hj es fl s0 v k) fl[k]! else Hj es fl s0 v k
end Go.Gv

namespace Go.Gv
def fE (es : List Edg) (v : Nat) : Option Nat:=es.findIdx? fun e=>e.1 == v
def frI : Option Nat -> Int
 | some i=>i
 | none=>-1
theorem fX {es : List Edg} {v i : Nat} (h : fE es v=some i) : ∃ hi : i < es.length,es[i].1=v /\ ∀ j (hj : j < i),¬ es[j].1=v:=by
 unfold fE at h
 rw [List.findIdx?_eq_some_iff_getElem] at h
 obtain ⟨h1,h2,h3⟩:=h
 exact ⟨h1,by simpa using h2,fun j hj=>by simpa using h3 j hj⟩
theorem oF {es : List Edg} {v : Nat} : fE es v=none ↔ v ∉ es.map (·.1):=by
 unfold fE
 rw [List.findIdx?_eq_none_iff]
 simp only [beq_eq_false_iff_ne,ne_eq,List.mem_map,not_exists,not_and]
theorem ym {es : List Edg} {j : Nat} (hj : j < es.length) (v : Nat) : fE (es.take (j + 1)) v=(fE (es.take j) v).or (if es[j].1=v then some j else none):=by
 have hl : (es.take j).length=j:=by simp;omega
 unfold fE
 rw [List.take_succ_eq_append_getElem hj,List.findIdx?_append]
 congr 1
 by_cases h : es[j].1=v
 ·rw [if_pos h];simp [List.findIdx?_cons,h,hl]
 ·rw [if_neg h];simp [List.findIdx?_cons,h]
def frA (n : Nat) (es : List Edg) (j : Nat) : List (List D):=(List.range n).map fun v=>[.int .i64 (frI (fE (es.take j) v))]
theorem vM (n : Nat) (es : List Edg) : frA n es 0=List.replicate n [.int .i64 (-1)]:=by
 apply List.ext_getElem
 ·simp [frA]
 ·intro i h1 h2
  simp [frA,fE,frI]
theorem gU (n : Nat) (es : List Edg) (j : Nat) : (frA n es j).length=n:=by simp [frA]
theorem oI {n v : Nat} (es : List Edg) (j : Nat) (h : v < n) : (frA n es j)[v]? = some [.int .i64 (frI (fE (es.take j) v))]:=by simp [frA,h]
theorem yn {n : Nat} {es : List Edg} {j : Nat} (hj : j < es.length) (h : fE (es.take j) es[j].1=none) : (frA n es j).set es[j].1 [.int .i64 (j : Int)]=frA n es (j + 1):=by
 unfold frA
 rw [lb]
 apply List.map_congr_left
 intro v _
 rw [ym hj]
 by_cases e : v=es[j].1
 ·subst e
  rw [if_pos rfl,h,if_pos rfl];rfl
 ·rw [if_neg e,if_neg (Ne.symm e),Option.or_none]
theorem lV {o : Option Nat} : frI o=-1 ↔ o=none:=by
 cases o with
 | none=>simp [frI]
 | some i=>simp [frI]
theorem sB {es : List Edg} {j : Nat} (hj : j < es.length) (h : ((es.take j).map (·.1)).Nodup) : ((es.take (j + 1)).map (·.1)).Nodup ↔ fE (es.take j) es[j].1=none:=by
 rw [List.take_succ_eq_append_getElem hj,List.map_append,List.nodup_append,oF]
 simp only [List.map_cons,List.map_nil,List.mem_cons,List.not_mem_nil,or_false,forall_eq,List.nodup_cons,not_false_eq_true,List.nodup_nil,and_self,true_and,h]
 constructor
 ·intro h1 h2;exact h1 _ h2 rfl
 ·rintro h1 a ha rfl;exact h1 ha
theorem C8 {es : List Edg} {j : Nat} (h : ¬ ((es.take j).map (·.1)).Nodup) : ¬ (es.map (·.1)).Nodup:=fun h2=>h ((((List.take_sublist j es).map _).nodup) h2)
def ppT (es : List Edg) (vs : List Nat) : List Nat:=vs.filterMap (fE es)
theorem pZ {es : List Edg} {vs : List Nat} {k : Nat} (hk : k < vs.length) : ppT es (vs.take (k + 1))=ppT es (vs.take k)++(fE es vs[k]).toList:=by
 unfold ppT
 rw [List.take_succ_eq_append_getElem hk,List.filterMap_append]
 cases h : fE es vs[k] <;> simp [h]
theorem sJ {es : List Edg} {vs : List Nat} {l : Nat} (h : l ∈ ppT es vs) : ∃ v ∈ vs,fE es v=some l:=by
 simpa [ppT] using h
theorem kZ {es : List Edg} {vs : List Nat} {l : Nat} (h : l ∈ ppT es vs) : l < es.length:=by
 obtain ⟨v,_,hv⟩:=sJ h
 exact (fX hv).1
theorem yU {es : List Edg} {vs : List Nat} (hnd : vs.Nodup) {k : Nat} (hk : k < vs.length) {l : Nat} (hl : fE es vs[k]=some l) : l ∉ ppT es (vs.take k):=by
 intro h
 obtain ⟨v,hv,hv2⟩:=sJ h
 obtain ⟨h1,h2,_⟩:=fX hl
 obtain ⟨h3,h4,_⟩:=fX hv2
 have e : v=vs[k]:=by rw [<- h2,<- h4]
 subst e
 obtain ⟨j,hj,hj2⟩:=List.getElem_of_mem hv
 rw [List.getElem_take] at hj2
 have hjk : j < k:=by simp at hj;omega
 have:=(List.getElem_inj hnd).1 hj2
 omega
theorem fu (es : List Edg) (vs : List Nat) : (ppT es vs).length <= vs.length:=List.length_filterMap_le _ _
def pU (T : List Nat) (l : Nat) : Nat:=if l ∈ T then T.idxOf l else 0
def jf (m : Nat) (T : List Nat) : List (List D):=(List.range m).map fun l=>[.int .i64 (pU T l : Int)]
theorem uc (m : Nat) : jf m []=List.replicate m [.int .i64 0]:=by
 apply List.ext_getElem
 ·simp [jf]
 ·intro i h1 h2
  simp [jf,pU]
theorem jY (m : Nat) (T : List Nat) : (jf m T).length=m:=by simp [jf]
theorem wh {m l : Nat} (T : List Nat) (h : l < m) : (jf m T)[l]? = some [.int .i64 (pU T l : Int)]:=by simp [jf,h]
theorem wi {m : Nat} {T : List Nat} {l : Nat} (h : l ∉ T) : (jf m T).set l [.int .i64 (T.length : Int)]=jf m (T++[l]):=by
 unfold jf
 rw [lb]
 apply List.map_congr_left
 intro v _
 unfold pU
 by_cases e : v=l
 ·subst e
  rw [if_pos rfl,if_pos (by simp),List.idxOf_append,if_neg h]
  simp
 ·rw [if_neg e]
  by_cases hv : v ∈ T
  ·rw [if_pos hv,if_pos (by simp [hv]),List.idxOf_append,if_pos hv]
  ·rw [if_neg hv,if_neg (by simp [hv,e])]
def jc (es : List Edg) (T : List Nat) (l : Nat) : Int:=match fE es (es[l]?.getD default).2 with
 | some x=>pU T x
 | none=>-1
def ppL (n : Nat) (es : List Edg) : List Nat:=ppT es (dn n es)
def ppB (n : Nat) (es : List Edg) : List Int:=(ppL n es).map (jc es (ppL n es))
def ir (es : List Edg) (T : List Nat) (k : Nat) : List (List D):=(T.take k).map fun l=>[.int .i64 (jc es T l)]
theorem nw (es : List Edg) (T : List Nat) : ir es T 0=[]:=by simp [ir]
theorem nv {es : List Edg} {T : List Nat} {k : Nat} (h : k < T.length) : ir es T (k + 1)=ir es T k++[[.int .i64 (jc es T T[k])]]:=by
 unfold ir
 rw [List.take_succ_eq_append_getElem h,List.map_append];rfl
theorem ph {es : List Edg} {T : List Nat} {k : Nat} (h : k <= T.length) : (ir es T k).length=k:=by simp [ir];omega
theorem pg (es : List Edg) (T : List Nat) : ir es T T.length=(T.map (jc es T)).map fun b=>[.int .i64 b]:=by
 unfold ir
 rw [List.take_length,List.map_map];rfl
theorem oU (n : Nat) (es : List Edg) : (dn n es).Nodup:=(jA n es n).nd
theorem oT {n : Nat} {es : List Edg} {v : Nat} (h : v ∈ dn n es) : v < n:=(jA n es n).lt v h
def ppE (ls : List Lnk) (n : Nat) (es : List Edg) : Int:=if ls.any (fun l=>!decide (l.kind=1)) then 11 else if ¬ (es.map (·.1)).Nodup then 25 else if (dn n es).length < n then 22 else 0
end Go.Gv

set_option maxRecDepth 4000
namespace Go.Gv
theorem va (es : List Edg) (T : List Nat) (k : Nat) : ∀ e ∈ ir es T k,∀ c ∈ e,aq c=true:=by
 intro e he
 simp only [ir,List.mem_map] at he
 obtain ⟨v,_,rfl⟩:=he
 simp [aq]
def ppV (ls : List Lnk) (n : Nat) (es : List Edg) : List Nat:=if ppE ls n es=0 then ppL n es else []
def ppW (ls : List Lnk) (n : Nat) (es : List Edg) : List Int:=if ppE ls n es=0 then ppB n es else []
def bT (l : List Int) : List (List D):=l.map fun b=>[.int .i64 b]
variable {C : CC} (hC : am prog C)
include hC
theorem rp (l : Lnk) : C 636 [.agg (aD l)] (.bool (!decide (l.kind=1))) []:=by
 refine al hC (nf:=N636) rfl rfl ?_
 simp [N636,aD]
 try (by_cases h : l.kind=1 <;> simp [h])
theorem p8 (hS : SlC C) (b1 b2 : Bool) (ns : List Nod) (ls : List Lnk) (hcv : ∀ l ∈ ls,l.curve.length < 2 ^ 62) (hv : bG ns ls=true) :
  C 605 [.agg [slx b1 (ns.map aL),slx b2 (ls.map aD)]] (.tup [.sl (aG (ppV ls ns.length (aw ns ls))),.sl (bT (ppW ls ns.length (aw ns ls))),.int .i64 (ppE ls ns.length (aw ns ls))]) []:=by
 obtain ⟨hn,hl⟩:=cp hv
 have k1:=pA hC (b:=b2) (xs:=ls) (g:=636) (cs:=[]) (fun l=>!decide (l.kind=1)) (by omega) (fun l _=>rp hC l)
 have k2:=o9 hC b1 b2 ns ls hcv
 have k3:=uV hC hS b1 b2 ns ls hcv
 have k4:=wH hC (-1) ns.length (by omega)
 have hg:=iY hv
 have hel:=a8 ns ls
 rw [if_pos hv] at k2 k3
 generalize hes : aw ns ls=es at *
 obtain ⟨E,hE⟩ : ∃ E,E=ppE ls ns.length es:=⟨_,rfl⟩
 obtain ⟨V,hV⟩ : ∃ V,V=ppV ls ns.length es:=⟨_,rfl⟩
 obtain ⟨W,hW⟩ : ∃ W,W=ppW ls ns.length es:=⟨_,rfl⟩
 rw [<- hE,<- hV,<- hW]
 have bad : E ≠ 0 -> V=[] /\ W=[]:=fun h=>by
  rw [hV,hW]
  unfold ppV ppW
  rw [if_neg (by rw [<- hE];exact h),if_neg (by rw [<- hE];exact h)]
  exact ⟨rfl,rfl⟩
 refine al hC (nf:=N605) rfl rfl ?_
 simp [N605]
 refine aa k1 (.inl rfl) ?_
 by_cases h1 : ls.any (fun l=>!decide (l.kind=1))=true
 ·have e1 : E=11:=by rw [hE];unfold ppE;rw [if_pos h1]
  obtain ⟨e2,e3⟩:=bad (by rw [e1];decide)
  rw [h1,e1,e2,e3]
  simp [aG,bT]
 rw [Bool.not_eq_true] at h1
 rw [h1]
 simp
 refine aa k2 (.inr rfl) ?_
 simp
 refine tr k4 ?_
 simp
 refine aj Nat (fun j=>[(1,.ptr [slx b1 (ns.map aL),slx b2 (ls.map aD)]),(2,.ref (.r 10032) 0 0),(3,.ref (.r 10048) 0 0),(5,.sl (es.map edK)),(6,.ref (.r 10096) 0 ns.length),(34,.sl (es.map edK)),(35,.int .i64 es.length),(36,.int .i64 j),(10032,.blk 1 []),(10048,.blk 1 []),(10096,.blk 1 (frA ns.length es j))]) (fun j=>j <= es.length /\ ((es.take j).map (·.1)).Nodup) (fun j=>es.length - j) 0 ⟨by omega,by simp⟩ (by simp [vM]) ?_
 rintro j ⟨hj,hnd⟩
 simp
 refine ab (fun h=>?_) (fun h=>?_) <;> simp at h
 ·have hw : IntKind.wrap .i64 ((j : Int) + 1)=((j + 1 : Nat) : Int):=af (by omega) (by omega)
  have hej:=hg _ (List.getElem_mem h)
  have hget:=oI es j hej.1
  have hf:=sB h hnd
  simp [h,edK,knD,hej.1,aV hget]
  refine ab (fun h2=>?_) (fun h2=>?_) <;> simp at h2
  ·have h3 : ¬ (es.map (·.1)).Nodup:=C8 (j:=j + 1) (fun h3=>h2 (lV.2 (hf.1 h3)))
   have e1 : E=25:=by rw [hE];unfold ppE;rw [if_neg (by rw [h1];decide),if_pos h3]
   obtain ⟨e2,e3⟩:=bad (by rw [e1];decide)
   rw [e1,e2,e3]
   simp [h2,aG,bT]
  ·have hfn:=lV.1 h2
   have hset:=yn (n:=ns.length) h hfn
   have hrow : (frA ns.length es j)[es[j].1]'(by rw [gU];exact hej.1)=[.int .i64 (frI (fE (es.take j) es[j].1))]:=by
    have:=List.getElem?_eq_getElem (show es[j].1 < (frA ns.length es j).length by rw [gU];exact hej.1)
    rw [hget] at this
    exact (Option.some.inj this).symm
   simp [h2,gU,hej.1,aV hget,hrow]
   refine ⟨j + 1,⟨by omega,by rw [<- List.map_take];exact hf.2 hfn⟩,by omega,hw,hset⟩
 ·have ej : j=es.length:=by omega
  subst ej
  rw [List.take_length] at hnd
  simp [h]
  refine aa k3 (.inr rfl) ?_
  simp
  by_cases h2 : (dn ns.length es).length < ns.length
  ·have e1 : E=22:=by rw [hE];unfold ppE;rw [if_neg (by rw [h1];decide),if_neg (by simpa using hnd),if_pos h2]
   obtain ⟨e2,e3⟩:=bad (by rw [e1];decide)
   have e4 : pV ns.length es=22:=by unfold pV;rw [if_pos h2]
   have e5 : pX ns.length es=.nils:=by unfold pX;rw [if_pos h2]
   rw [e1,e2,e3,e4,e5]
   simp [aG,bT]
  ·have e1 : E=0:=by rw [hE];unfold ppE;rw [if_neg (by rw [h1];decide),if_neg (by simpa using hnd),if_neg h2]
   have e4 : pV ns.length es=0:=by unfold pV;rw [if_neg h2]
   have e5 : pX ns.length es=ndD (dn ns.length es):=by unfold pX;rw [if_neg h2]
   have e6 : V=ppT es (dn ns.length es):=by rw [hV];unfold ppV;rw [if_pos (by rw [<- hE];exact e1)];rfl
   have e7 : W=V.map (jc es V):=by rw [hW,e6];unfold ppW;rw [if_pos (by rw [<- hE];exact e1)];rfl
   have hOl:=fM ns.length es
   have hOn:=oU ns.length es
   have hOlt:=fun v (h : v ∈ dn ns.length es)=>oT h
   generalize dn ns.length es=O at *
   have hfr : ∀ v,fE (es.take es.length) v=fE es v:=fun v=>by rw [List.take_length]
   have hib:=aC O
   have hb8 : (es.length : Int) * 8 <= 140737488355328:=by omega
   rw [e1,e4,e5]
   simp [ndD,hib,hb8,<- hel]
   refine aj Nat (fun k=>[(2,.ref (.r 10032) 0 (ppT es (O.take k)).length),(3,.ref (.r 10048) 0 0),(5,.sl (es.map edK)),(6,.ref (.r 10096) 0 ns.length),(10,.ref (.r 10160) 0 es.length),(65,.sl (aG O)),(66,.int .i64 O.length),(67,.int .i64 k),(10032,.blk 1 (aG (ppT es (O.take k)))),(10048,.blk 1 []),(10096,.blk 1 (frA ns.length es es.length)),(10160,.blk 1 (jf es.length (ppT es (O.take k))))]) (fun k=>k <= O.length) (fun k=>O.length - k) 0 (by simp) (by simp [ppT,aG,uc]) ?_
   intro k hk
   simp
   refine ab (fun h3=>?_) (fun h3=>?_) <;> simp at h3
   ·have hw : IntKind.wrap .i64 ((k : Int) + 1)=((k + 1 : Nat) : Int):=af (by omega) (by omega)
    have hv1:=hOlt _ (List.getElem_mem h3)
    have hget:=oI es es.length hv1
    rw [hfr] at hget
    have hTs:=pZ (es:=es) h3
    have hpl : (ppT es (O.take k)).length <= k:=Nat.le_trans (fu _ _) (by simp;omega)
    have hrow : (frA ns.length es es.length)[O[k]]'(by rw [gU];exact hv1)=[.int .i64 (frI (fE es O[k]))]:=by
     have:=List.getElem?_eq_getElem (show O[k] < (frA ns.length es es.length).length by rw [gU];exact hv1)
     rw [hget] at this
     exact (Option.some.inj this).symm
    simp [h3,bf (cA h3),hib,hv1,aV hget,gU]
    refine ab (fun h4=>?_) (fun h4=>?_) <;> simp at h4
    ·cases hx : fE es O[k] with
     | none=>exact absurd (lV.2 hx) h4
     | some x =>
      obtain ⟨hxl,_,_⟩:=fX hx
      have hnew:=yU (es:=es) hOn h3 hx
      have hset:=wi (m:=es.length) hnew
      rw [hx] at hTs
      generalize ppT es (O.take k)=T at *
      have hrow2 : ((jf es.length T)[x]'(by rw [jY];exact hxl)).length=1:=by simp [jf]
      have hb2 : (T.length + 1) * 8 <= 140737488355328:=by omega
      have htk : List.take T.length (aG T)=aG T:=List.take_of_length_le (by rw [aC];omega)
      have htl : ((jf es.length T)[x]'(by rw [jY];exact hxl)).tail=[]:=by simp [jf]
      simp [frI,hx,jY,hxl,hrow2,aq,aC,hb2]
      refine ⟨k + 1,by omega,by omega,by rw [hTs];simp,hw,by rw [hTs,htk];simp [aG],by rw [hTs,htl];exact hset⟩
    ·have hx : fE es O[k]=none:=lV.1 h4
     rw [hx] at hTs
     simp [frI,hx]
     refine ⟨k + 1,by omega,by omega,?_⟩
     rw [hTs]
     simp [hw]
   ·have ek : k=O.length:=by omega
    subst ek
    rw [List.take_length] at *
    rw [<- e6]
    have hVl : V.length <= 300:=by rw [e6];exact Nat.le_trans (fu _ _) (by omega)
    have hVlt : ∀ l ∈ V,l < es.length:=fun l hl=>by rw [e6] at hl;exact kZ hl
    simp [h3,aC]
    refine aj Nat (fun k=>[(2,.ref (.r 10032) 0 V.length),(3,.ref (.r 10048) 0 k),(5,.sl (es.map edK)),(6,.ref (.r 10096) 0 ns.length),(10,.ref (.r 10160) 0 es.length),(87,.ref (.r 10032) 0 V.length),(88,.int .i64 V.length),(89,.int .i64 k),(10032,.blk 1 (aG V)),(10048,.blk 1 (ir es V k)),(10096,.blk 1 (frA ns.length es es.length)),(10160,.blk 1 (jf es.length V))]) (fun k=>k <= V.length) (fun k=>V.length - k) 0 (by simp) (by simp [nw]) ?_
    intro k hk
    simp
    refine ab (fun h3=>?_) (fun h3=>?_) <;> simp at h3
    ·have hw : IntKind.wrap .i64 ((k : Int) + 1)=((k + 1 : Nat) : Int):=af (by omega) (by omega)
     have hl2:=hVlt _ (List.getElem_mem h3)
     have hgl:=hg _ (List.getElem_mem hl2)
     have hgE : (es.map edK)[V[k]]? = some [.int .i64 (es[V[k]].1 : Int),.int .i64 (es[V[k]].2 : Int)]:=by simp [hl2,edK,knD]
     have hgF:=oI es es.length hgl.2
     rw [show es.take es.length=es from List.take_length] at hgF
     have hB:=nv (es:=es) h3
     have hBl:=ph (es:=es) hk
     have hbl : jc es V V[k]=(match fE es (es[V[k]]).2 with | some x=>(pU V x : Int) | none=>-1):=by
      unfold jc
      rw [List.getElem?_eq_getElem hl2];rfl
     have hb2 : (k + 1) * 8 <= 140737488355328:=by omega
     have htk : List.take k (ir es V k)=ir es V k:=List.take_of_length_le (by omega)
     simp [h3,aV (cA h3),aC,bf hgE,hl2,aV hgF,gU,hgl.2]
     cases hx : fE es (es[V[k]]).2 with
     | none =>
      rw [hx] at hbl
      simp only at hbl
      simp [frI,aq,hBl,hb2,htk]
      refine ⟨k + 1,by omega,by omega,by omega,hw,?_⟩
      rw [hB,hbl]
     | some x =>
      obtain ⟨hxl,_,_⟩:=fX hx
      rw [hx] at hbl
      simp only at hbl
      have hne : ¬ (x : Int)=-1:=by omega
      simp [frI,hne,aV (wh V hxl),jY,hxl,aq,hBl,hb2,htk]
      refine ⟨k + 1,by omega,by omega,by omega,hw,?_⟩
      rw [hB,hbl]
    ·have ek : k=V.length:=by omega
     subst ek
     have hBe:=pg es V
     rw [<- e7] at hBe
     have hWl : W.length=V.length:=by rw [e7,List.length_map]
     have hVV : List.take V.length (aG V)=aG V:=List.take_of_length_le (by rw [aC];omega)
     have cV : (aG V).map (fun e=>e.map aR)=aG V:=by simp [aG,aR]
     have cW : (bT W).map (fun e=>e.map aR)=bT W:=by simp [bT,aR]
     have hWt : List.take V.length (bT W)=bT W:=List.take_of_length_le (by simp [bT,hWl])
     rw [hBe]
     have c3 : List.map ((fun e=>List.map aR e) ∘ fun b : Int=>[D.int .i64 b]) W=bT W:=by simp [bT,Function.comp_def]
     simp [h3]
     refine ⟨⟨by rw [aC];omega,by omega⟩,by rw [cV,hVV],?_⟩
     rw [c3,hWt]
end Go.Gv

namespace Go.Gv
section
variable {C : CC} {hs : Option (List Nat)} {K : Env -> Prop} {ns : List av} {e : Env} {R : List Nat} {acc : List (List Nat × List Nat)}
theorem ki {n m : Nat} {ms : List Nat} {a v : Opd} {v1 : _} {ds : List D} {b i off sz : Nat} {es : List (List D)} {r : List D} (hv : vd (ac e) v=.agg ds) (hc : ∀ c ∈ ds,aq c=true) (hl : (m::ms).length=ds.length) (hn : (dh (m::ms) ds).length=n) (ha : vd (ac e) a=.adr (.r b) i off) (hb : ac e b=.blk sz es) (hr : es[i]? = some r) (ho : off + n <= r.length)
  (hk : doW C hs K ns ⟨⟩ e R acc [(b,.blk sz (bz es i off n (dh (m::ms) ds)))] [(b,false)]) : opW C hs K ns none (.st n (m::ms) a v) v1 e R acc:=by
 unfold opW
 simp only [aE]
 refine ⟨trivial,?_⟩
 rw [hv]
 simp only [fq]
 refine ⟨hc,.inr hl,hn,?_⟩
 rw [ha]
 refine ⟨rfl,?_⟩
 rw [hb]
 exact ⟨r,hr,ho,hk⟩
theorem xe {n m : Nat} {ms : List Nat} {a v : Opd} {v1 : _} {ds cs : List D} {bs : List Nat} {b i off sz : Nat} {es : List (List D)} {r : List D} (hv : vd (ac e) v=.agx ds) (hl : (m::ms).length=ds.length) (hab : ∀ Q : List D -> List Nat -> Prop,Q cs bs -> jj (ac e) ds Q) (hd : bC bs=true) (hbs : bs.contains b=false) (hn : (dh (m::ms) cs).length=n) (ha : vd (ac e) a=.adr (.r b) i off) (hb : ac e b=.blk sz es) (hr : es[i]? = some r) (ho : off + n <= r.length)
  (hk : doW C hs K ns ⟨⟩ e R acc ((b,.blk sz (bz es i off n (dh (m::ms) cs)))::cu bs) [(b,false)]) : opW C hs K ns none (.st n (m::ms) a v) v1 e R acc:=by
 unfold opW
 simp only [aE]
 refine ⟨trivial,?_⟩
 rw [hv]
 simp only [fq]
 refine ⟨.inr hl,hab _ ⟨hd,hn,?_⟩⟩
 rw [ha]
 refine ⟨hbs,?_⟩
 rw [hb]
 exact ⟨r,hr,ho,hk⟩
end
end Go.Gv

namespace Go.Gv
def qy (f : Nat -> Int) : Nat -> Int
 | 0=>0
 | k + 1=>qy f k + f k
def stp (es : List Edg) (v : Nat) : Option Nat:=(es.find? fun e=>e.1 == v).map (·.2)
def wat (es : List Edg) : Nat -> Nat -> Option Nat
 | 0,v=>some v
 | m + 1,v=>(wat es m v).bind (stp es)
def upB (n : Nat) (es : List Edg) (v x : Nat) : Bool:=(List.range n).any fun m=>wat es m v == some x
theorem DG {es : List Edg} (hnd : (es.map (·.1)).Nodup) {y z : Nat} (h : (y,z) ∈ es) : stp es y=some z:=by
 unfold stp
 cases e : es.find? (fun e=>e.1 == y) with
 | none =>
  have:=List.find?_eq_none.1 e _ h
  simp at this
 | some p =>
  have h1:=List.find?_some e
  have h2:=List.mem_of_find?_eq_some e
  obtain ⟨a,b⟩:=p
  simp at h1
  subst h1
  obtain ⟨k,hk,ek⟩:=List.getElem_of_mem h
  obtain ⟨j,hj,ej⟩:=List.getElem_of_mem h2
  have:=qx hnd hk hj (by rw [ek,ej])
  subst this
  rw [ek] at ej
  cases ej
  rfl
def Rp (n : Nat) (es : List Edg) (g : Nat -> Int) (m x : Nat) : Int:=qy (fun v=>if wat es m v=some x then g v else 0) n
def upS (n : Nat) (es : List Edg) (g : Nat -> Int) (x : Nat) : Int:=qy (fun v=>if upB n es v x=true then g v else 0) n
end Go.Gv

namespace Go.Gv
inductive Pth (es : List Edg) : Nat -> Nat -> Prop
 | refl (v : Nat) : Pth es v v
 | step {u v w : Nat} : (u,v) ∈ es -> Pth es v w -> Pth es u w
theorem Pth.trans {es : List Edg} {u v w : Nat} (h : Pth es u v) (h2 : Pth es v w) : Pth es u w:=by
 induction h with
 | refl v=>exact h2
 | step e _ ih=>exact .step e (ih h2)
def RR (es : List Edg) (fr : List Nat) (v : Nat) : Prop:=∃ s ∈ fr,Pth es s v
noncomputable def rB (es : List Edg) (fr : List Nat) (v : Nat) : Bool:=@decide (RR es fr v) (Classical.propDecidable _)
def QR (n : Nat) (f : Nat -> Bool) : List (List D):=(List.range n).map fun v=>[.bool (f v)]
def wtS (f : Nat -> Nat) : Nat -> Nat
 | 0=>0
 | k + 1=>wtS f k + f k
end Go.Gv

namespace Go.Gv
variable {C : CC} (hC : am prog C)
include hC
end Go.Gv

namespace Go.Gv
def Rj (n : Nat) (es : List Edg) (out : Nat -> Bool) : Nat:=wtS (fun v=>if out v=true then 0 else 1 + (nxt n es v).length) n
variable {C : CC} (hC : am prog C)
include hC
end Go.Gv

namespace Go.Gv
variable {C : CC} (hC : am prog C)
include hC
theorem ww (c : Int) : C 78 [.int .u8 c] (.bool (gV c)) []:=by
 refine al hC (nf:=N78) rfl rfl ?_
 simp [N78,gV]
 refine ab (fun h=>?_) (fun h=>?_) <;> simp at h <;> simp [h] <;> omega
theorem nY (c : Int) : C 62 [.int .u8 c] (.bool (dT c)) []:=by
 refine al hC (nf:=N62) rfl rfl ?_
 simp [N62,dT]
 repeat' (refine ab (fun h=>?_) (fun h=>?_) <;> simp at h <;> simp [h] <;> try omega)
theorem zp (s : List UInt8) (hs : s.length < 2 ^ 62) : C 63 [.str s,.int .i64 0] (.int .i64 (bW s)) []:=by
 refine al hC (nf:=N63) rfl rfl ?_
 simp [N63]
 refine aj Nat (fun i=>[(0,.str s),(1,.int .i64 i)]) (fun i=>i <= bW s) (fun i=>bW s - i) 0 (by simp) (by simp) ?_
 intro i hi
 have hle : bW s <= s.length:=ng s
 by_cases hl : i < s.length
 ·simp [hl]
  refine aa (nY hC _) (.inl rfl) ?_
  have hstep : dU s[i]=true -> i + 1 <= bW s:=kw hl hi
  have hstop : dU s[i]=false -> i=bW s:=kx hl hi
  simp only [dU] at hstep hstop
  have hw : IntKind.wrap .i64 ((i : Int) + 1)=((i + 1 : Nat) : Int):=af (by omega) (by omega)
  cases h1 : dT s[i].toNat with
  | true =>
   simp [h1,hw] at hstep ⊢
   exact ⟨i + 1,by omega,by omega,rfl⟩
  | false =>
   simp [h1,hl]
   refine aa (ww hC _) (.inl rfl) ?_
   cases h2 : gV s[i].toNat with
   | true =>
    simp [h1,h2,hw] at hstep ⊢
    exact ⟨i + 1,by omega,by omega,rfl⟩
   | false =>
    simp [hl]
    refine ab (fun h3=>?_) (fun h3=>?_) <;> simp at h3
    ·simp [hw,hl]
     have:=hstep (by simp [show s[i].toNat=95 by omega])
     exact ⟨i + 1,this,by omega,rfl⟩
    ·have h4 : ¬ s[i].toNat=95:=by omega
     simp [h1,h2,h4] at hstop ⊢
     omega
 ·simp [hl]
  have : i=bW s:=by omega
  omega
theorem fD (s : List UInt8) : C 54 [.str s] (.bool (bk s)) []:=by
 refine al hC (nf:=N54) rfl rfl ?_
 simp [N54]
 refine ab (fun h=>?_) (fun h=>?_) <;> simp at h
 ·subst h
  simp [bk]
 ·have hp : 0 < s.length:=List.length_pos_iff.2 h
  simp [h,hp]
  refine ab (fun h2=>?_) (fun h2=>?_) <;> simp at h2
  ·simp [h2,bk]
   omega
  ·simp [h2,hp]
   refine aa (nY hC _) (.inl rfl) ?_
   simp
   cases h3 : dT s[0].toNat
   ·simp [h3,bk,h,hp]
   ·simp [h3,h2]
    refine aa (zp hC s (by omega)) (.inl rfl) ?_
    simp [bk,h,h3,show s.length <= 20 by omega,hp,Int.ofNat_inj]
    rw [Bool.eq_iff_iff];simp
theorem nZ (n : Int) : C 79 [.int .i64 n] (.bool (ft n)) []:=by
 refine al hC (nf:=N79) rfl rfl ?_
 simp [N79,ft]
 refine ab (fun h=>?_) (fun h=>?_) <;> simp at h <;> simp [h] <;> omega
theorem mP (b : Bool) (t : List (Int × Int)) : C 64 [slx b (t.map knD)] (.bool (aA t)) []:=by
 refine al hC (nf:=N64) rfl rfl ?_
 simp [N64]
 refine ab (fun h=>?_) (fun h=>?_) <;> simp at h
 ·simp [aA,show t.length=0 by omega]
 simp [h]
 refine ab (fun h2=>?_) (fun h2=>?_) <;> simp at h2
 ·simp [aA,h,h2]
  omega
 simp
 refine aj Nat (fun i=>[(0,slx b (t.map knD)),(3,.int .i64 i)]) (fun i=>i <= t.length /\ ∀ j < i,jZ t j=true) (fun i=>t.length - i) 0 (by simp) (by simp) ?_
 rintro i ⟨hi,hj⟩
 simp
 refine ab (fun h3=>?_) (fun h3=>?_) <;> simp at h3
 ·have bad : jZ t i=false -> aA t=false:=fun hb=>by
   simp only [aA,Bool.and_eq_false_iff,List.all_eq_false]
   exact .inr ⟨i,by simpa using h3,by simp [hb]⟩
  have e1 : t[i]! = t[i]:=getElem!_pos t i h3
  have e2 : t[i - 1]! = t[i - 1]:=getElem!_pos t (i - 1) (by omega)
  simp only [jZ,e1,e2] at bad
  have hw1 : IntKind.wrap .i64 ((i : Int) + 1)=((i + 1 : Nat) : Int):=af (by omega) (by omega)
  have next : jZ t i=true -> ∃ s' : Nat,(s' <= t.length /\ ∀ j < s',jZ t j=true) /\ t.length - s' < t.length - i /\ s'=i + 1:=fun ho =>
   ⟨i + 1,⟨by omega,fun j hjj=>by
    rcases Nat.lt_succ_iff_lt_or_eq.1 hjj with h | rfl
    ·exact hj j h
    ·exact ho⟩,by omega,rfl⟩
  simp only [jZ,e1,e2] at next
  simp [h3,knD]
  refine aa (nZ hC _) (.inl rfl) ?_
  cases f1 : ft t[i].1
  ·simp
   exact bad (by simp [f1])
  simp [h3,knD]
  refine aa (nZ hC _) (.inl rfl) ?_
  cases f2 : ft t[i].2
  ·simp
   exact bad (by simp [f2])
  simp [h3,knD]
  refine ab (fun h4=>?_) (fun h4=>?_) <;> simp at h4
  ·have hw : IntKind.wrap .i64 ((i : Int) - 1)=((i - 1 : Nat) : Int):=af (by omega) (by omega)
   have h5 : i - 1 < t.length:=by omega
   simp [h4,hw,h5,h3,knD]
   refine ab (fun h6=>?_) (fun h6=>?_) <;> simp [h6,hw,h5,h3,knD] <;> simp at h6
   ·refine ⟨ar (by decide +kernel),bad ?_⟩
    simp [f1,f2]
    omega
   ·refine ⟨ar (by decide +kernel),?_⟩
    refine ab (fun h7=>?_) (fun h7=>?_) <;> simp [h7,hw1] <;> simp at h7
    ·refine bad ?_
     simp [f1,f2]
     omega
    ·obtain ⟨s',g1,g2,rfl⟩:=next (by simp [f1,f2,h6,h7])
     exact ⟨_,g1,g2,rfl⟩
  ·have hi0 : i=0:=by omega
   subst hi0
   simp at hw1
   simp [hw1]
   refine ⟨ar (by decide +kernel),?_⟩
   obtain ⟨s',g1,g2,rfl⟩:=next (by simp [f1,f2])
   exact ⟨_,g1,g2,rfl⟩
 ·have : i=t.length:=by omega
  subst this
  simp [aA,h,h2]
  exact ⟨⟨by omega,by omega⟩,hj⟩
end Go.Gv

namespace Go.Gv
def ju (l : List (Int × Int)) : Bool:=aA l && decide (0 <= l[0]!.1) && decide ((fZ l).1 <= 4194304) && decide (0 <= l[0]!.2) && decide ((fZ l).2 <= 1099511627776)
def vY (l : Lnk) : Bool :=
 if l.kind=1 then aM l.len 1 16777216 && bk l.sect && decide (l.width=0) && decide (l.height=0) && decide (l.curve.length=0)
 else if l.kind=2 then decide (l.len=0) && decide (l.down=0) && decide (l.sect=[]) && aM l.width 1 1048576 && decide (l.height=0) && decide (l.curve.length=0)
 else if l.kind=3 then decide (l.len=0) && decide (l.down=0) && decide (l.sect=[]) && aM l.width 1 32768 && aM l.height 1 32768 && decide (l.curve.length=0)
 else if l.kind=4 then decide (l.len=0) && decide (l.down < l.up) && decide (l.sect=[]) && decide (l.width=0) && decide (l.height=0) && ju l.curve
 else false
def nN (l : Lnk) : Bool:=bk l.name && bk l.src && bk l.dst && !decide (l.src=l.dst) && cl l.up && cl l.down && vY l
variable {C : CC} (hC : am prog C)
include hC
theorem j9 (n : Int) : C 199 [.int .i64 n] (.bool (cl n)) []:=by
 refine al hC (nf:=N199) rfl rfl ?_
 simp [N199,cl]
 refine ab (fun h=>?_) (fun h=>?_) <;> simp at h <;> simp [h] <;> omega
theorem i7 (n a : Int) : C 200 [.int .i64 n,.int .i64 a] (.bool (aM n 1 a)) []:=by
 refine al hC (nf:=N200) rfl rfl ?_
 simp [N200,aM]
 refine ab (fun h=>?_) (fun h=>?_) <;> simp at h <;> simp [h] <;> omega
theorem wv (b : Bool) (t : List (Int × Int)) : C 201 [slx b (t.map knD)] (.bool (ju t)) []:=by
 refine al hC (nf:=N201) rfl rfl ?_
 simp [N201]
 refine aa (mP hC b t) (.inl rfl) ?_
 cases hv : aA t
 ·simp [ju,hv]
 obtain ⟨l1,l2⟩:=cF hv
 obtain ⟨n,hn⟩ : ∃ n,n + 1=t.length:=⟨t.length - 1,by omega⟩
 have e1 : IntKind.wrap .i64 ((t.length : Int) - 1)=(n : Int):=af (by omega) (by omega)
 have hnl : n < t.length:=by omega
 have h0 : 0 < t.length:=by omega
 have e0 : t[0]! = t[0]:=getElem!_pos t 0 h0
 rw [ju,hv,e0,cC hn]
 simp [h0,knD]
 refine ab (fun c1=>?_) (fun c1=>?_) <;> simp at c1 <;> simp [c1,e1,hnl,knD,h0]
 ·refine ab (fun c2=>?_) (fun c2=>?_) <;> simp at c2 <;> simp [c2,e1,hnl,knD,h0]
  ·refine ab (fun c3=>?_) (fun c3=>?_) <;> simp at c3 <;> simp [c3,e1,hnl,knD,h0]
   ·omega
   ·intro _ _ _;omega
  ·omega
 ·omega
theorem yA (l : Lnk) : C 194 [.agg (aD l)] (.bool (nN l)) []:=by
 have k1:=fD hC l.name
 have k2:=fD hC l.src
 have k3:=fD hC l.dst
 have k4:=j9 hC l.up
 have k5:=j9 hC l.down
 have k6:=fD hC l.sect
 obtain ⟨r,hr⟩ : ∃ r,r=nN l:=⟨_,rfl⟩
 rw [<- hr]
 unfold nN at hr
 refine al hC (nf:=N194) rfl rfl ?_
 simp [N194,aD]
 refine aa k1 (.inl rfl) ?_
 cases h1 : bk l.name
 ·simp [hr,h1]
 simp
 refine aa k2 (.inl rfl) ?_
 cases h2 : bk l.src
 ·simp [hr,h2]
 simp
 refine aa k3 (.inl rfl) ?_
 cases h3 : bk l.dst
 ·simp [hr,h3]
 simp
 refine ab (fun h4=>?_) (fun h4=>?_) <;> simp at h4 <;> simp [h4]
 ·simp [hr,h4]
 refine aa k4 (.inl rfl) ?_
 cases h5 : cl l.up
 ·simp [hr,h5]
 simp
 refine aa k5 (.inl rfl) ?_
 cases h6 : cl l.down
 ·simp [hr,h6]
 simp
 rw [h1,h2,h3,decide_eq_false h4,h5,h6] at hr
 simp only [Bool.true_and,Bool.not_false] at hr
 unfold vY at hr
 clear k1 k2 k3 k4 k5 h1 h2 h3 h4 h5 h6
 refine ab (fun h7=>?_) (fun h7=>?_) <;> simp at h7 <;> simp [h7]
 ·rw [if_pos h7] at hr
  refine aa (i7 hC l.len 16777216) (.inl rfl) ?_
  cases a1 : aM l.len 1 16777216
  ·simp [hr,a1]
  simp
  refine aa k6 (.inl rfl) ?_
  cases a2 : bk l.sect
  ·simp [hr,a2]
  simp
  refine ab (fun a3=>?_) (fun a3=>?_) <;> simp at a3 <;> simp [a3]
  rotate_left
  ·simp [hr,a3]
  refine ab (fun a4=>?_) (fun a4=>?_) <;> simp at a4 <;> simp [a4]
  rotate_left
  ·simp [hr,a4]
  simp [hr,a1,a2,a3,a4]
 rw [if_neg h7] at hr
 refine ab (fun h8=>?_) (fun h8=>?_) <;> simp at h8 <;> simp [h8]
 ·rw [if_pos h8] at hr
  refine ab (fun a1=>?_) (fun a1=>?_) <;> simp at a1 <;> simp [a1]
  rotate_left
  ·simp [hr,a1]
  refine ab (fun a2=>?_) (fun a2=>?_) <;> simp at a2 <;> simp [a2]
  rotate_left
  ·simp [hr,a2]
  refine ab (fun a3=>?_) (fun a3=>?_) <;> simp at a3 <;> simp [a3]
  rotate_left
  ·simp [hr,a3]
  refine aa (i7 hC l.width 1048576) (.inl rfl) ?_
  cases a4 : aM l.width 1 1048576
  ·simp [hr,a4]
  simp
  refine ab (fun a5=>?_) (fun a5=>?_) <;> simp at a5 <;> simp [a5]
  rotate_left
  ·simp [hr,a5]
  simp [hr,a1,a2,a3,a4,a5]
 rw [if_neg h8] at hr
 refine ab (fun h9=>?_) (fun h9=>?_) <;> simp at h9 <;> simp [h9]
 ·rw [if_pos h9] at hr
  refine ab (fun a1=>?_) (fun a1=>?_) <;> simp at a1 <;> simp [a1]
  rotate_left
  ·simp [hr,a1]
  refine ab (fun a2=>?_) (fun a2=>?_) <;> simp at a2 <;> simp [a2]
  rotate_left
  ·simp [hr,a2]
  refine ab (fun a3=>?_) (fun a3=>?_) <;> simp at a3 <;> simp [a3]
  rotate_left
  ·simp [hr,a3]
  refine aa (i7 hC l.width 32768) (.inl rfl) ?_
  cases a4 : aM l.width 1 32768
  ·simp [hr,a4]
  simp
  refine aa (i7 hC l.height 32768) (.inl rfl) ?_
  cases a5 : aM l.height 1 32768
  ·simp [hr,a5]
  simp [hr,a1,a2,a3,a4,a5]
 rw [if_neg h9] at hr
 refine ab (fun h10=>?_) (fun h10=>?_) <;> simp at h10 <;> simp [h10]
 ·rw [if_pos h10] at hr
  refine ab (fun a1=>?_) (fun a1=>?_) <;> simp at a1 <;> simp [a1]
  rotate_left
  ·simp [hr,a1]
  refine ab (fun a2=>?_) (fun a2=>?_) <;> simp at a2 <;> simp [a2]
  rotate_left
  ·simp [hr,show ¬ l.down < l.up by omega]
  refine ab (fun a3=>?_) (fun a3=>?_) <;> simp at a3 <;> simp [a3]
  rotate_left
  ·simp [hr,a3]
  refine ab (fun a4=>?_) (fun a4=>?_) <;> simp at a4 <;> simp [a4]
  rotate_left
  ·simp [hr,a4]
  refine ab (fun a5=>?_) (fun a5=>?_) <;> simp at a5 <;> simp [a5]
  rotate_left
  ·simp [hr,a5]
  refine aa (wv hC l.curveN l.curve) (.inl rfl) ?_
  simp [hr,a1,a2,a3,a4,a5]
 ·rw [if_neg h10] at hr
  simp [hr]
end Go.Gv

namespace Go.Gv
open Go.Lib
end Go.Gv

namespace Go.Gv
open Go.Lib
def Rm (p : Nat) (neg : Bool) : D:=.agg [.int .u64 ((p / 18446744073709551616 : Nat) : Int),.int .u64 ((p % 18446744073709551616 : Nat) : Int),.bool neg]
def wiD (p : Nat) : D:=.agg [.int .i64 ((p / 1152921504606846976 : Nat) : Int),.int .i64 ((p % 1152921504606846976 : Nat) : Int)]
variable {C : CC} (hC : am prog C)
include hC
end Go.Gv

namespace Go.Gv
open Go.Lib
variable {C : CC} (hC : am prog C)
include hC
end Go.Gv

namespace Go.Gv
variable {C : CC} (hC : am prog C)
include hC
end Go.Gv

namespace Go.Gv
def kY (t : List (Int × Int)) (x : Int) : Nat:=t.findIdx fun k=>decide (x <= k.1)
def atK (t : List (Int × Int)) (x : Int) : Bool:=decide (kY t x < t.length) && decide (t[kY t x]!.1=x)
def Hk (a b : Int × Int) (x : Int) : Int × Int × Int:=(a.2 + (b.2 - a.2) * (x - a.1) / (b.1 - a.1),(b.2 - a.2) * (x - a.1) % (b.1 - a.1),b.1 - a.1)
def wq (t : List (Int × Int)) (x : Int) : Int × Int × Int :=
 if atK t x || decide (kY t x=0) then (t[kY t x]!.2,0,1)
 else if kY t x=t.length then (t[kY t x - 1]!.2,0,1)
 else Hk t[kY t x - 1]! t[kY t x]! x
theorem qz {t : List (Int × Int)} (h : aA t=true) {j i : Nat} (hi : i < t.length) (hj : j <= i) : t[j].1 <= t[i].1:=by
 rcases Nat.lt_or_eq_of_le hj with h1 | rfl
 ·have:=om h j i hi h1;omega
 ·exact Int.le_refl _
variable {C : CC} (hC : am prog C)
include hC
end Go.Gv

namespace Go.Gv
theorem tD {s : Sec} (h : aH s=true) : aA s.conv=true /\ (fZ s.conv).1=s.height /\ 0 <= (fZ s.conv).2 /\ (fZ s.conv).2 <= 1099511627776:=by
 simp only [aH,bE,Bool.and_eq_true,decide_eq_true_eq,beq_iff_eq] at h
 obtain ⟨_,⟨⟨hv,h0⟩,h1⟩,h2⟩:=h
 obtain ⟨l1,l2⟩:=cF hv
 have hp : ∀ i (hi : i < s.conv.length),0 <= s.conv[i].2:=by
  intro i
  induction i with
  | zero=>intro hi;have:=h0.2;rw [getElem!_pos s.conv 0 hi] at this;omega
  | succ i ih =>
   intro hi
   have h3:=((m9 hv hi).2.2 i rfl).2
   have:=ih (by omega)
   omega
 obtain ⟨n,hn⟩ : ∃ n,n + 1=s.conv.length:=⟨s.conv.length - 1,by omega⟩
 refine ⟨hv,h1,?_,h2⟩
 rw [cC hn]
 exact hp n (by omega)
theorem BP {k f : Nat} (hk : k <= 1099511627776) (hf : f <= 4194304) : k * k * f <= 5070602400912917605986812821504:=by
 have h1:=Nat.mul_le_mul hk hk
 have h2:=Nat.mul_le_mul h1 hf
 exact h2
variable {C : CC} (hC : am prog C)
include hC
theorem tv (s : Sec) (fall len : Int) (hv : aH s=true) (hs : en fall len=true) : C 61 [.agg (aW s),.int .i64 s.height,.int .i64 fall,.int .i64 len] (.tup [.int .i64 (qK s fall len),.int .i64 0]) []:=by
 obtain ⟨c1,c2,c3,c4⟩:=tD hv
 simp only [en,Bool.and_eq_true,decide_eq_true_eq] at hs
 obtain ⟨l1,l2⟩:=cF c1
 obtain ⟨n,hn⟩ : ∃ n,n + 1=s.conv.length:=⟨s.conv.length - 1,by omega⟩
 rw [cC hn] at c2 c3 c4
 have hF:=uT hC s.convN s.conv s.height c1 n hn c2
 obtain ⟨k,hk⟩ : ∃ k : Nat,s.conv[n].2=k:=⟨s.conv[n].2.toNat,by omega⟩
 obtain ⟨f,rfl⟩ : ∃ f : Nat,fall=f:=⟨fall.toNat,by omega⟩
 obtain ⟨l,rfl⟩ : ∃ l : Nat,len=l:=⟨len.toNat,by omega⟩
 have hcap : qK s f l=qk (k * k * f / l):=by simp [qK,cC hn,hk]
 rw [hk] at hF
 rw [hcap]
 have hb:=BP (k:=k) (f:=f) (by omega) (by omega)
 have hb0 : k * k <= 1208925819614629174706176:=Nat.mul_le_mul (show k <= 1099511627776 by omega) (show k <= 1099511627776 by omega)
 have hb2:=Nat.div_le_self (k * k * f) l
 refine al hC (nf:=N61) rfl rfl ?_
 simp [N61,aW]
 refine aa hF (.inl rfl) ?_
 simp
 refine aa (ul hC k k (by omega) (by omega)) (.inl rfl) ?_
 have v : ∀ x,isV (cP x)=true /\ (∀ f : Nat -> D,bu f (cP x)) /\ (∀ f : Nat -> D,dp f (cP x)=cP x) /\ ∀ ks,aY ks (cP x)=cP x:=fun x=>⟨rfl,fun _=>trivial,fun _=>rfl,fun _=>by simp [cP]⟩
 simp [v]
 refine aa (z6 hC (k * k) f (by omega) (by omega) (by omega)) (.inl rfl) ?_
 simp [v]
 refine aa (Dh hC (k * k * f) l (by omega) (by omega) (by omega)) (.inl rfl) ?_
 simp [v]
 refine aa (Dp hC (k * k * f / l)) (.inl rfl) ?_
 simp
theorem Bv (s : Sec) (fall len : Int) : C 47 [.agg (aW s),.int .i64 fall,.int .i64 len] (.tup [.int .i64 (dR s fall len).1,.int .i64 (dR s fall len).2]) []:=by
 have cap : C 53 [.agg (aW s),.int .i64 s.height,.int .i64 fall,.int .i64 len] (.tup [.int .i64 (dR s fall len).1,.int .i64 (dR s fall len).2]) []:=by
  refine al hC (nf:=N53) rfl rfl ?_
  simp [N53,aW]
  have hvc:=tb hC s
  rw [aW] at hvc
  refine aa hvc (.inl rfl) ?_
  cases hv : aH s
  ·simp [dR,hv]
  have hh : ¬ s.height < 0:=by
   simp only [aH,Bool.and_eq_true,decide_eq_true_eq] at hv
   omega
  simp [hh]
  refine aa (zE hC fall len) (.inl rfl) ?_
  have es : (decide (0 <= fall) && decide (fall <= 4194304) && decide (1 <= len) && decide (len <= 16777216))=en fall len:=rfl
  rw [es]
  cases hs : en fall len
  ·simp [dR,hv,hs]
  simp
  have hcc:=tv hC s fall len hv hs
  rw [aW] at hcc
  refine aa hcc (.inl rfl) ?_
  simp
  refine ab (fun c=>?_) (fun c=>?_) <;> simp [c] <;> simp at c
  ·have c' : 1099511627776 < qK s fall len:=by omega
   simp [dR,hv,hs,c']
  ·have c' : ¬ 1099511627776 < qK s fall len:=by omega
   simp [dR,hv,hs,c']
 refine al hC (nf:=N47) rfl rfl ?_
 simp [N47,aW]
 rw [aW] at cap
 refine aa cap (.inl rfl) ?_
 simp
end Go.Gv

namespace Go.Gv
def bis (p : Nat -> Bool) : Nat -> Nat -> Nat -> Nat
 | 0,lo,_=>lo
 | f + 1,lo,hi=>if lo < hi then (if p ((lo + hi) / 2) then bis p f lo ((lo + hi) / 2) else bis p f ((lo + hi) / 2 + 1) hi) else lo
theorem oo {t : List (Int × Int)} (h : aA t=true) : ∀ {i j : Nat} (hi : i < t.length) (hj : j <= i),t[j].2 <= t[i].2:=by
 intro i
 induction i with
 | zero=>intro j hi hj;have : j=0:=(by omega);subst this;exact Int.le_refl _
 | succ i ih =>
  intro j hi hj
  rcases Nat.lt_or_eq_of_le hj with h1 | rfl
  ·have h2:=((m9 h hi).2.2 i rfl).2
   have:=ih (by omega) (show j <= i by omega)
   omega
  ·exact Int.le_refl _
def tu (s : Sec) (depth fall len : Int) : Nat:=qk ((wq s.conv depth).1.toNat * (wq s.conv depth).1.toNat * fall.toNat / len.toNat)
def sf (s : Sec) (flow fall len : Int) (m : Nat) : Bool:=decide (flow <= (tu s m fall len : Int))
def v6 (s : Sec) (flow fall len : Int) : Nat:=bis (sf s flow fall len) 40 0 (s.height.toNat + 1)
def oC (s : Sec) (flow fall len : Int) : Int × Int :=
 if aH s then (if 0 <= flow /\ flow <= 1099511627776 /\ en fall len=true then (if s.height.toNat < v6 s flow fall len then (0,28) else (v6 s flow fall len,0)) else (0,2)) else (0,1)
variable {C : CC} (hC : am prog C)
include hC
end Go.Gv

namespace Go.Gv
theorem yW (l : List (Int × Int)) : (aA l && !(l.any fun k=>!gi k))=ju l:=by
 by_cases hv : aA l=true
 ·obtain ⟨l1,l2⟩:=cF hv
  obtain ⟨n,hn⟩ : ∃ n,n + 1=l.length:=⟨l.length - 1,by omega⟩
  have h0 : 0 < l.length:=by omega
  have hnl : n < l.length:=by omega
  have hany : (!(l.any fun k=>!gi k))=l.all gi:=by rw [Bool.eq_iff_iff];simp
  rw [hany,ju,hv,cC hn,getElem!_pos l 0 h0,Bool.eq_iff_iff]
  simp only [Bool.true_and,List.all_eq_true,Bool.and_eq_true,decide_eq_true_eq]
  constructor
  ·intro h
   have ha:=h l[0] (List.getElem_mem h0)
   have hb:=h l[n] (List.getElem_mem hnl)
   simp only [gi,aM,Bool.and_eq_true,decide_eq_true_eq] at ha hb
   omega
  ·intro h k hk
   obtain ⟨i,hi,rfl⟩:=List.getElem_of_mem hk
   have a1:=qz hv hi (show 0 <= i by omega)
   have a2:=qz hv hnl (show i <= n by omega)
   have a3:=oo hv hi (show 0 <= i by omega)
   have a4:=oo hv hnl (show i <= n by omega)
   simp only [gi,aM,Bool.and_eq_true,decide_eq_true_eq]
   omega
 ·simp [ju,hv]
theorem v8 (l : Lnk) : nN l=cI l:=by
 have hcur : ∀ x : List (Int × Int),decide (x.length=0)=decide (x=[]):=fun x=>by
  rw [Bool.eq_iff_iff];simp
 have hp:=yW l.curve
 unfold nN cI vY jx fQ iO
 simp only [hcur]
 have l0 : cl 0=true:=by decide
 by_cases h1 : l.kind=1
 ·simp [h1]
  ac_rfl
 by_cases h2 : l.kind=2
 ·by_cases hd : l.down=0
  ·simp [h2,hd,l0]
   ac_rfl
  ·simp [h2,hd]
 by_cases h3 : l.kind=3
 ·by_cases hd : l.down=0
  ·simp [h3,hd,l0]
   ac_rfl
  ·simp [h3,hd]
 by_cases h4 : l.kind=4
 ·simp [h4]
  rw [<- hp]
  ac_rfl
 ·simp [h1,h2,h3,h4]
end Go.Gv

namespace Go.Gv
variable {C : CC} (hC : am prog C)
include hC
theorem wy (n : Int) : C 507 [.int .i64 n] (.bool (aM n (-16777216) 16777216)) []:=by
 refine al hC (nf:=N507) rfl rfl ?_
 simp [N507,aM]
 refine ab (fun h=>?_) (fun h=>?_) <;> simp at h <;> simp [h] <;> omega
theorem wB (b : Bool) (t : List (Int × Int)) (hgt : Int) : C 508 [slx b (t.map knD),.int .i64 hgt] (.bool (bE t hgt 1125899906842624)) []:=by
 refine al hC (nf:=N508) rfl rfl ?_
 simp [N508]
 refine aa (mP hC b t) (.inl rfl) ?_
 cases hv : aA t
 ·simp [bE,hv]
 obtain ⟨l1,l2⟩:=cF hv
 obtain ⟨n,hn⟩ : ∃ n,n + 1=t.length:=⟨t.length - 1,by omega⟩
 have e1 : IntKind.wrap .i64 ((t.length : Int) - 1)=(n : Int):=af (by omega) (by omega)
 have hnl : n < t.length:=by omega
 have h0 : 0 < t.length:=by omega
 have e0 : t[0]! = t[0]:=getElem!_pos t 0 h0
 rw [bE,cC hn,e0,hv]
 simp [e1,hnl,h0,knD]
 refine ab (fun c=>?_) (fun c=>?_) <;> simp at c
 ·simp [c,h0,knD]
  refine ab (fun c2=>?_) (fun c2=>?_) <;> simp at c2
  ·simp [c2]
   refine ab (fun c3=>?_) (fun c3=>?_) <;> simp at c3 <;> simp [c3,c,c2]
  ·simp [c2]
 ·simp [c]
theorem Da (n : Nod) : C 488 [.agg (aL n)] (.bool (iK n)) []:=by
 have k1:=fD hC n.name
 have k2:=wy hC n.x
 have k3:=wy hC n.y
 have k4:=j9 hC n.invert
 have k5:=j9 hC n.ground
 obtain ⟨q,hq⟩ : ∃ q,q=iK n:=⟨_,rfl⟩
 rw [<- hq]
 unfold iK at hq
 refine al hC (nf:=N488) rfl rfl ?_
 simp [N488,aL]
 refine aa k1 (.inl rfl) ?_
 cases h1 : bk n.name
 ·simp [hq,h1]
 simp
 refine aa k2 (.inl rfl) ?_
 cases h2 : aM n.x (-16777216) 16777216
 ·simp [hq,h2]
 simp
 refine aa k3 (.inl rfl) ?_
 cases h3 : aM n.y (-16777216) 16777216
 ·simp [hq,h3]
 simp
 refine aa k4 (.inl rfl) ?_
 cases h4 : cl n.invert
 ·simp [hq,h4]
 simp
 refine aa k5 (.inl rfl) ?_
 cases h5 : cl n.ground
 ·simp [hq,h5]
 simp
 rw [h1,h2,h3,h4,h5] at hq
 simp only [Bool.true_and] at hq
 have b1 : -4194304 <= n.invert /\ n.invert <= 4194304:=by simpa [cl] using h4
 have b2 : -4194304 <= n.ground /\ n.ground <= 4194304:=by simpa [cl] using h5
 have e1 : IntKind.wrap .i64 (n.ground - n.invert)=n.ground - n.invert:=af rfl (by omega)
 by_cases hk3 : n.kind=3
 ·rw [if_neg (by omega),if_pos hk3,wo] at hq
  simp [hk3]
  refine ab (fun c1=>?_) (fun c1=>?_) <;> simp at c1
  ·simp [c1]
   refine ab (fun c2=>?_) (fun c2=>?_) <;> simp at c2
   ·cases c3 : n.prot
    ·simp [hq,c1,c2,c3]
    ·simp [hq,c2,c3]
   ·simp [hq,c2]
  ·have : ¬ n.invert <= n.ground:=by omega
   simp [hq,this]
 ·by_cases hk : n.kind=1 \/ n.kind=2
  ·rw [if_pos hk,l9] at hq
   have kb:=wB hC n.shapeN n.shape (n.ground - n.invert)
   rcases hk with hk | hk
   ·simp [hk]
    refine ab (fun c1=>?_) (fun c1=>?_) <;> simp at c1
    ·simp [c1,hq]
    have c1' : ¬ n.ground <= n.invert:=by omega
    simp [c1',e1]
    refine aa kb (.inl rfl) ?_
    cases c2 : bE n.shape (n.ground - n.invert) 1125899906842624
    ·simp [hq,c2]
    simp [hk]
    cases c3 : n.prot
    ·simp [hq,c1',c2,c3,hk]
    ·simp [hq,c3,hk]
     exact ar (by decide +kernel)
   ·simp [hk]
    refine ab (fun c1=>?_) (fun c1=>?_) <;> simp at c1
    ·simp [c1,hq]
    have c1' : ¬ n.ground <= n.invert:=by omega
    simp [c1',e1]
    refine aa kb (.inl rfl) ?_
    cases c2 : bE n.shape (n.ground - n.invert) 1125899906842624
    ·simp [hq,c2]
    simp [hk]
    cases c3 : n.prot
    ·simp [hq,c1',c2,c3,hk]
    have hv : aA n.shape=true:=by
     simp only [bE,Bool.and_eq_true] at c2
     exact c2.1.1.1
    obtain ⟨l1,l2⟩:=cF hv
    obtain ⟨m,hm⟩ : ∃ m,m + 1=n.shape.length:=⟨n.shape.length - 1,by omega⟩
    have e2 : IntKind.wrap .i64 ((n.shape.length : Int) - 1)=(m : Int):=af (by omega) (by omega)
    have hml : m < n.shape.length:=by omega
    have e3:=cC hm
    by_cases c4 : 0 <= n.reserve
    ·simp [hq,c1',c2,c3,c4,hk,e2,hml,knD,e3,aM]
     exact ar (by decide +kernel)
    ·simp [hq,c1',c2,c3,c4,hk,e2,hml,knD,e3,aM]
     exact ar (by decide +kernel)
  ·rw [if_neg hk,if_neg hk3] at hq
   have a1 : ¬ n.kind=1:=fun e=>hk (.inl e)
   have a2 : ¬ n.kind=2:=fun e=>hk (.inr e)
   simp [hk3,a1,a2,hq]
theorem hD (b1 b2 : Bool) (ns : List Nod) (ls : List Lnk) (nm : List UInt8) (hn : ns.length < 2 ^ 62) : C 462 [.agg [slx b1 (ns.map aL),slx b2 (ls.map aD)],.str nm] (.int .i64 (bB (bU nm) ns)) []:=by
 refine al hC (nf:=N462) rfl rfl ?_
 simp [N462]
 refine aj Nat (fun i=>[(1,.str nm),(2,.ptr [slx b1 (ns.map aL),slx b2 (ls.map aD)]),(5,.int .i64 i)]) (fun i=>i <= ns.length /\ ∀ (j : Nat) (h : j < ns.length),j < i -> bU nm ns[j]=false) (fun i=>ns.length - i) 0 (by simp) (by simp) ?_
 rintro i ⟨hi,hj⟩
 simp
 refine ab (fun h=>?_) (fun h=>?_) <;> simp [h] <;> simp at h
 ·have hw : IntKind.wrap .i64 ((i : Int) + 1)=((i + 1 : Nat) : Int):=af (by omega) (by omega)
  simp [h,aL]
  refine ab (fun h1=>?_) (fun h1=>?_) <;> simp at h1 <;> simp [h1,hw]
  ·rw [cz hj h (by simpa [bU] using h1)]
  ·refine ⟨i + 1,⟨by omega,fun j hl hjj=>?_⟩,by omega,rfl⟩
   rcases Nat.lt_succ_iff_lt_or_eq.1 hjj with h2 | rfl
   ·exact hj j hl h2
   ·simpa [bU] using h1
 ·rw [cN (fun j hl=>hj j hl (by omega))]
theorem yZ (b1 b2 : Bool) (ns : List Nod) (ls : List Lnk) (nm : List UInt8) (hn : ls.length < 2 ^ 62) : C 467 [.agg [slx b1 (ns.map aL),slx b2 (ls.map aD)],.str nm] (.int .i64 (bB (iH nm) ls)) []:=by
 refine al hC (nf:=N467) rfl rfl ?_
 simp [N467]
 refine aj Nat (fun i=>[(1,.str nm),(2,.ptr [slx b1 (ns.map aL),slx b2 (ls.map aD)]),(5,.int .i64 i)]) (fun i=>i <= ls.length /\ ∀ (j : Nat) (h : j < ls.length),j < i -> iH nm ls[j]=false) (fun i=>ls.length - i) 0 (by simp) (by simp) ?_
 rintro i ⟨hi,hj⟩
 simp
 refine ab (fun h=>?_) (fun h=>?_) <;> simp [h] <;> simp at h
 ·have hw : IntKind.wrap .i64 ((i : Int) + 1)=((i + 1 : Nat) : Int):=af (by omega) (by omega)
  simp [h,aD]
  refine ab (fun h1=>?_) (fun h1=>?_) <;> simp at h1 <;> simp [h1,hw]
  ·rw [cz hj h (by simpa [iH] using h1)]
  ·refine ⟨i + 1,⟨by omega,fun j hl hjj=>?_⟩,by omega,rfl⟩
   rcases Nat.lt_succ_iff_lt_or_eq.1 hjj with h2 | rfl
   ·exact hj j hl h2
   ·simpa [iH] using h1
 ·rw [cN (fun j hl=>hj j hl (by omega))]
theorem wx (b1 b2 : Bool) (ns : List Nod) (ls : List Lnk) (hv : bG ns ls=true) : C 429 [.agg [slx b1 (ns.map aL),slx b2 (ls.map aD)]] (.sl ((aw ns ls).map edK)) []:=by
 obtain ⟨hl1,hl2⟩:=cp hv
 refine al hC (nf:=N429) rfl rfl ?_
 simp [N429]
 refine aj Nat (fun j=>[(1,.ptr [slx b1 (ns.map aL),slx b2 (ls.map aD)]),(3,.ref (.r 10048) 0 j),(10048,.blk 2 (edT (aw ns ls) j)),(4,.int .i64 j)]) (fun j=>j <= ls.length) (fun j=>ls.length - j) 0 (by simp) (by simp) ?_
 rintro j hj
 simp
 refine ab (fun h=>?_) (fun h=>?_) <;> simp [h] <;> simp at h
 ·have hw : IntKind.wrap .i64 ((j : Int) + 1)=((j + 1 : Nat) : Int):=af (by omega) (by omega)
  obtain ⟨_,_,g1,g2⟩:=gE hv h
  have k1:=hD hC b1 b2 ns ls ls[j].src (by omega)
  have k2:=hD hC b1 b2 ns ls ls[j].dst (by omega)
  have hjl : j < (aw ns ls).length:=by rw [a8];exact h
  have el:=lU (es:=aw ns ls) (j:=j) (by omega)
  simp [h,aD,el]
  refine aa k1 (.inl rfl) ?_
  simp [h,aD]
  refine aa k2 (.inl rfl) ?_
  simp [el]
  refine ⟨by omega,ar (by decide +kernel),j + 1,by omega,by omega,rfl,?_,hw⟩
  have e2 : (edT (aw ns ls) j).take j=edT (aw ns ls) j:=List.take_of_length_le (by omega)
  rw [e2,pr hjl]
  congr 2
  simp only [aw,List.getElem_map,edK,knD]
  rw [Int.toNat_of_nonneg g1,Int.toNat_of_nonneg g2]
 ·have ej : j=ls.length:=by omega
  subst ej
  have e0:=sd (aw ns ls)
  have el:=lU (es:=aw ns ls) (j:=ls.length) (by rw [a8];exact Nat.le_refl _)
  rw [a8] at e0
  simp [AK,el]
  rw [<- e0,List.take_of_length_le (by omega)]
end Go.Gv

namespace Go.Gv
variable {C : CC} (hC : am prog C)
include hC
end Go.Gv

namespace Go.Gv
def eC (n : Nat) (out : List Nat) : List (List D):=(List.range n).map fun v=>[.bool (decide (v ∈ out))]
theorem ja {n v : Nat} (out : List Nat) (h : v < n) : (eC n out)[v]? = some [.bool (decide (v ∈ out))]:=by simp [eC,h]
theorem oj {n : Nat} (out : List Nat) (v : Nat) : (eC n out).set v [.bool true]=eC n (out++[v]):=by
 unfold eC
 rw [lb]
 apply List.map_congr_left
 intro u _
 by_cases e : u=v <;> simp [e]
def df (es : List Edg) (out : List Nat) : Nat -> Int
 | 0=>-1
 | v + 1=>if df es out v < 0 then (if !out.contains v && fN es out v then (v : Int) else -1) else df es out v
theorem mE {es : List Edg} {out : List Nat} : ∀ {v : Nat},df es out v < 0 -> cQ v es out=[]
 | 0,_=>by simp [cQ]
 | v + 1,h=>by
  unfold df at h
  by_cases h1 : df es out v < 0
  ·rw [if_pos h1] at h
   have ih:=mE h1
   unfold cQ at ih ⊢
   rw [List.range_succ,List.filter_append,ih]
   by_cases h2 : (!out.contains v && fN es out v)=true
   ·rw [if_pos h2] at h;omega
   ·simp only [List.filter_cons,h2,List.filter_nil,List.append_nil];rfl
  ·rw [if_neg h1] at h
   exact absurd h h1
theorem mF {es : List Edg} {out : List Nat} : ∀ {v : Nat},0 <= df es out v -> ∃ (i : Nat) (r : List Nat),df es out v=i /\ cQ v es out=i::r /\ i < v
 | 0,h=>by simp [df] at h
 | v + 1,h=>by
  by_cases h1 : df es out v < 0
  ·have ih:=mE h1
   unfold df at h ⊢
   rw [if_pos h1] at h ⊢
   by_cases h2 : (!out.contains v && fN es out v)=true
   ·rw [if_pos h2]
    refine ⟨v,[],rfl,?_,by omega⟩
    unfold cQ at ih ⊢
    rw [List.range_succ,List.filter_append,ih]
    simp only [List.filter_cons,h2,List.filter_nil,List.nil_append];rfl
   ·rw [if_neg h2] at h;omega
  ·obtain ⟨i,r,e1,e2,e3⟩:=mF (v:=v) (es:=es) (out:=out) (by omega)
   unfold df
   rw [if_neg h1]
   refine ⟨i,r++(([v]).filter fun u=>!out.contains u && fN es out u),e1,?_,by omega⟩
   unfold cQ at e2 ⊢
   rw [List.range_succ,List.filter_append,e2]
   rfl
def prT (es : List Edg) (out : List Nat) (v j : Nat) : Bool:=fN (es.take j) out v
theorem wt {es : List Edg} {out : List Nat} {v j : Nat} (h : j < es.length) : prT es out v (j + 1)=(prT es out v j && !(decide (es[j].2=v) && !decide (es[j].1 ∈ out))):=by
 unfold prT fN
 rw [List.take_succ_eq_append_getElem h,List.all_append]
 congr 1
 by_cases a : es[j].2=v <;> by_cases b : es[j].1 ∈ out <;> simp [a,b]
theorem yV (es : List Edg) (out : List Nat) (v : Nat) : prT es out v es.length=fN es out v:=by simp [prT]
variable {C : CC} (hC : am prog C)
include hC
theorem uq (b1 b2 : Bool) (ns : List Nod) (ls : List Lnk) : C 458 [.agg [slx b1 (ns.map aL),slx b2 (ls.map aD)]] (.bool (bG ns ls)) []:=by
 obtain ⟨r,hr⟩ : ∃ r,r=bG ns ls:=⟨_,rfl⟩
 rw [<- hr]
 unfold bG at hr
 refine al hC (nf:=N458) rfl rfl ?_
 simp [N458]
 by_cases c : (300 : Int) < ns.length
 ·simp [c,hr,show ¬ ns.length <= 300 by omega]
 by_cases c2 : (400 : Int) < ls.length
 ·simp [c,c2,hr,show ¬ ls.length <= 400 by omega]
 simp [c,c2]
 rw [decide_eq_true (show ns.length <= 300 by omega),decide_eq_true (show ls.length <= 400 by omega)] at hr
 simp only [Bool.true_and] at hr
 have badN : ∀ i,i < ns.length -> im ns i=false -> r=false:=fun i hi h=>by
  rw [hr,Bool.and_eq_false_iff]
  exact .inl (List.all_eq_false.2 ⟨i,by simpa using hi,by simp [h]⟩)
 have badL : ∀ i,i < ls.length -> fm ns ls i=false -> r=false:=fun i hi h=>by
  rw [hr,Bool.and_eq_false_iff]
  exact .inr (List.all_eq_false.2 ⟨i,by simpa using hi,by simp [h]⟩)
 refine aj Nat (fun i=>[(1,.ptr [slx b1 (ns.map aL),slx b2 (ls.map aD)]),(3,.int .i64 i)]) (fun i=>i <= ns.length /\ ∀ j < i,im ns j=true) (fun i=>ns.length - i) 0 (by simp) (by simp) ?_
 rintro i ⟨hi,hj⟩
 simp
 refine ab (fun h=>?_) (fun h=>?_) <;> simp at h <;> simp [h]
 ·have hw : IntKind.wrap .i64 ((i : Int) + 1)=((i + 1 : Nat) : Int):=af (by omega) (by omega)
  have bad:=badN i h
  have e1 : ns[i]! = ns[i]:=getElem!_pos ns i h
  simp only [im,e1] at bad
  have k1:=Da hC ns[i]
  have k2:=hD hC b1 b2 ns ls ns[i].name (by omega)
  simp only [aL] at k1
  simp [aL,h]
  refine aa k1 (.inl rfl) ?_
  cases g1 : iK ns[i]
  ·simp
   refine ⟨ar (by decide +kernel),?_⟩
   exact bad (by simp [g1])
  simp [aL,h]
  refine aa k2 (.inl rfl) ?_
  simp
  refine ⟨ar (by decide +kernel),?_⟩
  refine ab (fun g2=>?_) (fun g2=>?_) <;> simp at g2 <;> simp [g2]
  ·exact bad (by simp [g2])
  ·simp [hw]
   refine ⟨i + 1,⟨by omega,fun k hk=>?_⟩,by omega,by simp⟩
   rcases Nat.lt_succ_iff_lt_or_eq.1 hk with h5 | rfl
   ·exact hj k h5
   ·simp [im,e1,g1,g2]
 have hall : (List.range ns.length).all (im ns)=true:=by
  rw [List.all_eq_true]
  intro k hk
  exact hj k (by simp at hk;omega)
 rw [hall,Bool.true_and] at hr
 clear badN hall hj
 refine aj Nat (fun i=>[(1,.ptr [slx b1 (ns.map aL),slx b2 (ls.map aD)]),(4,.int .i64 i)]) (fun i=>i <= ls.length /\ ∀ j < i,fm ns ls j=true) (fun i=>ls.length - i) 0 (by simp) (by simp) ?_
 clear h hi i
 rintro i ⟨hi,hj⟩
 simp
 refine ab (fun h=>?_) (fun h=>?_) <;> simp at h <;> simp [h]
 ·have hw : IntKind.wrap .i64 ((i : Int) + 1)=((i + 1 : Nat) : Int):=af (by omega) (by omega)
  have bad:=badL i h
  have e1 : ls[i]! = ls[i]:=getElem!_pos ls i h
  simp only [fm,e1] at bad
  have k1:=yA hC ls[i]
  rw [v8] at k1
  have k2:=yZ hC b1 b2 ns ls ls[i].name (by omega)
  have k3:=hD hC b1 b2 ns ls ls[i].src (by omega)
  have k4:=hD hC b1 b2 ns ls ls[i].dst (by omega)
  have next : fm ns ls i=true -> ∃ s' : Nat,(s' <= ls.length /\ ∀ j < s',fm ns ls j=true) /\ ls.length - s' < ls.length - i /\ (i : Int) + 1=s':=fun hl=>by
   refine ⟨i + 1,⟨by omega,fun k hk=>?_⟩,by omega,by simp⟩
   rcases Nat.lt_succ_iff_lt_or_eq.1 hk with h5 | rfl
   ·exact hj k h5
   ·exact hl
  simp only [fm,e1] at next
  simp only [aD] at k1
  simp [aD,h]
  refine aa k1 (.inl rfl) ?_
  cases g1 : cI ls[i]
  ·simp
   exact bad (by simp [g1])
  simp
  refine aa k2 (.inl rfl) ?_
  simp
  refine ab (fun g2=>?_) (fun g2=>?_) <;> simp at g2 <;> simp [g2]
  ·exact bad (by simp [g2])
  refine aa k4 (.inl rfl) ?_
  simp
  refine ab (fun g4=>?_) (fun g4=>?_) <;> simp at g4 <;> simp [g4]
  ·exact bad (by simp [show ¬ 0 <= bB (bU ls[i].dst) ns by omega])
  have g4' : ¬ bB (bU ls[i].dst) ns < 0:=by omega
  refine aa k3 (.inl rfl) ?_
  simp
  by_cases g3 : bB (bU ls[i].src) ns < 0
  ·simp [g3]
   exact bad (by simp [iE,show ¬ 0 <= bB (bU ls[i].src) ns by omega])
  have g3' : 0 <= bB (bU ls[i].src) ns:=by omega
  have hf:=lW g3'
  obtain ⟨f,hfe⟩:=Int.eq_ofNat_of_zero_le g3'
  rw [hfe] at hf ⊢
  simp at hf
  have e2 : ns[f]! = ns[f]:=getElem!_pos ns f hf
  have hfo : iE ns ls[i].src=!decide (ns[f].kind=3):=by
   simp [iE,hfe,e2]
  have g3'' : ¬ (f : Int) < 0:=by omega
  simp [hf,aL,g3'']
  refine ab (fun g5=>?_) (fun g5=>?_) <;> simp at g5 <;> simp [g5]
  ·exact bad (by simp [hfo,g5])
  ·simp [hw]
   exact next (by simp [hfo,g5,g1,g2,g4])
 ·have hall : (List.range ls.length).all (fm ns ls)=true:=by
   rw [List.all_eq_true]
   intro k hk
   exact hj k (by simp at hk;omega)
  rw [hr,hall]
end Go.Gv

namespace Go.Gv
theorem nO {es : List Edg} {out : List Nat} {v : Nat} (h : 0 <= df es out v) : ∀ k,df es out (v + k)=df es out v
 | 0=>rfl
 | k + 1=>by
  have ih:=nO h k
  show df es out (v + k + 1)=_
  unfold df
  rw [ih,if_neg (by omega)]
  cases v with
  | zero=>rfl
  | succ v=>rfl
theorem sw {es : List Edg} {out : List Nat} : ∀ {v : Nat},df es out v < 0 -> df es out v=-1
 | 0,_=>rfl
 | v + 1,h=>by
  unfold df at h ⊢
  by_cases h1 : df es out v < 0
  ·rw [if_pos h1] at h ⊢
   split at h
   ·omega
   ·rename_i h2;rw [if_neg h2]
  ·rw [if_neg h1] at h;exact absurd h h1
def iQ (n : Nat) (es : List Edg) : D:=if (dn n es).length=n then ndD (dn n es) else .nils
variable {C : CC} (hC : am prog C)
include hC
set_option maxHeartbeats 1000000 in
theorem uw {b : Bool} {n : Nat} {es : List Edg} (hn : n <= 300) (he : es.length <= 1000) (hg : inG n es) : C 490 [.int .i64 n,slx b (es.map edK)] (.tup [iQ n es,.bool (decide ((dn n es).length=n))]) []:=by
 refine al hC (nf:=N490) rfl rfl ?_
 simp [N490]
 refine ⟨by omega,?_⟩
 refine aj Nat (fun m=>[(0,.int .i64 n),(1,slx b (es.map edK)),(6,.ref (.r 10096) 0 n),(10096,.blk 1 (eC n (aI n es m))),(7,.ref (.r 10112) 0 m),(10112,.blk 1 (aG (aI n es m)))]) (fun m=>(aI n es m).length=m) (fun m=>n - m) 0 (by simp [aI]) (by simp [aI,aG,eC,oX]) ?_
 rintro m hm
 have hI:=jA n es m
 have hmn:=hI.len
 simp
 refine ab (fun h=>?_) (fun h=>?_) <;> simp at h
 ·simp [h]
  refine aj Nat (fun v=>[(0,.int .i64 n),(1,slx b (es.map edK)),(6,.ref (.r 10096) 0 n),(10096,.blk 1 (eC n (aI n es m))),(7,.ref (.r 10112) 0 m),(10112,.blk 1 (aG (aI n es m))),(8,.int .i64 (df es (aI n es m) v)),(9,.int .i64 v)]) (fun v=>v <= n) (fun v=>n - v) 0 (by simp) (by simp [df]) ?_
  rintro v hv
  simp
  by_cases g1 : v < n
  ·by_cases g2 : df es (aI n es m) v < 0
   ·have hw : IntKind.wrap .i64 ((v : Int) + 1)=((v + 1 : Nat) : Int):=af (by omega) (by omega)
    simp [g1,g2,aV (ja _ g1)]
    refine ab (fun c=>?_) (fun c=>?_) <;> simp at c <;> simp [c]
    ·have e1 : df es (aI n es m) (v + 1)=-1:=by rw [df,if_pos g2,if_neg (by simp [c])]
     exact ⟨v + 1,by omega,by omega,by rw [e1,sw g2],hw⟩
    ·refine aj Nat (fun j=>[(0,.int .i64 n),(1,slx b (es.map edK)),(6,.ref (.r 10096) 0 n),(10096,.blk 1 (eC n (aI n es m))),(7,.ref (.r 10112) 0 m),(10112,.blk 1 (aG (aI n es m))),(8,.int .i64 (df es (aI n es m) v)),(9,.int .i64 v),(10,.bool (prT es (aI n es m) v j)),(11,.int .i64 j)]) (fun j=>j <= es.length) (fun j=>es.length - j) 0 (by simp) (by simp [prT,fN]) ?_
     rintro j hj
     simp
     refine ab (fun k=>?_) (fun k=>?_) <;> simp at k <;> simp [k]
     ·have hw2 : IntKind.wrap .i64 ((j : Int) + 1)=((j + 1 : Nat) : Int):=af (by omega) (by omega)
      obtain ⟨i1,i2⟩:=hg _ (List.getElem_mem k)
      have es1:=wt (out:=aI n es m) (v:=v) k
      have p1 : (eC n (aI n es m))[es[j].1]? = some [.bool (decide (es[j].1 ∈ aI n es m))]:=ja _ i1
      by_cases k1 : es[j].2=v
      ·have k1i : (es[j].2 : Int)=v:=by omega
       by_cases k2 : es[j].1 ∈ aI n es m
       ·have e3 : prT es (aI n es m) v (j + 1)=prT es (aI n es m) v j:=by rw [es1];simp [k2]
        simp [k,edK,knD,k1,k1i,i1,aV p1,k2,hw2]
        exact ⟨j + 1,by omega,by omega,e3.symm,by omega⟩
       ·have e3 : prT es (aI n es m) v (j + 1)=false:=by rw [es1];simp [k1,k2]
        simp [k,edK,knD,k1,k1i,i1,aV p1,k2,hw2]
        exact ⟨j + 1,by omega,by omega,e3,by omega⟩
      ·have k1i : ¬ (es[j].2 : Int)=v:=by omega
       have e3 : prT es (aI n es m) v (j + 1)=prT es (aI n es m) v j:=by rw [es1];simp [k1]
       simp [k,edK,knD,k1,k1i,hw2]
       exact ⟨j + 1,by omega,by omega,by rw [e3],by omega⟩
     ·have ej : j=es.length:=by omega
      subst ej
      rw [yV]
      cases hp : fN es (aI n es m) v
      ·simp [hw]
       have e1 : df es (aI n es m) (v + 1)=-1:=by rw [df,if_pos g2,if_neg (by simp [hp])]
       exact ⟨v + 1,by omega,by omega,by rw [e1,sw g2],by omega⟩
      ·simp [hw]
       have e1 : df es (aI n es m) (v + 1)=v:=by rw [df,if_pos g2,if_pos (by simp [hp,c])]
       exact ⟨v + 1,by omega,by omega,by rw [e1],by omega⟩
   ·have e1 : df es (aI n es m) n=df es (aI n es m) v:=by
     have:=nO (es:=es) (out:=aI n es m) (v:=v) (by omega) (n - v)
     rwa [show v + (n - v)=n by omega] at this
    obtain ⟨i,r,e2,e3,e4⟩:=mF (v:=n) (es:=es) (out:=aI n es m) (by omega)
    have eN:=kW e3
    have e5 : (aG (aI n es m)).take m=aG (aI n es m):=List.take_of_length_le (by rw [aC];omega)
    rw [e1] at e2
    have hlt : ¬ (i : Int) < 0:=by omega
    have hsl : (eC n (aI n es m)).length=n:=by simp [eC]
    have hst : (eC n (aI n es m)).set i [.bool true]=eC n (aI n es (m + 1)):=by rw [oj,eN]
    simp [g1,e2,hlt,e4,ja _ e4,aC,hm]
    refine ⟨by omega,m + 1,by rw [eN];simp [hm],by omega,?_⟩
    rw [e5,gC,<- eN,hst]
    simp
  ·have ev : v=n:=by omega
   rw [ev]
   by_cases g2 : df es (aI n es m) n < 0
   ·have e3:=mE g2
    have eF:=sF hm e3
    simp [g2]
    rw [iQ,eF,hm,if_neg (by omega)]
    simp
    omega
   ·obtain ⟨i,r,e2,e3,e4⟩:=mF (v:=n) (es:=es) (out:=aI n es m) (by omega)
    have eN:=kW e3
    have e5 : (aG (aI n es m)).take m=aG (aI n es m):=List.take_of_length_le (by rw [aC];omega)
    have hlt : ¬ (i : Int) < 0:=by omega
    have hsl : (eC n (aI n es m)).length=n:=by simp [eC]
    have hst : (eC n (aI n es m)).set i [.bool true]=eC n (aI n es (m + 1)):=by rw [oj,eN]
    simp [e2,hlt,e4,ja _ e4,aC,hm]
    refine ⟨by omega,m + 1,by rw [eN];simp [hm],by omega,?_⟩
    rw [e5,gC,<- eN,hst]
    simp
 ·have em : n=m:=by omega
  subst em
  have e1 : (aG (aI n es n)).map (fun e=>e.map aR)=aG (aI n es n):=by simp [aG,aR]
  have e2 : (aG (aI n es n)).take n=aG (aI n es n):=List.take_of_length_le (by rw [aC];omega)
  have e3 : (dn n es).length=n:=hm
  simp
  rw [e1,e2,iQ,if_pos e3,aC]
  exact ⟨by omega,rfl,e3⟩
end Go.Gv

namespace Go.Gv
def aJ (l : List Sec) : Bool:=decide (l.length <= 40) && l.all aH && decide ((l.map (·.name)).Nodup)
def gh (l : List Sec) : List D:=((l.map (·.name)).reverse).map D.str
theorem nQ : ∀ (xs : List (List UInt8)) (n : Nat),n=xs.length -> ∀ s,(dV (xs.map D.str) (List.replicate n (.bool true)) (.str s)).getD (.bool false)=.bool (decide (s ∈ xs))
 | [],n,h,s=>by simp [dV]
 | x::xs,n,h,s=>by
  obtain ⟨m,rfl⟩ : ∃ m,n=m + 1:=⟨n - 1,by simp at h;omega⟩
  have ih:=nQ xs m (by simpa using h) s
  simp only [List.map_cons,List.replicate_succ,dV,eqD,pu,decide_eq_true_eq]
  by_cases e : s=x
  ·subst e;simp
  ·rw [if_neg e,ih];simp [e]
variable {C : CC} (hC : am prog C)
include hC
theorem jt (b : Bool) (l : List Sec) : C 44 [slx b (l.map aW)] (.bool (aJ l)) []:=by
 refine al hC (nf:=N44) rfl rfl ?_
 simp [N44]
 refine ab (fun h=>?_) (fun h=>?_) <;> simp at h
 ·simp [aJ];omega
 simp
 refine aj Nat (fun i=>[(3,.mrf 10144),(10144,.mp 0 1 (gh (l.take i)) (List.replicate i (.bool true))),(10,slx b (l.map aW)),(11,.int .i64 l.length),(12,.int .i64 i)])
  (fun i=>i <= l.length /\ (∀ x ∈ l.take i,aH x=true) /\ ((l.map (·.name)).take i).Nodup) (fun i=>l.length - i) 0 (by simp) (by simp [gh]) ?_
 rintro i ⟨hi,hv,hn⟩
 simp
 refine ab (fun h3=>?_) (fun h3=>?_) <;> simp at h3
 ·have ht : l.take (i + 1)=l.take i++[l[i]]:=List.take_succ_eq_append_getElem h3
  have hg:=nQ ((l.take i).map (·.name)).reverse i (by simp;omega) l[i].name
  rw [show ((l.take i).map (·.name)).reverse.map D.str=gh (l.take i) from rfl] at hg
  have hk : D.str l[i].name::gh (l.take i)=gh (l.take (i + 1)):=by
   rw [gh,gh,ht]
   simp only [List.map_append,List.map_cons,List.map_nil,List.reverse_append,List.reverse_cons,List.reverse_nil,List.nil_append,List.cons_append]
  have hlen : (gh (l.take i)).length < maxLen:=by
   have : (gh (l.take i)).length <= 40:=by simp [gh];omega
   unfold maxLen;omega
  have hw : IntKind.wrap .i64 ((i : Int) + 1)=((i + 1 : Nat) : Int):=af (by omega) (by omega)
  have bad1 : aH l[i]=false -> aJ l=false:=fun e=>by
   simp only [aJ,Bool.and_eq_false_iff,List.all_eq_false]
   exact .inl (.inr ⟨l[i],List.getElem_mem h3,by simp [e]⟩)
  have h5 : (l.map (·.name)).take (i + 1)=(l.map (·.name)).take i++[l[i].name]:=by
   rw [List.take_succ_eq_append_getElem (by simpa using h3)];simp
  have bad2 : l[i].name ∈ (l.map (·.name)).take i -> aJ l=false:=fun e=>by
   simp only [aJ,Bool.and_eq_false_iff,decide_eq_false_iff_not]
   right
   intro hnd
   have h6:=(List.take_sublist (i + 1) _).nodup hnd
   rw [h5,List.nodup_append] at h6
   exact h6.2.2 _ e _ (by simp) rfl
  simp [h3,aW]
  have hvc:=tb hC l[i]
  rw [aW] at hvc
  refine aa hvc (.inl rfl) ?_
  cases hvi : aH l[i]
  ·simp [bad1 hvi]
  ·have hnm : l[i].name.length <= maxLen:=by
    simp only [aH,bk,Bool.and_eq_true,decide_eq_true_eq] at hvi
    unfold maxLen;omega
   simp [hg,hnm]
   refine ab (fun h4=>?_) (fun h4=>?_) <;> simp [h4] <;> simp at h4
   ·exact bad2 h4
   ·simp [hlen,hnm,hw]
    refine ⟨i + 1,⟨by omega,?_,?_⟩,by omega,⟨hk,?_⟩,rfl⟩
    ·intro x hx
     rw [ht] at hx
     rcases List.mem_append.1 hx with hx | hx
     ·exact hv x hx
     ·simp at hx;subst hx;exact hvi
    ·rw [h5,List.nodup_append]
     refine ⟨hn,by simp,fun a ha b hb=>?_⟩
     simp at hb
     subst hb
     rintro rfl
     exact h4 ha
    ·rw [List.replicate_succ]
 ·have hil : i=l.length:=by omega
  subst hil
  rw [List.take_of_length_le (by simp)] at hn
  simp at hv
  simp [aJ,hn]
  exact ⟨by omega,hv⟩
end Go.Gv

namespace Go.Gv
variable {C : CC} (hC : am prog C)
include hC
theorem sN (b : Bool) (t : List (Int × Int)) (hgt most : Int) : C 55 [slx b (t.map knD),.int .i64 hgt,.int .i64 most] (.bool (bE t hgt most)) []:=by
 refine al hC (nf:=N55) rfl rfl ?_
 simp [N55]
 refine aa (mP hC b t) (.inl rfl) ?_
 cases hv : aA t
 ·simp [bE,hv]
 obtain ⟨l1,l2⟩:=cF hv
 obtain ⟨n,hn⟩ : ∃ n,n + 1=t.length:=⟨t.length - 1,by omega⟩
 have e1 : IntKind.wrap .i64 ((t.length : Int) - 1)=(n : Int):=af (by omega) (by omega)
 have hnl : n < t.length:=by omega
 have h0 : 0 < t.length:=by omega
 have e0 : t[0]! = t[0]:=getElem!_pos t 0 h0
 simp [e1,hnl,h0,knD]
 rw [bE,cC hn,e0,hv]
 refine ab (fun c=>?_) (fun c=>?_) <;> simp [h0,knD] at c <;> simp [c,h0,hnl,knD]
 refine ab (fun c2=>?_) (fun c2=>?_) <;> simp [h0,knD] at c2 <;> simp [c2,h0,hnl,knD]
 refine ab (fun c3=>?_) (fun c3=>?_) <;> simp [h0,knD] at c3 <;> simp [c3,h0,hnl,knD]
 exact fun _=>⟨c,c2⟩
theorem wA (s : Sec) : C 48 [.agg (aW s)] (.bool (aH s)) []:=by
 refine al hC (nf:=N48) rfl rfl ?_
 simp [N48,aW]
 refine aa (fD hC s.name) (.inl rfl) ?_
 cases h1 : bk s.name
 ·simp [aH,h1]
 simp
 refine ab (fun c1=>?_) (fun c1=>?_) <;> simp [c1] <;> simp at c1
 ·simp [aH];omega
 refine ab (fun c2=>?_) (fun c2=>?_) <;> simp [c2] <;> simp at c2
 ·simp [aH];omega
 refine ab (fun c3=>?_) (fun c3=>?_) <;> simp [c3] <;> simp at c3
 ·simp [aH];omega
 refine ab (fun c4=>?_) (fun c4=>?_) <;> simp [c4] <;> simp at c4
 ·simp [aH];omega
 refine aa (sN hC _ _ _ _) (.inl rfl) ?_
 cases h5 : bE s.area s.height 1073741824
 ·simp [aH,h5]
 simp
 refine aa (sN hC _ _ _ _) (.inl rfl) ?_
 have d1 : 1 <= s.height:=by omega
 simp [aH,h1,d1,c2,c3,c4,h5]
end Go.Gv

namespace Go.Gv
structure Job where
 below : SlI
 lengths : SlI
 flows : SlI
 falls : SlI
 room : SlI
 secN : Bool
 secs : List Sec
 deriving Inhabited
def co (j : Job) : List D:=[slI j.below,slI j.lengths,slI j.flows,slI j.falls,slI j.room,slx j.secN (j.secs.map aW)]
def gX (s : Sec) : Bool:=decide (20 < s.area.length) || decide (20 < s.conv.length) || decide (60 < s.name.length)
def lx (l : List Sec) : Bool:=decide (8 < l.length) || l.any gX
def gg (j : Job) : Bool:=decide (12 < j.below.l.length) || decide (12 < j.lengths.l.length) || decide (12 < j.flows.l.length) || decide (12 < j.falls.l.length) || decide (12 < j.room.l.length) || lx j.secs
def cm (n a b : Int) : Bool:=a <= n && n <= b
def ee (j : Job) (i : Nat) : Bool:=(j.below.l[i]! == -1 || (decide ((i : Int) < j.below.l[i]!) && decide (j.below.l[i]! < j.below.l.length))) && cm j.lengths.l[i]! 1 16777216 && cm j.flows.l[i]! 0 1099511627776 && cm j.falls.l[i]! 0 4194304 && cm j.room.l[i]! 0 4194304
def ao (j : Job) : Bool:=decide (j.below.l.length <= 400) && decide (j.lengths.l.length=j.below.l.length) && decide (j.flows.l.length=j.below.l.length) && decide (j.falls.l.length=j.below.l.length) && decide (j.room.l.length=j.below.l.length) && decide (0 < j.secs.length) && aJ j.secs && (List.range j.below.l.length).all (ee j)
@[simp] theorem zB {x : SlI} : slI x=slx x.n (x.l.map fun n=>[.int .i64 n]):=_root_.id rfl
variable {C : CC} (hC : am prog C)
include hC
theorem fT (n a b : Int) : C 29 [.int .i64 n,.int .i64 a,.int .i64 b] (.bool (a <= n && n <= b)) []:=by
 refine al hC (nf:=N29) rfl rfl ?_
 simp [N29]
 refine ab (fun h=>?_) (fun h=>?_) <;> simp at h <;> simp [h] <;> omega
theorem tZ (s : Sec) : C 46 [.agg (aW s)] (.bool (gX s)) []:=by
 refine al hC (nf:=N46) rfl rfl ?_
 simp [N46,aW]
 refine ab (fun h=>?_) (fun h=>?_) <;> simp [h] <;> simp at h
 ·simp [gX];omega
 ·refine ab (fun h2=>?_) (fun h2=>?_) <;> simp [h2] <;> simp at h2
  ·simp [gX];omega
  ·simp [gX]
   rw [Bool.eq_iff_iff];simp
   omega
theorem we (b : Bool) (l : List Sec) : C 25 [slx b (l.map aW)] (.bool (lx l)) []:=by
 refine al hC (nf:=N25) rfl rfl ?_
 simp [N25]
 refine ab (fun h=>?_) (fun h=>?_) <;> simp [h] <;> simp at h
 ·simp [lx];omega
 ·refine aa (vT hC gX (by omega) (fun x _=>tZ hC x)) (.inl rfl) ?_
  have e : ¬ 8 < l.length:=by omega
  simp [lx,e]
theorem yw (j : Job) : C 4 [.agg (co j)] (.bool (gg j)) []:=by
 refine al hC (nf:=N4) rfl rfl ?_
 simp [N4,co]
 refine ab (fun h=>?_) (fun h=>?_) <;> simp [h] <;> simp at h
 ·simp [gg];omega
 refine ab (fun h2=>?_) (fun h2=>?_) <;> simp [h2] <;> simp at h2
 ·simp [gg];omega
 refine ab (fun h3=>?_) (fun h3=>?_) <;> simp [h3] <;> simp at h3
 ·simp [gg];omega
 refine ab (fun h4=>?_) (fun h4=>?_) <;> simp [h4] <;> simp at h4
 ·simp [gg];omega
 refine ab (fun h5=>?_) (fun h5=>?_) <;> simp [h5] <;> simp at h5
 ·simp [gg];omega
 refine aa (we hC _ _) (.inl rfl) ?_
 simp [gg]
 have e1 : ¬ 12 < j.below.l.length:=by omega
 have e2 : ¬ 12 < j.lengths.l.length:=by omega
 have e3 : ¬ 12 < j.flows.l.length:=by omega
 have e4 : ¬ 12 < j.falls.l.length:=by omega
 have e5 : ¬ 12 < j.room.l.length:=by omega
 simp [e1,e2,e3,e4,e5]
end Go.Gv
