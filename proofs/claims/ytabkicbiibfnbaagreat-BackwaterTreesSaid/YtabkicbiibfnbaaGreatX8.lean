/-
  Texts of the proof: GvX2, Q2, Q3, Q4, Q5, Q6, Q7, Q12, Q22, BL1, BL2, BL3, BL4, S4, S3, Q8, Q9, Q10, K13, M2, Q14, Q15, GvX3, GvX4, BT0, Q16, Q17, Q11, Q13, Q18, Q19, Q23, Q20, Q24, Q26, BT1, BT2, BT3, BT3b, Q28, S0, Q29.
-/
import Derived.Test.YtabkicbiibfnbaaGreatX7
import Derived.Test.YtabkicbiibfnbaaGreatX6
set_option linter.all false
namespace Go.Gv
section
variable {C : CC} {hs : Option (List Nat)} {K : Env -> Prop} {ns : List az} {dst : Option Nat} {u : Tag (hs,K,ns)} {e : Env} {R : List Nat} {acc : List (List Nat × List Nat)}
@[simp] theorem Jo {sz : Nat} {c0 c1 c2 c3 c4 c5 : List D} {es : List (List D)} : jP C hs K ns dst u e R acc sz (c0::c1::c2::c3::c4::c5::es) 5=(c5.length=sz /\ dW C hs K ns dst ⟨⟩ e R acc (.ptr c5)):=bU rfl
@[simp] theorem LK {n : Nat} {ag : Bool} {p : Pa} {off : Nat} {c0 c1 c2 c3 c4 c5 : List D} {es : List (List D)} : lY C hs K ns dst u e R acc n ag p (c0::c1::c2::c3::c4::c5::es) 5 off=(off + n <= c5.length /\ match ag with
    | true=>(((c5.drop off).take n).all isV=true -> dW C hs K ns dst ⟨⟩ e R acc (.agg ((c5.drop off).take n))) /\
      (((c5.drop off).take n).all isV=false -> dW C hs K ns dst ⟨⟩ e R acc (.agx (((c5.drop off).take n).mapIdx fun j c=>ldc p 5 (off + j) c)))
    | false=>dW C hs K ns dst ⟨⟩ e R acc (ldc p 5 off ((c5.drop off).headD .any))):=aE rfl
@[simp] theorem Jp {sz : Nat} {c0 c1 c2 c3 c4 c5 c6 : List D} {es : List (List D)} : jP C hs K ns dst u e R acc sz (c0::c1::c2::c3::c4::c5::c6::es) 6=(c6.length=sz /\ dW C hs K ns dst ⟨⟩ e R acc (.ptr c6)):=bU rfl
@[simp] theorem LL {n : Nat} {ag : Bool} {p : Pa} {off : Nat} {c0 c1 c2 c3 c4 c5 c6 : List D} {es : List (List D)} : lY C hs K ns dst u e R acc n ag p (c0::c1::c2::c3::c4::c5::c6::es) 6 off=(off + n <= c6.length /\ match ag with
    | true=>(((c6.drop off).take n).all isV=true -> dW C hs K ns dst ⟨⟩ e R acc (.agg ((c6.drop off).take n))) /\
      (((c6.drop off).take n).all isV=false -> dW C hs K ns dst ⟨⟩ e R acc (.agx (((c6.drop off).take n).mapIdx fun j c=>ldc p 6 (off + j) c)))
    | false=>dW C hs K ns dst ⟨⟩ e R acc (ldc p 6 off ((c6.drop off).headD .any))):=aE rfl
@[simp] theorem Jq {sz : Nat} {c0 c1 c2 c3 c4 c5 c6 c7 : List D} {es : List (List D)} : jP C hs K ns dst u e R acc sz (c0::c1::c2::c3::c4::c5::c6::c7::es) 7=(c7.length=sz /\ dW C hs K ns dst ⟨⟩ e R acc (.ptr c7)):=bU rfl
@[simp] theorem LM {n : Nat} {ag : Bool} {p : Pa} {off : Nat} {c0 c1 c2 c3 c4 c5 c6 c7 : List D} {es : List (List D)} : lY C hs K ns dst u e R acc n ag p (c0::c1::c2::c3::c4::c5::c6::c7::es) 7 off=(off + n <= c7.length /\ match ag with
    | true=>(((c7.drop off).take n).all isV=true -> dW C hs K ns dst ⟨⟩ e R acc (.agg ((c7.drop off).take n))) /\
      (((c7.drop off).take n).all isV=false -> dW C hs K ns dst ⟨⟩ e R acc (.agx (((c7.drop off).take n).mapIdx fun j c=>ldc p 7 (off + j) c)))
    | false=>dW C hs K ns dst ⟨⟩ e R acc (ldc p 7 off ((c7.drop off).headD .any))):=aE rfl
end
end Go.Gv

namespace Go.Gv
theorem jG {α : Type} (n : Nat) (x : α) : List.replicate n x=(List.range n).map fun _=>x:=by simp [List.map_const']
theorem lN (l : List Nat) : a7 l=(l.map fun k : Nat=>(k : Int)).map fun n=>[.int .i64 n]:=by simp [a7]
theorem AZ {l : List Int} : ∀ e ∈ (l.map fun n=>[D.int .i64 n]),e.length=1 /\ ∀ c ∈ e,aK c=true:=by
 intro e he
 simp only [x0u] at he
 obtain ⟨k,_,rfl⟩:=he
 simp [aK]
theorem A0 {l : List Int} : ∀ e ∈ (l.map fun n=>[D.int .i64 n]),e.length=1 /\ ∀ c ∈ e,bG c=true:=by
 intro e he
 simp only [x0u] at he
 obtain ⟨k,_,rfl⟩:=he
 simp [bG]
def ndD (l : List Nat) : D:=.sl (a7 l)
def EJ (n : Nat) (es : List Edg) : D:=.sl ((List.range n).map fun v=>[ndD (nxt n es v)])
def mH (n : Nat) (es : List Edg) (j : Nat) : List (List D):=(List.range n).map fun v=>[.own 1 (a7 (tgs (es.take j) v))]
def mI (n : Nat) (es : List Edg) (j : Nat) : List (List D):=(List.range n).map fun v=>[.own 1 (a7 (if v < j then nxt n es v else tgs es v))]
theorem aZ (l : List Nat) : (a7 l).length=l.length:=by simp [a7]
theorem gW (l : List Nat) : (a7 l).take l.length=a7 l:=by rw [<- aZ l];exact x1d
theorem gV (l : List Nat) (k : Nat) : a7 l++[[.int .i64 (k : Int)]]=a7 (l++[k]):=by simp [a7]
theorem tU {l : List Nat} : ∀ e ∈ a7 l,e.length=1 /\ ∀ c ∈ e,aK c=true:=by
 intro e he
 simp only [a7,x0u] at he
 obtain ⟨k,_,rfl⟩:=he
 simp [aK]
theorem p5 {l : List Nat} : ∀ e ∈ a7 l,e.length=1 /\ ∀ c ∈ e,bG c=true:=by
 intro e he
 simp only [a7,x0u] at he
 obtain ⟨k,_,rfl⟩:=he
 simp [bG]
variable {C : CC} (hC : aw prog C)
include hC
theorem EE (hS : SlC C) {b : Bool} {n : Nat} {es : List Edg} (hn : n <= 300) (he : es.length <= 1000) (hg : inG n es) : C 517 [.int .i64 n,slx b (es.map edK)] (EJ n es) []:=by
 refine ai hC (nf:=N517) rfl rfl ?_
 simp [N517]
 refine ⟨by omega,?_⟩
 refine au Nat (fun j=>[(5,.ref (.r 10080) 0 n),(10080,.blk 1 (mH n es j)),(11,slx b (es.map edK)),(12,.int .i64 es.length),(13,.int .i64 j)]) (fun j=>j <= es.length) (fun j=>es.length - j) 0 (by simp) (by simp [mH,tgs,a7,jG]) ?_
 rintro j hj
 simp
 refine ac (fun h=>?_) (fun h=>?_) <;> simp [h] <;> simp at h
 ·have hw : IntKind.wrap .i64 ((j : Int) + 1)=((j + 1 : Nat) : Int):=wrap_i64 (by omega) (by omega)
  have hin:=hg _ (x0h h)
  have hr : (mH n es j)[es[j].1]? = some [.own 1 (a7 (tgs (es.take j) es[j].1))]:=by simp [mH,hin.1]
  have hlt:=mZ (es.take j) es[j].1
  have hb : (tgs (es.take j) es[j].1).length <= 1000:=by simp at hlt;omega
  have hrl : (mH n es j).length=n:=by simp [mH]
  have hr2 : es[j].1 < (mH n es j).length:=by omega
  simp [h,edK,knD,aE hr,hin,hr,aZ]
  refine ⟨by omega,?_⟩
  simp only [gW,gV]
  have e1 : ∀ e,e ∈ a7 (tgs (es.take j) es[j].1) \/ e=[.int .i64 (es[j].2 : Int)] -> ∀ c ∈ e,aK c=true:=by
   rintro e (h1 | rfl)
   ·exact (tU e h1).2
   ·simp [aK]
  have e2 : (((mH n es j).set es[j].1 [.any]).set es[j].1 [.own 1 (a7 (tgs (es.take j) es[j].1++[es[j].2]))])=mH n es (j + 1):=by
   rw [List.set_set]
   unfold mH
   rw [iH]
   apply x0j
   intro v _
   rw [si h]
   by_cases e : v=es[j].1
   ·subst e;simp
   ·rw [if_neg e,if_neg (Ne.symm e),x02]
  refine ⟨e1,?_⟩
  simp [hr2,e2]
  refine ⟨am (by decide +kernel),?_⟩
  simp [hw]
  refine ⟨j + 1,by omega,by omega,?_,by simp⟩
  simp only [gW,gV]
  rw [<- e2,List.set_set]
 ·have e0 : mH n es j=mI n es 0:=by
   unfold mH mI
   rw [x0q h]
   simp
  rw [e0]
  refine au Nat (fun j=>[(5,.ref (.r 10080) 0 n),(10080,.blk 1 (mI n es j)),(32,.int .i64 n),(33,.int .i64 j)]) (fun j=>j <= n) (fun j=>n - j) 0 (by simp) (by simp) ?_
  clear e0 h hj j
  rintro j hj
  simp
  refine ac (fun h=>?_) (fun h=>?_) <;> simp [h] <;> simp at h
  ·have hw : IntKind.wrap .i64 ((j : Int) + 1)=((j + 1 : Nat) : Int):=wrap_i64 (by omega) (by omega)
   have hr : (mI n es j)[j]? = some [.own 1 (a7 (tgs es j))]:=by simp [mI,h]
   have hl:=mZ es j
   simp [h,aE hr,hr,aZ]
   have ks:=hS.sort ((tgs es j).map fun k : Nat=>(k : Int)) (by simp;omega)
   have kc:=hS.compact (((tgs es j).map fun k : Nat=>(k : Int)).mergeSort fun x y=>decide (x <= y)) (by simp [List.length_mergeSort];omega)
   rw [pN hg,<- lN] at kc
   rw [<- lN] at ks
   have hsl : (((tgs es j).map fun k : Nat=>(k : Int)).mergeSort fun x y=>decide (x <= y)).length=(tgs es j).length:=by simp [List.length_mergeSort]
   obtain ⟨zs,hz⟩ : ∃ zs,zs=((tgs es j).map fun k : Nat=>(k : Int)).mergeSort fun x y=>decide (x <= y):=⟨_,rfl⟩
   rw [<- hz] at ks kc hsl
   have hjl : j < (mI n es j).length:=by simp [mI,h]
   have e1 : (((mI n es j).set j [.own 1 (zs.map fun n=>[.int .i64 n])]).set j [.any]).set j [.own 1 (a7 (nxt n es j))]=mI n es (j + 1):=by
    rw [List.set_set,List.set_set]
    unfold mI
    rw [iH]
    apply x0j
    intro v _
    by_cases e : v=j
    ·subst e;simp
    ·rw [if_neg e]
     by_cases e2 : v < j
     ·rw [if_pos e2,if_pos (by omega)]
     ·rw [if_neg e2,if_neg (by omega)]
   refine wZ ks (by rw [x1n,hsl,aZ]) AZ ?_
   have hset : ∀ x,((mI n es j).set j x)[j]? = some x:=fun x=>by simp [hjl]
   simp [hr,h,aE (hset _),hset]
   refine ⟨fun e he=>(A0 e (x0K he)).2,?_⟩
   have e3 : (zs.map fun n=>[D.int .i64 n]).take zs.length=zs.map fun n=>[D.int .i64 n]:=x0q (by simp)
   rw [e3]
   refine tK kc p5 ?_
   simp [hr,h,aE (hset _),hset]
   rw [List.set_set,List.set_set] at e1
   exact ⟨fun e he=>(tU e he).2,j + 1,by omega,by omega,e1,hw⟩
  ·have e : j=n:=by omega
   subst e
   simp [mI]
   unfold EJ
   rw [x0q (by simp)]
   congr 1
   apply x0j
   intro v hv
   have : v < j:=by simpa using hv
   simp [this,aS,ndD]
end Go.Gv

namespace Go.Gv
theorem mC {l l' : List Nat} (h1 : l.Pairwise (· < ·)) (h2 : l'.Pairwise (· < ·)) (h : ∀ x,x ∈ l ↔ x ∈ l') : l=l':=by
 have e:=ku (l:=l.map fun k : Nat=>(k : Int)) (l':=l'.map fun k : Nat=>(k : Int)) (by rw [List.pairwise_map];exact h1.imp fun h=>by omega) (by rw [List.pairwise_map];exact h2.imp fun h=>by omega) (fun x=>by
  simp only [x0u]
  exact ⟨fun ⟨a,b,c⟩=>⟨a,(h a).1 b,c⟩,fun ⟨a,b,c⟩=>⟨a,(h a).2 b,c⟩⟩)
 have e2:=congrArg (List.map Int.toNat) e
 rw [x1U,x1U] at e2
 have f : (Int.toNat ∘ fun k : Nat=>(k : Int))=id:=by funext k;simp
 rw [f,List.map_id,List.map_id] at e2
 exact e2
def dF (l : List Nat) (x : Nat) : Nat:=l.findIdx fun k=>decide (x <= k)
theorem uj (l : List Nat) (x : Nat) : dF l x <= l.length:=List.findIdx_le_length
theorem uk {l : List Nat} {x j : Nat} (h : j < dF l x) (hl : j < l.length) : l[j] < x:=by
 have:=List.not_of_lt_findIdx h
 simp at this
 exact this
theorem Bi {l : List Nat} {x : Nat} (h : dF l x < l.length) : x <= l[dF l x]:=by
 have h2:=List.findIdx_getElem (w:=h)
 exact of_decide_eq_true h2
theorem tk {l : List Nat} {x j : Nat} (hl : j < l.length) (h : x <= l[j]) : dF l x <= j:=by
 apply x1B
 intro hj
 have:=uk hj hl
 omega
theorem nN {l : List Nat} (hs : l.Pairwise (· < ·)) {x j : Nat} (hl : j < l.length) (h : l[j] < x) : j < dF l x:=by
 apply Nat.lt_of_not_le
 intro hj
 have h1:=Bi (l:=l) (x:=x) (by omega)
 rcases Nat.lt_or_eq_of_le hj with h2 | h2
 ·have:=List.pairwise_iff_getElem.1 hs (dF l x) j (by omega) hl h2
  omega
 ·simp only [h2] at h1;omega
theorem sW {l : List Nat} {x : Nat} (hs : l.Pairwise (· < ·)) (hx : x ∉ l) : (l.take (dF l x)++x::l.drop (dF l x)).Pairwise (· < ·):=by
 have hp:=hs
 rw [<- List.take_append_drop (dF l x) l,List.pairwise_append] at hp
 obtain ⟨h1,h2,h3⟩:=hp
 have lo : ∀ a ∈ l.take (dF l x),a < x:=fun a ha=>by
  obtain ⟨i,hi,rfl⟩:=x0A.1 ha
  have h4 : i < dF l x /\ i < l.length:=by simp at hi;omega
  rw [List.getElem_take]
  exact uk h4.1 h4.2
 have hi : ∀ a ∈ l.drop (dF l x),x < a:=fun a ha=>by
  obtain ⟨i,hi,rfl⟩:=x0A.1 ha
  have hlt : dF l x + i < l.length:=by simp at hi;omega
  rw [List.getElem_drop]
  have hne : l[dF l x + i] ≠ x:=fun e=>hx (e ▸ x0h hlt)
  have : ¬ l[dF l x + i] < x:=fun h=>by have:=nN hs hlt h;omega
  omega
 rw [List.pairwise_append,List.pairwise_cons]
 refine ⟨h1,⟨hi,h2⟩,fun a ha b hb=>?_⟩
 rcases x0N.1 hb with rfl | hb
 ·exact lo a ha
 ·exact h3 a ha b hb
theorem sV {n : Nat} {p q : Nat -> Bool} {x : Nat} (hx : x < n) (hp : p x=false) (hq : ∀ v,v < n -> q v=(p v || v == x)) : ((List.range n).filter p).take (dF ((List.range n).filter p) x)++x::((List.range n).filter p).drop (dF ((List.range n).filter p) x)=(List.range n).filter q:=by
 have hs : ((List.range n).filter p).Pairwise (· < ·):=List.Pairwise.filter _ x1H
 refine mC (sW hs (by simp [hp])) (List.Pairwise.filter _ x1H) fun v=>?_
 have : v ∈ (List.range n).filter p ↔ v ∈ ((List.range n).filter p).take (dF ((List.range n).filter p) x) \/ v ∈ ((List.range n).filter p).drop (dF ((List.range n).filter p) x):=by
  rw [<- x0o,List.take_append_drop]
 simp only [x0o,x0N]
 rw [or_left_comm,<- this]
 simp only [List.mem_filter,x1C]
 constructor
 ·rintro (rfl | ⟨h1,h2⟩)
  ·exact ⟨hx,by rw [hq _ hx];simp⟩
  ·exact ⟨h1,by rw [hq _ h1,h2];rfl⟩
 ·rintro ⟨h1,h2⟩
  rw [hq _ h1,x0F,x0n] at h2
  rcases h2 with h2 | h2
  ·exact .inr ⟨h1,h2⟩
  ·exact .inl h2
structure mF (n : Nat) (es : List Edg) (out : List Nat) : Prop where
 lt : ∀ v ∈ out,v < n
 nd : out.Nodup
 pre : ∀ v ∈ out,∀ u,(u,v) ∈ es -> u ∈ out
theorem mF.nil (n : Nat) (es : List Edg) : mF n es []:=⟨by simp,by simp,by simp⟩
theorem mF.len {n : Nat} {es : List Edg} {out : List Nat} (h : mF n es out) : out.length <= n:=by
 have:=(List.nodup_range (n:=n)).sublist (List.Sublist.refl _)
 have hsub : out ⊆ List.range n:=fun v hv=>by simpa using h.lt v hv
 have:=List.Nodup.length_le_of_subset h.nd hsub
 simpa using this
theorem mF.step {n : Nat} {es : List Edg} {out : List Nat} (h : mF n es out) {i : Nat} (hi : i ∈ cI n es out) : mF n es (out++[i]):=by
 obtain ⟨h1,h2,h3⟩:=gY.1 hi
 refine ⟨fun v hv=>?_,?_,fun v hv u hu=>?_⟩
 ·rcases x0o.1 hv with hv | hv
  ·exact h.lt v hv
  ·simp at hv;omega
 ·rw [x1g]
  refine ⟨h.nd,by simp,fun a ha b hb=>?_⟩
  simp at hb
  subst hb
  rintro rfl
  exact h2 ha
 ·rcases x0o.1 hv with hv | hv
  ·exact x0o.2 (.inl (h.pre v hv u hu))
  ·simp at hv
   subst hv
   exact x0o.2 (.inl (h3 u hu))
theorem gI (n : Nat) (es : List Edg) : ∀ m,mF n es (aF n es m)
 | 0=>.nil n es
 | m + 1=>by
  have ih:=gI n es m
  show mF n es (jt n es (aF n es m))
  unfold jt
  split
  ·exact ih
  ·rename_i v r e
   exact ih.step (by rw [e];simp)
theorem ia {n : Nat} {es : List Edg} {m i : Nat} {r : List Nat} (h : cI n es (aF n es m)=i::r) : aF n es (m + 1)=aF n es m++[i]:=by
 show jt n es (aF n es m)=_
 unfold jt
 rw [h]
theorem kU {n : Nat} {es : List Edg} {m : Nat} (h : cI n es (aF n es m)=[]) : ∀ k,aF n es (m + k)=aF n es m
 | 0=>rfl
 | k + 1=>by
  show jt n es (aF n es (m + k))=_
  rw [kU h k]
  unfold jt
  rw [h]
theorem uf {n : Nat} {es : List Edg} {m : Nat} (hl : (aF n es m).length=m) (h : cI n es (aF n es m)=[]) : bi n es=aF n es m:=by
 have:=(gI n es m).len
 have e:=kU h (n - m)
 rw [show m + (n - m)=n by omega] at e
 exact e
theorem yA {n : Nat} {es : List Edg} {out : List Nat} (h : mF n es out) {i : Nat} {r : List Nat} (hr : cI n es out=i::r) : cI n es (out++[i])=(List.range n).filter fun v=>(!out.contains v && f9 es out v && !(v == i)) || ((nxt n es i).contains v && f9 es (out++[i]) v):=by
 have hi : i ∈ cI n es out:=by rw [hr];simp
 obtain ⟨h1,h2,h3⟩:=gY.1 hi
 unfold cI
 apply List.filter_congr
 intro v hv
 have hvn : v < n:=by simpa using hv
 rw [x0x]
 simp only [x0a,x0F,x0t,x0I,kZ,gn,beq_eq_false_iff_ne,ne_eq]
 simp only [List.contains_eq_mem,x0H,x0o,x1c,not_or]
 constructor
 ·rintro ⟨⟨a1,a2⟩,a3⟩
  by_cases c : (i,v) ∈ es
  ·exact .inr ⟨⟨hvn,c⟩,a3⟩
  ·refine .inl ⟨⟨a1,fun u hu=>?_⟩,a2⟩
   rcases a3 u hu with b | rfl
   ·exact b
   ·exact absurd hu c
 ·rintro (⟨⟨a1,a2⟩,a3⟩ | ⟨⟨_,a1⟩,a2⟩)
  ·exact ⟨⟨a1,a3⟩,fun u hu=>.inl (a2 u hu)⟩
  ·refine ⟨⟨fun hv=>h2 (h.pre v hv i a1),?_⟩,a2⟩
   rintro rfl
   exact h2 (h3 _ a1)
variable {C : CC} (hC : aw prog C)
include hC
theorem Dw (x : Int) : C 299 [.int .i64 x] (.bool false) []:=by
 refine ai hC (nf:=N299) rfl rfl ?_
 simp [N299]
theorem EU (x : Int) : C 524 [.int .i64 x] (.bool false) []:=by
 refine ai hC (nf:=N524) rfl rfl ?_
 simp [N524]
theorem Ao (x y : Int) : C 411 [.int .i64 x,.int .i64 y] (.bool (decide (x < y))) []:=by
 refine ai hC (nf:=N411) rfl rfl ?_
 simp [N411]
 refine aa (Dw hC x) (.inl rfl) ?_
 simp
theorem u9 (l : List Nat) (x : Nat) (hs : l.Pairwise (· < ·)) (hl : l.length < 2 ^ 40) : C 518 [.sl (a7 l),.int .i64 x] (.tup [.int .i64 (dF l x),.bool (decide (dF l x < l.length) && decide (l[dF l x]! = x))]) []:=by
 have hpl:=uj l x
 obtain ⟨n,hn⟩ : ∃ n,n=dF l x:=⟨_,rfl⟩
 obtain ⟨r,hr⟩ : ∃ r,r=(decide (dF l x < l.length) && decide (l[dF l x]! = x)):=⟨_,rfl⟩
 have hlt : ∀ j,(hj : j < l.length) -> l[j] < x -> j < n:=fun j hj h1=>hn ▸ nN hs hj h1
 have hle : ∀ j,(hj : j < l.length) -> x <= l[j] -> n <= j:=fun j hj h1=>hn ▸ tk hj h1
 rw [<- hn] at hpl ⊢
 rw [<- hn] at hr
 rw [<- hr]
 refine ai hC (nf:=N518) rfl rfl ?_
 simp [N518,a7]
 refine au (Nat × Nat) (fun s=>[(0,.sl (a7 l)),(1,.int .i64 x),(6,.int .i64 l.length),(7,.int .i64 s.1),(8,.int .i64 s.2)]) (fun s=>s.1 <= n /\ n <= s.2 /\ s.2 <= l.length) (fun s=>s.2 - s.1) (0,l.length) (by simp;omega) (by simp [a7]) ?_
 rintro ⟨i,j⟩ ⟨h1,h2,h3⟩
 simp only at h1 h2 h3
 simp
 refine ac (fun g=>?_) (fun g=>?_) <;> simp at g <;> simp [g]
 ·obtain ⟨m,hm⟩ : ∃ m,m=(i + j) / 2:=⟨_,rfl⟩
  have e1 : IntKind.wrap .i64 ((i : Int) + (j : Int))=((i + j : Nat) : Int):=wrap_i64 (by omega) (by omega)
  obtain ⟨s,hsm⟩ : ∃ s,s=i + j:=⟨_,rfl⟩
  rw [<- hsm] at e1 hm
  have e2 : Int.fdiv (s : Int) (2 ^ min 1 IntKind.u64.bits)=(m : Int):=by rw [hm];exact mK s 1
  have e3 : IntKind.wrap .i64 (m : Int)=(m : Int):=wrap_i64 rfl (by omega)
  have e4 : IntKind.wrap .i64 ((m : Int) + 1)=((m + 1 : Nat) : Int):=wrap_i64 (by omega) (by omega)
  have hml : m < l.length:=by omega
  simp [e1,bu s (by omega),e2,e3,hml,a7]
  refine aa (Ao hC l[m] x) (.inl rfl) ?_
  by_cases hmx : l[m] < x
  ·have:=hlt m hml hmx
   have hi : (l[m] : Int) < x:=by omega
   simp [hmx,e4]
   exact ⟨m + 1,j,⟨by omega,h2,h3⟩,by omega,by omega,by omega⟩
  ·have:=hle m hml (by omega)
   simp [hmx]
   exact ⟨i,m,⟨h1,by omega,by omega⟩,by omega,by omega,by omega⟩
 ·have e0 : i=n:=by omega
  subst e0
  by_cases g2 : i < l.length
  ·have eg : l[i]! = l[i]:=x0f l i g2
   rw [eg] at hr
   simp [g2,a7]
   by_cases g3 : l[i]=x
   ·simp [g3,g2] at hr ⊢
    exact hr
   ·have g3i : ¬ (l[i] : Int)=x:=by omega
    simp [g3,g3i,g2] at hr ⊢
    refine aa (EU hC _) (.inl rfl) ?_
    simp [hr]
  ·simp [g2] at hr ⊢
   exact hr
end Go.Gv

namespace Go.Gv
def wtA (n : Nat) (f : Nat -> Nat) : List (List D):=(List.range n).map fun v=>[.int .i64 (f v : Int)]
theorem jO {n v : Nat} (f : Nat -> Nat) (h : v < n) : (wtA n f)[v]? = some [.int .i64 (f v : Int)]:=by simp [wtA,h]
theorem uS {n v : Nat} (f : Nat -> Nat) (x : Nat) : (wtA n f).set v [.int .i64 (x : Int)]=wtA n fun u=>if u=v then x else f u:=by
 unfold wtA
 rw [iH]
 apply x0j
 intro u _
 by_cases h : u=v <;> simp [h]
theorem tf {l : List Nat} {j v : Nat} (hj : j < l.length) : v ∈ l.take (j + 1) ↔ v ∈ l.take j \/ v=l[j]:=by
 rw [x0v hj,x0o,x1c]
theorem iq {n : Nat} {f g : Nat -> Nat} (h : ∀ v,v < n -> f v=g v) : wtA n f=wtA n g:=by
 unfold wtA
 apply x0j
 intro u hu
 rw [h u (by simpa using hu)]
def wt1 (n : Nat) (es : List Edg) (i j v : Nat) : Nat:=lE es i v + (if v ∈ (nxt n es i).take j then 1 else 0)
theorem Ci {n : Nat} {es : List Edg} {i v : Nat} (hv : v < n) : wt1 n es i (nxt n es i).length v=lE es (i + 1) v:=by
 unfold wt1
 rw [vh,x1d]
 simp [gn,hv]
theorem zV {n : Nat} {es : List Edg} {i j : Nat} (hj : j < (nxt n es i).length) (v : Nat) : wt1 n es i (j + 1) v=if v=(nxt n es i)[j] then wt1 n es i j v + 1 else wt1 n es i j v:=by
 unfold wt1
 simp only [tf hj]
 have hnd : (nxt n es i)[j] ∉ (nxt n es i).take j:=by
  intro h
  obtain ⟨k,hk,e⟩:=x0A.1 h
  have hk2 : k < j:=by simp at hk;omega
  rw [List.getElem_take] at e
  have:=(List.getElem_inj (pg n es i)).1 e
  omega
 by_cases e : v=(nxt n es i)[j]
 ·subst e
  rw [if_pos rfl,if_pos (.inr rfl),if_neg hnd]
 ·rw [if_neg e]
  congr 1
  simp only [e,or_false]
def rd0 (n : Nat) (es : List Edg) (i : Nat) : List Nat:=(List.range i).filter fun v=>decide (fe n es [] v=0)
theorem nS (n : Nat) (es : List Edg) (i : Nat) : rd0 n es (i + 1)=rd0 n es i++(if fe n es [] i=0 then [i] else []):=by
 unfold rd0
 rw [x1w,x1P]
 congr 1
 by_cases h : fe n es [] i=0 <;> simp [h]
theorem Bp {n : Nat} {es : List Edg} (hg : inG n es) : rd0 n es n=cI n es []:=by
 unfold rd0 cI
 apply List.filter_congr
 intro v _
 rw [x0x]
 simp [oP hg]
theorem Bq (n : Nat) (es : List Edg) (i : Nat) : (rd0 n es i).length <= i:=by
 have:=x03 (fun v=>decide (fe n es [] v=0)) (List.range i)
 simpa [rd0] using this
def wt2 (n : Nat) (es : List Edg) (out : List Nat) (i j v : Nat) : Nat:=if v ∈ (nxt n es i).take j then fe n es (out++[i]) v else fe n es out v
def rdp (n : Nat) (es : List Edg) (out : List Nat) (i j v : Nat) : Bool:=(!out.contains v && f9 es out v && !(v == i)) || (((nxt n es i).take j).contains v && f9 es (out++[i]) v)
def rd2 (n : Nat) (es : List Edg) (out : List Nat) (i j : Nat) : List Nat:=(List.range n).filter (rdp n es out i j)
theorem Bu (n : Nat) (es : List Edg) (out : List Nat) (i j : Nat) : (rd2 n es out i j).length <= n:=by
 have:=x03 (rdp n es out i j) (List.range n)
 simpa [rd2] using this
theorem ue {n : Nat} {es : List Edg} {i j : Nat} (hj : j < (nxt n es i).length) : (nxt n es i)[j] ∉ (nxt n es i).take j:=by
 intro h
 obtain ⟨k,hk,e⟩:=x0A.1 h
 have hk2 : k < j:=by simp at hk;omega
 rw [List.getElem_take] at e
 have:=(List.getElem_inj (pg n es i)).1 e
 omega
theorem rM {n : Nat} {es : List Edg} {out : List Nat} {i : Nat} {r : List Nat} (h : cI n es out=i::r) : rd2 n es out i 0=r:=by
 have hs : (cI n es out).Pairwise (· < ·):=List.Pairwise.filter _ x1H
 have hm : ∀ v,v ∈ cI n es out ↔ v=i \/ v ∈ r:=fun v=>by rw [h];simp
 rw [h,List.pairwise_cons] at hs
 refine mC (List.Pairwise.filter _ x1H) hs.2 fun v=>?_
 have h2:=hm v
 simp only [rd2,rdp,List.mem_filter,x1C,List.take_zero,List.contains_nil,Bool.false_and,Bool.or_false,x0a,x0t,beq_eq_false_iff_ne]
 simp only [cI,List.mem_filter,x1C,x0a,x0t] at h2
 constructor
 ·rintro ⟨a,b,c⟩
  rcases h2.1 ⟨a,b⟩ with e | e
  ·exact absurd e c
  ·exact e
 ·intro hv
  obtain ⟨a,b⟩:=h2.2 (.inr hv)
  refine ⟨a,b,?_⟩
  rintro rfl
  have:=hs.1 v hv
  omega
theorem Bs {n : Nat} {es : List Edg} {out : List Nat} (h : mF n es out) {i : Nat} {r : List Nat} (hr : cI n es out=i::r) : rd2 n es out i (nxt n es i).length=cI n es (out++[i]):=by
 rw [yA h hr]
 unfold rd2 rdp
 rw [x1d]
theorem Cj {n : Nat} {es : List Edg} {out : List Nat} {i : Nat} (hi : i < n) (ho : i ∉ out) {v : Nat} (hv : v < n) : wt2 n es out i (nxt n es i).length v=fe n es (out++[i]) v:=by
 unfold wt2
 rw [x1d]
 split
 ·rfl
 ·rename_i h
  rw [oO hi ho,if_neg (fun e=>h (gn.2 ⟨hv,e⟩)),x0W]
theorem so {n : Nat} {es : List Edg} {out : List Nat} {i j : Nat} (hj : j < (nxt n es i).length) (v : Nat) : wt2 n es out i (j + 1) v=if v=(nxt n es i)[j] then fe n es (out++[i]) v else wt2 n es out i j v:=by
 unfold wt2
 simp only [tf hj]
 by_cases e : v=(nxt n es i)[j]
 ·rw [if_pos e,if_pos (.inr e)]
 ·rw [if_neg e]
  simp only [e,or_false]
theorem rN {n : Nat} {es : List Edg} {out : List Nat} {i j : Nat} (hj : j < (nxt n es i).length) (v : Nat) : rdp n es out i (j + 1) v=(rdp n es out i j v || (v == (nxt n es i)[j] && f9 es (out++[i]) v)):=by
 unfold rdp
 rw [x0v hj]
 rw [x0x]
 simp only [x0F,x0a,x0I,x0o,x1c,x0n]
 constructor
 ·rintro (h | ⟨h | h,h'⟩)
  ·exact .inl (.inl h)
  ·exact .inl (.inr ⟨h,h'⟩)
  ·exact .inr ⟨h,h'⟩
 ·rintro ((h | ⟨h,h'⟩) | ⟨h,h'⟩)
  ·exact .inl h
  ·exact .inr ⟨.inl h,h'⟩
  ·exact .inr ⟨.inr h,h'⟩
theorem yy {n : Nat} {es : List Edg} {out : List Nat} {i j : Nat} (hj : j < (nxt n es i).length) (h : f9 es (out++[i]) (nxt n es i)[j]=false) : rd2 n es out i (j + 1)=rd2 n es out i j:=by
 unfold rd2
 apply List.filter_congr
 intro v _
 rw [rN hj]
 by_cases e : v=(nxt n es i)[j]
 ·subst e;simp [h]
 ·simp [e]
theorem Bt {n : Nat} {es : List Edg} {out : List Nat} (hI : mF n es out) {i : Nat} {r : List Nat} (hr : cI n es out=i::r) {j : Nat} (hj : j < (nxt n es i).length) (h : f9 es (out++[i]) (nxt n es i)[j]=true) :
  (rd2 n es out i j).take (dF (rd2 n es out i j) (nxt n es i)[j])++(nxt n es i)[j]::(rd2 n es out i j).drop (dF (rd2 n es out i j) (nxt n es i)[j])=rd2 n es out i (j + 1):=by
 obtain ⟨h1,h2⟩:=gn.1 (x0h hj)
 have hi : i ∈ cI n es out:=by rw [hr];simp
 obtain ⟨i1,i2,i3⟩:=gY.1 hi
 refine sV h1 ?_ (fun v _=>?_)
 ·unfold rdp
  rw [Bool.or_eq_false_iff]
  constructor
  ·have : f9 es out (nxt n es i)[j]=false:=by
    rw [<- x1M,kZ]
    exact fun h=>i2 (h _ h2)
   simp [this]
  ·have:=ue hj
   simp [this]
 ·rw [rN hj]
  by_cases e : v=(nxt n es i)[j]
  ·rw [e,h,Bool.and_true]
  ·have e' : (v == (nxt n es i)[j])=false:=by simpa using e
   rw [e',Bool.false_and]
theorem Br (n : Nat) (es : List Edg) (out : List Nat) (i j : Nat) : (rd2 n es out i j).Pairwise (· < ·):=List.Pairwise.filter _ x1H
theorem yz (n : Nat) (es : List Edg) (out : List Nat) : (cI n es out).length <= n:=by
 have:=x03 (fun v=>!out.contains v && f9 es out v) (List.range n)
 simpa [cI] using this
end Go.Gv

namespace Go.Gv
def ndR (n : Nat) (es : List Edg) : List (List D):=(List.range n).map fun v=>[ndD (nxt n es v)]
theorem uc {n v : Nat} (es : List Edg) (h : v < n) : (ndR n es)[v]? = some [ndD (nxt n es v)]:=by simp [ndR,h]
theorem Rf (n : Nat) (es : List Edg) (i : Nat) : wt1 n es i 0=lE es i:=by funext v;simp [wt1]
theorem Rg (n : Nat) (es : List Edg) (out : List Nat) (i : Nat) : wt2 n es out i 0=fe n es out:=by funext v;simp [wt2]
theorem Ba (n : Nat) (es : List Edg) : (ndR n es).length=n:=by simp [ndR]
theorem nA {l : List Nat} {j : Nat} (h : j < l.length) : (a7 l)[j]? = some [.int .i64 (l[j] : Int)]:=by simp [a7,h]
variable {C : CC} (hC : aw prog C)
include hC
set_option maxHeartbeats 1000000 in
theorem ug (hS : SlC C) {b : Bool} {n : Nat} {es : List Edg} (hn : n <= 300) (he : es.length <= 1000) (hg : inG n es) : C 504 [.int .i64 n,slx b (es.map edK)] (ndD (bi n es)) []:=by
 have kn:=EE hC hS (b:=b) hn he hg
 have enx : EJ n es=.sl (ndR n es):=rfl
 rw [enx] at kn
 refine ai hC (nf:=N504) rfl rfl ?_
 simp [N504]
 refine aa kn (.inr rfl) ?_
 simp [Ba]
 refine ⟨by omega,?_⟩
 refine au Nat (fun i=>[(5,.sl (ndR n es)),(6,.ref (.r 10096) 0 n),(10096,.blk 1 (wtA n (lE es i))),(25,.sl (ndR n es)),(26,.int .i64 n),(27,.int .i64 i)]) (fun i=>i <= n) (fun i=>n - i) 0 (by simp) (by simp [wtA,lE,jG]) ?_
 rintro i hi
 simp
 refine ac (fun h=>?_) (fun h=>?_) <;> simp [h] <;> simp at h
 ·have hw : IntKind.wrap .i64 ((i : Int) + 1)=((i + 1 : Nat) : Int):=wrap_i64 (by omega) (by omega)
  have hlen:=ud n es i
  simp [h,bU (uc es h),ndD,aZ]
  refine au Nat (fun j=>[(5,.sl (ndR n es)),(6,.ref (.r 10096) 0 n),(10096,.blk 1 (wtA n (wt1 n es i j))),(25,.sl (ndR n es)),(26,.int .i64 n),(27,.int .i64 i),(31,.sl (a7 (nxt n es i))),(32,.int .i64 (nxt n es i).length),(33,.int .i64 j)]) (fun j=>j <= (nxt n es i).length) (fun j=>(nxt n es i).length - j) 0 (by simp) (by simp [Rf,ndD]) ?_
  rintro j hj
  simp
  refine ac (fun g=>?_) (fun g=>?_) <;> simp [g] <;> simp at g
  ·have hw2 : IntKind.wrap .i64 ((j : Int) + 1)=((j + 1 : Nat) : Int):=wrap_i64 (by omega) (by omega)
   obtain ⟨k1,k2⟩:=gn.1 (x0h g)
   have kle:=Av es i (nxt n es i)[j]
   have hwv : IntKind.wrap .i64 ((wt1 n es i j (nxt n es i)[j] : Int) + 1)=((wt1 n es i j (nxt n es i)[j] + 1 : Nat) : Int):=wrap_i64 (by omega) (by unfold wt1;split <;> omega)
   simp [g,bU (nA g),k1,aE (jO _ k1),jO _ k1,hwv]
   refine ⟨j + 1,by omega,by omega,?_,hw2⟩
   have e1:=uS (n:=n) (v:=(nxt n es i)[j]) (wt1 n es i j) (wt1 n es i j (nxt n es i)[j] + 1)
   rw [show ((wt1 n es i j (nxt n es i)[j] + 1 : Nat) : Int)=(wt1 n es i j (nxt n es i)[j] : Int) + 1 by omega] at e1
   rw [e1]
   refine iq fun v _=>?_
   rw [zV g]
   split
   ·rename_i e;rw [e]
   ·rfl
  ·have ej : j=(nxt n es i).length:=by omega
   subst ej
   simp [hw]
   exact ⟨i + 1,by omega,by omega,iq fun v hv=>Ci hv,by omega⟩
 ·have ei : n=i:=by omega
  subst ei
  clear h hi
  have e0 : wtA n (lE es n)=wtA n (fe n es []):=iq fun v _=>w6 n es v
  rw [e0]
  refine au Nat (fun i=>[(5,.sl (ndR n es)),(6,.ref (.r 10096) 0 n),(10096,.blk 1 (wtA n (fe n es []))),(11,.ref (.r 10176) 0 (rd0 n es i).length),(10176,.blk 1 (a7 (rd0 n es i))),(12,.ref (.r 10192) 0 0),(10192,.blk 1 []),(45,.ref (.r 10096) 0 n),(46,.int .i64 n),(47,.int .i64 i)]) (fun i=>i <= n) (fun i=>n - i) 0 (by simp) (by simp [rd0,a7]) ?_
  rintro i hi
  simp
  refine ac (fun h=>?_) (fun h=>?_) <;> simp [h] <;> simp at h
  ·have hw : IntKind.wrap .i64 ((i : Int) + 1)=((i + 1 : Nat) : Int):=wrap_i64 (by omega) (by omega)
   have hrl:=Bq n es i
   simp [h,aE (jO _ h),jO _ h]
   refine ac (fun c=>?_) (fun c=>?_) <;> simp at c <;> simp [c,aZ]
   ·refine ⟨by omega,i + 1,by omega,by omega,?_,?_,hw⟩
    ·rw [nS,if_pos c];simp
    ·rw [gW,gV,nS,if_pos c]
   ·simp [hw]
    refine ⟨i + 1,by omega,by omega,?_⟩
    rw [nS,if_neg c,x02]
    exact ⟨rfl,rfl,by omega⟩
  ·have ei : i=n:=by omega
   rw [ei,Bp hg]
   clear ei h hi i
   refine au (Nat × Nat × List (List D)) (fun s=>[(5,.sl (ndR n es)),(6,.ref (.r 10096) 0 n),(10096,.blk 1 (wtA n (fe n es (aF n es s.1)))),(11,.ref (.r 10176) s.2.1 (cI n es (aF n es s.1)).length),(10176,.blk 1 s.2.2),(12,.ref (.r 10192) 0 s.1),(10192,.blk 1 (a7 (aF n es s.1)))])
    (fun s=>(aF n es s.1).length=s.1 /\ s.2.1 + (cI n es (aF n es s.1)).length <= s.2.2.length /\ (s.2.2.drop s.2.1).take (cI n es (aF n es s.1)).length=a7 (cI n es (aF n es s.1))) (fun s=>n - s.1) (0,0,a7 (cI n es [])) (by simp [aF,aZ,gW]) (by simp [aF,a7]) ?_
   rintro ⟨m,k,B⟩ ⟨hm,hkB,hB⟩
   simp only at hm hkB hB
   simp
   have hI:=gI n es m
   have hmn:=hI.len
   obtain ⟨out,hout⟩ : ∃ out,out=aF n es m:=⟨_,rfl⟩
   cases hr : cI n es (aF n es m) with
   | nil =>
    have e1 : (a7 (aF n es m)).map (fun e=>e.map aS)=a7 (aF n es m):=by simp [a7,aS]
    have e2 : (a7 (aF n es m)).take m=a7 (aF n es m):=x0q (by rw [aZ];omega)
    simp [hm]
    rw [e1,e2,uf hm hr]
    exact ⟨by rw [aZ];omega,rfl⟩
   | cons i r =>
    have hi : i ∈ cI n es (aF n es m):=by rw [hr];simp
    obtain ⟨i1,i2,i3⟩:=gY.1 hi
    have hrl:=yz n es (aF n es m)
    rw [hr] at hkB hB hrl
    simp only [x1q] at hkB hB hrl
    have hBk : B[k]? = some [.int .i64 (i : Int)]:=by
     have:=congrArg (fun l=>l[0]?) hB
     simpa [a7] using this
    have hBr : (B.drop (k + 1)).take r.length=a7 r:=by
     have:=congrArg (fun l=>l.drop 1) hB
     simp only [List.drop_take,List.drop_drop] at this
     simpa [a7] using this
    have hS1:=hI.step hi
    have hsl:=hS1.len
    have eN:=ia hr
    have e2 : (a7 (aF n es m)).take m=a7 (aF n es m):=x0q (by rw [aZ];omega)
    have hlen:=ud n es i
    simp only [x0T,List.length_singleton,hm] at hsl
    simp [aE hBk]
    refine ⟨by rw [aZ];omega,by omega,?_⟩
    rw [e2,gV,<- eN]
    simp [bU (uc es i1),ndD,aZ]
    refine au (Nat × Nat × List (List D)) (fun s=>[(5,.sl (ndR n es)),(6,.ref (.r 10096) 0 n),(10096,.blk 1 (wtA n (wt2 n es (aF n es m) i s.1))),(11,.ref (.r 10176) s.2.1 (rd2 n es (aF n es m) i s.1).length),(10176,.blk 1 s.2.2),(12,.ref (.r 10192) 0 (m + 1)),(10192,.blk 1 (a7 (aF n es (m + 1)))),(74,.sl (a7 (nxt n es i))),(75,.int .i64 (nxt n es i).length),(76,.int .i64 s.1)])
     (fun s=>s.1 <= (nxt n es i).length /\ s.2.1 + (rd2 n es (aF n es m) i s.1).length <= s.2.2.length /\ (s.2.2.drop s.2.1).take (rd2 n es (aF n es m) i s.1).length=a7 (rd2 n es (aF n es m) i s.1)) (fun s=>(nxt n es i).length - s.1) (0,k + 1,B) (by simp [rM hr];exact ⟨by omega,hBr⟩) (by simp [rM hr,ndD,Rg]) ?_
    rintro ⟨j,k',B'⟩ ⟨hj,hkB',hB'⟩
    simp only at hj hkB' hB'
    simp
    refine ac (fun g=>?_) (fun g=>?_) <;> simp [g] <;> simp at g
    ·have hw2 : IntKind.wrap .i64 ((j : Int) + 1)=((j + 1 : Nat) : Int):=wrap_i64 (by omega) (by omega)
     obtain ⟨k1,k2⟩:=gn.1 (x0h g)
     have hw0 : wt2 n es (aF n es m) i j (nxt n es i)[j]=fe n es (aF n es m++[i]) (nxt n es i)[j] + 1:=by
      unfold wt2
      rw [if_neg (ue g),oO i1 i2,if_pos k2]
     have hcl : fe n es (aF n es m++[i]) (nxt n es i)[j] <= n:=by
      have:=x03 (fun u=>es.contains (u,(nxt n es i)[j]) && !(aF n es m++[i]).contains u) (List.range n)
      simpa [fe] using this
     have hwv : IntKind.wrap .i64 ((wt2 n es (aF n es m) i j (nxt n es i)[j] : Int) - 1)=(fe n es (aF n es m++[i]) (nxt n es i)[j] : Int):=wrap_i64 (by omega) (by omega)
     have ew:=uS (n:=n) (v:=(nxt n es i)[j]) (wt2 n es (aF n es m) i j) (fe n es (aF n es m++[i]) (nxt n es i)[j])
     have ew2 : (wtA n fun u=>if u=(nxt n es i)[j] then fe n es (aF n es m++[i]) (nxt n es i)[j] else wt2 n es (aF n es m) i j u)=wtA n (wt2 n es (aF n es m) i (j + 1)):=iq fun v _=>by
      rw [so g]
      by_cases e : v=(nxt n es i)[j]
      ·rw [if_pos e,if_pos e,e]
      ·rw [if_neg e,if_neg e]
     rw [ew2] at ew
     have hwn : wt2 n es (aF n es m) i (j + 1) (nxt n es i)[j]=fe n es (aF n es m++[i]) (nxt n es i)[j]:=by rw [so g,if_pos rfl]
     simp [g,bU (nA g),k1,aE (jO _ k1),jO _ k1,hwv,ew,hwn]
     have hl2:=Bu n es (aF n es m) i j
     have p0:=oP hg (out:=aF n es m++[i]) (k:=(nxt n es i)[j])
     refine ac (fun c=>?_) (fun c=>?_) <;> simp at c
     ·have pk:=p0.1 c
      have hins:=Bt hI hr g pk
      have kb:=u9 hC (rd2 n es (aF n es m) i j) (nxt n es i)[j] (Br n es _ i j) (by omega)
      have hpl:=uj (rd2 n es (aF n es m) i j) (nxt n es i)[j]
      have kI:=hS.insert ((rd2 n es (aF n es m) i j).map fun k : Nat=>(k : Int)) (dF (rd2 n es (aF n es m) i j) (nxt n es i)[j]) (nxt n es i)[j] (by simpa using hpl) (by simp;omega)
      have eI : ((((rd2 n es (aF n es m) i j).map fun k : Nat=>(k : Int)).take (dF (rd2 n es (aF n es m) i j) (nxt n es i)[j])++((nxt n es i)[j] : Int)::((rd2 n es (aF n es m) i j).map fun k : Nat=>(k : Int)).drop (dF (rd2 n es (aF n es m) i j) (nxt n es i)[j])).map fun n=>[D.int .i64 n])=a7 (rd2 n es (aF n es m) i (j + 1)):=by
       rw [<- hins]
       simp [a7]
       rfl
      rw [eI,<- lN] at kI
      have e4 : (a7 (rd2 n es (aF n es m) i j)).map (fun e=>e.map aS)=a7 (rd2 n es (aF n es m) i j):=by simp [a7,aS]
      have e5 : (((B'.drop k').take (rd2 n es (aF n es m) i j).length).map fun e=>e.map aS)=a7 (rd2 n es (aF n es m) i j):=by rw [hB',e4]
      simp [hkB']
      simp at e5
      rw [e5]
      refine aa kb (.inl rfl) ?_
      simp [hkB',hB']
      refine ⟨fun e he=>(p5 e he).2,?_⟩
      refine tK kI p5 ?_
      simp [hw2,aZ]
      exact ⟨j + 1,0,a7 (rd2 n es (aF n es m) i (j + 1)),⟨by omega,by simp [aZ],by simp [gW]⟩,by omega,by simp⟩
     ·have pk : f9 es (aF n es m++[i]) (nxt n es i)[j]=false:=by
       rw [<- x1M]
       exact fun e=>c (p0.2 e)
      have hsame:=yy g pk
      simp [hw2]
      exact ⟨j + 1,k',B',⟨by omega,by rw [hsame];exact hkB',by rw [hsame];exact hB'⟩,by omega,by simp [hsame]⟩
    ·have ej : j=(nxt n es i).length:=by omega
     subst ej
     have er:=Bs hI hr
     rw [<- eN] at er
     rw [er] at hkB' hB' ⊢
     exact ⟨m + 1,k',B',⟨by rw [eN];simp [hm],hkB',hB'⟩,by omega,iq fun v hv=>by rw [Cj i1 i2 hv,eN],by simp⟩
end Go.Gv

namespace Go.Gv
def x6 (n : Nat) (es : List Edg) : Int:=if (bi n es).length < n then 22 else 0
def x7 (n : Nat) (es : List Edg) : D:=if (bi n es).length < n then .nils else ndD (bi n es)
def cN (n : Nat) (es : List Edg) : Bool:=decide ((es.map (·.1)).Nodup) && decide ((bi n es).length=n)
def iO (es : List Edg) (j : Nat) : List Nat:=(es.take j).map (·.1)
theorem fS {es : List Edg} {j : Nat} (h : j < es.length) : iO es (j + 1)=iO es j++[es[j].1]:=by
 unfold iO
 rw [x0v h,x1o]
 rfl
@[simp] theorem Rb (es : List Edg) : iO es 0=[]:=rfl
theorem se (es : List Edg) : iO es es.length=es.map (·.1):=by simp [iO]
theorem uF {es : List Edg} {j : Nat} (h : ¬ (iO es j).Nodup) : ¬ (es.map (·.1)).Nodup:=by
 intro h2
 apply h
 unfold iO
 rw [List.map_take]
 exact h2.sublist (List.take_sublist _ _)
def edT (es : List Edg) (j : Nat) : List (List D):=(es.take j).map edK
theorem ni {es : List Edg} {j : Nat} (h : j < es.length) : edT es (j + 1)=edT es j++[edK es[j]]:=by
 unfold edT
 rw [x0v h,x1o]
 rfl
@[simp] theorem Rm (es : List Edg) : edT es 0=[]:=rfl
theorem jB {es : List Edg} {j : Nat} (h : j <= es.length) : (edT es j).length=j:=by simp [edT];omega
theorem pP (es : List Edg) : edT es es.length=es.map edK:=by simp [edT]
theorem CI (es : List Edg) (j : Nat) : (edT es j).map (fun e=>e.map aS)=edT es j:=by
 unfold edT
 rw [x1U]
 apply x0j
 intro e _
 simp [edK,knD,aS]
def oh (n : Nat) (es : List Edg) (j : Nat) : List (List D):=(List.range n).map fun v=>[.bool (decide (v ∈ iO es j))]
theorem l6 {n v : Nat} (es : List Edg) (j : Nat) (h : v < n) : (oh n es j)[v]? = some [.bool (decide (v ∈ iO es j))]:=by simp [oh,h]
def av (ns : List Nod) (ls : List Lnk) : List Edg:=ls.map fun l=>((bx (bI l.src) ns).toNat,(bx (bI l.dst) ns).toNat)
theorem aH (ns : List Nod) (ls : List Lnk) : (av ns ls).length=ls.length:=by simp [av]
theorem ci {ns : List Nod} {ls : List Lnk} (h : bP ns ls=true) : ns.length <= 300 /\ ls.length <= 400:=by
 simp only [bP,x0a,x0b] at h
 exact ⟨h.1.1.1,h.1.1.2⟩
theorem eM {ns : List Nod} {ls : List Lnk} (h : bP ns ls=true) {i : Nat} (hi : i < ls.length) : co ls[i]=true /\ bx (jd ls[i].name) ls=(i : Int) /\ 0 <= bx (bI ls[i].src) ns /\ 0 <= bx (bI ls[i].dst) ns:=by
 simp only [bP,x0a,x0g,x1C] at h
 have:=h.2 i hi
 simp only [dg,x0f ls i hi,gD,x0a,x0b] at this
 exact ⟨this.1.1.1,this.1.1.2,this.1.2.1,this.2⟩
theorem lT {ns : List Nod} {ls : List Lnk} (h : bP ns ls=true) {i : Nat} (hi : i < ns.length) : f8 ns[i]=true /\ bx (bI ns[i].name) ns=(i : Int):=by
 simp only [bP,x0a,x0g,x1C] at h
 have:=h.1.2 i hi
 simpa only [go,x0f ns i hi,x0a,x0b] using this
theorem fd {ns : List Nod} {ls : List Lnk} (h : bP ns ls=true) : inG ns.length (av ns ls):=by
 intro e he
 simp only [av,x0u] at he
 obtain ⟨l,hl,rfl⟩:=he
 obtain ⟨i,hi,rfl⟩:=x0A.1 hl
 obtain ⟨_,_,h1,h2⟩:=eM h hi
 exact ⟨jD h1,jD h2⟩
variable {C : CC} (hC : aw prog C)
include hC
theorem xC (hS : SlC C) {b : Bool} {n : Nat} {es : List Edg} (hn : n <= 300) (he : es.length <= 1000) (hg : inG n es) : C 511 [.int .i64 n,slx b (es.map edK)] (.tup [x7 n es,.int .i64 (x6 n es)]) []:=by
 have k1:=qO hC b n (es.map edI) (by simp;omega)
 rw [<- tL,xB hC hn he hg] at k1
 have k2:=ug hC hS (b:=b) hn he hg
 refine ai hC (nf:=N511) rfl rfl ?_
 simp [N511]
 refine aa k1 (.inl rfl) ?_
 simp
 refine aa k2 (.inr rfl) ?_
 unfold x7 x6
 simp [ndD,aZ]
 refine ac (fun c=>?_) (fun c=>?_) <;> simp at c <;> simp [c]
theorem AR (hS : SlC C) {b : Bool} {n : Nat} {es : List Edg} (hn : n <= 300) (he : es.length <= 1000) (hg : inG n es) : C 472 [.int .i64 n,slx b (es.map edK)] (.bool (cN n es)) []:=by
 have k1:=qO hC b n (es.map edI) (by simp;omega)
 rw [<- tL,xB hC hn he hg] at k1
 have k2:=ug hC hS (b:=b) hn he hg
 obtain ⟨r,hr⟩ : ∃ r,r=cN n es:=⟨_,rfl⟩
 rw [<- hr]
 unfold cN at hr
 refine ai hC (nf:=N472) rfl rfl ?_
 simp [N472]
 refine aa k1 (.inl rfl) ?_
 simp
 refine ⟨by omega,?_⟩
 refine au Nat (fun j=>[(0,.int .i64 n),(1,slx b (es.map edK)),(5,.ref (.r 10080) 0 n),(10080,.blk 1 (oh n es j)),(14,slx b (es.map edK)),(15,.int .i64 es.length),(16,.int .i64 j)]) (fun j=>j <= es.length /\ (iO es j).Nodup) (fun j=>es.length - j) 0 (by simp) (by simp [oh,jG]) ?_
 rintro j ⟨hj,hnd⟩
 simp
 refine ac (fun h=>?_) (fun h=>?_) <;> simp [h] <;> simp at h
 ·have hw : IntKind.wrap .i64 ((j : Int) + 1)=((j + 1 : Nat) : Int):=wrap_i64 (by omega) (by omega)
  have hin:=hg _ (x0h h)
  simp [h,edK,knD,hin,aE (l6 es j hin.1),l6 es j hin.1]
  refine ac (fun c=>?_) (fun c=>?_) <;> simp at c
  ·have hbad : ¬ (iO es (j + 1)).Nodup:=by
    rw [fS h,x1g]
    rintro ⟨_,_,h3⟩
    exact h3 _ c _ (by simp) rfl
   simp [hr,uF hbad]
  ·have e1 : (oh n es j).set es[j].1 [.bool true]=oh n es (j + 1):=by
    unfold oh
    rw [iH]
    apply x0j
    intro v _
    rw [fS h]
    by_cases e : v=es[j].1
    ·subst e;simp
    ·simp [e]
   have hnd2 : (iO es (j + 1)).Nodup:=by
    rw [fS h,x1g]
    refine ⟨hnd,by simp,fun a ha b hb=>?_⟩
    simp at hb
    subst hb
    rintro rfl
    exact c ha
   simp [hin,l6 es j hin.1,e1,hw]
   exact ⟨j + 1,⟨by omega,hnd2⟩,by omega,rfl,by omega⟩
 ·have ej : j=es.length:=by omega
  rw [ej,se] at hnd
  refine aa k2 (.inr rfl) ?_
  simp [ndD,aZ,hr,hnd]
  omega
theorem rr (b1 b2 : Bool) (ns : List Nod) (ls : List Lnk) (hv : bP ns ls=true) : C 499 [.agg [slx b1 (ns.map aQ),slx b2 (ls.map ay)]] (.sl ((av ns ls).map edK)) []:=by
 obtain ⟨hl1,hl2⟩:=ci hv
 refine ai hC (nf:=N499) rfl rfl ?_
 simp [N499]
 refine au Nat (fun j=>[(1,.ptr [slx b1 (ns.map aQ),slx b2 (ls.map ay)]),(3,.ref (.r 10048) 0 j),(10048,.blk 2 (edT (av ns ls) j)),(7,slx b2 (ls.map ay)),(8,.int .i64 ls.length),(9,.int .i64 j)]) (fun j=>j <= ls.length) (fun j=>ls.length - j) 0 (by simp) (by simp) ?_
 rintro j hj
 simp
 refine ac (fun h=>?_) (fun h=>?_) <;> simp [h] <;> simp at h
 ·have hw : IntKind.wrap .i64 ((j : Int) + 1)=((j + 1 : Nat) : Int):=wrap_i64 (by omega) (by omega)
  obtain ⟨_,_,g1,g2⟩:=eM hv h
  have k1:=nH hC b1 b2 ns ls ls[j].src (by omega)
  have k2:=nH hC b1 b2 ns ls ls[j].dst (by omega)
  have hjl : j < (av ns ls).length:=by rw [aH];exact h
  have el:=jB (es:=av ns ls) (j:=j) (by omega)
  simp [h,ay,el]
  refine aa k1 (.inl rfl) ?_
  simp
  refine aa k2 (.inl rfl) ?_
  simp [el]
  refine ⟨by omega,am (by decide +kernel),j + 1,by omega,by omega,rfl,?_,hw⟩
  have e2 : (edT (av ns ls) j).take j=edT (av ns ls) j:=x0q (by omega)
  rw [e2,ni hjl]
  congr 2
  simp only [av,x1K,edK,knD]
  rw [x1Y g1,x1Y g2]
 ·have ej : j=ls.length:=by omega
  subst ej
  have e0:=pP (av ns ls)
  have el:=jB (es:=av ns ls) (j:=ls.length) (by rw [aH];exact x0p _)
  rw [aH] at e0
  simp [CI,el]
  rw [<- e0,x0q (by omega)]
theorem m6 (b1 b2 : Bool) (ns : List Nod) (ls : List Lnk) (hcv : ∀ l ∈ ls,l.curve.length < 2 ^ 62) : C 471 [.agg [slx b1 (ns.map aQ),slx b2 (ls.map ay)]] (.tup (if bP ns ls then [.sl ((av ns ls).map edK),.int .i64 0] else [.nils,.int .i64 1])) []:=by
 refine ai hC (nf:=N471) rfl rfl ?_
 simp [N471]
 refine aa (qb hC b1 b2 ns ls hcv) (.inl rfl) ?_
 cases hv : bP ns ls
 ·simp
 ·simp
  refine aa (rr hC b1 b2 ns ls hv) (.inr rfl) ?_
  simp
theorem wB (hS : SlC C) (b1 b2 : Bool) (ns : List Nod) (ls : List Lnk) (hcv : ∀ l ∈ ls,l.curve.length < 2 ^ 62) : C 495 [.agg [slx b1 (ns.map aQ),slx b2 (ls.map ay)]] (.tup (if bP ns ls then [x7 ns.length (av ns ls),.int .i64 (x6 ns.length (av ns ls))] else [.nils,.int .i64 1])) []:=by
 refine ai hC (nf:=N495) rfl rfl ?_
 simp [N495]
 refine aa (qb hC b1 b2 ns ls hcv) (.inl rfl) ?_
 cases hv : bP ns ls
 ·simp
 ·obtain ⟨l1,l2⟩:=ci hv
  have k:=xC hC hS (b:=false) (n:=ns.length) (es:=av ns ls) l1 (by rw [aH];omega) (fd hv)
  simp
  refine aa (rr hC b1 b2 ns ls hv) (.inr rfl) ?_
  simp at k ⊢
  refine aa k (.inr rfl) ?_
  unfold x7 x6 ndD
  split <;> simp
  ·exact ⟨am (by decide +kernel),by omega⟩
  ·exact ⟨am (by decide +kernel),by omega⟩
theorem vJ (l : Lnk) : C 470 [.agg (ay l)] (.bool (!decide (l.kind=1))) []:=by
 refine ai hC (nf:=N470) rfl rfl ?_
 simp [N470,ay]
theorem nu {b : Bool} {xs : List Lnk} {g : Nat} {cs : List D} (p : Lnk -> Bool) (hs : xs.length < 2 ^ 62) (hp : ∀ x ∈ xs,C g (.agg (ay x)::cs) (.bool (p x)) []) : C 455 [slx b (xs.map fun x=>ay x),.fn g cs] (.bool (xs.any p)) []:=by
 refine ai hC (nf:=N455) rfl rfl ?_
 simp [N455]
 refine aa (qP hC p hs hp) (.inl rfl) ?_
 simp [fX]
theorem xG {b : Bool} {xs : List Nod} {g : Nat} {cs : List D} (p : Nod -> Bool) (hs : xs.length < 2 ^ 62) (hp : ∀ x ∈ xs,C g (.agg (aQ x)::cs) (.bool (p x)) []) : C 453 [slx b (xs.map fun x=>aQ x),.fn g cs] (.bool (xs.any p)) []:=by
 refine ai hC (nf:=N453) rfl rfl ?_
 simp [N453]
 refine aa (qQ hC p hs hp) (.inl rfl) ?_
 simp [fX]
def cx (ns : List Nod) (ls : List Lnk) : Bool:=bP ns ls && ls.all (fun l=>decide (l.kind=1)) && cN ns.length (av ns ls)
theorem uy (hS : SlC C) (b1 b2 : Bool) (ns : List Nod) (ls : List Lnk) (hl : ls.length < 2 ^ 62) (hcv : ∀ l ∈ ls,l.curve.length < 2 ^ 62) : C 433 [.agg [slx b1 (ns.map aQ),slx b2 (ls.map ay)]] (.bool (cx ns ls)) []:=by
 have k1:=nu hC (b:=b2) (xs:=ls) (g:=470) (cs:=[]) (fun l=>!decide (l.kind=1)) hl (fun x _=>vJ hC x)
 have k2:=m6 hC b1 b2 ns ls hcv
 have e1 : (ls.any fun l=>!decide (l.kind=1))=!(ls.all fun l=>decide (l.kind=1)):=by simp [List.any_eq_not_all_not]
 rw [e1] at k1
 refine ai hC (nf:=N433) rfl rfl ?_
 simp [N433]
 refine aa k1 (.inl rfl) ?_
 unfold cx
 cases h1 : ls.all (fun l=>decide (l.kind=1))
 ·simp
 simp
 cases hv : bP ns ls
 ·rw [hv] at k2
  refine aa k2 (.inr rfl) ?_
  simp
 ·rw [hv] at k2
  obtain ⟨l1,l2⟩:=ci hv
  have k:=AR hC hS (b:=false) (n:=ns.length) (es:=av ns ls) l1 (by rw [aH];omega) (fd hv)
  refine aa k2 (.inr rfl) ?_
  simp at k ⊢
  refine aa k (.inl rfl) ?_
  simp
end Go.Gv

namespace Go.Gv
abbrev Sp:=Int × Int
def vr (n : Int) : Bool:=decide (-72057594037927936 <= n) && decide (n <= 72057594037927936)
def da (s : Sp) : Bool:=decide (s.1 <= s.2) && vr s.1 && vr s.2
def fK (s : Sp) : Bool:=decide (s.1 < 0) || decide (1099511627776 < s.2)
def fy (l : List Sp) (count : Int) : Int:=if l.any (fun s=>!da s) then 1 else if (l.length : Int)=count then (if l.any fK then 2 else 0) else 3
def wj (a b : Sp) : Sp:=(IntKind.wrap .i64 (a.1 + b.1),IntKind.wrap .i64 (a.2 + b.2))
abbrev FSt:=(Nat -> Sp) × (Nat -> Sp)
def mg (i k : Nat) (e : Edg) (s : FSt) : FSt:=if e.1=i then (fun v=>if v=e.2 then wj (s.1 e.2) (s.1 i) else s.1 v,fun q=>if q=k then s.1 i else s.2 q) else s
def flI (es : List Edg) (i : Nat) (s : FSt) : Nat -> FSt
 | 0=>s
 | k + 1=>mg i k es[k]! (flI es i s k)
def flO (es : List Edg) (ord : List Nat) (s : FSt) : Nat -> FSt
 | 0=>s
 | m + 1=>flI es ord[m]! (flO es ord s m) es.length
def flS (l : List Sp) : FSt:=(fun v=>l[v]!,fun _=>(0,0))
def aD (n : Nat) (es : List Edg) (l : List Sp) : List Sp:=(List.range es.length).map (flO es (bi n es) (flS l) (bi n es).length).2
def iV (l : List Sp) : Bool:=l.any fun s=>decide (1099511627776 < s.2)
def bK (n : Nat) (es : List Edg) (l : List Sp) : Int:=if iV (aD n es l) then 5 else 0
def sK (n : Nat) (es : List Edg) (l : List Sp) : D:=if iV (aD n es l) then .nils else .sl ((aD n es l).map knD)
def spR (n : Nat) (f : Nat -> Sp) : List (List D):=(List.range n).map fun v=>knD (f v)
theorem E3 (n : Nat) (f : Nat -> Sp) : spR n f=((List.range n).map f).map knD:=by simp [spR]
theorem De (n : Nat) (f : Nat -> Sp) : (spR n f).map (fun e=>e.map aS)=spR n f:=by
 unfold spR
 rw [x1U]
 apply x0j
 intro v _
 simp [knD,aS]
theorem lc (n : Nat) (f : Nat -> Sp) : (spR n f).length=n:=by simp [spR]
theorem mX {n v : Nat} (f : Nat -> Sp) (h : v < n) : (spR n f)[v]? = some [.int .i64 (f v).1,.int .i64 (f v).2]:=by simp [spR,h,knD]
theorem uE {n v : Nat} (f : Nat -> Sp) (x : Sp) : (spR n f).set v [.int .i64 x.1,.int .i64 x.2]=spR n fun u=>if u=v then x else f u:=by
 unfold spR
 rw [iH]
 apply x0j
 intro u _
 by_cases h : u=v <;> simp [h,knD]
variable {C : CC} (hC : aw prog C)
include hC
theorem xw (n : Int) : C 510 [.int .i64 n] (.bool (vr n)) []:=by
 refine ai hC (nf:=N510) rfl rfl ?_
 simp [N510,vr]
 refine ac (fun h=>?_) (fun h=>?_) <;> simp at h <;> simp [h]
 intro _;omega
theorem tv (s : Sp) : C 493 [.agg (knD s)] (.bool (da s)) []:=by
 refine ai hC (nf:=N493) rfl rfl ?_
 simp [N493,knD]
 refine ac (fun h=>?_) (fun h=>?_) <;> simp at h <;> simp [h]
 ·refine aa (xw hC s.1) (.inl rfl) ?_
  cases h1 : vr s.1
  ·simp [da,h1]
  ·simp
   refine aa (xw hC s.2) (.inl rfl) ?_
   simp [da,h1,h]
 ·simp [da,show ¬ s.1 <= s.2 by omega]
theorem BT (s : Sp) : C 492 [.agg (knD s)] (.bool (!da s)) []:=by
 have k:=tv hC s
 simp only [knD] at k
 refine ai hC (nf:=N492) rfl rfl ?_
 simp [N492,knD]
 refine aa k (.inl rfl) ?_
 simp
theorem E4 (s : Sp) : C 494 [.agg (knD s)] (.bool (fK s)) []:=by
 refine ai hC (nf:=N494) rfl rfl ?_
 simp [N494,knD,fK]
 by_cases h : s.1 < 0 <;> simp [h]
theorem BU (s : Sp) : C 497 [.agg (knD s)] (.bool (decide (1099511627776 < s.2))) []:=by
 refine ai hC (nf:=N497) rfl rfl ?_
 simp [N497,knD]
theorem AX {b : Bool} {xs : List (Int × Int)} {g : Nat} {cs : List D} (p : (Int × Int) -> Bool) (hs : xs.length < 2 ^ 62) (hp : ∀ x ∈ xs,C g (.agg (knD x)::cs) (.bool (p x)) []) : C 509 [slx b (xs.map fun x=>knD x),.fn g cs] (.int .i64 (bx p xs)) []:=by
 refine ai hC (nf:=N509) rfl rfl ?_
 simp [N509]
 refine au Nat (fun i=>[(0,slx b (xs.map fun x=>knD x)),(1,.fn g cs),(7,.int .i64 xs.length),(8,.int .i64 i)]) (fun i=>i <= xs.length /\ ∀ (j : Nat) (h : j < xs.length),j < i -> p xs[j]=false) (fun i=>xs.length - i) 0 (by simp) (by simp) ?_
 rintro i ⟨hi,hj⟩
 simp
 refine ac (fun h=>?_) (fun h=>?_) <;> simp [h] <;> simp at h
 ·have hw : IntKind.wrap .i64 ((i : Int) + 1)=((i + 1 : Nat) : Int):=wrap_i64 (by omega) (by omega)
  have hc:=hp _ (x0h h)
  simp [h,knD] at hc ⊢
  refine aa hc (.inl rfl) ?_
  simp
  refine ac (fun h1=>?_) (fun h1=>?_) <;> simp [h1,hw]
  ·rw [cz hj h h1]
  ·refine ⟨i + 1,⟨by omega,fun j hl hjj=>?_⟩,by omega,rfl⟩
   rcases x0i.1 hjj with h2 | rfl
   ·exact hj j hl h2
   ·exact h1
 ·rw [cH (fun j hl=>hj j hl (by omega))]
theorem kN {b : Bool} {xs : List (Int × Int)} {g : Nat} {cs : List D} (p : (Int × Int) -> Bool) (hs : xs.length < 2 ^ 62) (hp : ∀ x ∈ xs,C g (.agg (knD x)::cs) (.bool (p x)) []) : C 491 [slx b (xs.map fun x=>knD x),.fn g cs] (.bool (xs.any p)) []:=by
 refine ai hC (nf:=N491) rfl rfl ?_
 simp [N491]
 refine aa (AX hC p hs hp) (.inl rfl) ?_
 simp [fX]
theorem BY (b : Bool) (l : List Sp) (count : Int) (hl : l.length < 2 ^ 62) : C 460 [slx b (l.map knD),.int .i64 count] (.int .i64 (fy l count)) []:=by
 have k1:=kN hC (b:=b) (xs:=l) (g:=492) (cs:=[]) (fun s=>!da s) hl (fun x _=>BT hC x)
 have k2:=kN hC (b:=b) (xs:=l) (g:=494) (cs:=[]) fK hl (fun x _=>E4 hC x)
 refine ai hC (nf:=N460) rfl rfl ?_
 simp [N460]
 refine aa k1 (.inl rfl) ?_
 unfold fy
 cases h1 : l.any (fun s=>!da s)
 ·simp
  by_cases h2 : (l.length : Int)=count
  ·simp [h2]
   refine aa k2 (.inl rfl) ?_
   cases h3 : l.any fK <;> simp [h2]
  ·simp [h2]
 ·simp
theorem vg (b : Bool) (l : List Sp) (hl : l.length < 2 ^ 40) : C 496 [slx b (l.map knD)] .any [.own 2 (l.map knD)]:=by
 have hf : ∀ e ∈ l.map knD,e.length=2 /\ (∀ c ∈ e,aK c=true) /\ ∀ c ∈ e,bG c=true:=by
  intro e he
  obtain ⟨s,_,rfl⟩:=x0u.1 he
  simp [knD,aK,bG]
 cases l with
 | nil =>
  cases b with
  | true =>
   show C 496 [.nils] .any [.own 2 []]
   refine kq hC (nf:=N496) rfl rfl ?_
   simp [N496]
  | false =>
   show C 496 [.sl []] .any [.own 2 []]
   refine kq hC (nf:=N496) rfl rfl ?_
   simp [N496]
 | cons x xs =>
  have e : slx b ((x::xs).map knD)=.sl ((x::xs).map knD):=by cases b <;> rfl
  rw [e]
  obtain ⟨l,hl2⟩ : ∃ l,l=(x::xs).map knD:=⟨_,rfl⟩
  have h : 0 < l.length:=by rw [hl2];simp
  have h2 : l.length < 1099511627776:=by rw [hl2];simpa using hl
  rw [<- hl2] at hf ⊢
  clear hl2 e hl
  refine kq hC (nf:=N496) rfl rfl ?_
  simp [N496]
  refine ⟨fun _=>⟨fun e he=>⟨(hf e he).1,(hf e he).2.1⟩,by omega,fun e he=>(hf e he).2.2⟩,fun h0=>?_⟩
  subst h0
  simp at h
set_option maxRecDepth 20000 in
set_option maxHeartbeats 2000000 in
theorem yO (hS : SlC C) (b1 b2 b : Bool) (ns : List Nod) (ls : List Lnk) (l : List Sp) (hcv : ∀ l ∈ ls,l.curve.length < 2 ^ 62) (ht : cx ns ls=true) (hl : l.length=ns.length) : C 461 [.agg [slx b1 (ns.map aQ),slx b2 (ls.map ay)],slx b (l.map knD)] (.tup [sK ns.length (av ns ls) l,.int .i64 (bK ns.length (av ns ls) l)]) []:=by
 simp only [cx,cN,x0a,x0b] at ht
 obtain ⟨⟨hv,_⟩,_,hlen⟩:=ht
 obtain ⟨l1,l2⟩:=ci hv
 have k1:=wB hC hS b1 b2 ns ls hcv
 have k2:=m6 hC b1 b2 ns ls hcv
 have k3:=vg hC b l (by omega)
 have hg:=fd hv
 have hel:=aH ns ls
 rw [hv] at k1 k2
 rw [x7,x6,hlen,if_neg (Nat.lt_irrefl _),if_neg (Nat.lt_irrefl _)] at k1
 simp only [if_true] at k1 k2
 refine ai hC (nf:=N461) rfl rfl ?_
 simp [N461]
 refine aa k1 (.inr rfl) ?_
 simp [ndD]
 refine aa k2 (.inr rfl) ?_
 have hfv : aD ns.length (av ns ls) l=(List.range (av ns ls).length).map (flO (av ns ls) (bi ns.length (av ns ls)) (flS l) ns.length).2:=by unfold aD;rw [hlen]
 have hI:=gI ns.length (av ns ls) ns.length
 have hIl : ∀ v ∈ bi ns.length (av ns ls),v < ns.length:=hI.lt
 clear hI
 unfold sK bK
 rw [hfv]
 clear hfv
 generalize bi ns.length (av ns ls)=ord at *
 generalize av ns ls=es at *
 generalize ns.length=n at *
 simp [<- hel]
 refine ⟨by omega,?_⟩
 refine gP k3 ?_
 simp [hl]
 refine au Nat (fun m=>[(8,.sl (es.map edK)),(9,.ref (.r 10144) 0 es.length),(10144,.blk 2 (spR es.length (flO es ord (flS l) m).2)),(10,.ref (.r 10160) 0 n),(10160,.blk 2 (spR n (flO es ord (flS l) m).1)),(38,.sl (a7 ord)),(39,.int .i64 n),(40,.int .i64 m)]) (fun m=>m <= n) (fun m=>n - m) 0 (by simp) (by
  simp [flO,flS,hl,aZ,hlen]
  refine ⟨by simp [spR,jG,knD],?_⟩
  apply x1L
  ·simp [spR,hl]
  ·intro i h1 h2
   have : i < l.length:=by simpa using h1
   simp [spR,this]) ?_
 rintro m hm
 simp
 refine ac (fun h=>?_) (fun h=>?_) <;> simp [h] <;> simp at h
 ·have hw : IntKind.wrap .i64 ((m : Int) + 1)=((m + 1 : Nat) : Int):=wrap_i64 (by omega) (by omega)
  have hmo : m < ord.length:=by omega
  have hin:=hIl _ (x0h hmo)
  simp [bU (nA hmo)]
  refine au Nat (fun k=>[(8,.sl (es.map edK)),(9,.ref (.r 10144) 0 es.length),(10144,.blk 2 (spR es.length (flI es ord[m] (flO es ord (flS l) m) k).2)),(10,.ref (.r 10160) 0 n),(10160,.blk 2 (spR n (flI es ord[m] (flO es ord (flS l) m) k).1)),(12,.int .i64 ord[m]),(38,.sl (a7 ord)),(39,.int .i64 n),(40,.int .i64 m),(44,.sl (es.map edK)),(45,.int .i64 es.length),(46,.int .i64 k)]) (fun k=>k <= es.length) (fun k=>es.length - k) 0 (by simp) (by simp [flI]) ?_
  rintro k hk
  simp
  refine ac (fun g=>?_) (fun g=>?_) <;> simp [g] <;> simp at g
  ·have hw2 : IntKind.wrap .i64 ((k : Int) + 1)=((k + 1 : Nat) : Int):=wrap_i64 (by omega) (by omega)
   have he:=hg _ (x0h g)
   have eg : es[k]! = es[k]:=x0f es k g
   have efl : flI es ord[m] (flO es ord (flS l) m) (k + 1)=mg ord[m] k es[k] (flI es ord[m] (flO es ord (flS l) m) k):=by rw [flI,eg]
   generalize flI es ord[m] (flO es ord (flS l) m) k=s at *
   simp [g,edK,knD]
   refine ac (fun c=>?_) (fun c=>?_) <;> simp at c <;> simp [c]
   ·have c' : es[k].1 ≠ ord[m]:=by omega
    have e2 : flI es ord[m] (flO es ord (flS l) m) (k + 1)=s:=by rw [efl,mg,if_neg c']
    refine ⟨k + 1,by omega,by omega,?_⟩
    simp [e2,hw2]
   ·have eg2 : es[k]=es[k]?.getD default:=by simp [g]
    have c' : es[k].1=ord[m]:=by omega
    have e2 : flI es ord[m] (flO es ord (flS l) m) (k + 1)=(fun v=>if v=es[k].2 then wj (s.1 es[k].2) (s.1 ord[m]) else s.1 v,fun q=>if q=k then s.1 ord[m] else s.2 q):=by rw [efl,mg,if_pos c']
    simp [g,edK,knD,hin,he,aE (mX _ hin),mX _ g,aE (mX _ he.2),mX _ he.2]
    have hset : ∀ x,((spR n s.1).set es[k].2 x)[es[k].2]? = some x:=fun x=>by simp [lc,he.2]
    simp [hset]
    refine ⟨am (by decide +kernel),?_⟩
    simp [hw2]
    refine ⟨k + 1,by omega,by omega,?_,?_,by omega⟩
    ·rw [e2,uE]
    ·rw [e2]
     have:=uE (n:=n) (v:=es[k].2) s.1 (wj (s.1 es[k].2) (s.1 ord[m]))
     exact this
  ·have ek : k=es.length:=by omega
   subst ek
   have eo : ord[m]! = ord[m]:=x0f ord m hmo
   have e2 : flO es ord (flS l) (m + 1)=flI es ord[m] (flO es ord (flS l) m) es.length:=by rw [flO,eo]
   exact ⟨m + 1,by omega,by omega,by rw [e2],by rw [e2],hw⟩
 ·have em : m=n:=by omega
  subst em
  have k4:=kN hC (b:=false) (xs:=(List.range es.length).map (flO es ord (flS l) m).2) (g:=497) (cs:=[]) (fun s=>decide (1099511627776 < s.2)) (by simp;omega) (fun x _=>BU hC x)
  rw [ii,<- E3] at k4
  simp only [De,lc,x0q (Nat.le_of_eq (lc es.length (flO es ord (flS l) m).2))]
  refine ⟨x0p _,?_⟩
  refine aa k4 (.inl rfl) ?_
  show dW _ _ _ _ _ _ _ _ _ (.bool (iV ((List.range es.length).map (flO es ord (flS l) m).2)))
  cases hb : iV ((List.range es.length).map (flO es ord (flS l) m).2)
  ·simp [De,lc]
   rw [x0q (by rw [lc];exact x0p _)]
   simp [spR]
  ·simp
def ir (ns : List Nod) (ls : List Lnk) (l : List Sp) : Int:=if cx ns ls then (if fy l ns.length=0 then bK ns.length (av ns ls) l else fy l ns.length) else 1
def lv (ns : List Nod) (ls : List Lnk) (l : List Sp) : D:=if ir ns ls l=0 then .sl ((aD ns.length (av ns ls) l).map knD) else .nils
theorem za {l : List Sp} {n : Nat} (h : fy l n=0) : l.length=n:=by
 unfold fy at h
 split at h
 ·cases h
 ·split at h
  ·omega
  ·cases h
theorem Af (hS : SlC C) (b1 b2 b : Bool) (ns : List Nod) (ls : List Lnk) (l : List Sp) (hls : ls.length < 2 ^ 62) (hl : l.length < 2 ^ 62) (hcv : ∀ l ∈ ls,l.curve.length < 2 ^ 62) : C 428 [.agg [slx b1 (ns.map aQ),slx b2 (ls.map ay)],slx b (l.map knD)] (.tup [lv ns ls l,.int .i64 (ir ns ls l)]) []:=by
 have k1:=uy hC hS b1 b2 ns ls hls hcv
 have k2:=BY hC b l ns.length hl
 refine ai hC (nf:=N428) rfl rfl ?_
 simp [N428]
 refine aa k1 (.inl rfl) ?_
 unfold lv ir
 cases ht : cx ns ls
 ·simp
 simp
 refine aa k2 (.inl rfl) ?_
 by_cases h0 : fy l ns.length=0
 ·have k3:=yO hC hS b1 b2 b ns ls l hcv ht (za hC h0)
  simp [h0]
  unfold sK bK at k3
  unfold bK
  refine aa k3 (.inr rfl) ?_
  cases hb : iV (aD ns.length (av ns ls) l) <;> simp [h0]
 ·simp [h0]
end Go.Gv

namespace Go.Gv
def wS (s : Sp) : Sp:=(IntKind.wrap .i64 s.1,IntKind.wrap .i64 s.2)
def adS (a b : Sp) : Sp:=(a.1 + b.1,a.2 + b.2)
theorem zQ (a b : Int) : IntKind.wrap .i64 (IntKind.wrap .i64 a + b)=IntKind.wrap .i64 (a + b):=by
 simp only [IntKind.wrap_i64]
 omega
theorem Dd (a b : Sp) : wj (wS a) b=wS (adS a b):=by
 simp only [wj,wS,adS,zQ]
def dH (P : Nat -> Bool) (o : Nat -> Sp) : Nat -> Sp
 | 0=>(0,0)
 | k + 1=>if P k then adS (dH P o k) (o k) else dH P o k
theorem fb {P P' : Nat -> Bool} {o o' : Nat -> Sp} : ∀ {K : Nat},(∀ k,k < K -> P k=P' k /\ (P k=true -> o k=o' k)) -> dH P o K=dH P' o' K
 | 0,_=>rfl
 | K + 1,h=>by
  obtain ⟨h1,h2⟩:=h K (by omega)
  have ih:=fb (K:=K) (fun k hk=>h k (by omega))
  unfold dH
  rw [ih,<- h1]
  cases hP : P K
  ·rfl
  ·simp only [if_true];rw [h2 hP]
theorem gN (a : Sp) : adS a (0,0)=a:=by simp [adS]
theorem uY (a b c : Sp) : adS (adS a b) c=adS (adS a c) b:=by simp only [adS];congr 1 <;> omega
theorem oK (a b c : Sp) : adS (adS a b) c=adS a (adS b c):=by simp only [adS];congr 1 <;> omega
theorem sg {P P' : Nat -> Bool} {o o' : Nat -> Sp} {k0 : Nat} (h : ∀ k,k ≠ k0 -> P' k=P k /\ o' k=o k) (h0 : P k0=false) : ∀ K,dH P' o' K=adS (dH P o K) (if k0 < K /\ P' k0=true then o' k0 else (0,0))
 | 0=>by simp [dH,adS]
 | K + 1=>by
  have ih:=sg h h0 K
  unfold dH
  by_cases e : K=k0
  ·subst e
   have e1 : ¬ (K < K /\ P' K=true):=fun h=>Nat.lt_irrefl _ h.1
   rw [if_neg e1,gN] at ih
   rw [h0,ih]
   cases hP : P' K
   ·simp [adS]
   ·simp
  ·obtain ⟨h1,h2⟩:=h K e
   rw [h1,h2,ih]
   have e2 : (k0 < K + 1 /\ P' k0=true) ↔ (k0 < K /\ P' k0=true):=⟨fun x=>⟨by omega,x.2⟩,fun x=>⟨by omega,x.2⟩⟩
   by_cases c : k0 < K /\ P' k0=true
   ·rw [if_pos c,if_pos (e2.2 c)]
    cases P K
    ·rfl
    ·simp only [if_true];exact uY _ _ _
   ·rw [if_neg c,if_neg (fun x=>c (e2.1 x)),gN,gN]
theorem nl {es : List Edg} {i : Nat} {s : FSt} : ∀ {K : Nat},K <= es.length -> (∀ k,(h : k < es.length) -> k < K -> es[k].1 ≠ i) -> flI es i s K=s
 | 0,_,_=>rfl
 | K + 1,hK,h=>by
  have hk : K < es.length:=by omega
  unfold flI
  rw [nl (by omega) (fun k h1 h2=>h k h1 (by omega)),x0f es K hk,mg,if_neg (h K hk (by omega))]
theorem tP {es : List Edg} {i : Nat} {s : FSt} {k0 : Nat} (hk0 : k0 < es.length) (hi : es[k0].1=i) (hu : ∀ k,(h : k < es.length) -> es[k].1=i -> k=k0) : ∀ {K : Nat},K <= es.length -> k0 < K -> flI es i s K=mg i k0 es[k0] s
 | 0,_,h=>by omega
 | K + 1,hK,h=>by
  have hk : K < es.length:=by omega
  unfold flI
  rw [x0f es K hk]
  by_cases e : K=k0
  ·subst e
   rw [nl (by omega) (fun k h1 h2 e=>by have:=hu k h1 e;omega)]
  ·rw [tP hk0 hi hu (by omega) (by omega),mg,if_neg (fun e2=>e (hu K hk e2))]
theorem rD (n : Nat) (es : List Edg) (m : Nat) : ∀ k,aF n es m <+: aF n es (m + k)
 | 0=>List.prefix_refl _
 | k + 1=>by
  refine (rD n es m k).trans ?_
  show _ <+: jt n es (aF n es (m + k))
  unfold jt
  split
  ·exact List.prefix_refl _
  ·exact List.prefix_append _ _
theorem lV (n : Nat) (es : List Edg) : ∀ m k,(aF n es (m + k)).length <= (aF n es m).length + k
 | m,0=>by simp
 | m,k + 1=>by
  have ih:=lV n es m k
  show (jt n es (aF n es (m + k))).length <= _
  unfold jt
  split
  ·omega
  ·simp;omega
theorem jE {n : Nat} {es : List Edg} (h : (bi n es).length=n) {m : Nat} (hm : m <= n) : (bi n es).take m=aF n es m /\ (aF n es m).length=m:=by
 have h1:=lV n es 0 m
 have h2:=lV n es m (n - m)
 have h3:=rD n es m (n - m)
 rw [show m + (n - m)=n by omega] at h2 h3
 simp only [x05] at h1
 have h4 : (aF n es 0).length=0:=rfl
 have hl : (aF n es m).length=m:=by
  have h5 : (aF n es n).length=n:=h
  omega
 refine ⟨?_,hl⟩
 obtain ⟨t,ht⟩:=h3
 show (aF n es n).take m=_
 rw [<- ht,List.take_append_of_le_length (by omega),x0q (by omega)]
theorem ol {es : List Edg} (h : (es.map (·.1)).Nodup) {k k' : Nat} (hk : k < es.length) (hk' : k' < es.length) (e : es[k].1=es[k'].1) : k=k':=by
 have h1 : k < (es.map (·.1)).length:=by simpa using hk
 have h2 : k' < (es.map (·.1)).length:=by simpa using hk'
 have:=(List.getElem_inj (xs:=es.map (·.1)) (i:=k) (j:=k') (h₀:=h1) (h₁:=h2) h).1 (by simpa using e)
 exact this
def inT (es : List Edg) (v : Nat) (done : List Nat) (k : Nat) : Bool:=decide (es[k]!.2=v) && done.contains es[k]!.1
theorem tQ {n : Nat} {es : List Edg} (hg : inG n es) (ht : cN n es=true) {l : List Sp} (hl : ∀ v,v < n -> wS l[v]! = l[v]!) : ∀ m,m <= n ->
  (∀ k,(h : k < es.length) -> es[k].1 ∈ (bi n es).take m -> (flO es (bi n es) (flS l) m).2 k=(flO es (bi n es) (flS l) m).1 es[k].1) /\
  (∀ v,v < n -> (flO es (bi n es) (flS l) m).1 v=wS (adS l[v]! (dH (inT es v ((bi n es).take m)) (flO es (bi n es) (flS l) m).2 es.length)))
 | 0,_=>by
  refine ⟨fun k h hk=>by simp at hk,fun v hv=>?_⟩
  have : dH (inT es v ((bi n es).take 0)) (flS l).2 es.length=dH (fun _=>false) (flS l).2 es.length:=fb fun k hk=>⟨by simp [inT],fun h=>by simp [inT] at h⟩
  have hz : ∀ K,dH (fun _=>false) (flS l).2 K=(0,0):=fun K=>by
   induction K with
   | zero=>rfl
   | succ K ih=>unfold dH;simpa using ih
  show l[v]! = wS (adS l[v]! (dH (inT es v ((bi n es).take 0)) (flS l).2 es.length))
  rw [this,hz,gN,hl v hv]
 | m + 1,hm=>by
  simp only [cN,x0a,x0b] at ht
  obtain ⟨hnd,hlen⟩:=ht
  obtain ⟨ih1,ih2⟩:=tQ hg (by simp [cN,hnd,hlen]) hl m (by omega)
  obtain ⟨t1,t2⟩:=jE hlen (show m <= n by omega)
  obtain ⟨t3,t4⟩:=jE hlen hm
  have hml : m < (bi n es).length:=by omega
  have hI:=gI n es m
  have hI':=gI n es (m + 1)
  have htk : (bi n es).take (m + 1)=(bi n es).take m++[(bi n es)[m]]:=x0v hml
  obtain ⟨i,hi⟩ : ∃ i,i=(bi n es)[m]:=⟨_,rfl⟩
  rw [<- hi] at htk
  have hin : i ∈ aF n es (m + 1):=by rw [<- t3,htk];simp
  have hni : i ∉ (bi n es).take m:=by
   have:=hI'.nd
   rw [<- t3,htk,x1g] at this
   exact fun h=>this.2.2 i h i (by simp) rfl
  have hcl : ∀ u v,u ∈ (bi n es).take m -> (v,u) ∈ es -> v ∈ (bi n es).take m:=fun u v hu he=>by rw [t1] at hu ⊢;exact hI.pre u hu v he
  have hself : (i,i) ∉ es:=by
   intro he
   have : cI n es (aF n es m) ≠ []:=by
    intro e
    have:=kU e 1
    rw [this] at t4
    omega
   cases hr : cI n es (aF n es m) with
   | nil=>exact this hr
   | cons j r =>
    have e1:=ia hr
    have e2 : j=i:=by
     have h5 : aF n es m++[j]=aF n es m++[i]:=by rw [<- e1,<- t3,htk,t1]
     simpa using h5
    have hj : j ∈ cI n es (aF n es m):=by rw [hr];simp
    rw [e2] at hj
    obtain ⟨_,h6,h7⟩:=gY.1 hj
    exact h6 (h7 i he)
  obtain ⟨s,hs⟩ : ∃ s,s=flO es (bi n es) (flS l) m:=⟨_,rfl⟩
  have efl : flO es (bi n es) (flS l) (m + 1)=flI es i s es.length:=by rw [flO,x0f _ m hml,<- hi,<- hs]
  rw [efl]
  rw [<- hs] at ih1 ih2
  by_cases hx : ∃ k,∃ h : k < es.length,es[k].1=i
  ·obtain ⟨k0,hk0,e0⟩:=hx
   have hu : ∀ k,(h : k < es.length) -> es[k].1=i -> k=k0:=fun k h e=>ol hnd h hk0 (e.trans e0.symm)
   rw [tP hk0 e0 hu (x0p _) hk0,mg,if_pos e0]
   have het : (i,es[k0].2) ∈ es:=by rw [<- e0];exact x0h hk0
   have hti : es[k0].2 ≠ i:=fun e=>hself (by rw [e] at het;exact het)
   have htm : es[k0].2 ∉ (bi n es).take m:=fun h=>hni (hcl _ _ h het)
   refine ⟨fun k h hk=>?_,fun v hv=>?_⟩
   ·rw [htk] at hk
    rcases x0o.1 hk with hk | hk
    ·have hne : k ≠ k0:=by rintro rfl;exact hni (e0 ▸ hk)
     have hnt : es[k].1 ≠ es[k0].2:=fun e=>htm (e ▸ hk)
     simp only [if_neg hne,if_neg hnt]
     exact ih1 k h hk
    ·simp only [x1c] at hk
     have : k=k0:=hu k h hk
     subst this
     simp only [if_true]
     rw [if_neg (by rw [hk];exact Ne.symm hti),hk]
   ·have hsum : dH (inT es v ((bi n es).take (m + 1))) (fun q=>if q=k0 then s.1 i else s.2 q) es.length=adS (dH (inT es v ((bi n es).take m)) s.2 es.length) (if es[k0].2=v then s.1 i else (0,0)):=by
     have eK : dH (fun k=>decide (k < es.length) && inT es v ((bi n es).take (m + 1)) k) (fun q=>if q=k0 then s.1 i else s.2 q) es.length=dH (inT es v ((bi n es).take (m + 1))) (fun q=>if q=k0 then s.1 i else s.2 q) es.length:=fb fun k hk=>⟨by simp [hk],fun _=>rfl⟩
     have eK2 : dH (fun k=>decide (k < es.length) && inT es v ((bi n es).take m) k) s.2 es.length=dH (inT es v ((bi n es).take m)) s.2 es.length:=fb fun k hk=>⟨by simp [hk],fun _=>rfl⟩
     rw [<- eK,<- eK2,sg (P:=fun k=>decide (k < es.length) && inT es v ((bi n es).take m) k) (o:=s.2) (k0:=k0) (fun k hk=>⟨?_,by simp [hk]⟩) (by simp [inT,x0f es k0 hk0,e0,hni])]
     ·congr 1
      simp only [if_true]
      by_cases c : es[k0].2=v
      ·rw [if_pos c,if_pos ⟨hk0,by simp [hk0,inT,x0f es k0 hk0,e0,c,htk]⟩]
      ·rw [if_neg c,if_neg (fun h=>by simp [inT,x0f es k0 hk0,c] at h)]
     ·by_cases hkl : k < es.length
      ·have hne : es[k].1 ≠ i:=fun e=>hk (hu k hkl e)
       simp [hkl,inT,htk,hne]
      ·simp [hkl]
    rw [hsum]
    by_cases c : v=es[k0].2
    ·simp only [if_pos c,if_pos c.symm]
     rw [<- c,ih2 v hv,Dd,oK]
    ·simp only [if_neg c,if_neg (Ne.symm c),gN]
     exact ih2 v hv
  ·have hno : ∀ k,(h : k < es.length) -> es[k].1 ≠ i:=fun k h e=>hx ⟨k,h,e⟩
   rw [nl (x0p _) (fun k h _=>hno k h)]
   refine ⟨fun k h hk=>?_,fun v hv=>?_⟩
   ·rw [htk] at hk
    rcases x0o.1 hk with hk | hk
    ·exact ih1 k h hk
    ·exact absurd (by simpa using hk) (hno k h)
   ·rw [ih2 v hv]
    congr 2
    refine fb fun k hk=>⟨?_,fun _=>rfl⟩
    simp [inT,x0f es k hk,htk,hno k hk]
def u4 (es : List Edg) (fl : List Sp) (s0 : Sp) (v : Nat) : Nat -> Sp
 | 0=>s0
 | k + 1=>if es[k]!.2=v then wj (u4 es fl s0 v k) fl[k]! else u4 es fl s0 v k
theorem pI (es : List Edg) (fl : List Sp) (s0 : Sp) (h0 : wS s0=s0) (v : Nat) : ∀ K,u4 es fl s0 v K=wS (adS s0 (dH (fun k=>decide (es[k]!.2=v)) (fun k=>fl[k]!) K))
 | 0=>by simp [u4,dH,gN,h0]
 | K + 1=>by
  have ih:=pI es fl s0 h0 v K
  unfold u4 dH
  by_cases c : es[K]!.2=v
  ·rw [if_pos c,if_pos (by simpa using c),ih,Dd,oK]
  ·rw [if_neg c,if_neg (by simpa using c),ih]
theorem Al {n : Nat} {es : List Edg} (hg : inG n es) (ht : cN n es=true) {l : List Sp} (hl : ∀ v,v < n -> wS l[v]! = l[v]!) {i : Nat} (hi : i < es.length) : (aD n es l)[i]! = u4 es (aD n es l) l[es[i].1]! es[i].1 es.length:=by
 have ht2:=ht
 simp only [cN,x0a,x0b] at ht2
 obtain ⟨h1,h2⟩:=tQ hg ht hl n (x0p _)
 have hv:=(hg _ (x0h hi)).1
 have hfull : (bi n es).take n=bi n es:=x0q (by omega)
 have hI:=gI n es n
 have hmem : ∀ v,v < n -> v ∈ bi n es:=by
  intro v hv
  apply Classical.byContradiction
  intro hn
  have hnd : (v::bi n es).Nodup:=List.nodup_cons.2 ⟨hn,hI.nd⟩
  have hsub : (v::bi n es) ⊆ List.range n:=by
   intro u hu
   rcases x0N.1 hu with rfl | hu
   ·simpa using hv
   ·simpa using hI.lt u hu
  have:=List.Nodup.length_le_of_subset hnd hsub
  simp at this
  omega
 have eF : ∀ k,k < es.length -> (aD n es l)[k]! = (flO es (bi n es) (flS l) n).2 k:=fun k hk=>by
  unfold aD
  rw [ht2.2,x0f _ k (by simpa using hk)]
  simp
 rw [pI _ _ _ (hl _ hv),eF i hi,h1 i hi (by rw [hfull];exact hmem _ hv),h2 _ hv]
 congr 2
 refine fb fun k hk=>⟨?_,fun _=>(eF k hk).symm⟩
 have:=hmem _ (hg _ (x0h hk)).1
 simp [inT,x0f es k hk,hfull,this]
end Go.Gv

namespace Go.Gv
def bn (f : Nat -> Int) : Nat -> Int
 | 0=>0
 | k + 1=>bn f k + f k
theorem cv {f g : Nat -> Int} : ∀ {K : Nat},(∀ k,k < K -> f k=g k) -> bn f K=bn g K
 | 0,_=>rfl
 | K + 1,h=>by unfold bn;rw [cv (K:=K) (fun k hk=>h k (by omega)),h K (by omega)]
theorem sf (f g : Nat -> Int) : ∀ K,bn (fun k=>f k + g k) K=bn f K + bn g K
 | 0=>rfl
 | K + 1=>by unfold bn;rw [sf f g K];omega
theorem dO {f : Nat -> Int} : ∀ {K : Nat},(∀ k,k < K -> f k=0) -> bn f K=0
 | 0,_=>rfl
 | K + 1,h=>by unfold bn;rw [dO (K:=K) (fun k hk=>h k (by omega)),h K (by omega)];rfl
theorem lj {f : Nat -> Int} {k0 : Nat} : ∀ {K : Nat},k0 < K -> (∀ k,k < K -> k ≠ k0 -> f k=0) -> bn f K=f k0
 | 0,h,_=>by omega
 | K + 1,h,h2=>by
  unfold bn
  by_cases e : K=k0
  ·subst e
   rw [dO (fun k hk=>h2 k (by omega) (by omega))];omega
  ·rw [lj (by omega) (fun k hk hn=>h2 k (by omega) hn),h2 K (by omega) e];omega
theorem jK (f : Nat -> Nat -> Int) (A : Nat) : ∀ B,bn (fun b=>bn (fun a=>f a b) A) B=bn (fun a=>bn (fun b=>f a b) B) A
 | 0=>(dO fun _ _=>rfl).symm
 | B + 1=>by
  have e : (fun a=>bn (fun b=>f a b) (B + 1))=fun a=>bn (fun b=>f a b) B + f a B:=rfl
  rw [e,sf,<- jK f A B]
  rfl
theorem ot (f : Nat -> Int) : ∀ M,bn f (M + 1)=f 0 + bn (fun m=>f (m + 1)) M
 | 0=>by simp [bn]
 | M + 1=>by
  have ih:=ot f M
  show bn f (M + 1) + f (M + 1)=f 0 + (bn (fun m=>f (m + 1)) M + f (M + 1))
  omega
theorem uK (c : Prop) [Decidable c] (f : Nat -> Int) (K : Nat) : bn (fun k=>if c then f k else 0) K=if c then bn f K else 0:=by
 by_cases h : c
 ·rw [if_pos h];exact cv fun k _=>if_pos h
 ·rw [if_neg h];exact dO fun k _=>if_neg h
theorem mY {f g : Nat -> Int} : ∀ {K : Nat},(∀ k,k < K -> f k <= g k) -> bn f K <= bn g K
 | 0,_=>x0S _
 | K + 1,h=>by
  have:=mY (K:=K) (fun k hk=>h k (by omega))
  have:=h K (by omega)
  unfold bn
  omega
theorem kw (B : Int) : ∀ K : Nat,bn (fun _=>B) K=K * B
 | 0=>by simp [bn]
 | K + 1=>by unfold bn;rw [kw B K];push_cast;rw [Int.add_mul];omega
def stp (es : List Edg) (v : Nat) : Option Nat:=(es.find? fun e=>e.1 == v).map (·.2)
def wat (es : List Edg) : Nat -> Nat -> Option Nat
 | 0,v=>some v
 | m + 1,v=>(wat es m v).bind (stp es)
def upB (n : Nat) (es : List Edg) (v x : Nat) : Bool:=(List.range n).any fun m=>wat es m v == some x
theorem oo {es : List Edg} {y z : Nat} (h : stp es y=some z) : (y,z) ∈ es:=by
 unfold stp at h
 cases e : es.find? (fun e=>e.1 == y) with
 | none=>rw [e] at h;cases h
 | some p =>
  rw [e] at h
  have h1:=List.find?_some e
  have h2:=List.mem_of_find?_eq_some e
  simp at h1 h
  obtain ⟨a,b⟩:=p
  simp only at h1 h
  subst h1 h
  exact h2
theorem zj {es : List Edg} (hnd : (es.map (·.1)).Nodup) {y z : Nat} (h : (y,z) ∈ es) : stp es y=some z:=by
 unfold stp
 cases e : es.find? (fun e=>e.1 == y) with
 | none =>
  have:=List.find?_eq_none.1 e _ h
  simp at this
 | some p =>
  have h1:=List.find?_some e
  have h2:=List.mem_of_find?_eq_some e
  obtain ⟨a,b⟩:=p
  simp at h1
  subst h1
  obtain ⟨k,hk,ek⟩:=x0G h
  obtain ⟨j,hj,ej⟩:=x0G h2
  have:=ol hnd hk hj (by rw [ek,ej])
  subst this
  rw [ek] at ej
  cases ej
  rfl
theorem kV {n : Nat} {es : List Edg} (hg : inG n es) (hlen : (bi n es).length=n) {u v : Nat} (he : (u,v) ∈ es) : (bi n es).idxOf u < (bi n es).idxOf v /\ (bi n es).idxOf v < n:=by
 have hI:=gI n es n
 have hmem : ∀ v,v < n -> v ∈ bi n es:=by
  intro v hv
  apply Classical.byContradiction
  intro hn
  have hnd : (v::bi n es).Nodup:=List.nodup_cons.2 ⟨hn,hI.nd⟩
  have hsub : (v::bi n es) ⊆ List.range n:=by
   intro u hu
   rcases x0N.1 hu with rfl | hu
   ·simpa using hv
   ·simpa using hI.lt u hu
  have:=List.Nodup.length_le_of_subset hnd hsub
  simp at this
  omega
 obtain ⟨h1,h2⟩:=hg _ he
 have hv:=hmem v h2
 have hi:=List.idxOf_lt_length_iff.2 hv
 obtain ⟨m,hm⟩ : ∃ m,m=(bi n es).idxOf v:=⟨_,rfl⟩
 rw [<- hm] at hi ⊢
 have hget : (bi n es)[m]=v:=by
  subst hm
  exact List.getElem_idxOf hi
 obtain ⟨t1,t2⟩:=jE hlen (show m <= n by omega)
 obtain ⟨t3,t4⟩:=jE hlen (show m + 1 <= n by omega)
 have htk : (bi n es).take (m + 1)=(bi n es).take m++[(bi n es)[m]]:=x0v hi
 have hu : u ∈ (bi n es).take m:=by
  rw [t1]
  cases hr : cI n es (aF n es m) with
  | nil =>
   have:=kU hr 1
   rw [this] at t4
   omega
  | cons j r =>
   have e1:=ia hr
   have e2 : j=v:=by
    have h5 : aF n es m++[j]=aF n es m++[v]:=by rw [<- e1,<- t3,htk,t1,hget]
    simpa using h5
   have hj : j ∈ cI n es (aF n es m):=by rw [hr];simp
   rw [e2] at hj
   exact (gY.1 hj).2.2 u he
 refine ⟨?_,by omega⟩
 obtain ⟨a,ha,e⟩:=x0G hu
 have ha2 : a < m:=by simp at ha;omega
 have e2 : (bi n es)[a]'(by omega)=u:=by rw [<- e];simp
 have e3 : (bi n es).idxOf ((bi n es)[a]'(by omega))=a:=hI.nd.idxOf_getElem a (show a < (bi n es).length by omega)
 rw [e2] at e3
 omega
theorem gc {n : Nat} {es : List Edg} (hg : inG n es) (hlen : (bi n es).length=n) : ∀ {m v x : Nat},wat es m v=some x -> (bi n es).idxOf v + m <= (bi n es).idxOf x /\ (m ≠ 0 -> (bi n es).idxOf x < n)
 | 0,v,x,h=>by
  simp [wat] at h
  subst h
  exact ⟨x0p _,fun h=>absurd rfl h⟩
 | m + 1,v,x,h=>by
  unfold wat at h
  cases e : wat es m v with
  | none=>rw [e] at h;cases h
  | some y =>
   rw [e] at h
   obtain ⟨i1,_⟩:=gc hg hlen e
   obtain ⟨r1,r2⟩:=kV hg hlen (oo h)
   exact ⟨by omega,fun _=>r2⟩
def ov (n : Nat) (es : List Edg) (g : Nat -> Int) (m x : Nat) : Int:=bn (fun v=>if wat es m v=some x then g v else 0) n
theorem wt {n : Nat} {es : List Edg} (hnd : (es.map (·.1)).Nodup) (g : Nat -> Int) (m x : Nat) : ov n es g (m + 1) x=bn (fun k=>if es[k]!.2=x then ov n es g m es[k]!.1 else 0) es.length:=by
 have h1 : ∀ v,v < n -> (if wat es (m + 1) v=some x then g v else 0)=bn (fun k=>if es[k]!.2=x then (if wat es m v=some es[k]!.1 then g v else 0) else 0) es.length:=fun v _=>by
  cases e : wat es m v with
  | none =>
   have : wat es (m + 1) v=none:=by unfold wat;rw [e];rfl
   rw [this,if_neg (by simp),dO (fun k _=>by simp)]
  | some y =>
   have e1 : wat es (m + 1) v=stp es y:=by
    show (wat es m v).bind (stp es)=_
    rw [e];rfl
   rw [e1]
   cases e2 : stp es y with
   | none =>
    rw [if_neg (by simp),dO fun k hk=>?_]
    by_cases c : es[k]!.2=x
    ·rw [if_pos c]
     by_cases d : y=es[k]!.1
     ·have:=zj (es:=es) hnd (y:=y) (z:=es[k]!.2) (by rw [d,x0f es k hk];exact x0h hk)
      rw [e2] at this;cases this
     ·rw [if_neg (by simpa using d)]
    ·rw [if_neg c]
   | some z =>
    obtain ⟨k0,hk0,ek0⟩:=x0G (oo e2)
    rw [lj (k0:=k0) hk0 fun k hk hne=>?_]
    ·rw [x0f es k0 hk0,ek0]
     simp
    ·by_cases d : y=es[k]!.1
     ·exact absurd (ol hnd hk hk0 (by rw [ek0,<- x0f es k hk,d])) hne
     ·rw [if_neg (show ¬ some y=some es[k]!.1 by simpa using d)];simp
 unfold ov
 rw [cv h1,jK]
 exact cv fun k _=>uK _ _ _
theorem wu {n : Nat} {es : List Edg} (g : Nat -> Int) {x : Nat} (hx : x < n) : ov n es g 0 x=g x:=by
 unfold ov
 rw [lj (k0:=x) hx fun k _ hne=>?_]
 ·simp [wat]
 ·simp [wat,hne]
theorem zN {n : Nat} {es : List Edg} (hg : inG n es) (hlen : (bi n es).length=n) (g : Nat -> Int) {m x : Nat} (hm : n <= m) : ov n es g m x=0:=by
 refine dO fun v hv=>if_neg fun h=>?_
 obtain ⟨h1,h2⟩:=gc hg hlen h
 have:=h2 (by omega)
 omega
def upS (n : Nat) (es : List Edg) (g : Nat -> Int) (x : Nat) : Int:=bn (fun v=>if upB n es v x=true then g v else 0) n
theorem uP {n : Nat} {es : List Edg} (hg : inG n es) (hlen : (bi n es).length=n) (g : Nat -> Int) (x : Nat) : upS n es g x=bn (fun m=>ov n es g m x) n:=by
 unfold ov upS
 rw [jK]
 refine cv fun v _=>?_
 by_cases h : upB n es v x=true
 ·rw [if_pos h]
  obtain ⟨m,hm,e⟩:=x0E.1 h
  simp at hm e
  rw [lj (k0:=m) hm fun k _ hne=>if_neg fun h2=>?_,if_pos e]
  have a:=(gc hg hlen e).1
  have b:=(gc hg hlen h2).1
  rcases Nat.lt_or_gt_of_ne hne with h3 | h3
  ·have : ∀ d,wat es (k + d) v=(wat es d x):=fun d=>by
    induction d with
    | zero=>exact h2
    | succ d ih =>
     show (wat es (k + d) v).bind _=_
     rw [ih];rfl
   have h4:=this (m - k)
   rw [show k + (m - k)=m by omega,e] at h4
   have:=(gc hg hlen h4.symm).1
   omega
  ·have : ∀ d,wat es (m + d) v=(wat es d x):=fun d=>by
    induction d with
    | zero=>exact e
    | succ d ih =>
     show (wat es (m + d) v).bind _=_
     rw [ih];rfl
   have h4:=this (k - m)
   rw [show m + (k - m)=k by omega,h2] at h4
   have:=(gc hg hlen h4.symm).1
   omega
 ·rw [if_neg h,dO fun k hk=>if_neg fun h2=>h (x0E.2 ⟨k,by simpa using hk,by simp [h2]⟩)]
theorem uO {n : Nat} {es : List Edg} (hg : inG n es) (ht : cN n es=true) (g : Nat -> Int) {x : Nat} (hx : x < n) : upS n es g x=g x + bn (fun k=>if es[k]!.2=x then upS n es g es[k]!.1 else 0) es.length:=by
 simp only [cN,x0a,x0b] at ht
 obtain ⟨hnd,hlen⟩:=ht
 have e1 : bn (fun m=>ov n es g m x) n=bn (fun m=>ov n es g m x) (n + 1):=by
  show _=bn _ n + ov n es g n x
  rw [zN hg hlen g (x0p _)];omega
 rw [uP hg hlen,e1,ot,wu g hx]
 congr 1
 rw [cv fun m _=>wt hnd g m x,jK]
 refine cv fun k _=>?_
 rw [uK]
 by_cases c : es[k]!.2=x
 ·rw [if_pos c,if_pos c,uP hg hlen]
 ·rw [if_neg c,if_neg c]
theorem ma {n : Nat} {es : List Edg} {g : Nat -> Int} {B : Int} (hB : 0 <= B) (h : ∀ v,v < n -> 0 <= g v /\ g v <= B) (x : Nat) : 0 <= upS n es g x /\ upS n es g x <= n * B:=by
 unfold upS
 constructor
 ·have:=mY (f:=fun _=>0) (g:=fun v=>if upB n es v x=true then g v else 0) (K:=n) fun k hk=>by
   have:=h k hk
   show 0 <= if upB n es k x=true then g k else 0
   split <;> omega
  rw [kw] at this
  simpa using this
 ·rw [<- kw]
  exact mY fun k hk=>by
   have:=h k hk
   show (if upB n es k x=true then g k else 0) <= B
   split <;> omega
theorem zz (P : Nat -> Bool) (o : Nat -> Sp) : ∀ K,(dH P o K).1=bn (fun k=>if P k=true then (o k).1 else 0) K
 | 0=>rfl
 | K + 1=>by
  have ih:=zz P o K
  unfold dH bn
  by_cases h : P K=true
  ·rw [if_pos h,if_pos h,<- ih];rfl
  ·rw [if_neg h,if_neg h,<- ih];omega
theorem zA (P : Nat -> Bool) (o : Nat -> Sp) : ∀ K,(dH P o K).2=bn (fun k=>if P k=true then (o k).2 else 0) K
 | 0=>rfl
 | K + 1=>by
  have ih:=zA P o K
  unfold dH bn
  by_cases h : P K=true
  ·rw [if_pos h,if_pos h,<- ih];rfl
  ·rw [if_neg h,if_neg h,<- ih];omega
theorem qM {n : Nat} {es : List Edg} (hn : n <= 300) (hg : inG n es) (ht : cN n es=true) {l : List Sp} (hl : ∀ v,v < n -> 0 <= l[v]!.1 /\ l[v]!.1 <= l[v]!.2 /\ l[v]!.2 <= 1099511627776) :
  ∀ (r i : Nat) (hi : i < es.length),(bi n es).idxOf es[i].1 < r -> (aD n es l)[i]! = (upS n es (fun v=>l[v]!.1) es[i].1,upS n es (fun v=>l[v]!.2) es[i].1)
 | 0,_,_,h=>by omega
 | r + 1,i,hi,hr=>by
  have hw : ∀ v,v < n -> wS l[v]! = l[v]!:=fun v hv=>by
   have:=hl v hv
   unfold wS
   rw [wrap_i64 rfl (by omega),wrap_i64 rfl (by omega)]
  have hb:=Al hg ht hw hi
  have hv:=(hg _ (x0h hi)).1
  have ht2:=ht
  simp only [cN,x0a,x0b] at ht2
  have ih : ∀ k,k < es.length -> es[k]!.2=es[i].1 -> (aD n es l)[k]! = (upS n es (fun v=>l[v]!.1) es[k]!.1,upS n es (fun v=>l[v]!.2) es[k]!.1):=fun k hk e=>by
   rw [x0f es k hk] at e ⊢
   have hm : (es[k].1,es[i].1) ∈ es:=by rw [<- e];exact x0h hk
   have:=(kV hg ht2.2 hm).1
   exact qM hn hg ht hl r k hk (by omega)
  have r1:=ma (n:=n) (es:=es) (g:=fun v=>l[v]!.1) (B:=1099511627776) (by omega) (fun v hv=>by have:=hl v hv;omega) es[i].1
  have r2:=ma (n:=n) (es:=es) (g:=fun v=>l[v]!.2) (B:=1099511627776) (by omega) (fun v hv=>by have:=hl v hv;omega) es[i].1
  rw [hb,pI _ _ _ (hw _ hv)]
  have s1:=uO hg ht (fun v=>l[v]!.1) hv
  have s2:=uO hg ht (fun v=>l[v]!.2) hv
  have e1 : (dH (fun k=>decide (es[k]!.2=es[i].1)) (fun k=>(aD n es l)[k]!) es.length).1=bn (fun k=>if es[k]!.2=es[i].1 then upS n es (fun v=>l[v]!.1) es[k]!.1 else 0) es.length:=by
   rw [zz]
   refine cv fun k hk=>?_
   by_cases c : es[k]!.2=es[i].1
   ·rw [if_pos (by simpa using c),if_pos c,ih k hk c]
   ·rw [if_neg (by simpa using c),if_neg c]
  have e2 : (dH (fun k=>decide (es[k]!.2=es[i].1)) (fun k=>(aD n es l)[k]!) es.length).2=bn (fun k=>if es[k]!.2=es[i].1 then upS n es (fun v=>l[v]!.2) es[k]!.1 else 0) es.length:=by
   rw [zA]
   refine cv fun k hk=>?_
   by_cases c : es[k]!.2=es[i].1
   ·rw [if_pos (by simpa using c),if_pos c,ih k hk c]
   ·rw [if_neg (by simpa using c),if_neg c]
  have e3 : adS l[es[i].1]! (dH (fun k=>decide (es[k]!.2=es[i].1)) (fun k=>(aD n es l)[k]!) es.length)=(upS n es (fun v=>l[v]!.1) es[i].1,upS n es (fun v=>l[v]!.2) es[i].1):=by
   unfold adS
   rw [e1,e2,s1,s2]
  rw [e3]
  unfold wS
  rw [wrap_i64 rfl (by simp only;omega),wrap_i64 rfl (by simp only;omega)]
theorem tR {n : Nat} {es : List Edg} (hn : n <= 300) (hg : inG n es) (ht : cN n es=true) {l : List Sp} (hl : ∀ v,v < n -> 0 <= l[v]!.1 /\ l[v]!.1 <= l[v]!.2 /\ l[v]!.2 <= 1099511627776) {i : Nat} (hi : i < es.length) : (aD n es l)[i]! = (upS n es (fun v=>l[v]!.1) es[i].1,upS n es (fun v=>l[v]!.2) es[i].1) :=
 qM hn hg ht hl _ i hi (Nat.lt_succ_self _)
end Go.Gv

namespace Go.Gv
theorem wP {l : Lnk} {s : Sec} {f v : Int} (hv : ap s=true) (hl : 1 <= l.len /\ l.len <= 16777216) (hd : l.down <= l.up) (hf : 0 <= f /\ f <= 1099511627776) (hlo : (b9 l s f).2=0) (hu : -4194304 <= l.up /\ l.up <= 4194304) (hvl : v <= 1098437885952) :
  (bR l s f v).2=0 /\ v <= (bR l s f v).1 /\ (bR l s f v).1 <= mxI 8388608 (v + 1073741824):=by
 have hh : 1 <= s.height /\ s.height <= 32768:=by
  simp only [ap,x0a,x0b] at hv
  omega
 have hs : bB (bE l) l.len=true:=by
  simp only [bB,x0a,x0b]
  unfold bE
  split <;> omega
 have hr:=gm (cZ s.conv).2.toNat f.toNat l.len.toNat
 have hr' : 0 <= (b9 l s f).1 /\ (b9 l s f).1 <= 1073741824:=hr
 by_cases hb : iy l s f v=true
 ·rw [dK hb]
  have hcap:=wV hv (bE l) l.len
  have hfc : f <= (kC s (bE l) l.len : Int):=by
   simp only [iy,x0a,x0F,x0b] at hb
   obtain ⟨_,hb⟩:=hb
   unfold fU at hb
   rw [if_pos hv,if_pos hs] at hb
   by_cases hc : 1099511627776 < kC s (bE l) l.len
   ·omega
   ·rw [if_neg hc] at hb
    simp only at hb
    rcases hb with hb | hb
    ·omega
    ·exact hb.2
  have hD : (cD s f (bE l) l.len).2=0:=by
   rw [<- oU]
   unfold dt
   rw [if_pos hv,if_pos ⟨hf.1,hf.2,hs⟩,hcap,if_neg (by omega)]
  have hdr:=kH hv f (bE l) l.len
  unfold oE
  rw [if_pos hD]
  simp only
  have h1:=xX (l.up + (cD s f (bE l) l.len).1) v
  refine ⟨trivial,h1.2,?_⟩
  unfold mxI
  split <;> split <;> omega
 ·rw [eE hb]
  unfold i8
  have h1:=xX (l.up + s.height) (v + (b9 l s f).1)
  have h2 : mxI (l.up + s.height) (v + (b9 l s f).1) <= mxI 8388608 (v + 1073741824):=fZ (by omega) (by omega)
  have h3 : mxI 8388608 (v + 1073741824) <= 1099511627776:=by unfold mxI;split <;> omega
  rw [if_pos hlo,if_neg (by omega)]
  simp only
  exact ⟨trivial,by omega,h2⟩
theorem vD {l : Lnk} {s : Sec} {f g : Int} (h0 : 0 <= f) (h : f <= g) (hg : (b9 l s g).2=0) : (b9 l s f).2=0:=by
 unfold b9 fo at *
 by_cases f0 : f.toNat=0
 ·rw [if_pos f0]
 rw [if_neg f0]
 rw [if_neg (show ¬ g.toNat=0 by omega)] at hg
 by_cases k0 : (cZ s.conv).2.toNat=0
 ·rw [if_pos k0] at hg;simp at hg
 rw [if_neg k0] at hg ⊢
 by_cases e : ca (cZ s.conv).2.toNat g.toNat l.len.toNat 1073741824=true
 ·rw [if_pos (kM (show f.toNat <= g.toNat by omega) e)]
 ·rw [if_neg e] at hg;simp at hg
def jS (es : List Edg) (v : Nat) : Option Nat:=es.findIdx? fun e=>e.1 == v
theorem fP {es : List Edg} {v k : Nat} (h : jS es v=some k) : ∃ hk : k < es.length,es[k].1=v:=by
 unfold jS at h
 obtain ⟨hk,h1,_⟩:=x0P.1 h
 exact ⟨hk,by simpa using h1⟩
def gG (es : List Edg) (ab : Nat -> Int -> Int) (base : Nat -> Int) : Nat -> Nat -> Int
 | 0,i=>base i
 | f + 1,i=>match jS es i with
  | none=>base i
  | some k=>ab k (gG es ab base f es[k]!.2)
def rkO (n : Nat) (es : List Edg) (i : Nat) : Nat:=(bi n es).idxOf i
theorem o4 {n : Nat} {es : List Edg} (hg : inG n es) (hlen : (bi n es).length=n) (ab : Nat -> Int -> Int) (base : Nat -> Int) : ∀ (f i : Nat),n <= f + rkO n es i -> rkO n es i < n -> gG es ab base (f + 1) i=gG es ab base f i
 | 0,i,h1,h2=>by omega
 | f + 1,i,h1,h2=>by
  rw [gG,gG]
  cases h : jS es i with
  | none=>rfl
  | some k =>
   obtain ⟨hk,e⟩:=fP h
   have hm : (i,es[k].2) ∈ es:=by
    have:=x0h hk
    rwa [show es[k]=(i,es[k].2) from Prod.ext e rfl] at this
   have hr:=kV hg hlen hm
   simp only
   rw [x0f es k hk,o4 hg hlen ab base f es[k].2 (by unfold rkO at *;omega) hr.2]
def te (n : Nat) (es : List Edg) (ab : Nat -> Int -> Int) (base : Nat -> Int) (i : Nat) : Int:=gG es ab base n i
theorem o6 (n : Nat) {es : List Edg} (ab : Nat -> Int -> Int) (base : Nat -> Int) {i : Nat} (h : jS es i=none) : te n es ab base i=base i:=by
 unfold te
 cases n with
 | zero=>rfl
 | succ n=>rw [gG,h]
theorem o7 {n : Nat} {es : List Edg} (hg : inG n es) (hlen : (bi n es).length=n) (ab : Nat -> Int -> Int) (base : Nat -> Int) {i k : Nat} (hi : rkO n es i < n) (h : jS es i=some k) : te n es ab base i=ab k (te n es ab base es[k]!.2):=by
 unfold te
 rw [<- o4 hg hlen ab base n i (by omega) hi,gG,h]
theorem ro {es : List Edg} {ab : Nat -> Int -> Int} {base : Nat -> Int} {Q : Nat -> Nat -> Int -> Prop} (h0 : ∀ f i,Q f i (base i)) (h1 : ∀ f i k (hk : k < es.length),es[k].1=i -> ∀ v,Q f es[k].2 v -> Q (f + 1) i (ab k v)) : ∀ f i,Q f i (gG es ab base f i)
 | 0,i=>h0 0 i
 | f + 1,i=>by
  rw [gG]
  cases h : jS es i with
  | none=>exact h0 _ i
  | some k =>
   obtain ⟨hk,e⟩:=fP h
   simp only
   rw [x0f es k hk]
   exact h1 f i k hk e _ (ro h0 h1 f es[k].2)
theorem o5 {es : List Edg} {ab ab' : Nat -> Int -> Int} {base base' : Nat -> Int} {Q : Nat -> Nat -> Int -> Int -> Prop} (h0 : ∀ f i,Q f i (base i) (base' i)) (h1 : ∀ f i k (hk : k < es.length),es[k].1=i -> ∀ v w,Q f es[k].2 v w -> Q (f + 1) i (ab k v) (ab' k w)) : ∀ f i,Q f i (gG es ab base f i) (gG es ab' base' f i)
 | 0,i=>h0 0 i
 | f + 1,i=>by
  rw [gG,gG]
  cases h : jS es i with
  | none=>exact h0 _ i
  | some k =>
   obtain ⟨hk,e⟩:=fP h
   simp only
   rw [x0f es k hk]
   exact h1 f i k hk e _ _ (o5 h0 h1 f es[k].2)
end Go.Gv

namespace Go.Gv
def abL (ls : List Lnk) (ss : List Sec) (q : Nat -> Int) (k : Nat) (v : Int) : Int:=(bR ls[k]! ss[k]! (q k) v).1
structure TrO (ls : List Lnk) (ss : List Sec) (fh : Nat -> Int) : Prop where
 sec : ∀ k,k < ls.length -> ap ss[k]! = true
 len : ∀ k,k < ls.length -> 1 <= ls[k]!.len /\ ls[k]!.len <= 16777216
 fall : ∀ k,k < ls.length -> ls[k]!.down <= ls[k]!.up
 up : ∀ k,k < ls.length -> -4194304 <= ls[k]!.up /\ ls[k]!.up <= 4194304
 flow : ∀ k,k < ls.length -> fh k <= 1099511627776
 loss : ∀ k,k < ls.length -> (b9 ls[k]! ss[k]! (fh k)).2=0
def lb (f : Nat) (v : Int) : Prop:=-4194304 <= v /\ v <= 8388608 + (f : Int) * 1073741824
theorem TrO.step {ls : List Lnk} {ss : List Sec} {fh : Nat -> Int} (T : TrO ls ss fh) {k : Nat} (hk : k < ls.length) {q : Int} (h0 : 0 <= q) (h1 : q <= fh k) {f : Nat} (hf : f <= 400) {v : Int} (hv : lb f v) :
  (bR ls[k]! ss[k]! q v).2=0 /\ v <= (bR ls[k]! ss[k]! q v).1 /\ lb (f + 1) (bR ls[k]! ss[k]! q v).1:=by
 have hfl:=T.flow k hk
 obtain ⟨v1,v2⟩:=hv
 have hm : (f : Int) * 1073741824 <= 400 * 1073741824:=by omega
 have h:=wP (v:=v) (T.sec k hk) (T.len k hk) (T.fall k hk) ⟨h0,by omega⟩ (vD h0 h1 (T.loss k hk)) (T.up k hk) (by omega)
 refine ⟨h.1,h.2.1,by omega,?_⟩
 have h3:=h.2.2
 have hm2 : ((f + 1 : Nat) : Int) * 1073741824=(f : Int) * 1073741824 + 1073741824:=by omega
 rw [hm2]
 unfold mxI at h3
 split at h3 <;> omega
theorem TrO.rng {ls : List Lnk} {ss : List Sec} {fh : Nat -> Int} (T : TrO ls ss fh) {es : List Edg} (he : es.length=ls.length) {q : Nat -> Int} (h0 : ∀ k,k < ls.length -> 0 <= q k /\ q k <= fh k) {base : Nat -> Int} (hb : ∀ i,-4194304 <= base i /\ base i <= 8388608) : ∀ f i,f <= 400 -> lb f (gG es (abL ls ss q) base f i):=by
 refine ro (Q:=fun f _ v=>f <= 400 -> lb f v) (fun f i hf=>?_) (fun f i k hk e v ih hf=>?_)
 ·have:=hb i
  exact ⟨this.1,by omega⟩
 ·have hk' : k < ls.length:=by omega
  exact (T.step hk' (h0 k hk').1 (h0 k hk').2 (by omega) (ih (by omega))).2.2
theorem TrO.mono {ls : List Lnk} {ss : List Sec} {fh : Nat -> Int} (T : TrO ls ss fh) {es : List Edg} (he : es.length=ls.length) {q q' : Nat -> Int} (h0 : ∀ k,k < ls.length -> 0 <= q k /\ q k <= q' k /\ q' k <= fh k) {base base' : Nat -> Int} (hb : ∀ i,-4194304 <= base i /\ base i <= base' i /\ base' i <= 8388608) :
  ∀ f i,f <= 400 -> gG es (abL ls ss q) base f i <= gG es (abL ls ss q') base' f i:=by
 have key : ∀ f i,f <= 400 -> lb f (gG es (abL ls ss q) base f i) /\ lb f (gG es (abL ls ss q') base' f i) /\ gG es (abL ls ss q) base f i <= gG es (abL ls ss q') base' f i:=by
  refine o5 (Q:=fun f _ v w=>f <= 400 -> lb f v /\ lb f w /\ v <= w) (fun f i hf=>?_) (fun f i k hk e v w ih hf=>?_)
  ·have:=hb i
   exact ⟨⟨this.1,by omega⟩,⟨by omega,by omega⟩,this.2.1⟩
  ·have hk' : k < ls.length:=by omega
   obtain ⟨a1,a2,a3⟩:=h0 k hk'
   obtain ⟨i1,i2,i3⟩:=ih (by omega)
   have s1:=T.step hk' a1 (by omega : q k <= fh k) (by omega) i1
   have s2:=T.step hk' (by omega : 0 <= q' k) a3 (by omega) i2
   have s3:=T.step hk' (by omega : 0 <= q' k) a3 (by omega) i1
   refine ⟨s1.2.2,s2.2.2,?_⟩
   have m1:=qz (l:=ls[k]!) (s:=ss[k]!) (v:=v) a2 s1.1 s3.1
   have m2:=pF (l:=ls[k]!) (s:=ss[k]!) (f:=q' k) i3 s3.1 s2.1
   exact Int.le_trans m1 m2
 exact fun f i hf=>(key f i hf).2.2
end Go.Gv

namespace Go.Gv
structure TrS (n : Nat) (es : List Edg) (ls : List Lnk) (ss : List Sec) (fl : List (Int × Int)) : Prop where
 ing : inG n es
 full : (bi n es).length=n
 nd : (es.map (·.1)).Nodup
 cnt : es.length=ls.length
 small : n <= 300
 tro : TrO ls ss fun k=>fl[k]!.2
 low : ∀ k,k < ls.length -> 0 <= fl[k]!.1 /\ fl[k]!.1 <= fl[k]!.2
def qD (ns : List Nod) (h : Int) (i : Nat) : Int:=mxI ns[i]!.invert h
def lQ (n : Nat) (es : List Edg) (ns : List Nod) (ls : List Lnk) (ss : List Sec) (fl : List (Int × Int)) (o : Int × Int) (i : Nat) : Int × Int :=
 (te n es (abL ls ss fun k=>fl[k]!.1) (qD ns o.1) i,te n es (abL ls ss fun k=>fl[k]!.2) (qD ns o.2) i)
theorem ED {a b c d : Int} (h1 : c <= a) (h2 : a <= d) (h4 : b <= d) : c <= mxI a b /\ mxI a b <= d:=by
 unfold mxI
 split <;> omega
theorem tG {ns : List Nod} (hn : ∀ i : Nat,-4194304 <= ns[i]!.invert /\ ns[i]!.invert <= 4194304) {h : Int} (hh : h <= 4194304) (i : Nat) : -4194304 <= qD ns h i /\ qD ns h i <= 8388608:=ED (hn i).1 (by have:=(hn i).2;omega) (by omega)
section
variable {n : Nat} {es : List Edg} {ns : List Nod} {ls : List Lnk} {ss : List Sec} {fl : List (Int × Int)} {o : Int × Int}
theorem p7 (T : TrS n es ls ss fl) (hn : ∀ i : Nat,-4194304 <= ns[i]!.invert /\ ns[i]!.invert <= 4194304) (ho : o.1 <= o.2 /\ o.2 <= 4194304) (i : Nat) : lb n (lQ n es ns ls ss fl o i).1 /\ lb n (lQ n es ns ls ss fl o i).2 /\ (lQ n es ns ls ss fl o i).1 <= (lQ n es ns ls ss fl o i).2:=by
 have hs:=T.small
 have b1:=tG hn (h:=o.1) (by omega)
 have b2:=tG hn (h:=o.2) ho.2
 refine ⟨T.tro.rng T.cnt (fun k hk=>⟨(T.low k hk).1,(T.low k hk).2⟩) b1 n i (by omega),T.tro.rng T.cnt (fun k hk=>⟨Int.le_trans (T.low k hk).1 (T.low k hk).2,x0S _⟩) b2 n i (by omega),?_⟩
 exact T.tro.mono T.cnt (fun k hk=>⟨(T.low k hk).1,(T.low k hk).2,x0S _⟩) (fun j=>⟨(b1 j).1,fZ (x0S _) ho.1,(b2 j).2⟩) n i (by omega)
theorem o8 {i : Nat} (h : jS es i=none) : lQ n es ns ls ss fl o i=(qD ns o.1 i,qD ns o.2 i):=by
 unfold lQ
 rw [o6 n _ _ h,o6 n _ _ h]
theorem o9 (T : TrS n es ls ss fl) (hn : ∀ i : Nat,-4194304 <= ns[i]!.invert /\ ns[i]!.invert <= 4194304) (ho : o.1 <= o.2 /\ o.2 <= 4194304) {i k : Nat} (hi : rkO n es i < n) (h : jS es i=some k) :
  ∃ w,w=es[k]!.2 /\ rkO n es i < rkO n es w /\ rkO n es w < n /\
   (bR ls[k]! ss[k]! fl[k]!.1 (lQ n es ns ls ss fl o w).1).2=0 /\ (bR ls[k]! ss[k]! fl[k]!.2 (lQ n es ns ls ss fl o w).2).2=0 /\
   lQ n es ns ls ss fl o i=((bR ls[k]! ss[k]! fl[k]!.1 (lQ n es ns ls ss fl o w).1).1,(bR ls[k]! ss[k]! fl[k]!.2 (lQ n es ns ls ss fl o w).2).1):=by
 obtain ⟨hk,e⟩:=fP h
 have hk' : k < ls.length:=by have:=T.cnt;omega
 have hm : (i,es[k].2) ∈ es:=by
  have:=x0h hk
  rwa [show es[k]=(i,es[k].2) from Prod.ext e rfl] at this
 have hr:=kV T.ing T.full hm
 have hw : es[k]!.2=es[k].2:=by rw [x0f es k hk]
 obtain ⟨r1,r2,_⟩:=p7 (ns:=ns) T hn ho es[k]!.2
 have hs:=T.small
 have s1:=T.tro.step hk' (T.low k hk').1 (T.low k hk').2 (by omega : n <= 400) r1
 have s2:=T.tro.step hk' (Int.le_trans (T.low k hk').1 (T.low k hk').2) (x0S _) (by omega : n <= 400) r2
 refine ⟨es[k]!.2,rfl,by rw [hw];exact hr.1,by rw [hw];exact hr.2,s1.1,s2.1,?_⟩
 unfold lQ
 rw [o7 T.ing T.full _ _ hi h,o7 T.ing T.full _ _ hi h]
 rfl
end
end Go.Gv

namespace Go.Gv
section
variable {n : Nat} {es : List Edg} {ns : List Nod} {ls : List Lnk} {ss : List Sec} {fl fl' : List (Int × Int)} {o o' : Int × Int}
end
end Go.Gv

namespace Go.Gv
def fE (es : List Edg) (v : Nat) : Option Nat:=es.findIdx? fun e=>e.1 == v
def frI : Option Nat -> Int
 | some i=>i
 | none=>-1
theorem AO {es : List Edg} {v i : Nat} (h : fE es v=some i) : ∃ hi : i < es.length,es[i].1=v /\ ∀ j (hj : j < i),¬ es[j].1=v:=by
 unfold fE at h
 rw [x0P] at h
 obtain ⟨h1,h2,h3⟩:=h
 exact ⟨h1,by simpa using h2,fun j hj=>by simpa using h3 j hj⟩
theorem pR {es : List Edg} {v : Nat} : fE es v=none ↔ v ∉ es.map (·.1):=by
 unfold fE
 rw [x1Q]
 simp only [beq_eq_false_iff_ne,ne_eq,x0u,not_exists,not_and]
theorem AP {es : List Edg} {j : Nat} (hj : j < es.length) (v : Nat) : fE (es.take (j + 1)) v=(fE (es.take j) v).or (if es[j].1=v then some j else none):=by
 have hl : (es.take j).length=j:=by simp;omega
 unfold fE
 rw [x0v hj,List.findIdx?_append]
 congr 1
 by_cases h : es[j].1=v
 ·rw [if_pos h];simp [List.findIdx?_cons,h,hl]
 ·rw [if_neg h];simp [List.findIdx?_cons,h]
def frA (n : Nat) (es : List Edg) (j : Nat) : List (List D):=(List.range n).map fun v=>[.int .i64 (frI (fE (es.take j) v))]
theorem xA (n : Nat) (es : List Edg) : frA n es 0=List.replicate n [.int .i64 (-1)]:=by
 apply x1L
 ·simp [frA]
 ·intro i h1 h2
  simp [frA,fE,frI]
theorem mP (n : Nat) (es : List Edg) (j : Nat) : (frA n es j).length=n:=by simp [frA]
theorem pW {n v : Nat} (es : List Edg) (j : Nat) (h : v < n) : (frA n es j)[v]? = some [.int .i64 (frI (fE (es.take j) v))]:=by simp [frA,h]
theorem AQ {n : Nat} {es : List Edg} {j : Nat} (hj : j < es.length) (h : fE (es.take j) es[j].1=none) : (frA n es j).set es[j].1 [.int .i64 (j : Int)]=frA n es (j + 1):=by
 unfold frA
 rw [iH]
 apply x0j
 intro v _
 rw [AP hj]
 by_cases e : v=es[j].1
 ·subst e
  rw [if_pos rfl,h,if_pos rfl];rfl
 ·rw [if_neg e,if_neg (Ne.symm e),Option.or_none]
theorem Bb {es : List Edg} {j : Nat} (hj : j < es.length) (h : ((es.take j).map (·.1)).Nodup) : ((es.take (j + 1)).map (·.1)).Nodup ↔ fE (es.take j) es[j].1=none:=by
 rw [x0v hj,x1o,x1g,pR]
 simp only [x0J,x01,x0N,x1s,or_false,forall_eq,List.nodup_cons,not_false_eq_true,List.nodup_nil,and_self,true_and,h]
 constructor
 ·intro h1 h2;exact h1 _ h2 rfl
 ·rintro h1 a ha rfl;exact h1 ha
end Go.Gv

set_option maxRecDepth 4000
namespace Go.Gv
def iD (n m : Nat) (v : Int) : List (List D):=List.replicate m [.int .i64 v]++List.replicate (n - m) [.int .i64 0]
theorem rS {n m : Nat} {v : Int} (h : m <= n) : (iD n m v).length=n:=by simp [iD];omega
theorem nV (n m : Nat) (v : Int) : ∀ e ∈ iD n m v,e.length=1 /\ ∀ c ∈ e,aK c=true:=by
 intro e he
 rcases x0o.1 he with h | h <;> (rw [(List.mem_replicate.1 h).2];simp [aK])
theorem pv (n m : Nat) (v : Int) : ∀ e ∈ iD n m v,∀ c ∈ e,aK c=true:=fun e he=>(nV n m v e he).2
theorem pu (n : Nat) (v : Int) : iD n n v=List.replicate n [.int .i64 v]:=by simp [iD]
theorem pw {n m : Nat} {v : Int} (h : m <= n) : iY (iD n m v) m (((iD n m v).take m).take (n - m))=iD n (min n (m + m)) v:=by
 have h1 : (iD n m v).take m=List.replicate m [.int .i64 v]:=by
  unfold iD
  rw [List.take_append_of_le_length (by simp)]
  simp
 rw [h1,List.take_replicate]
 unfold iY
 rw [h1,List.length_replicate]
 unfold iD
 rw [List.drop_append,List.drop_eq_nil_of_le (by simp),x1R,List.length_replicate,List.drop_replicate]
 have e1 : min n (m + m)=m + min (n - m) m:=by omega
 rw [e1,<- List.replicate_append_replicate]
 congr 2
 omega
theorem tn {n : Nat} {v : Int} (h : 0 < n) : iY (List.replicate n [D.int .i64 0]) 0 ([[D.int .i64 v]].take n)=iD n 1 v:=by
 have : [[D.int .i64 v]].take n=[[.int .i64 v]]:=by
  rw [x0q (by simp;omega)]
 rw [this]
 unfold iY iD
 simp
variable {C : CC} (hC : aw prog C)
include hC
theorem yB (v : Int) (n : Nat) (hn : n < 2 ^ 40) : C 315 [.sl [[.int .i64 v]],.int .i64 n] .any [.own 1 (List.replicate n [.int .i64 v])]:=by
 have k0:=iu hC 1 n (by omega) (by omega)
 have k1 : C 333 [.int .u64 1,.int .u64 n] (.tup [.int .u64 0,.int .u64 n]) []:=by
  have e1 : 1 * n / 2 ^ 64=0:=by omega
  have e2 : 1 * n % 2 ^ 64=n:=by omega
  rw [e1,e2] at k0
  refine ai hC (nf:=N333) rfl rfl ?_
  simp [N333]
  simp at k0
  refine aa k0 (.inl rfl) ?_
  simp
 have w1 : IntKind.wrap .u64 (n : Int)=n:=by
  have e : (2 : Int) ^ IntKind.bits .u64=18446744073709551616:=by decide
  have e2 : IntKind.signed .u64=false:=rfl
  simp only [IntKind.wrap,e,e2,Bool.false_and,x0k,if_false]
  omega
 have w2 : IntKind.wrap .i64 (n : Int)=n:=wrap_i64 (by omega) (by omega)
 refine kq hC (nf:=N315) rfl rfl ?_
 have hn0 : ¬ (n : Int) < 0:=by omega
 have hn1 : ¬ (9223372036854775807 : Int) < n:=by omega
 have hn2 : (n : Int) * 8 <= 140737488355328:=by omega
 simp [N315,w1,hn0]
 refine aa k1 (.inl rfl) ?_
 simp [w2,hn1,hn2,aK]
 refine ⟨fun h0=>?_,fun h0=>?_⟩
 ·refine au Nat (fun m=>[(7,.ref (.r 10112) 0 n),(8,.int .i64 m),(10112,.blk 1 (iD n m v))]) (fun m=>m <= n /\ (0 < n -> 0 < m)) (fun m=>n - m) 0 ⟨by omega,by omega⟩ (by subst h0;simp [iD]) ?_
  rintro m ⟨hm,hm0⟩
  simp
  refine ac (fun h=>?_) (fun h=>?_) <;> simp at h
  ·have hm1 : 0 < m:=hm0 (by omega)
   have hl:=rS (v:=v) hm
   have hnx:=pw (v:=v) hm
   have hc:=nV n m v
   have hc1:=pv n m v
   have hnm : ¬ n - m=0:=by omega
   have hpos : 0 < n - m:=by omega
   have htk : ∀ e ∈ (iD n m v).take m,∀ c ∈ e,aK c=true:=fun e he=>hc1 e (x0K he)
   have hw : IntKind.wrap .i64 ((m : Int) + ((min m (n - m) : Nat) : Int))=((min n (m + m) : Nat) : Int):=wrap_i64 (by omega) (by omega)
   simp [h,hl,hm,rC]
   try refine ⟨htk,hm1,fun hz=>absurd hz hnm,fun _=>⟨hc1,htk,am (by decide +kernel),min n (m + m),⟨by omega,fun _=>by omega⟩,by omega,hw,hnx⟩⟩
  ·have e : m=n:=by omega
   subst e
   simp [pu]
 ·rw [tn h0]
  have h01 : min 1 n=1:=by omega
  refine au Nat (fun m=>[(7,.ref (.r 10112) 0 n),(8,.int .i64 m),(10112,.blk 1 (iD n m v))]) (fun m=>m <= n /\ (0 < n -> 0 < m)) (fun m=>n - m) 1 ⟨by omega,by omega⟩ (by simp [h01]) ?_
  rintro m ⟨hm,hm0⟩
  simp
  refine ac (fun h=>?_) (fun h=>?_) <;> simp at h
  ·have hm1 : 0 < m:=hm0 (by omega)
   have hl:=rS (v:=v) hm
   have hnx:=pw (v:=v) hm
   have hc:=nV n m v
   have hc1:=pv n m v
   have hnm : ¬ n - m=0:=by omega
   have hpos : 0 < n - m:=by omega
   have htk : ∀ e ∈ (iD n m v).take m,∀ c ∈ e,aK c=true:=fun e he=>hc1 e (x0K he)
   have hw : IntKind.wrap .i64 ((m : Int) + ((min m (n - m) : Nat) : Int))=((min n (m + m) : Nat) : Int):=wrap_i64 (by omega) (by omega)
   simp [h,hl,hm,rC]
   try refine ⟨htk,hm1,fun hz=>absurd hz hnm,fun _=>⟨hc1,htk,am (by decide +kernel),min n (m + m),⟨by omega,fun _=>by omega⟩,by omega,hw,hnx⟩⟩
  ·have e : m=n:=by omega
   subst e
   simp [pu]
end Go.Gv

namespace Go.Gv
variable {C : CC} (hC : aw prog C)
include hC
theorem yr (n : Int) : C 507 [.int .i64 n] (.bool (aG n (-16777216) 16777216)) []:=by
 refine ai hC (nf:=N507) rfl rfl ?_
 simp [N507,aG]
 refine ac (fun h=>?_) (fun h=>?_) <;> simp at h <;> simp [h] <;> omega
theorem yu (b : Bool) (t : List (Int × Int)) (hgt : Int) : C 508 [slx b (t.map knD),.int .i64 hgt] (.bool (bD t hgt 1125899906842624)) []:=by
 refine ai hC (nf:=N508) rfl rfl ?_
 simp [N508]
 refine aa (nR hC b t) (.inl rfl) ?_
 cases hv : aq t
 ·simp [bD,hv]
 obtain ⟨l1,l2⟩:=bk hv
 obtain ⟨n,hn⟩ : ∃ n,n + 1=t.length:=⟨t.length - 1,by omega⟩
 have e1 : IntKind.wrap .i64 ((t.length : Int) - 1)=(n : Int):=wrap_i64 (by omega) (by omega)
 have hnl : n < t.length:=by omega
 have h0 : 0 < t.length:=by omega
 have e0 : t[0]! = t[0]:=x0f t 0 h0
 rw [bD,bZ hn,e0,hv]
 simp [e1,hnl,h0,knD]
 refine ac (fun c=>?_) (fun c=>?_) <;> simp at c
 ·simp [c,h0,knD]
  refine ac (fun c2=>?_) (fun c2=>?_) <;> simp at c2
  ·simp [c2]
   refine ac (fun c3=>?_) (fun c3=>?_) <;> simp at c3 <;> simp [c3,c,c2]
  ·simp [c2]
 ·simp [c]
theorem EH (n : Nod) : C 488 [.agg (aQ n)] (.bool (f8 n)) []:=by
 have k1:=fQ hC n.name
 have k2:=yr hC n.x
 have k3:=yr hC n.y
 have k4:=la hC n.invert
 have k5:=la hC n.ground
 obtain ⟨q,hq⟩ : ∃ q,q=f8 n:=⟨_,rfl⟩
 rw [<- hq]
 unfold f8 at hq
 refine ai hC (nf:=N488) rfl rfl ?_
 simp [N488,aQ]
 refine aa k1 (.inl rfl) ?_
 cases h1 : bz n.name
 ·simp [hq,h1]
 simp
 refine aa k2 (.inl rfl) ?_
 cases h2 : aG n.x (-16777216) 16777216
 ·simp [hq,h2]
 simp
 refine aa k3 (.inl rfl) ?_
 cases h3 : aG n.y (-16777216) 16777216
 ·simp [hq,h3]
 simp
 refine aa k4 (.inl rfl) ?_
 cases h4 : bj n.invert
 ·simp [hq,h4]
 simp
 refine aa k5 (.inl rfl) ?_
 cases h5 : bj n.ground
 ·simp [hq,h5]
 simp
 rw [h1,h2,h3,h4,h5] at hq
 simp only [x0Z] at hq
 have b1 : -4194304 <= n.invert /\ n.invert <= 4194304:=by simpa [bj] using h4
 have b2 : -4194304 <= n.ground /\ n.ground <= 4194304:=by simpa [bj] using h5
 have e1 : IntKind.wrap .i64 (n.ground - n.invert)=n.ground - n.invert:=wrap_i64 rfl (by omega)
 by_cases hk3 : n.kind=3
 ·rw [if_neg (by omega),if_pos hk3,ui] at hq
  simp [hk3]
  refine ac (fun c1=>?_) (fun c1=>?_) <;> simp at c1
  ·simp [c1]
   refine ac (fun c2=>?_) (fun c2=>?_) <;> simp at c2
   ·cases c3 : n.prot
    ·simp [hq,c1,c2,c3]
    ·simp [hq,c2,c3]
   ·simp [hq,c2]
  ·have : ¬ n.invert <= n.ground:=by omega
   simp [hq,this]
 ·by_cases hk : n.kind=1 \/ n.kind=2
  ·rw [if_pos hk,li] at hq
   have kb:=yu hC n.shapeN n.shape (n.ground - n.invert)
   rcases hk with hk | hk
   ·simp [hk]
    refine ac (fun c1=>?_) (fun c1=>?_) <;> simp at c1
    ·simp [c1,hq]
    have c1' : ¬ n.ground <= n.invert:=by omega
    simp [c1',e1]
    refine aa kb (.inl rfl) ?_
    cases c2 : bD n.shape (n.ground - n.invert) 1125899906842624
    ·simp [hq,c2]
    simp [hk]
    cases c3 : n.prot
    ·simp [hq,c1',c2,c3,hk]
    ·simp [hq,c3,hk]
     exact am (by decide +kernel)
   ·simp [hk]
    refine ac (fun c1=>?_) (fun c1=>?_) <;> simp at c1
    ·simp [c1,hq]
    have c1' : ¬ n.ground <= n.invert:=by omega
    simp [c1',e1]
    refine aa kb (.inl rfl) ?_
    cases c2 : bD n.shape (n.ground - n.invert) 1125899906842624
    ·simp [hq,c2]
    simp [hk]
    cases c3 : n.prot
    ·simp [hq,c1',c2,c3,hk]
    have hv : aq n.shape=true:=by
     simp only [bD,x0a] at c2
     exact c2.1.1.1
    obtain ⟨l1,l2⟩:=bk hv
    obtain ⟨m,hm⟩ : ∃ m,m + 1=n.shape.length:=⟨n.shape.length - 1,by omega⟩
    have e2 : IntKind.wrap .i64 ((n.shape.length : Int) - 1)=(m : Int):=wrap_i64 (by omega) (by omega)
    have hml : m < n.shape.length:=by omega
    have e3:=bZ hm
    by_cases c4 : 0 <= n.reserve
    ·simp [hq,c1',c2,c3,c4,hk,e2,hml,knD,e3,aG]
     exact am (by decide +kernel)
    ·simp [hq,c1',c2,c3,c4,hk,e2,hml,knD,e3,aG]
     exact am (by decide +kernel)
  ·rw [if_neg hk,if_neg hk3] at hq
   have a1 : ¬ n.kind=1:=fun e=>hk (.inl e)
   have a2 : ¬ n.kind=2:=fun e=>hk (.inr e)
   simp [hk3,a1,a2,hq]
theorem fI (b1 b2 : Bool) (ns : List Nod) (ls : List Lnk) (nm : List UInt8) (hn : ns.length < 2 ^ 62) : C 462 [.agg [slx b1 (ns.map aQ),slx b2 (ls.map ay)],.str nm] (.int .i64 (bx (bI nm) ns)) []:=by
 refine ai hC (nf:=N462) rfl rfl ?_
 simp [N462]
 refine au Nat (fun i=>[(1,.str nm),(2,.ptr [slx b1 (ns.map aQ),slx b2 (ls.map ay)]),(5,.int .i64 i)]) (fun i=>i <= ns.length /\ ∀ (j : Nat) (h : j < ns.length),j < i -> bI nm ns[j]=false) (fun i=>ns.length - i) 0 (by simp) (by simp) ?_
 rintro i ⟨hi,hj⟩
 simp
 refine ac (fun h=>?_) (fun h=>?_) <;> simp [h] <;> simp at h
 ·have hw : IntKind.wrap .i64 ((i : Int) + 1)=((i + 1 : Nat) : Int):=wrap_i64 (by omega) (by omega)
  simp [h,aQ]
  refine ac (fun h1=>?_) (fun h1=>?_) <;> simp at h1 <;> simp [h1,hw]
  ·rw [cz hj h (by simpa [bI] using h1)]
  ·refine ⟨i + 1,⟨by omega,fun j hl hjj=>?_⟩,by omega,rfl⟩
   rcases x0i.1 hjj with h2 | rfl
   ·exact hj j hl h2
   ·simpa [bI] using h1
 ·rw [cH (fun j hl=>hj j hl (by omega))]
theorem Bn (b1 b2 : Bool) (ns : List Nod) (ls : List Lnk) (nm : List UInt8) (hn : ls.length < 2 ^ 62) : C 467 [.agg [slx b1 (ns.map aQ),slx b2 (ls.map ay)],.str nm] (.int .i64 (bx (jd nm) ls)) []:=by
 refine ai hC (nf:=N467) rfl rfl ?_
 simp [N467]
 refine au Nat (fun i=>[(1,.str nm),(2,.ptr [slx b1 (ns.map aQ),slx b2 (ls.map ay)]),(5,.int .i64 i)]) (fun i=>i <= ls.length /\ ∀ (j : Nat) (h : j < ls.length),j < i -> jd nm ls[j]=false) (fun i=>ls.length - i) 0 (by simp) (by simp) ?_
 rintro i ⟨hi,hj⟩
 simp
 refine ac (fun h=>?_) (fun h=>?_) <;> simp [h] <;> simp at h
 ·have hw : IntKind.wrap .i64 ((i : Int) + 1)=((i + 1 : Nat) : Int):=wrap_i64 (by omega) (by omega)
  simp [h,ay]
  refine ac (fun h1=>?_) (fun h1=>?_) <;> simp at h1 <;> simp [h1,hw]
  ·rw [cz hj h (by simpa [jd] using h1)]
  ·refine ⟨i + 1,⟨by omega,fun j hl hjj=>?_⟩,by omega,rfl⟩
   rcases x0i.1 hjj with h2 | rfl
   ·exact hj j hl h2
   ·simpa [jd] using h1
 ·rw [cH (fun j hl=>hj j hl (by omega))]
theorem yk (b1 b2 : Bool) (ns : List Nod) (ls : List Lnk) (hv : bP ns ls=true) : C 429 [.agg [slx b1 (ns.map aQ),slx b2 (ls.map ay)]] (.sl ((av ns ls).map edK)) []:=by
 obtain ⟨hl1,hl2⟩:=ci hv
 refine ai hC (nf:=N429) rfl rfl ?_
 simp [N429]
 refine au Nat (fun j=>[(1,.ptr [slx b1 (ns.map aQ),slx b2 (ls.map ay)]),(3,.ref (.r 10048) 0 j),(10048,.blk 2 (edT (av ns ls) j)),(4,.int .i64 j)]) (fun j=>j <= ls.length) (fun j=>ls.length - j) 0 (by simp) (by simp) ?_
 rintro j hj
 simp
 refine ac (fun h=>?_) (fun h=>?_) <;> simp [h] <;> simp at h
 ·have hw : IntKind.wrap .i64 ((j : Int) + 1)=((j + 1 : Nat) : Int):=wrap_i64 (by omega) (by omega)
  obtain ⟨_,_,g1,g2⟩:=eM hv h
  have k1:=fI hC b1 b2 ns ls ls[j].src (by omega)
  have k2:=fI hC b1 b2 ns ls ls[j].dst (by omega)
  have hjl : j < (av ns ls).length:=by rw [aH];exact h
  have el:=jB (es:=av ns ls) (j:=j) (by omega)
  simp [h,ay,el]
  refine aa k1 (.inl rfl) ?_
  simp [h,ay]
  refine aa k2 (.inl rfl) ?_
  simp [el]
  refine ⟨by omega,am (by decide +kernel),j + 1,by omega,by omega,rfl,?_,hw⟩
  have e2 : (edT (av ns ls) j).take j=edT (av ns ls) j:=x0q (by omega)
  rw [e2,ni hjl]
  congr 2
  simp only [av,x1K,edK,knD]
  rw [x1Y g1,x1Y g2]
 ·have ej : j=ls.length:=by omega
  subst ej
  have e0:=pP (av ns ls)
  have el:=jB (es:=av ns ls) (j:=ls.length) (by rw [aH];exact x0p _)
  rw [aH] at e0
  simp [CI,el]
  rw [<- e0,x0q (by omega)]
end Go.Gv

namespace Go.Gv
def eC (n : Nat) (out : List Nat) : List (List D):=(List.range n).map fun v=>[.bool (decide (v ∈ out))]
theorem jJ {n v : Nat} (out : List Nat) (h : v < n) : (eC n out)[v]? = some [.bool (decide (v ∈ out))]:=by simp [eC,h]
theorem pz {n : Nat} (out : List Nat) (v : Nat) : (eC n out).set v [.bool true]=eC n (out++[v]):=by
 unfold eC
 rw [iH]
 apply x0j
 intro u _
 by_cases e : u=v <;> simp [e]
def dw (es : List Edg) (out : List Nat) : Nat -> Int
 | 0=>-1
 | v + 1=>if dw es out v < 0 then (if !out.contains v && f9 es out v then (v : Int) else -1) else dw es out v
theorem nD {es : List Edg} {out : List Nat} : ∀ {v : Nat},dw es out v < 0 -> cI v es out=[]
 | 0,_=>by simp [cI]
 | v + 1,h=>by
  unfold dw at h
  by_cases h1 : dw es out v < 0
  ·rw [if_pos h1] at h
   have ih:=nD h1
   unfold cI at ih ⊢
   rw [x1w,x1P,ih]
   by_cases h2 : (!out.contains v && f9 es out v)=true
   ·rw [if_pos h2] at h;omega
   ·simp only [List.filter_cons,h2,List.filter_nil,x02];rfl
  ·rw [if_neg h1] at h
   exact absurd h h1
theorem nE {es : List Edg} {out : List Nat} : ∀ {v : Nat},0 <= dw es out v -> ∃ (i : Nat) (r : List Nat),dw es out v=i /\ cI v es out=i::r /\ i < v
 | 0,h=>by simp [dw] at h
 | v + 1,h=>by
  by_cases h1 : dw es out v < 0
  ·have ih:=nD h1
   unfold dw at h ⊢
   rw [if_pos h1] at h ⊢
   by_cases h2 : (!out.contains v && f9 es out v)=true
   ·rw [if_pos h2]
    refine ⟨v,[],rfl,?_,by omega⟩
    unfold cI at ih ⊢
    rw [x1w,x1P,ih]
    simp only [List.filter_cons,h2,List.filter_nil,x1R];rfl
   ·rw [if_neg h2] at h;omega
  ·obtain ⟨i,r,e1,e2,e3⟩:=nE (v:=v) (es:=es) (out:=out) (by omega)
   unfold dw
   rw [if_neg h1]
   refine ⟨i,r++(([v]).filter fun u=>!out.contains u && f9 es out u),e1,?_,by omega⟩
   unfold cI at e2 ⊢
   rw [x1w,x1P,e2]
   rfl
def prT (es : List Edg) (out : List Nat) (v j : Nat) : Bool:=f9 (es.take j) out v
theorem yc {es : List Edg} {out : List Nat} {v j : Nat} (h : j < es.length) : prT es out v (j + 1)=(prT es out v j && !(decide (es[j].2=v) && !decide (es[j].1 ∈ out))):=by
 unfold prT f9
 rw [x0v h,List.all_append]
 congr 1
 by_cases a : es[j].2=v <;> by_cases b : es[j].1 ∈ out <;> simp [a,b]
theorem Bj (es : List Edg) (out : List Nat) (v : Nat) : prT es out v es.length=f9 es out v:=by simp [prT]
variable {C : CC} (hC : aw prog C)
include hC
theorem vT (b1 b2 : Bool) (ns : List Nod) (ls : List Lnk) : C 458 [.agg [slx b1 (ns.map aQ),slx b2 (ls.map ay)]] (.bool (bP ns ls)) []:=by
 obtain ⟨r,hr⟩ : ∃ r,r=bP ns ls:=⟨_,rfl⟩
 rw [<- hr]
 unfold bP at hr
 refine ai hC (nf:=N458) rfl rfl ?_
 simp [N458]
 by_cases c : (300 : Int) < ns.length
 ·simp [c,hr,show ¬ ns.length <= 300 by omega]
 by_cases c2 : (400 : Int) < ls.length
 ·simp [c,c2,hr,show ¬ ls.length <= 400 by omega]
 simp [c,c2]
 rw [decide_eq_true (show ns.length <= 300 by omega),decide_eq_true (show ls.length <= 400 by omega)] at hr
 simp only [x0Z] at hr
 have badN : ∀ i,i < ns.length -> go ns i=false -> r=false:=fun i hi h=>by
  rw [hr,x08]
  exact .inl (x1E.2 ⟨i,by simpa using hi,by simp [h]⟩)
 have badL : ∀ i,i < ls.length -> dg ns ls i=false -> r=false:=fun i hi h=>by
  rw [hr,x08]
  exact .inr (x1E.2 ⟨i,by simpa using hi,by simp [h]⟩)
 refine au Nat (fun i=>[(1,.ptr [slx b1 (ns.map aQ),slx b2 (ls.map ay)]),(3,.int .i64 i)]) (fun i=>i <= ns.length /\ ∀ j < i,go ns j=true) (fun i=>ns.length - i) 0 (by simp) (by simp) ?_
 rintro i ⟨hi,hj⟩
 simp
 refine ac (fun h=>?_) (fun h=>?_) <;> simp at h <;> simp [h]
 ·have hw : IntKind.wrap .i64 ((i : Int) + 1)=((i + 1 : Nat) : Int):=wrap_i64 (by omega) (by omega)
  have bad:=badN i h
  have e1 : ns[i]! = ns[i]:=x0f ns i h
  simp only [go,e1] at bad
  have k1:=EH hC ns[i]
  have k2:=fI hC b1 b2 ns ls ns[i].name (by omega)
  simp only [aQ] at k1
  simp [aQ,h]
  refine aa k1 (.inl rfl) ?_
  cases g1 : f8 ns[i]
  ·simp
   refine ⟨am (by decide +kernel),?_⟩
   exact bad (by simp [g1])
  simp [aQ,h]
  refine aa k2 (.inl rfl) ?_
  simp
  refine ⟨am (by decide +kernel),?_⟩
  refine ac (fun g2=>?_) (fun g2=>?_) <;> simp at g2 <;> simp [g2]
  ·exact bad (by simp [g2])
  ·simp [hw]
   refine ⟨i + 1,⟨by omega,fun k hk=>?_⟩,by omega,by simp⟩
   rcases x0i.1 hk with h5 | rfl
   ·exact hj k h5
   ·simp [go,e1,g1,g2]
 have hall : (List.range ns.length).all (go ns)=true:=by
  rw [x0g]
  intro k hk
  exact hj k (by simp at hk;omega)
 rw [hall,x0Z] at hr
 clear badN hall hj
 refine au Nat (fun i=>[(1,.ptr [slx b1 (ns.map aQ),slx b2 (ls.map ay)]),(4,.int .i64 i)]) (fun i=>i <= ls.length /\ ∀ j < i,dg ns ls j=true) (fun i=>ls.length - i) 0 (by simp) (by simp) ?_
 clear h hi i
 rintro i ⟨hi,hj⟩
 simp
 refine ac (fun h=>?_) (fun h=>?_) <;> simp at h <;> simp [h]
 ·have hw : IntKind.wrap .i64 ((i : Int) + 1)=((i + 1 : Nat) : Int):=wrap_i64 (by omega) (by omega)
  have bad:=badL i h
  have e1 : ls[i]! = ls[i]:=x0f ls i h
  simp only [dg,e1] at bad
  have k1:=A4 hC ls[i]
  rw [xN] at k1
  have k2:=Bn hC b1 b2 ns ls ls[i].name (by omega)
  have k3:=fI hC b1 b2 ns ls ls[i].src (by omega)
  have k4:=fI hC b1 b2 ns ls ls[i].dst (by omega)
  have next : dg ns ls i=true -> ∃ s' : Nat,(s' <= ls.length /\ ∀ j < s',dg ns ls j=true) /\ ls.length - s' < ls.length - i /\ (i : Int) + 1=s':=fun hl=>by
   refine ⟨i + 1,⟨by omega,fun k hk=>?_⟩,by omega,by simp⟩
   rcases x0i.1 hk with h5 | rfl
   ·exact hj k h5
   ·exact hl
  simp only [dg,e1] at next
  simp only [ay] at k1
  simp [ay,h]
  refine aa k1 (.inl rfl) ?_
  cases g1 : co ls[i]
  ·simp
   exact bad (by simp [g1])
  simp
  refine aa k2 (.inl rfl) ?_
  simp
  refine ac (fun g2=>?_) (fun g2=>?_) <;> simp at g2 <;> simp [g2]
  ·exact bad (by simp [g2])
  refine aa k4 (.inl rfl) ?_
  simp
  refine ac (fun g4=>?_) (fun g4=>?_) <;> simp at g4 <;> simp [g4]
  ·exact bad (by simp [show ¬ 0 <= bx (bI ls[i].dst) ns by omega])
  have g4' : ¬ bx (bI ls[i].dst) ns < 0:=by omega
  refine aa k3 (.inl rfl) ?_
  simp
  by_cases g3 : bx (bI ls[i].src) ns < 0
  ·simp [g3]
   exact bad (by simp [gD,show ¬ 0 <= bx (bI ls[i].src) ns by omega])
  have g3' : 0 <= bx (bI ls[i].src) ns:=by omega
  have hf:=jD g3'
  obtain ⟨f,hfe⟩:=x1W g3'
  rw [hfe] at hf ⊢
  simp at hf
  have e2 : ns[f]! = ns[f]:=x0f ns f hf
  have hfo : gD ns ls[i].src=!decide (ns[f].kind=3):=by
   simp [gD,hfe,e2]
  have g3'' : ¬ (f : Int) < 0:=by omega
  simp [hf,aQ,g3'']
  refine ac (fun g5=>?_) (fun g5=>?_) <;> simp at g5 <;> simp [g5]
  ·exact bad (by simp [hfo,g5])
  ·simp [hw]
   exact next (by simp [hfo,g5,g1,g2,g4])
 ·have hall : (List.range ls.length).all (dg ns ls)=true:=by
   rw [x0g]
   intro k hk
   exact hj k (by simp at hk;omega)
  rw [hr,hall]
end Go.Gv

namespace Go.Gv
theorem oZ {es : List Edg} {out : List Nat} {v : Nat} (h : 0 <= dw es out v) : ∀ k,dw es out (v + k)=dw es out v
 | 0=>rfl
 | k + 1=>by
  have ih:=oZ h k
  show dw es out (v + k + 1)=_
  unfold dw
  rw [ih,if_neg (by omega)]
  cases v with
  | zero=>rfl
  | succ v=>rfl
theorem ua {es : List Edg} {out : List Nat} : ∀ {v : Nat},dw es out v < 0 -> dw es out v=-1
 | 0,_=>rfl
 | v + 1,h=>by
  unfold dw at h ⊢
  by_cases h1 : dw es out v < 0
  ·rw [if_pos h1] at h ⊢
   split at h
   ·omega
   ·rename_i h2;rw [if_neg h2]
  ·rw [if_neg h1] at h;exact absurd h h1
def um (n : Nat) (es : List Edg) : D:=if (bi n es).length=n then ndD (bi n es) else .nils
variable {C : CC} (hC : aw prog C)
include hC
theorem vY {b : Bool} {n : Nat} {es : List Edg} (hn : n <= 300) (he : es.length <= 1000) (hg : inG n es) : C 489 [.int .i64 n,slx b (es.map edK)] (.bool true) []:=by
 refine ai hC (nf:=N489) rfl rfl ?_
 simp [N489]
 have a1 : ¬ (n : Int) < 0:=by omega
 have a2 : ¬ (300 : Int) < n:=by omega
 have a3 : ¬ (1000 : Int) < es.length:=by omega
 simp [a1,a2,a3]
 refine au Nat (fun j=>[(0,.int .i64 n),(1,slx b (es.map edK)),(5,.int .i64 j)]) (fun j=>j <= es.length) (fun j=>es.length - j) 0 (by simp) (by simp) ?_
 rintro j hj
 simp
 refine ac (fun h=>?_) (fun h=>?_) <;> simp [h] <;> simp at h
 ·have hw : IntKind.wrap .i64 ((j : Int) + 1)=((j + 1 : Nat) : Int):=wrap_i64 (by omega) (by omega)
  obtain ⟨g1,g2⟩:=hg _ (x0h h)
  have b1 : ¬ (es[j].1 : Int) < 0:=by omega
  have b2 : ¬ (n : Int) <= es[j].1:=by omega
  have b3 : ¬ (es[j].2 : Int) < 0:=by omega
  have b4 : ¬ (n : Int) <= es[j].2:=by omega
  simp [h,edK,knD,b1,b2,b3,b4,hw,show ¬ n <= es[j].1 by omega,show ¬ n <= es[j].2 by omega]
  exact ⟨j + 1,by omega,by omega,by omega⟩
set_option maxHeartbeats 1000000 in
theorem vX {b : Bool} {n : Nat} {es : List Edg} (hn : n <= 300) (he : es.length <= 1000) (hg : inG n es) : C 490 [.int .i64 n,slx b (es.map edK)] (.tup [um n es,.bool (decide ((bi n es).length=n))]) []:=by
 refine ai hC (nf:=N490) rfl rfl ?_
 simp [N490]
 refine ⟨by omega,?_⟩
 refine au Nat (fun m=>[(0,.int .i64 n),(1,slx b (es.map edK)),(6,.ref (.r 10096) 0 n),(10096,.blk 1 (eC n (aF n es m))),(7,.ref (.r 10112) 0 m),(10112,.blk 1 (a7 (aF n es m)))]) (fun m=>(aF n es m).length=m) (fun m=>n - m) 0 (by simp [aF]) (by simp [aF,a7,eC,jG]) ?_
 rintro m hm
 have hI:=gI n es m
 have hmn:=hI.len
 simp
 refine ac (fun h=>?_) (fun h=>?_) <;> simp at h
 ·simp [h]
  refine au Nat (fun v=>[(0,.int .i64 n),(1,slx b (es.map edK)),(6,.ref (.r 10096) 0 n),(10096,.blk 1 (eC n (aF n es m))),(7,.ref (.r 10112) 0 m),(10112,.blk 1 (a7 (aF n es m))),(8,.int .i64 (dw es (aF n es m) v)),(9,.int .i64 v)]) (fun v=>v <= n) (fun v=>n - v) 0 (by simp) (by simp [dw]) ?_
  rintro v hv
  simp
  by_cases g1 : v < n
  ·by_cases g2 : dw es (aF n es m) v < 0
   ·have hw : IntKind.wrap .i64 ((v : Int) + 1)=((v + 1 : Nat) : Int):=wrap_i64 (by omega) (by omega)
    simp [g1,g2,aE (jJ _ g1)]
    refine ac (fun c=>?_) (fun c=>?_) <;> simp at c <;> simp [c]
    ·have e1 : dw es (aF n es m) (v + 1)=-1:=by rw [dw,if_pos g2,if_neg (by simp [c])]
     exact ⟨v + 1,by omega,by omega,by rw [e1,ua g2],hw⟩
    ·refine au Nat (fun j=>[(0,.int .i64 n),(1,slx b (es.map edK)),(6,.ref (.r 10096) 0 n),(10096,.blk 1 (eC n (aF n es m))),(7,.ref (.r 10112) 0 m),(10112,.blk 1 (a7 (aF n es m))),(8,.int .i64 (dw es (aF n es m) v)),(9,.int .i64 v),(10,.bool (prT es (aF n es m) v j)),(11,.int .i64 j)]) (fun j=>j <= es.length) (fun j=>es.length - j) 0 (by simp) (by simp [prT,f9]) ?_
     rintro j hj
     simp
     refine ac (fun k=>?_) (fun k=>?_) <;> simp at k <;> simp [k]
     ·have hw2 : IntKind.wrap .i64 ((j : Int) + 1)=((j + 1 : Nat) : Int):=wrap_i64 (by omega) (by omega)
      obtain ⟨i1,i2⟩:=hg _ (x0h k)
      have es1:=yc (out:=aF n es m) (v:=v) k
      have p1 : (eC n (aF n es m))[es[j].1]? = some [.bool (decide (es[j].1 ∈ aF n es m))]:=jJ _ i1
      by_cases k1 : es[j].2=v
      ·have k1i : (es[j].2 : Int)=v:=by omega
       by_cases k2 : es[j].1 ∈ aF n es m
       ·have e3 : prT es (aF n es m) v (j + 1)=prT es (aF n es m) v j:=by rw [es1];simp [k2]
        simp [k,edK,knD,k1,k1i,i1,aE p1,k2,hw2]
        exact ⟨j + 1,by omega,by omega,e3.symm,by omega⟩
       ·have e3 : prT es (aF n es m) v (j + 1)=false:=by rw [es1];simp [k1,k2]
        simp [k,edK,knD,k1,k1i,i1,aE p1,k2,hw2]
        exact ⟨j + 1,by omega,by omega,e3,by omega⟩
      ·have k1i : ¬ (es[j].2 : Int)=v:=by omega
       have e3 : prT es (aF n es m) v (j + 1)=prT es (aF n es m) v j:=by rw [es1];simp [k1]
       simp [k,edK,knD,k1,k1i,hw2]
       exact ⟨j + 1,by omega,by omega,by rw [e3],by omega⟩
     ·have ej : j=es.length:=by omega
      subst ej
      rw [Bj]
      cases hp : f9 es (aF n es m) v
      ·simp [hw]
       have e1 : dw es (aF n es m) (v + 1)=-1:=by rw [dw,if_pos g2,if_neg (by simp [hp])]
       exact ⟨v + 1,by omega,by omega,by rw [e1,ua g2],by omega⟩
      ·simp [hw]
       have e1 : dw es (aF n es m) (v + 1)=v:=by rw [dw,if_pos g2,if_pos (by simp [hp,c])]
       exact ⟨v + 1,by omega,by omega,by rw [e1],by omega⟩
   ·have e1 : dw es (aF n es m) n=dw es (aF n es m) v:=by
     have:=oZ (es:=es) (out:=aF n es m) (v:=v) (by omega) (n - v)
     rwa [show v + (n - v)=n by omega] at this
    obtain ⟨i,r,e2,e3,e4⟩:=nE (v:=n) (es:=es) (out:=aF n es m) (by omega)
    have eN:=ia e3
    have e5 : (a7 (aF n es m)).take m=a7 (aF n es m):=x0q (by rw [aZ];omega)
    rw [e1] at e2
    have hlt : ¬ (i : Int) < 0:=by omega
    have hsl : (eC n (aF n es m)).length=n:=by simp [eC]
    have hst : (eC n (aF n es m)).set i [.bool true]=eC n (aF n es (m + 1)):=by rw [pz,eN]
    simp [g1,e2,hlt,e4,jJ _ e4,aZ,hm]
    refine ⟨by omega,m + 1,by rw [eN];simp [hm],by omega,?_⟩
    rw [e5,gV,<- eN,hst]
    simp
  ·have ev : v=n:=by omega
   rw [ev]
   by_cases g2 : dw es (aF n es m) n < 0
   ·have e3:=nD g2
    have eF:=uf hm e3
    simp [g2]
    rw [um,eF,hm,if_neg (by omega)]
    simp
    omega
   ·obtain ⟨i,r,e2,e3,e4⟩:=nE (v:=n) (es:=es) (out:=aF n es m) (by omega)
    have eN:=ia e3
    have e5 : (a7 (aF n es m)).take m=a7 (aF n es m):=x0q (by rw [aZ];omega)
    have hlt : ¬ (i : Int) < 0:=by omega
    have hsl : (eC n (aF n es m)).length=n:=by simp [eC]
    have hst : (eC n (aF n es m)).set i [.bool true]=eC n (aF n es (m + 1)):=by rw [pz,eN]
    simp [e2,hlt,e4,jJ _ e4,aZ,hm]
    refine ⟨by omega,m + 1,by rw [eN];simp [hm],by omega,?_⟩
    rw [e5,gV,<- eN,hst]
    simp
 ·have em : n=m:=by omega
  subst em
  have e1 : (a7 (aF n es n)).map (fun e=>e.map aS)=a7 (aF n es n):=by simp [a7,aS]
  have e2 : (a7 (aF n es n)).take n=a7 (aF n es n):=x0q (by rw [aZ];omega)
  have e3 : (bi n es).length=n:=hm
  simp
  rw [e1,e2,um,if_pos e3,aZ]
  exact ⟨by omega,rfl,e3⟩
theorem yD {b : Bool} {n : Nat} {es : List Edg} (hn : n <= 300) (he : es.length <= 1000) (hg : inG n es) : C 459 [.int .i64 n,slx b (es.map edK)] (.bool (cN n es)) []:=by
 have k1:=vY hC (b:=b) hn he hg
 have k2:=vX hC (b:=b) hn he hg
 obtain ⟨r,hr⟩ : ∃ r,r=cN n es:=⟨_,rfl⟩
 rw [<- hr]
 unfold cN at hr
 refine ai hC (nf:=N459) rfl rfl ?_
 simp [N459]
 refine aa k1 (.inl rfl) ?_
 simp
 refine au Nat (fun j=>[(0,.int .i64 n),(1,slx b (es.map edK)),(5,.int .i64 j)]) (fun j=>j <= es.length /\ (iO es j).Nodup) (fun j=>es.length - j) 0 (by simp) (by simp) ?_
 rintro j ⟨hj,hnd⟩
 simp
 refine ac (fun h=>?_) (fun h=>?_) <;> simp [h] <;> simp at h
 ·have hw : IntKind.wrap .i64 ((j : Int) + 1)=((j + 1 : Nat) : Int):=wrap_i64 (by omega) (by omega)
  refine au Nat (fun k=>[(0,.int .i64 n),(1,slx b (es.map edK)),(5,.int .i64 j),(6,.int .i64 k)]) (fun k=>k <= j /\ es[j].1 ∉ iO es k) (fun k=>j - k) 0 (by simp) (by simp) ?_
  rintro k ⟨hk,hnk⟩
  simp
  refine ac (fun g=>?_) (fun g=>?_) <;> simp [g] <;> simp at g
  ·have hw2 : IntKind.wrap .i64 ((k : Int) + 1)=((k + 1 : Nat) : Int):=wrap_i64 (by omega) (by omega)
   have hkl : k < es.length:=by omega
   simp [h,hkl,edK,knD]
   refine ⟨am (by decide +kernel),?_⟩
   refine ac (fun c=>?_) (fun c=>?_) <;> simp at c <;> simp [c]
   ·have c' : es[j].1=es[k].1:=by omega
    have hbad : ¬ (iO es (j + 1)).Nodup:=by
     rw [fS h,x1g]
     rintro ⟨_,_,h3⟩
     refine h3 es[k].1 ?_ _ (by simp) c'.symm
     unfold iO
     rw [x0u]
     exact ⟨es[k],by rw [List.mem_take_iff_getElem];exact ⟨k,by omega,rfl⟩,rfl⟩
    simp [hr,uF hbad]
   ·have c' : ¬ es[j].1=es[k].1:=by omega
    simp [hw2]
    refine ⟨k + 1,⟨by omega,?_⟩,by omega,by omega⟩
    rw [fS hkl]
    simp [hnk,c']
  ·have ek : k=j:=by omega
   subst ek
   have hnd2 : (iO es (k + 1)).Nodup:=by
    rw [fS h,x1g]
    refine ⟨hnd,by simp,fun a ha b hb=>?_⟩
    simp at hb
    subst hb
    rintro rfl
    exact hnk ha
   simp [hw]
   exact ⟨k + 1,⟨by omega,hnd2⟩,by omega,by omega⟩
 ·have ej : j=es.length:=by omega
  rw [ej,se] at hnd
  refine aa k2 (.inr rfl) ?_
  unfold um ndD
  split <;> simp [hr,hnd]
theorem uq (b1 b2 : Bool) (ns : List Nod) (ls : List Lnk) : C 427 [.agg [slx b1 (ns.map aQ),slx b2 (ls.map ay)]] (.bool (cx ns ls)) []:=by
 have k1:=vT hC b1 b2 ns ls
 obtain ⟨r,hr⟩ : ∃ r,r=cx ns ls:=⟨_,rfl⟩
 rw [<- hr]
 unfold cx at hr
 refine ai hC (nf:=N427) rfl rfl ?_
 simp [N427]
 refine aa k1 (.inl rfl) ?_
 cases hv : bP ns ls
 ·simp [hr,hv]
 obtain ⟨l1,l2⟩:=ci hv
 have k2:=yk hC b1 b2 ns ls hv
 have k3:=yD hC (b:=false) (n:=ns.length) (es:=av ns ls) l1 (by rw [aH];omega) (fd hv)
 rw [hv,x0Z] at hr
 simp
 refine au Nat (fun j=>[(1,.ptr [slx b1 (ns.map aQ),slx b2 (ls.map ay)]),(3,.int .i64 j)]) (fun j=>j <= ls.length /\ ∀ k,(h : k < ls.length) -> k < j -> ls[k].kind=1) (fun j=>ls.length - j) 0 (by simp) (by simp) ?_
 rintro j ⟨hj,hok⟩
 simp
 refine ac (fun h=>?_) (fun h=>?_) <;> simp [h] <;> simp at h
 ·have hw : IntKind.wrap .i64 ((j : Int) + 1)=((j + 1 : Nat) : Int):=wrap_i64 (by omega) (by omega)
  simp [h,ay]
  refine ac (fun c=>?_) (fun c=>?_) <;> simp at c <;> simp [c]
  ·have : ls.all (fun l=>decide (l.kind=1))=false:=by
    rw [x1E]
    exact ⟨ls[j],x0h h,by simpa using c⟩
   rw [this] at hr
   simpa using hr
  ·simp [hw]
   refine ⟨j + 1,⟨by omega,fun k hk1 hk2=>?_⟩,by omega,by omega⟩
   rcases x0i.1 hk2 with h2 | rfl
   ·exact hok k hk1 h2
   ·exact c
 ·have hall : ls.all (fun l=>decide (l.kind=1))=true:=by
   rw [x0g]
   intro l hl
   obtain ⟨k,hk,rfl⟩:=x0A.1 hl
   simpa using hok k hk (by omega)
  rw [hall,x0Z] at hr
  refine aa k2 (.inr rfl) ?_
  simp at k3 ⊢
  refine aa k3 (.inl rfl) ?_
  simp
  exact ⟨am (by decide +kernel),hr.symm⟩
end Go.Gv

namespace Go.Gv
structure Job where
 below : SlI
 lengths : SlI
 flows : SlI
 falls : SlI
 room : SlI
 secN : Bool
 secs : List Sec
 deriving Inhabited
@[simp] theorem PF {x : SlI} : slI x=slx x.n (x.l.map fun n=>[.int .i64 n]):=zR
variable {C : CC} (hC : aw prog C)
include hC
end Go.Gv

namespace Go.Gv
def cu (nm : List UInt8) (s : Sec) : Bool:=s.name == nm
theorem kD (l : List Sec) : bg l=true ↔ l.length <= 40 /\ (∀ (i : Nat) (h : i < l.length),ap l[i]=true /\ bx (cu l[i].name) l=i):=by
 simp only [bg,x0a,x0b,x0g]
 constructor
 ·rintro ⟨⟨h1,h2⟩,h3⟩
  refine ⟨h1,fun i h=>⟨h2 _ (x0h h),?_⟩⟩
  refine cz (fun k hk hki=>?_) h (by simp [cu])
  rw [cu,beq_eq_false_iff_ne]
  intro e
  exact List.pairwise_iff_getElem.1 h3 k i (by simpa using hk) (by simpa using h) hki (by simpa using e)
 ·rintro ⟨h1,h2⟩
  refine ⟨⟨h1,fun x hx=>?_⟩,?_⟩
  ·obtain ⟨i,h,rfl⟩:=x0G hx
   exact (h2 i h).1
  ·refine List.pairwise_iff_getElem.2 fun a b ha hb hab e=>?_
   simp only [x1n] at ha hb
   simp only [x1K] at e
   have h3:=(h2 b hb).2
   have h4 : ∃ k,k <= a /\ bx (cu l[b].name) l=(k : Int):=by
    unfold bx
    cases hf : l.findIdx? (cu l[b].name) with
    | none =>
     rw [x1Q] at hf
     have:=hf l[a] (x0h _)
     simp [cu,e] at this
    | some k =>
     refine ⟨k,?_,rfl⟩
     rw [x0P] at hf
     obtain ⟨q1,q2,q3⟩:=hf
     rcases x1i a k with hak | hak
     ·exact absurd (by simp [cu,e]) (q3 a hak)
     ·exact hak
   obtain ⟨k,h5,h6⟩:=h4
   omega
variable {C : CC} (hC : aw prog C)
include hC
theorem qg (b : Bool) (l : List Sec) (nm : List UInt8) (hl : l.length < 2 ^ 62) : C 49 [slx b (l.map aP),.str nm] (.int .i64 (bx (cu nm) l)) []:=by
 refine ai hC (nf:=N49) rfl rfl ?_
 simp [N49]
 refine au Nat (fun i=>[(0,slx b (l.map aP)),(1,.str nm),(5,.int .i64 i)]) (fun i=>i <= l.length /\ ∀ (k : Nat) (h : k < l.length),k < i -> cu nm l[k]=false) (fun i=>l.length - i) 0 (by simp) (by simp) ?_
 rintro i ⟨hi,hj⟩
 simp
 refine ac (fun h=>?_) (fun h=>?_) <;> simp at h <;> simp [h]
 ·have hw : IntKind.wrap .i64 ((i : Int) + 1)=((i + 1 : Nat) : Int):=wrap_i64 (by omega) (by omega)
  simp [h,aP]
  refine ac (fun h2=>?_) (fun h2=>?_) <;> simp at h2 <;> simp [h2,hw]
  ·rw [cz hj h (by simp [cu,h2])]
  ·refine ⟨i + 1,⟨by omega,fun k hk hki=>?_⟩,by omega,by simp⟩
   rcases x0i.1 hki with h5 | rfl
   ·exact hj k hk h5
   ·simp [cu,h2]
 ·rw [cH (fun k hk=>hj k hk (by omega))]
theorem EQ (b : Bool) (l : List Sec) : C 33 [slx b (l.map aP)] (.bool (bg l)) []:=by
 refine ai hC (nf:=N33) rfl rfl ?_
 simp [N33]
 refine ac (fun h=>?_) (fun h=>?_) <;> simp at h
 ·simp [bg];omega
 simp
 have hcv:=kD l
 refine au Nat (fun i=>[(0,slx b (l.map aP)),(3,.int .i64 i)]) (fun i=>i <= l.length /\ ∀ (k : Nat) (h : k < l.length),k < i -> ap l[k]=true /\ bx (cu l[k].name) l=k) (fun i=>l.length - i) 0 (by simp) (by simp) ?_
 rintro i ⟨hi,hj⟩
 simp
 refine ac (fun h3=>?_) (fun h3=>?_) <;> simp at h3 <;> simp [h3]
 ·have hw : IntKind.wrap .i64 ((i : Int) + 1)=((i + 1 : Nat) : Int):=wrap_i64 (by omega) (by omega)
  have bad : ¬ (ap l[i]=true /\ bx (cu l[i].name) l=i) -> bg l=false:=fun e=>by
   rw [<- x1M]
   exact fun e2=>e ((hcv.1 e2).2 i h3)
  have hr:=rJ hC l[i]
  have hf:=qg hC b l l[i].name (by omega)
  simp [h3,aP]
  simp [aP] at hr
  refine aa hr (.inl rfl) ?_
  cases hs : ap l[i]
  ·simp
   exact bad (by simp [hs])
  simp [h3,aP]
  refine aa hf (.inl rfl) ?_
  simp
  refine ac (fun h4=>?_) (fun h4=>?_) <;> simp at h4 <;> simp [h4]
  ·exact bad (fun e=>h4 e.2)
  ·simp [hw]
   refine ⟨i + 1,⟨by omega,fun k hk hki=>?_⟩,by omega,by simp⟩
   rcases x0i.1 hki with h5 | rfl
   ·exact hj k hk h5
   ·exact ⟨hs,h4⟩
 ·rw [hcv.2 ⟨by omega,fun k hk=>hj k hk (by omega)⟩]
end Go.Gv

namespace Go.Gv
def l3 (ss : List Sec) (nm : List UInt8) : Int:=bx (cu nm) ss
def CJ (ss : List Sec) (nm : List UInt8) : Int × Int:=if bg ss then (if 0 <= l3 ss nm then (l3 ss nm,0) else (0,9)) else (0,1)
def gZ (ss : List Sec) (l : Lnk) : Bool:=decide (l3 ss l.sect < 0)
def dZ (l : Lnk) : Bool:=decide (l.up < l.down)
def iM (ls : List Lnk) (ss : List Sec) : Int:=if ls.any (gZ ss) then 9 else if ls.any dZ then 23 else 0
def ee (ns : List Nod) (ls : List Lnk) (ss : List Sec) (q : List Sp) (count : Int) : Int:=if cx ns ls && bg ss then (if fy q count=0 then iM ls ss else fy q count) else 1
structure gL (ss : List Sec) (l : Lnk) : Prop where
 idx : ∃ k,l3 ss l.sect=(k : Nat) /\ k < ss.length
 le : l.down <= l.up
 up : -4194304 <= l.up /\ l.up <= 4194304
 down : -4194304 <= l.down /\ l.down <= 4194304
 len : 1 <= l.len /\ l.len <= 16777216
theorem wm {ns : List Nod} {ls : List Lnk} (h : cx ns ls=true) {l : Lnk} (hl : l ∈ ls) : bj l.up=true /\ bj l.down=true /\ aG l.len 1 16777216=true /\ bz l.sect=true:=by
 simp only [cx,x0a,x0g,x0b] at h
 obtain ⟨⟨hv,hk⟩,_⟩:=h
 obtain ⟨i,hi,rfl⟩:=x0G hl
 have h1:=(eM hv hi).1
 have h2:=hk _ hl
 simp only [co,jc,h2,if_true,x0a] at h1
 exact ⟨h1.1.1.2,h1.2.1.2,h1.2.1.1,h1.2.2⟩
theorem qf {ns : List Nod} {ls : List Lnk} {ss : List Sec} (ht : cx ns ls=true) (h : iM ls ss=0) : ∀ l ∈ ls,gL ss l:=by
 intro l hl
 obtain ⟨a,b,c,_⟩:=wm ht hl
 simp only [bj,aG,x0a,x0b] at a b c
 unfold iM at h
 split at h
 ·cases h
 rename_i h1
 split at h
 ·cases h
 rename_i h2
 simp only [x1M,x0R,gZ,dZ,x0b] at h1 h2
 have e1:=h1 l hl
 have e2:=h2 l hl
 have hi : 0 <= l3 ss l.sect:=by omega
 refine ⟨⟨(l3 ss l.sect).toNat,by omega,jD hi⟩,by omega,a,b,c⟩
theorem gL.fall {ss : List Sec} {l : Lnk} (h : gL ss l) : bB (bE l) l.len=true:=by
 have:=h.le;have:=h.len;have:=h.up;have:=h.down
 by_cases h : 4194304 < l.up - l.down <;> simp [bB,bE,h] <;> omega
theorem pX {ns : List Nod} {ls : List Lnk} {ss : List Sec} {q : List Sp} {count : Int} (h : ee ns ls ss q count=0) : cx ns ls=true /\ bg ss=true /\ fy q count=0 /\ iM ls ss=0:=by
 unfold ee at h
 split at h
 ·rename_i h1
  simp only [x0a] at h1
  split at h
  ·rename_i h2
   exact ⟨h1.1,h1.2,h2,h⟩
  ·rename_i h2
   exact absurd h h2
 ·cases h
theorem pL {ss : List Sec} (h : bg ss=true) {k : Nat} (hk : k < ss.length) : ap ss[k]=true:=((kD ss).1 h).2 k hk |>.1
variable {C : CC} (hC : aw prog C)
include hC
end Go.Gv

namespace Go.Gv
def Ap (s : Sec) (depth fall len : Int) : Int × Int:=if ap s then (if 0 <= depth /\ depth <= s.height /\ bB fall len=true then (if 1099511627776 < (iW s depth fall len : Int) then (0,5) else (iW s depth fall len,0)) else (0,2)) else (0,1)
def cS (ss : List Sec) (l : Lnk) : Sec:=ss[(l3 ss l.sect).toNat]?.getD ⟨[],0,0,true,[],true,[]⟩
theorem gL.sec {ss : List Sec} {l : Lnk} (h : gL ss l) : ∃ k,l3 ss l.sect=(k : Nat) /\ ∃ hk : k < ss.length,cS ss l=ss[k]:=by
 obtain ⟨k,hk,hl⟩:=h.idx
 refine ⟨k,hk,hl,?_⟩
 simp [cS,hk,hl]
theorem gL.find {ss : List Sec} {l : Lnk} (hv : bg ss=true) (h : gL ss l) : CJ ss l.sect=(l3 ss l.sect,0):=by
 obtain ⟨k,hk,hl⟩:=h.idx
 simp [CJ,hv,hk]
theorem gL.valid {ss : List Sec} {l : Lnk} (hv : bg ss=true) (h : gL ss l) : ap (cS ss l)=true:=by
 obtain ⟨k,hk,hl,e⟩:=h.sec
 rw [e]
 exact pL hv hl
theorem gL.wrap {ss : List Sec} {l : Lnk} (h : gL ss l) : IntKind.wrap .i64 (l.up - l.down)=l.up - l.down:=by
 have:=h.up;have:=h.down
 exact wrap_i64 rfl (by omega)
variable {C : CC} (hC : aw prog C)
include hC
end Go.Gv

namespace Go.Gv
section
variable {C : CC} {hs : Option (List Nat)} {K : Env -> Prop} {ns : List az} {e : Env} {R : List Nat} {acc : List (List Nat × List Nat)}
end
end Go.Gv

namespace Go.Gv
section
variable {C : CC} {hs : Option (List Nat)} {K : Env -> Prop} {ns : List az} {e : Env} {R : List Nat} {acc : List (List Nat × List Nat)}
theorem uI {x : Opd} {s c : Nat} {v1 : _} {sz : Nat} {row : List D} {b i1 o1 i off sz0 sz1 : Nat} {es0 es : List (List D)} {row0 r : List D} (hs0 : s < 10000) (hfs : ae e s=.adr (.r c) 0 0) (hfc : ae e c=.blk sz [row]) (hrow : ∀ d ∈ row,aK d=true) (hx : vd (ae e) x=.adr (.n b i1 o1) i off) (hbc : b ≠ c) (hb : ae e b=.blk sz0 es0)
  (h1 : es0[i1]? = some row0) (h2 : row0[o1]? = some (.own sz1 es)) (h3 : es[i]? = some r) (h4 : off + 1 <= r.length)
  (hk : doW C hs K ns ⟨⟩ e R acc [(b,.blk sz0 (br es0 i1 o1 1 [.own sz1 (br es i off 1 [.ptr row])])),(s,.ptr row),(c,.any)] []) : opW C hs K ns none (.stP x (.t s)) v1 e R acc:=by
 unfold opW
 simp only [aJ]
 refine ⟨trivial,hs0,?_⟩
 rw [hfs]
 refine ⟨rfl,rfl,?_⟩
 rw [hfc]
 refine ⟨hrow,?_⟩
 rw [hx]
 refine ⟨hbc,?_⟩
 rw [hb]
 exact ⟨row0,h1,sz1,es,h2,r,h3,h4,hk⟩
theorem uG {n : Nat} {y : Opd} {s c : Nat} {v1 : _} {sz : Nat} {row ds : List D} (hs0 : s < 10000) (hfs : ae e s=.adr (.r c) 0 0) (hfc : ae e c=.blk sz [row]) (hl : row.length=n) (hp : mA (vd (ae e) y)=some ds) (hd : ds.length=n) (h1 : ds.all qT=true)
  (hk : doW C hs K ns ⟨⟩ e R acc [(s,.ptx ds),(c,.any)] []) : opW C hs K ns none (.stF n (.t s) y) v1 e R acc:=by
 unfold opW
 simp only [aJ]
 refine ⟨trivial,hs0,?_⟩
 rw [hfs]
 refine ⟨rfl,rfl,?_⟩
 rw [hfc]
 exact ⟨hl,ds,hp,hd,h1,hk⟩
end
end Go.Gv

namespace Go.Gv
section
variable {C : CC} {hs : Option (List Nat)} {K : Env -> Prop} {ns : List az} {e : Env} {R : List Nat} {acc : List (List Nat × List Nat)}
theorem u7 {t m : Nat} {ms : List Nat} {x : Opd} {v1 : _} {ds cs : List D} {bs : List Nat} (hv : vd (ae e) x=.agx ds) (hl : (m::ms).length=ds.length) (hab : ∀ Q : List D -> List Nat -> Prop,Q cs bs -> iT (ae e) ds Q) (hd : bL bs=true) (hbs : bs.contains (rt t 0)=false)
  (hk : doW C hs K ns ⟨⟩ e R acc ((t,.adr (.r (rt t 0)) 0 0)::(rt t 0,.blk (eu (m::ms) cs).length [eu (m::ms) cs])::cl bs) [(rt t 0,true)]) : opW C hs K ns (some t) (.box (m::ms) x) v1 e R acc:=by
 unfold opW
 simp only [aJ]
 rw [hv]
 simp only [fD]
 exact ⟨.inr hl,hab _ ⟨hd,hbs,hk⟩⟩
end
def lI (ns : List Nod) (es : List Edg) : Bool:=(List.range ns.length).any fun i=>!decide (ns[i]!.kind=3) && (fE es i).isNone
def fG (ls : List Lnk) (ss : List Sec) (fl : List Sp) (k : Nat) : Int:=(b9 ls[k]! (cS ss ls[k]!) fl[k]!.2).2
def jf (ls : List Lnk) (ss : List Sec) (fl : List Sp) : Int:=if (List.range ls.length).any (fun k=>decide (fG ls ss fl k=16)) then 16 else if (List.range ls.length).any (fun k=>decide (fG ls ss fl k=5)) then 5 else 0
def dE (o : Sp) : Bool:=decide (o.1 < -4194304) || decide (4194304 < o.2)
def cw (ns : List Nod) (ls : List Lnk) (ss : List Sec) (q : List Sp) (o : Sp) : Int :=
 if ee ns ls ss q ns.length=1 \/ da o=false then 1
 else if ee ns ls ss q ns.length=3 then 3
 else if ee ns ls ss q ns.length=2 \/ dE o=true then 2
 else if ee ns ls ss q ns.length ≠ 0 then ee ns ls ss q ns.length
 else if lI ns (av ns ls) then 24
 else if bK ns.length (av ns ls) q ≠ 0 then bK ns.length (av ns ls) q
 else jf ls ss (aD ns.length (av ns ls) q)
def gf (ns : List Nod) (ls : List Lnk) (ss : List Sec) (q : List Sp) (o : Sp) : Bool:=decide (ee ns ls ss q ns.length=0) && da o && !dE o && !lI ns (av ns ls) && decide (bK ns.length (av ns ls) q=0) && !decide (jf ls ss (aD ns.length (av ns ls) q)=16)
theorem ta (ls : List Lnk) (ss : List Sec) (fl : List Sp) : jf ls ss fl=0 \/ jf ls ss fl=5 \/ jf ls ss fl=16:=by
 unfold jf
 split
 ·simp
 ·split <;> simp
theorem zH {ns : List Nod} {ls : List Lnk} {ss : List Sec} {q : List Sp} {o : Sp} (h : gf ns ls ss q o=true) : cw ns ls ss q o=jf ls ss (aD ns.length (av ns ls) q) /\ (cw ns ls ss q o=0 \/ cw ns ls ss q o=5):=by
 simp only [gf,x0a,x0t,x0b,x0H] at h
 obtain ⟨⟨⟨⟨⟨h1,h2⟩,h3⟩,h4⟩,h5⟩,h6⟩:=h
 have e : cw ns ls ss q o=jf ls ss (aD ns.length (av ns ls) q):=by
  unfold cw
  rw [h1,h3,h4,h5]
  simp [h2]
 refine ⟨e,?_⟩
 rw [e]
 rcases ta ls ss (aD ns.length (av ns ls) q) with h | h | h
 ·exact .inl h
 ·exact .inr h
 ·exact absurd h h6
theorem uN {ns : List Nod} {ls : List Lnk} {ss : List Sec} {q : List Sp} {o : Sp} {e : Int} (he : e=cw ns ls ss q o) (h : ¬ (e=0 \/ e=5)) : gf ns ls ss q o=false:=by
 rw [<- x1M]
 intro h2
 rw [he] at h
 exact h (zH h2).2
def jq (ss : List Sec) (ls : List Lnk) (j : Nat) : List (List D):=(ls.take j).map fun l=>aP (cS ss l)
theorem EV (ss : List Sec) (ls : List Lnk) : jq ss ls 0=[]:=rfl
theorem v7 {ss : List Sec} {ls : List Lnk} {j : Nat} (h : j < ls.length) : jq ss ls (j + 1)=jq ss ls j++[aP (cS ss ls[j])]:=by
 unfold jq
 rw [x0v h,x1o]
 rfl
theorem ic {ss : List Sec} {ls : List Lnk} {j : Nat} (h : j <= ls.length) : (jq ss ls j).length=j:=by simp [jq];omega
theorem BC (ss : List Sec) (ls : List Lnk) (j : Nat) : ∀ e ∈ jq ss ls j,∀ c ∈ e,aK c=true:=by
 intro e he
 simp only [jq,x0u] at he
 obtain ⟨l,_,rfl⟩:=he
 simp [aP]
theorem rY {ss : List Sec} {ls : List Lnk} {j k : Nat} (hk : k < j) (hj : k < ls.length) : (jq ss ls j)[k]? = some (aP (cS ss ls[k])):=by
 simp [jq,hk,hj]
def toT (es : List Edg) (j : Nat) : List (List D):=(es.take j).map fun e=>[.int .i64 (e.2 : Int)]
theorem LZ (es : List Edg) : toT es 0=[]:=rfl
theorem zE {es : List Edg} {j : Nat} (h : j < es.length) : toT es (j + 1)=toT es j++[[.int .i64 (es[j].2 : Int)]]:=by
 unfold toT
 rw [x0v h,x1o]
 rfl
theorem uM {es : List Edg} {j : Nat} (h : j <= es.length) : (toT es j).length=j:=by simp [toT];omega
theorem Cb {es : List Edg} {j k : Nat} (hk : k < j) (hj : k < es.length) : (toT es j)[k]? = some [.int .i64 (es[k].2 : Int)]:=by
 simp [toT,hk,hj]
def fL (b1 b2 : Bool) (ns : List Nod) (ls : List Lnk) (ss : List Sec) (es : List Edg) (fl : List Sp) (o : Sp) (dn : List (List D)) : List D :=
 [slx b1 (ns.map aQ),slx b2 (ls.map ay),.sl (fl.map knD),.own 5 (jq ss ls ls.length),.own 1 (frA ns.length es es.length),.own 1 (toT es es.length),.int .i64 o.1,.int .i64 o.2,.own 1 dn]
variable {C : CC} (hC : aw prog C)
include hC
theorem y8 (s : Sp) : C 641 [.agg (knD s)] (.bool (!da s)) []:=by
 refine ai hC (nf:=N641) rfl rfl ?_
 simp [N641,knD]
 refine aa (tv hC s) (.inl rfl) ?_
 simp
theorem BV (s : Sp) : C 642 [.agg (knD s)] (.bool (fK s)) []:=by
 refine ai hC (nf:=N642) rfl rfl ?_
 simp [N642,knD,fK]
 by_cases h : s.1 < 0 <;> simp [h]
theorem yR (l : Lnk) (s : Sec) : C 643 (.agg (aP s)::[.ptr (ay l)]) (.bool (cu l.sect s)) []:=by
 refine ai hC (nf:=N643) rfl rfl ?_
 simp [N643,aP,ay,cu]
 rw [x0x];simp
theorem wq (l : Lnk) : C 644 [.agg (ay l)] (.bool (dZ l)) []:=by
 refine ai hC (nf:=N644) rfl rfl ?_
 simp [N644,ay,dZ]
end Go.Gv

namespace Go.Gv
variable {C : CC} (hC : aw prog C)
include hC
theorem uo (s : Sp) : C 501 [.agg (knD s)] (.bool (da s)) []:=by
 refine ai hC (nf:=N501) rfl rfl ?_
 simp [N501,knD]
 by_cases h1 : s.1 <= s.2 <;> by_cases h2 : -72057594037927936 <= s.1 <;> by_cases h3 : s.2 <= 72057594037927936 <;> simp [da,vr,h1,h2,h3]
 constructor <;> omega
theorem rK (b : Bool) (l : List Sp) (count : Int) (hl : l.length < 2 ^ 62) : C 465 [slx b (l.map knD),.int .i64 count] (.int .i64 (fy l count)) []:=by
 have k1:=fun s=>uo hC s
 simp only [knD] at k1
 refine ai hC (nf:=N465) rfl rfl ?_
 simp [N465]
 refine au Nat (fun i=>[(0,slx b (l.map knD)),(1,.int .i64 count),(5,.int .i64 i)]) (fun i=>i <= l.length /\ ∀ (j : Nat) (h : j < l.length),j < i -> da l[j]=true) (fun i=>l.length - i) 0 (by simp) (by simp) ?_
 rintro i ⟨hi,hj⟩
 simp
 refine ac (fun h=>?_) (fun h=>?_) <;> simp [h] <;> simp at h
 ·have hw : IntKind.wrap .i64 ((i : Int) + 1)=((i + 1 : Nat) : Int):=wrap_i64 (by omega) (by omega)
  simp [h,knD]
  refine aa (k1 _) (.inl rfl) ?_
  cases h1 : da l[i]
  ·simp
   have : l.any (fun s=>!da s)=true:=x0E.2 ⟨l[i],x0h h,by simp [h1]⟩
   rw [fy,if_pos this]
  ·simp [hw]
   refine ⟨i + 1,⟨by omega,fun j hl hjj=>?_⟩,by omega,by omega⟩
   rcases x0i.1 hjj with h2 | rfl
   ·exact hj j hl h2
   ·exact h1
 ·have hno : l.any (fun s=>!da s)=false:=by
   rw [x0R]
   intro x hx
   obtain ⟨j,hjl,rfl⟩:=x0G hx
   simp [hj j hjl (by omega)]
  clear hj h hi
  unfold fy
  rw [hno]
  by_cases h : (l.length : Int)=count
  rotate_left
  ·simp [h]
  simp [h]
  refine au Nat (fun i=>[(0,slx b (l.map knD)),(6,.int .i64 i)]) (fun i=>i <= l.length /\ ∀ (j : Nat) (h : j < l.length),j < i -> fK l[j]=false) (fun i=>l.length - i) 0 (by simp) (by simp) ?_
  rintro i ⟨hi,hj⟩
  simp
  refine ac (fun g=>?_) (fun g=>?_) <;> simp [g] <;> simp at g
  ·have hw : IntKind.wrap .i64 ((i : Int) + 1)=((i + 1 : Nat) : Int):=wrap_i64 (by omega) (by omega)
   have yes : fK l[i]=true -> l.any fK=true:=fun e=>x0E.2 ⟨l[i],x0h g,e⟩
   have no : fK l[i]=false -> ∃ i' : Nat,(i' <= l.length /\ ∀ (j : Nat) (h : j < l.length),j < i' -> fK l[j]=false) /\ l.length - i' < l.length - i /\ (i : Int) + 1=i':=fun e=>by
    refine ⟨i + 1,⟨by omega,fun j hl hjj=>?_⟩,by omega,by omega⟩
    rcases x0i.1 hjj with h2 | rfl
    ·exact hj j hl h2
    ·exact e
   simp [g,knD]
   by_cases a1 : l[i].1 < 0
   ·have:=yes (by simp [fK,a1])
    simp [a1,this,h]
   ·by_cases a2 : 1099511627776 < l[i].2
    ·have:=yes (by simp [fK,a2])
     simp [a1,a2,this,h,g,knD]
    ·obtain ⟨i',b1,b2,b3⟩:=no (by simp [fK,a1,a2])
     simp [a1,a2,hw,g,knD]
     exact ⟨i',b1,b2,by omega⟩
  ·have hno : l.any fK=false:=by
    rw [x0R]
    intro x hx
    obtain ⟨j,hjl,rfl⟩:=x0G hx
    simp [hj j hjl (by omega)]
   simp [hno,h]
theorem yp (b1 b2 b : Bool) (ns : List Nod) (ls : List Lnk) (ss : List Sec) (hls : ls.length < 2 ^ 62) (hss : ss.length < 2 ^ 62) : C 479 [.agg [slx b1 (ns.map aQ),slx b2 (ls.map ay)],slx b (ss.map aP)] (.int .i64 (iM ls ss)) []:=by
 have k1:=fun nm=>qg hC b ss nm hss
 refine ai hC (nf:=N479) rfl rfl ?_
 simp [N479]
 refine au Nat (fun i=>[(1,slx b (ss.map aP)),(2,.ptr [slx b1 (ns.map aQ),slx b2 (ls.map ay)]),(5,.int .i64 i)]) (fun i=>i <= ls.length /\ ∀ (j : Nat) (h : j < ls.length),j < i -> gZ ss ls[j]=false) (fun i=>ls.length - i) 0 (by simp) (by simp) ?_
 rintro i ⟨hi,hj⟩
 simp
 refine ac (fun h=>?_) (fun h=>?_) <;> simp [h] <;> simp at h
 ·have hw : IntKind.wrap .i64 ((i : Int) + 1)=((i + 1 : Nat) : Int):=wrap_i64 (by omega) (by omega)
  simp [h,ay]
  refine aa (k1 _) (.inl rfl) ?_
  have e : bx (cu ls[i].sect) ss=l3 ss ls[i].sect:=rfl
  rw [e]
  simp
  refine ac (fun h1=>?_) (fun h1=>?_) <;> simp [h1] <;> simp at h1
  ·have : ls.any (gZ ss)=true:=x0E.2 ⟨ls[i],x0h h,by simp [gZ];omega⟩
   rw [iM,if_pos this]
  ·simp [hw]
   refine ⟨i + 1,⟨by omega,fun j hl hjj=>?_⟩,by omega,by omega⟩
   rcases x0i.1 hjj with h2 | rfl
   ·exact hj j hl h2
   ·simp [gZ];omega
 ·have hno : ls.any (gZ ss)=false:=by
   rw [x0R]
   intro x hx
   obtain ⟨j,hjl,rfl⟩:=x0G hx
   simp [hj j hjl (by omega)]
  clear hj h hi
  unfold iM
  rw [hno]
  refine au Nat (fun i=>[(2,.ptr [slx b1 (ns.map aQ),slx b2 (ls.map ay)]),(6,.int .i64 i)]) (fun i=>i <= ls.length /\ ∀ (j : Nat) (h : j < ls.length),j < i -> dZ ls[j]=false) (fun i=>ls.length - i) 0 (by simp) (by simp) ?_
  rintro i ⟨hi,hj⟩
  simp
  refine ac (fun g=>?_) (fun g=>?_) <;> simp [g] <;> simp at g
  ·have hw : IntKind.wrap .i64 ((i : Int) + 1)=((i + 1 : Nat) : Int):=wrap_i64 (by omega) (by omega)
   simp [g,ay]
   refine ⟨am (by decide +kernel),?_⟩
   refine ac (fun h1=>?_) (fun h1=>?_) <;> simp [h1] <;> simp at h1
   ·have : ls.any dZ=true:=x0E.2 ⟨ls[i],x0h g,by simp [dZ];omega⟩
    exact ⟨_,x0h g,by simp [dZ];omega⟩
   ·simp [hw]
    refine ⟨i + 1,⟨by omega,fun j hl hjj=>?_⟩,by omega,by omega⟩
    rcases x0i.1 hjj with h2 | rfl
    ·exact hj j hl h2
    ·simp [dZ];omega
  ·have hno : ls.any dZ=false:=by
    rw [x0R]
    intro x hx
    obtain ⟨j,hjl,rfl⟩:=x0G hx
    simp [hj j hjl (by omega)]
   simpa using hno
theorem yn (b1 b2 b b' nodes : Bool) (ns : List Nod) (ls : List Lnk) (ss : List Sec) (q : List Sp) (hls : ls.length < 2 ^ 62) (hss : ss.length < 2 ^ 62) (hq : q.length < 2 ^ 62) : C 440 [.agg [slx b1 (ns.map aQ),slx b2 (ls.map ay)],slx b (ss.map aP),slx b' (q.map knD),.bool nodes] (.int .i64 (ee ns ls ss q (if nodes then (ns.length : Int) else ls.length))) []:=by
 have k1:=uq hC b1 b2 ns ls
 have k2:=EQ hC b ss
 have k3:=fun count=>rK hC b' q count hq
 have k4:=yp hC b1 b2 b ns ls ss hls hss
 refine ai hC (nf:=N440) rfl rfl ?_
 simp [N440]
 refine aa k1 (.inl rfl) ?_
 unfold ee
 cases ht : cx ns ls
 ·simp
 simp
 refine aa k2 (.inl rfl) ?_
 cases hv : bg ss
 ·simp
 simp
 cases nodes
 ·simp
  refine aa (k3 _) (.inl rfl) ?_
  by_cases h0 : fy q ls.length=0
  ·simp [h0]
   refine aa k4 (.inl rfl) ?_
   simp [h0]
  ·simp [h0]
 ·simp
  refine aa (k3 _) (.inl rfl) ?_
  by_cases h0 : fy q ns.length=0
  ·simp [h0]
   refine aa k4 (.inl rfl) ?_
   simp [h0]
  ·simp [h0]
end Go.Gv

namespace Go.Gv
def spT (l : List Sp) (j : Nat) : List (List D):=(l.take j).map knD
theorem y9 {l : List Sp} {j : Nat} (h : j < l.length) : spT l (j + 1)=spT l j++[knD l[j]]:=by
 rw [spT,x0v h,x1o];rfl
theorem BX {l : List Sp} {j : Nat} (h : j <= l.length) : (spT l j).length=j:=by simp [spT];omega
theorem BW (l : List Sp) : spT l l.length=l.map knD:=by simp [spT]
theorem LX (l : List Sp) (j : Nat) : (spT l j).map (fun e=>e.map aS)=spT l j:=by
 unfold spT
 rw [x1U]
 apply x0j
 intro v _
 simp [knD,aS]
theorem lf {q : List Sp} {n : Nat} (h : fy q n=0) : q.length=n /\ ∀ s ∈ q,0 <= s.1 /\ s.1 <= s.2 /\ s.2 <= 1099511627776:=by
 unfold fy at h
 split at h
 ·cases h
 rename_i h1
 split at h
 ·rename_i h0
  split at h
  ·cases h
  ·rename_i h2
   refine ⟨by omega,fun s hs=>?_⟩
   simp only [x1M,x0R] at h1 h2
   have a:=h1 s hs
   have b:=h2 s hs
   simp only [da,fK,x0t,Bool.not_eq_false',x0a,x0b,x0F,not_or] at a b
   simp at a b
   omega
 ·cases h
variable {C : CC} (hC : aw prog C)
include hC
end Go.Gv

namespace Go.Gv
variable {C : CC} (hC : aw prog C)
include hC
theorem DP (b b' : Bool) (xs ys : List (Int × Int)) (hx : xs.length < 2 ^ 62) (hy : ys.length < 2 ^ 62) : C 434 [slx b (xs.map knD),slx b' (ys.map knD)] (.bool (decide (xs=ys))) []:=by
 obtain ⟨r,hr⟩ : ∃ r,r=decide (xs=ys):=⟨_,rfl⟩
 rw [<- hr]
 refine ai hC (nf:=N434) rfl rfl ?_
 simp [N434]
 refine ac (fun h=>?_) (fun h=>?_) <;> simp at h <;> simp [h]
 ·rw [hr,decide_eq_false]
  intro e
  exact h (by rw [e])
 have h' : xs.length=ys.length:=by omega
 refine au Nat (fun i=>[(0,slx b (xs.map knD)),(1,slx b' (ys.map knD)),(12,.int .i64 xs.length),(13,.int .i64 i)])
  (fun i=>i <= xs.length /\ ∀ (k : Nat) (h1 : k < xs.length) (h2 : k < ys.length),k < i -> xs[k]=ys[k]) (fun i=>xs.length - i) 0 (by simp) (by simp [h']) ?_
 rintro i ⟨hi,hok⟩
 simp
 refine ac (fun h1=>?_) (fun h1=>?_) <;> simp at h1 <;> simp [h1]
 ·have hw : IntKind.wrap .i64 ((i : Int) + 1)=((i + 1 : Nat) : Int):=wrap_i64 (by omega) (by omega)
  have hy1 : i < ys.length:=by omega
  simp [h1,hy1,knD]
  refine ⟨am (by decide +kernel),?_⟩
  by_cases h2 : xs[i]=ys[i]
  ·simp [h2,hw]
   refine ⟨i + 1,⟨by omega,fun k k1 k2 hk=>?_⟩,by omega,rfl⟩
   rcases x0i.1 hk with h5 | rfl
   ·exact hok k k1 k2 h5
   ·exact h2
  ·have h3 : ¬ (xs[i].1=ys[i].1 /\ xs[i].2=ys[i].2):=fun e=>h2 (Prod.ext e.1 e.2)
   refine ac (fun h4=>?_) (fun h4=>?_) <;> simp at h4 <;> simp [h4]
   ·rw [hr,decide_eq_false]
    intro e
    exact h2 (by simp [e])
   ·exact absurd h4 h3
 ·rw [hr,decide_eq_true]
  exact x1L h' fun k k1 k2=>hok k k1 k2 (by omega)
end Go.Gv

namespace Go.Gv
theorem iv (n : Nat) (es : List Edg) (l : List Sp) : (aD n es l).length=es.length:=by simp [aD]
variable {C : CC} (hC : aw prog C)
include hC
end Go.Gv

namespace Go.Gv
structure tB (s : Sec) (fall len : Int) (y : Sp) : Prop where
 lo : 0 <= y.1
 hi : y.1 <= s.height
 fl : y.2 <= 1099511627776
 yes : y.2 <= (iW s y.1 fall len : Int)
 no : 0 < y.1 -> (iW s (y.1 - 1) fall len : Int) < y.2
theorem tB.cap {s : Sec} {fall len : Int} {y : Sp} (h : tB s fall len y) (hs : ap s=true) (hf : bB fall len=true) : (Ap s y.1 fall len).2=5 \/ ((Ap s y.1 fall len).2=0 /\ y.2 <= (Ap s y.1 fall len).1):=by
 have:=h.yes
 unfold Ap
 rw [if_pos hs,if_pos ⟨h.lo,h.hi,hf⟩]
 split
 ·exact .inl rfl
 ·exact .inr ⟨rfl,this⟩
variable {C : CC} (hC : aw prog C)
include hC
end Go.Gv

namespace Go.Gv
variable {C : CC} (hC : aw prog C)
include hC
end Go.Gv

namespace Go.Gv
def eX (l : List (List UInt8)) : List (List D):=l.map fun s=>[.str s]
theorem db (l : List (List UInt8)) : (eX l).length=l.length:=by simp [eX]
theorem zu (l : List (List UInt8)) : (eX l).map (fun e=>e.map aS)=eX l:=by
 unfold eX
 rw [x1U]
 apply x0j
 intro v _
 simp [aS]
theorem fq (l : List (List UInt8)) (s : List UInt8) : eX l++[[.str s]]=eX (l++[s]):=by simp [eX]
variable {C : CC} (hC : aw prog C)
include hC
end Go.Gv

namespace Go.Gv
variable {C : CC} (hC : aw prog C)
include hC
end Go.Gv

namespace Go.Gv
variable {C : CC} (hC : aw prog C)
include hC
end Go.Gv

namespace Go.Gv
structure HZ (a b : List Sp) : Prop where
 len : b.length=a.length
 get : ∀ (i : Nat) (h : i < a.length) (h' : i < b.length),0 <= a[i].1 /\ a[i].1 <= b[i].1 /\ b[i].1=b[i].2 /\ b[i].2 <= a[i].2
theorem E9 {n : Nat} {es : List Edg} {g g' : Nat -> Int} (h : ∀ v,v < n -> g v <= g' v) (x : Nat) : upS n es g x <= upS n es g' x:=by
 unfold upS
 refine mY fun v hv=>?_
 have:=h v hv
 show (if upB n es v x=true then g v else 0) <= if upB n es v x=true then g' v else 0
 split <;> omega
theorem oB {l : List Sp} {v : Nat} (h : v < l.length) : l[v]! = l[v]:=x0f l v h
theorem HZ.rng {a b : List Sp} (h : HZ a b) (ha : ∀ s ∈ a,0 <= s.1 /\ s.1 <= s.2 /\ s.2 <= 1099511627776) : ∀ s ∈ b,0 <= s.1 /\ s.1 <= s.2 /\ s.2 <= 1099511627776:=by
 intro s hs
 obtain ⟨i,hi,rfl⟩:=x0G hs
 have hl:=h.len
 have h1:=h.get i (by omega) hi
 have h2:=ha _ (x0h (show i < a.length by omega))
 omega
theorem Am {fl : List Sp} (h : ∀ s ∈ fl,s.2 <= 1099511627776) : iV fl=false:=by
 unfold iV
 rw [x0R]
 intro s hs
 have:=h s hs
 simp
 omega
end Go.Gv

set_option maxRecDepth 4000
namespace Go.Gv
theorem zF {ns : List Nod} {ls : List Lnk} {ss : List Sec} {q : List Sp} {o : Sp} (h : ¬ (cx ns ls=true /\ bg ss=true /\ da o=true /\ q.any (fun s=>!da s)=false)) : cw ns ls ss q o=1:=by
 unfold cw
 rw [if_pos]
 by_cases h1 : da o=true
 ·left
  unfold ee
  by_cases h2 : cx ns ls=true
  ·by_cases h3 : bg ss=true
   ·have h4 : q.any (fun s=>!da s)=true:=by
     apply Classical.byContradiction
     intro h5
     exact h ⟨h2,h3,h1,by simpa using h5⟩
    have h5 : fy q ns.length=1:=by unfold fy;rw [if_pos h4]
    rw [if_pos (by simp [h2,h3]),h5,if_neg (by decide)]
   ·rw [if_neg (by simp [h3])]
  ·rw [if_neg (by simp [h2])]
 ·right
  simpa using h1
theorem zG {ns : List Nod} {ls : List Lnk} {ss : List Sec} {q : List Sp} (h1 : cx ns ls=true) (h2 : bg ss=true) (h3 : q.any (fun s=>!da s)=false) :
  ee ns ls ss q ns.length=if q.length=ns.length then (if q.any fK then 2 else iM ls ss) else 3:=by
 have e : fy q ns.length=if q.length=ns.length then (if q.any fK then 2 else 0) else 3:=by
  unfold fy
  rw [if_neg (by simp [h3])]
  by_cases h4 : q.length=ns.length
  ·rw [if_pos (by omega),if_pos h4]
  ·rw [if_neg (by omega),if_neg h4]
 unfold ee
 rw [if_pos (by simp [h1,h2]),e]
 by_cases h4 : q.length=ns.length
 ·rw [if_pos h4,if_pos h4]
  by_cases h5 : q.any fK=true
  ·rw [if_pos h5,if_pos h5,if_neg (by decide)]
  ·rw [if_neg h5,if_neg h5,if_pos rfl]
 ·rw [if_neg h4,if_neg h4,if_neg (by decide)]
theorem vH (d : D) : en 0 d=d:=by cases d <;> rfl
theorem EG : en 5 .nils=.own 5 []:=rfl
theorem EF : en 1 .nils=.own 1 []:=rfl
theorem ya {ls : List Lnk} {ss : List Sec} {k : Nat} (hk : k < ls.length) (h : gZ ss ls[k]=true) : iM ls ss=9:=by
 unfold iM
 rw [if_pos (x0E.2 ⟨_,x0h hk,h⟩)]
theorem pU {n : Nat} {es : List Edg} (hn : n <= 300) (hg : inG n es) (ht : cN n es=true) {q : List Sp} (hq : q.length=n) (hqr : ∀ s ∈ q,0 <= s.1 /\ s.1 <= s.2 /\ s.2 <= 1099511627776) {k : Nat} (hk : k < es.length) : 0 <= (aD n es q)[k]!.1 /\ (aD n es q)[k]!.1 <= (aD n es q)[k]!.2:=by
 have hl1 : ∀ v,v < n -> 0 <= q[v]!.1 /\ q[v]!.1 <= q[v]!.2 /\ q[v]!.2 <= 1099511627776:=fun v hv=>by
  rw [oB (by omega)]
  exact hqr _ (x0h _)
 rw [tR hn hg ht hl1 hk]
 have r1:=ma (n:=n) (es:=es) (g:=fun v=>q[v]!.1) (B:=1099511627776) (by omega) (fun v hv=>by have:=hl1 v hv;omega) es[k].1
 exact ⟨r1.1,E9 (fun v hv=>(hl1 v hv).2.1) _⟩
theorem pT {n : Nat} {es : List Edg} {q : List Sp} (hb : iV (aD n es q)=false) {k : Nat} (hk : k < es.length) : (aD n es q)[k]!.2 <= 1099511627776:=by
 have hl : k < (aD n es q).length:=by rw [iv];exact hk
 rw [oB hl]
 simp only [iV,x0R,x0b] at hb
 have:=hb _ (x0h hl)
 omega
def jU (ls : List Lnk) (ss : List Sec) (fl : List Sp) (j : Nat) : Int:=if (List.range j).any (fun k=>decide (fG ls ss fl k=5)) then 5 else 0
theorem zT {ls : List Lnk} {ss : List Sec} {fl : List Sp} {j : Nat} (h : fG ls ss fl j=5) : jU ls ss fl (j + 1)=5:=by
 unfold jU
 rw [if_pos]
 rw [x0E]
 exact ⟨j,by simp,by simpa using h⟩
theorem zU {ls : List Lnk} {ss : List Sec} {fl : List Sp} {j : Nat} (h : fG ls ss fl j ≠ 5) : jU ls ss fl (j + 1)=jU ls ss fl j:=by
 unfold jU
 rw [x1w,List.any_append]
 simp [h]
theorem t8 {ls : List Lnk} {ss : List Sec} {fl : List Sp} {j : Nat} (hj : j < ls.length) (h : fG ls ss fl j=16) : jf ls ss fl=16:=by
 unfold jf
 rw [if_pos]
 rw [x0E]
 exact ⟨j,by simpa using hj,by simpa using h⟩
theorem xR {ls : List Lnk} {ss : List Sec} {fl : List Sp} (h : ∀ k,k < ls.length -> fG ls ss fl k ≠ 16) : jf ls ss fl=jU ls ss fl ls.length:=by
 unfold jf jU
 rw [if_neg]
 rw [x0E]
 rintro ⟨k,h1,h2⟩
 exact h k (by simpa using h1) (by simpa using h2)
theorem uR (ls : List Lnk) (ss : List Sec) (fl : List Sp) (j : Nat) : jU ls ss fl j ≠ 16:=by
 unfold jU
 split <;> decide
theorem mQ {ns : List Nod} {es : List Edg} {k : Nat} (hk : k < ns.length) (h1 : ns[k].kind ≠ 3) (h2 : fE es k=none) : lI ns es=true:=by
 unfold lI
 rw [x0E]
 exact ⟨k,by simpa using hk,by rw [x0f ns k hk];simp [h1,h2]⟩
theorem tS {ns : List Nod} {es : List Edg} (h : ∀ k (hk : k < ns.length),ns[k].kind ≠ 3 -> fE es k ≠ none) : lI ns es=false:=by
 unfold lI
 rw [x0R]
 intro k hk
 have hk' : k < ns.length:=by simpa using hk
 rw [x0f ns k hk']
 by_cases h1 : ns[k].kind=3
 ·simp [h1]
 ·have:=h k hk' h1
  simp [h1,this]
theorem nL {ls : List Lnk} {ss : List Sec} : iM ls ss=0 \/ iM ls ss=9 \/ iM ls ss=23:=by
 unfold iM
 split
 ·simp
 ·split <;> simp
variable {C : CC} (hC : aw prog C)
include hC
set_option maxHeartbeats 2000000 in
theorem sj (hS : SlC C) (b1 b2 b b' : Bool) (ns : List Nod) (ls : List Lnk) (ss : List Sec) (q : List Sp) (o : Sp) (hls : ls.length < 2 ^ 62) (hss : ss.length < 2 ^ 62) (hq : q.length < 2 ^ 62) (hcv : ∀ l ∈ ls,l.curve.length < 2 ^ 62) {Q : cr -> Env -> Prop}
  (hnot : ∀ e : Int,e=cw ns ls ss q o -> gf ns ls ss q o=false -> bF Q ⟨⟩ .ret [(8,.nilp),(9,.int .i64 e)])
  (hok : gf ns ls ss q o=true -> bF Q ⟨⟩ .ret [(8,.adr (.r 11200) 0 0),(9,.int .i64 (cw ns ls ss q o)),(11200,.blk 9 [fL b1 b2 ns ls ss (av ns ls) (aD ns.length (av ns ls) q) o (List.replicate ns.length [.nilp])])]) :
  wN C N618.body Q ⟨⟩ (params 0 [.agg [slx b1 (ns.map aQ),slx b2 (ls.map ay)],slx b (ss.map aP),slx b' (q.map knD),.agg (knD o)]):=by
 have hbad : ∀ e : Int,e=cw ns ls ss q o -> ¬ (e=0 \/ e=5) -> bF Q ⟨⟩ .ret [(8,.nilp),(9,.int .i64 e)]:=fun e h1 h2=>hnot e h1 (uN h1 h2)
 have k1:=uy hC hS b1 b2 ns ls hls hcv
 have k2:=ne hC b ss
 have k3:=tv hC o
 have k4:=kN hC (b:=b') (xs:=q) (g:=641) (cs:=[]) (fun s=>!da s) hq (fun x _=>y8 hC x)
 have k5:=kN hC (b:=b') (xs:=q) (g:=642) (cs:=[]) fK hq (fun x _=>BV hC x)
 have bad1 : ¬ (cx ns ls=true /\ bg ss=true /\ da o=true /\ q.any (fun s=>!da s)=false) -> bF Q ⟨⟩ .ret [(8,.nilp),(9,.int .i64 1)]:=fun h=>hbad 1 (zF h).symm (by decide)
 simp [N618,knD]
 refine aa k1 (.inl rfl) ?_
 by_cases h1 : cx ns ls=true
 case neg =>
  simp [h1]
  exact bad1 (fun h=>h1 h.1)
 simp [h1]
 refine aa k2 (.inl rfl) ?_
 by_cases h2 : bg ss=true
 case neg =>
  simp [h2]
  exact bad1 (fun h=>h2 h.2.1)
 simp [h2]
 refine aa (by simpa [knD] using k3) (.inl rfl) ?_
 by_cases h3 : da o=true
 case neg =>
  simp [h3]
  exact bad1 (fun h=>h3 h.2.2.1)
 simp [h3]
 refine aa k4 (.inl rfl) ?_
 by_cases h4 : q.any (fun s=>!da s)=true
 case pos =>
  rw [h4]
  simp
  exact bad1 (fun h=>by rw [h4] at h;exact absurd h.2.2.2 (by decide))
 have h4' : q.any (fun s=>!da s)=false:=by simpa using h4
 rw [h4']
 simp
 clear bad1 k3 k4 k2
 have hg:=zG (ls:=ls) (ss:=ss) h1 h2 h4'
 by_cases h5 : q.length=ns.length
 case neg =>
  have h5' : ¬ ((q.length : Int)=ns.length):=by omega
  simp [h5,h5']
  refine hbad 3 ?_ (by decide)
  unfold cw
  rw [hg,if_neg h5,if_neg (by simp [h3]),if_pos rfl]
 simp [h5]
 refine aa k5 (.inl rfl) ?_
 rw [if_pos h5] at hg
 have ho2 : ¬ dE o=true -> ¬ (o.1 < -4194304) /\ ¬ (4194304 < o.2):=fun h=>by
  simp only [dE,x0F,x0b] at h
  omega
 have bad2 : q.any fK=true \/ dE o=true -> bF Q ⟨⟩ .ret [(8,.nilp),(9,.int .i64 2)]:=fun h=>hbad 2 (by
  unfold cw
  rw [hg]
  rcases nL (ls:=ls) (ss:=ss) with e | e | e <;> rw [e] <;> rcases h with h | h <;> simp [h,h3] <;> (try split) <;> simp) (by decide)
 by_cases h6 : q.any fK=true
 case pos =>
  rw [h6]
  simp
  exact bad2 (.inl h6)
 rw [if_neg h6] at hg
 have h6' : q.any fK=false:=by simpa using h6
 rw [h6']
 simp
 by_cases h7 : dE o=true
 case pos =>
  have h7':=h7
  simp only [dE,x0F,x0b] at h7'
  by_cases h8 : o.1 < -4194304
  ·simp [h8]
   exact bad2 (.inr h7)
  ·have h9 : 4194304 < o.2:=by omega
   simp [h8,h9]
   exact bad2 (.inr h7)
 obtain ⟨h8,h9⟩:=ho2 h7
 simp [h8,h9]
 clear bad2 ho2 k5
 have htE : cw ns ls ss q o=if iM ls ss ≠ 0 then iM ls ss else if lI ns (av ns ls) then 24 else if bK ns.length (av ns ls) q ≠ 0 then bK ns.length (av ns ls) q else jf ls ss (aD ns.length (av ns ls) q):=by
  unfold cw
  rw [hg]
  rcases nL (ls:=ls) (ss:=ss) with e | e | e <;> rw [e] <;> simp [h3,h7]
 have hv : bP ns ls=true:=by
  simp only [cx,x0a] at h1
  exact h1.1.1
 obtain ⟨hnl,hll⟩:=ci hv
 have k6:=yB hC (-1) ns.length (by omega)
 refine gP k6 ?_
 simp
 refine ⟨by omega,?_⟩
 refine u7 (ds:=[slx b1 (ns.map aQ),slx b2 (ls.map ay),.nils,.nils,.ref (.r 11104) 0 ns.length,.nils,.int .i64 o.1,.int .i64 o.2,.ref (.r 11168) 0 ns.length]) (cs:=[slx b1 (ns.map aQ),slx b2 (ls.map ay),.nils,.nils,.own 1 (List.replicate ns.length [.int .i64 (-1)]),.nils,.int .i64 o.1,.int .i64 o.2,.own 1 (List.replicate ns.length [.nilp])]) (bs:=[11104,11168]) (by simp) rfl ?_ (by decide) (by decide) ?_
 ·intro Q hQ
  simp [iT,df,aK]
  rcases eT b1 (ns.map aQ) with e1 | ⟨e1,_⟩ <;> rcases eT b2 (ls.map ay) with e2 | ⟨e2,_⟩ <;> rw [e1,e2] at hQ ⊢ <;> simp [iT,df,aK] <;> exact hQ
 simp [eu,vH,EG,EF]
 refine ⟨am (by decide +kernel),?_⟩
 refine au Nat (fun j=>[(1,slx b (ss.map aP)),(2,slx b' (q.map knD)),(4,.ptr [slx b1 (ns.map aQ),slx b2 (ls.map ay)]),(10,.adr (.r 11200) 0 0),(77,slx b2 (ls.map ay)),(78,.int .i64 ls.length),(79,.int .i64 j),(11200,.blk 9 [[slx b1 (ns.map aQ),slx b2 (ls.map ay),.nils,.own 5 (jq ss ls j),.own 1 (List.replicate ns.length [.int .i64 (-1)]),.own 1 [],.int .i64 o.1,.int .i64 o.2,.own 1 (List.replicate ns.length [.nilp])]])])
  (fun j=>j <= ls.length /\ ∀ k (hk : k < ls.length),k < j -> gZ ss ls[k]=false) (fun j=>ls.length - j) 0 ⟨by omega,fun k _ h=>absurd h (Nat.not_lt_zero _)⟩ (by simp [EV]) ?_
 rintro j ⟨hj,hno⟩
 simp
 refine ac (fun h=>?_) (fun h=>?_) <;> simp at h
 ·have hw : IntKind.wrap .i64 ((j : Int) + 1)=((j + 1 : Nat) : Int):=wrap_i64 (by omega) (by omega)
  have k7:=qR hC (b:=b) (xs:=ss) (g:=643) (cs:=[.ptr (ay ls[j])]) (cu ls[j].sect) hss (fun x _=>yR hC ls[j] x)
  simp [h,ay]
  refine aa (by simpa [ay] using k7) (.inl rfl) ?_
  simp
  by_cases hi : bx (cu ls[j].sect) ss < 0
  ·simp [hi]
   have h9:=ya (ss:=ss) h (show gZ ss ls[j]=true by simp [gZ,l3,hi])
   refine hbad 9 ?_ (by decide)
   rw [htE,h9,if_pos (by decide)]
  ·obtain ⟨m,hm⟩ : ∃ m : Nat,bx (cu ls[j].sect) ss=(m : Int):=⟨(bx (cu ls[j].sect) ss).toNat,by omega⟩
   have hml : m < ss.length:=by
    have:=jD (show 0 <= bx (cu ls[j].sect) ss by omega)
    omega
   have hsl : cS ss ls[j]=ss[m]:=by
    unfold cS l3
    rw [hm]
    simp [hml]
   have hsn:=v7 (ss:=ss) h
   rw [hsl] at hsn
   have hlen:=ic (ss:=ss) (Nat.le_of_lt h)
   have hm0 : ¬ ((m : Int) < 0):=by omega
   simp [hm,hm0,hml,aP,hlen]
   have htk : List.take j (jq ss ls j)=jq ss ls j:=x0q (by omega)
   refine ⟨by omega,fun e he=>?_,am (by decide +kernel),j + 1,⟨by omega,fun k hk hkj=>?_⟩,by omega,hw,?_⟩
   ·rcases he with he | rfl
    ·exact BC ss ls j e (x0K he)
    ·simp
   ·rcases x0i.1 hkj with h8 | rfl
    ·exact hno k hk h8
    ·simp [gZ,l3,hm]
   ·rw [htk,hsn]
    rfl
 ·have ej : j=ls.length:=by omega
  subst ej
  have hn9 : ls.any (gZ ss)=false:=by
   rw [x0R]
   intro l hl
   obtain ⟨k,hk,rfl⟩:=x0G hl
   simp [hno k hk hk]
  have k8:=nu hC (b:=b2) (xs:=ls) (g:=644) (cs:=[]) dZ hls (fun x _=>wq hC x)
  simp [h]
  refine aa k8 (.inl rfl) ?_
  have hpE : iM ls ss=if ls.any dZ then 23 else 0:=by
   unfold iM
   rw [if_neg (by simp [hn9])]
  by_cases hu : ls.any dZ=true
  ·rw [hu]
   simp
   refine hbad 23 ?_ (by decide)
   rw [htE,hpE,if_pos hu,if_pos (by decide)]
  have hu' : ls.any dZ=false:=by simpa using hu
  rw [if_neg hu] at hpE
  rw [hpE,if_neg (by decide)] at htE
  rw [hu']
  have k9:=m6 hC b1 b2 ns ls hcv
  rw [hv,if_pos rfl] at k9
  simp
  refine aa k9 (.inr rfl) ?_
  simp
  clear k9 k8 k6 k1
  have hge:=fd hv
  have hel:=aH ns ls
  have htf : cN ns.length (av ns ls)=true:=by
   simp only [cx,x0a] at h1
   exact h1.2
  have hnd : ((av ns ls).map (·.1)).Nodup:=by
   simp only [cN,x0a,x0b] at htf
   exact htf.1
  have k10:=Af hC hS b1 b2 b' ns ls q hls hq hcv
  have hsp : fy q ns.length=0:=by
   unfold fy
   rw [if_neg (by simp [h4']),if_pos (by omega),if_neg (by simp [h6'])]
  have hFE : ir ns ls q=bK ns.length (av ns ls) q:=by
   unfold ir
   rw [if_pos h1,if_pos hsp]
  unfold lv at k10
  rw [hFE] at k10
  have htM : gf ns ls ss q o=(!lI ns (av ns ls) && decide (bK ns.length (av ns ls) q=0) && !decide (jf ls ss (aD ns.length (av ns ls) q)=16)):=by
   have ho : dE o=false:=by simpa using h7
   unfold gf
   rw [hg,hpE,h3,ho]
   simp
  generalize av ns ls=es at *
  refine au Nat (fun j=>[(2,slx b' (q.map knD)),(4,.ptr [slx b1 (ns.map aQ),slx b2 (ls.map ay)]),(10,.adr (.r 11200) 0 0),(113,.sl (es.map edK)),(114,.int .i64 es.length),(115,.int .i64 j),(11200,.blk 9 [[slx b1 (ns.map aQ),slx b2 (ls.map ay),.nils,.own 5 (jq ss ls ls.length),.own 1 (frA ns.length es j),.own 1 (toT es j),.int .i64 o.1,.int .i64 o.2,.own 1 (List.replicate ns.length [.nilp])]])])
   (fun j=>j <= es.length) (fun j=>es.length - j) 0 (by simp) (by simp [LZ,xA]) ?_
  rintro j hj
  simp
  refine ac (fun g=>?_) (fun g=>?_) <;> simp at g
  ·have hw : IntKind.wrap .i64 ((j : Int) + 1)=((j + 1 : Nat) : Int):=wrap_i64 (by omega) (by omega)
   have he:=hge _ (x0h g)
   have hfj : fE (es.take j) es[j].1=none:=(Bb g ((((List.take_sublist j es).map _).nodup) hnd)).1 ((((List.take_sublist (j + 1) es).map _).nodup) hnd)
   have hset:=AQ (n:=ns.length) g hfj
   have hts:=zE g
   have hgt:=pW es j he.1
   have htl:=uM (Nat.le_of_lt g)
   simp [g,edK,knD,he.1,mP,aE hgt,hgt,hset]
   have hA : (frA ns.length es j)[es[j].1]'(by rw [mP];exact he.1)=[.int .i64 (frI (fE (es.take j) es[j].1))]:=(x0c.1 hgt).2
   have hC1 : ∀ e ∈ toT es j,∀ c ∈ e,aK c=true:=by
    intro e he
    simp only [toT,x0u] at he
    obtain ⟨x,_,rfl⟩:=he
    simp [aK]
   rw [hA]
   refine ⟨by simp,am (by decide +kernel),by omega,fun e he=>?_,am (by decide +kernel),j + 1,by omega,by omega,hw,?_,hts.symm⟩
   ·rcases he with he | rfl
    ·exact hC1 e he
    ·simp [aK]
   ·simpa using hset
  ·have ej : j=es.length:=by omega
   subst ej
   simp [g]
   refine au Nat (fun j=>[(2,slx b' (q.map knD)),(4,.ptr [slx b1 (ns.map aQ),slx b2 (ls.map ay)]),(10,.adr (.r 11200) 0 0),(141,slx b1 (ns.map aQ)),(142,.int .i64 ns.length),(143,.int .i64 j),(11200,.blk 9 [[slx b1 (ns.map aQ),slx b2 (ls.map ay),.nils,.own 5 (jq ss ls ls.length),.own 1 (frA ns.length es es.length),.own 1 (toT es es.length),.int .i64 o.1,.int .i64 o.2,.own 1 (List.replicate ns.length [.nilp])]])])
    (fun j=>j <= ns.length /\ ∀ k (hk : k < ns.length),k < j -> ns[k].kind ≠ 3 -> fE es k ≠ none) (fun j=>ns.length - j) 0 ⟨by omega,fun k _ h=>absurd h (Nat.not_lt_zero _)⟩ (by simp) ?_
   rintro j ⟨hj2,hgp⟩
   simp
   refine ac (fun g2=>?_) (fun g2=>?_) <;> simp at g2
   ·have hw : IntKind.wrap .i64 ((j : Int) + 1)=((j + 1 : Nat) : Int):=wrap_i64 (by omega) (by omega)
    have hgt:=pW es es.length g2
    rw [x1d] at hgt
    simp [g2,aQ]
    by_cases c1 : ns[j].kind=3
    ·simp [c1]
     refine ⟨j + 1,⟨by omega,fun k hk hkj h3=>?_⟩,by omega,hw⟩
     rcases x0i.1 hkj with h8 | rfl
     ·exact hgp k hk h8 h3
     ·exact absurd c1 h3
    ·simp [c1,mP,g2,aE hgt]
     cases hf : fE es j with
     | none =>
      simp [frI]
      refine hbad 24 ?_ (by decide)
      rw [htE,mQ g2 c1 hf]
      simp
     | some x =>
      have hx0 : ¬ ((x : Int) < 0):=by omega
      simp [frI,hx0]
      refine ⟨j + 1,⟨by omega,fun k hk hkj h3=>?_⟩,by omega,hw⟩
      rcases x0i.1 hkj with h8 | rfl
      ·exact hgp k hk h8 h3
      ·rw [hf];simp
   ·have ej : j=ns.length:=by omega
    subst ej
    have hgap : lI ns es=false:=tS fun k hk h3=>hgp k hk hk h3
    rw [hgap] at htE
    simp [g2]
    refine aa k10 (.inr (by simp)) ?_
    have hF5 : bK ns.length es q=0 \/ bK ns.length es q=5:=by
     unfold bK;split <;> simp
    by_cases hf0 : bK ns.length es q=0
    case neg =>
     have hf5 : bK ns.length es q=5:=by rcases hF5 with h | h;exact absurd h hf0;exact h
     rw [if_neg hf0,hf5]
     simp
     refine hnot 5 ?_ ?_
     ·rw [htE,hf5];simp
     ·rw [htM,hf5];simp
    have hbig : iV (aD ns.length es q)=false:=by
     unfold bK at hf0
     split at hf0
     ·cases hf0
     ·rename_i h;simpa using h
    obtain ⟨hq1,hq2⟩:=lf hsp
    have hfr : ∀ k,k < es.length -> (0 <= (aD ns.length es q)[k]!.1 /\ (aD ns.length es q)[k]!.1 <= (aD ns.length es q)[k]!.2) /\ (aD ns.length es q)[k]!.2 <= 1099511627776:=fun k hk=>⟨pU hnl hge htf h5 hq2 hk,pT hbig hk⟩
    have hfl:=iv ns.length es q
    rw [if_pos hf0,hf0]
    rw [hgap,hf0] at htM
    simp at htM
    rw [if_neg (by decide),if_neg (by simp [hf0])] at htE
    clear hF5 hbig k10
    have hpo:=qf h1 hpE
    rw [htE] at hok hnot
    clear hbad
    generalize aD ns.length es q=fl at *
    simp
    refine au Nat (fun j=>[(10,.adr (.r 11200) 0 0),(20,.int .i64 (jU ls ss fl j)),(175,slx b2 (ls.map ay)),(176,.int .i64 ls.length),(177,.int .i64 j),(11200,.blk 9 [[slx b1 (ns.map aQ),slx b2 (ls.map ay),.sl (fl.map knD),.own 5 (jq ss ls ls.length),.own 1 (frA ns.length es es.length),.own 1 (toT es es.length),.int .i64 o.1,.int .i64 o.2,.own 1 (List.replicate ns.length [.nilp])]])])
     (fun j=>j <= ls.length /\ ∀ k,k < j -> fG ls ss fl k ≠ 16) (fun j=>ls.length - j) 0 ⟨by omega,fun k h=>absurd h (Nat.not_lt_zero _)⟩ (by simp [jU]) ?_
    rintro j ⟨hj3,h16⟩
    simp
    refine ac (fun g3=>?_) (fun g3=>?_) <;> simp at g3
    ·have hw : IntKind.wrap .i64 ((j : Int) + 1)=((j + 1 : Nat) : Int):=wrap_i64 (by omega) (by omega)
     have hP:=hpo _ (x0h g3)
     have hje : j < es.length:=by omega
     have hjf : j < fl.length:=by omega
     obtain ⟨⟨f0,f1⟩,f2⟩:=hfr j hje
     have hlK : fG ls ss fl j=(b9 ls[j] (cS ss ls[j]) fl[j].2).2:=by
      unfold fG
      rw [x0f ls j g3,oB hjf]
     rw [oB hjf] at f0 f1 f2
     have k11:=tc hC ls[j] (cS ss ls[j]) fl[j].2 (hP.valid h2) hP.len ⟨by omega,f2⟩
     have hsg:=rY (ss:=ss) (j:=ls.length) g3 g3
     rw [<- hlK] at k11
     generalize hr : (b9 ls[j] (cS ss ls[j]) fl[j].2).1=r at *
     generalize hLe : fG ls ss fl j=e at *
     simp [g3,ay,ic,bU hsg,aE hsg,hjf,knD,aP]
     refine aa (by simpa [ay,aP] using k11) (.inr rfl) ?_
     have ext : ∀ e',e' ≠ 16 -> fG ls ss fl j=e' -> ∀ k,k < j + 1 -> ¬ fG ls ss fl k=16:=fun e' h1 h2 k hk=>by
      rcases x0i.1 hk with h8 | rfl
      ·exact h16 k h8
      ·rw [h2];exact h1
     by_cases c1 : e=16
     ·have h5:=t8 g3 (by rw [hLe,c1])
      subst c1
      simp
      refine ⟨am (by decide +kernel),?_⟩
      refine hnot 16 h5.symm ?_
      rw [htM,h5];rfl
     ·by_cases c2 : e=5
      ·have hn:=zT (hLe.trans c2)
       subst c2
       simp
       exact ⟨am (by decide +kernel),j + 1,⟨by omega,ext 5 (by decide) hLe⟩,by omega,hn.symm,hw⟩
      ·have hn:=zU (ls:=ls) (ss:=ss) (fl:=fl) (j:=j) (by rw [hLe];exact c2)
       simp [c1,c2]
       exact ⟨am (by decide +kernel),j + 1,⟨by omega,ext e c1 hLe⟩,by omega,hn.symm,hw⟩
    ·have ej : j=ls.length:=by omega
     subst ej
     simp [g3]
     have hw:=xR h16
     rw [hw] at hok htM
     have ht : gf ns ls ss q o=true:=by
      rw [htM]
      simp [uR]
     exact hok ht
theorem tx (hS : SlC C) (b1 b2 b b' : Bool) (ns : List Nod) (ls : List Lnk) (ss : List Sec) (q : List Sp) (o : Sp) (hls : ls.length < 2 ^ 62) (hss : ss.length < 2 ^ 62) (hq : q.length < 2 ^ 62) (hcv : ∀ l ∈ ls,l.curve.length < 2 ^ 62) (hM : gf ns ls ss q o=false) :
  C 618 [.agg [slx b1 (ns.map aQ),slx b2 (ls.map ay)],slx b (ss.map aP),slx b' (q.map knD),.agg (knD o)] (.tup [.nilp,.int .i64 (cw ns ls ss q o)]) []:=by
 refine ai hC (nf:=N618) rfl rfl ?_
 refine sj hC hS b1 b2 b b' ns ls ss q o hls hss hq hcv (fun e he _=>?_) (fun h=>?_)
 ·subst he
  simp [N618]
 ·rw [hM] at h;cases h
theorem wo (hS : SlC C) (b1 b2 b b' : Bool) (ns : List Nod) (ls : List Lnk) (ss : List Sec) (q : List Sp) (o : Sp) (hls : ls.length < 2 ^ 62) (hss : ss.length < 2 ^ 62) (hq : q.length < 2 ^ 62) (hcv : ∀ l ∈ ls,l.curve.length < 2 ^ 62) (hM : gf ns ls ss q o=true) :
  C 618 [.agg [slx b1 (ns.map aQ),slx b2 (ls.map ay)],slx b (ss.map aP),slx b' (q.map knD),.agg (knD o)] (.tup [.blk 9 [fL b1 b2 ns ls ss (av ns ls) (aD ns.length (av ns ls) q) o (List.replicate ns.length [.nilp])],.int .i64 (cw ns ls ss q o)]) [.nils]:=by
 refine E5 hC (nf:=N618) rfl rfl rfl ?_
 refine sj hC hS b1 b2 b b' ns ls ss q o hls hss hq hcv (fun e he h=>?_) (fun h=>?_)
 ·rw [hM] at h;cases h
 ·simp [N618]
end Go.Gv

set_option maxRecDepth 4000
namespace Go.Gv
theorem uu {n : Nat} {es : List Edg} (hlen : (bi n es).length=n) {v : Nat} (hv : v < n) : rkO n es v < n:=by
 have hI:=gI n es n
 have hmem : v ∈ bi n es:=by
  apply Classical.byContradiction
  intro hn
  have hnd : (v::bi n es).Nodup:=List.nodup_cons.2 ⟨hn,hI.nd⟩
  have hsub : (v::bi n es) ⊆ List.range n:=by
   intro u hu
   rcases x0N.1 hu with rfl | hu
   ·simpa using hv
   ·simpa using hI.lt u hu
  have:=List.Nodup.length_le_of_subset hnd hsub
  simp at this
  omega
 have:=List.idxOf_lt_length_iff.2 hmem
 unfold rkO
 omega
structure TrX (ns : List Nod) (ls : List Lnk) (ss : List Sec) (es : List Edg) (fl : List Sp) : Prop where
 trs : TrS ns.length es ls (ls.map (cS ss)) fl
 lnk : ∀ l ∈ ls,gL ss l
 cat : bg ss=true
 kind : ∀ i (h : i < ns.length),ns[i].kind=3 ↔ fE es i=none
 inv : ∀ i : Nat,-4194304 <= ns[i]!.invert /\ ns[i]!.invert <= 4194304
 fln : fl.length=ls.length
theorem mV {ls : List Lnk} {ss : List Sec} {k : Nat} (hk : k < ls.length) : (ls.map (cS ss))[k]! = cS ss ls[k]!:=by
 rw [x0f (ls.map (cS ss)) k (by simpa using hk),x0f ls k hk,x1K]
theorem qu {ns : List Nod} {ls : List Lnk} {ss : List Sec} {q : List Sp} {o : Sp} (hM : gf ns ls ss q o=true) (h0 : cw ns ls ss q o=0) :
  TrX ns ls ss (av ns ls) (aD ns.length (av ns ls) q) /\ -4194304 <= o.1 /\ o.1 <= o.2 /\ o.2 <= 4194304:=by
 have hE:=(zH hM).1
 rw [h0] at hE
 simp only [gf,x0a,x0t,x0b,x0H] at hM
 obtain ⟨⟨⟨⟨⟨h1,h2⟩,h3⟩,h4⟩,h5⟩,h6⟩:=hM
 obtain ⟨ht,hc,hs,hp⟩:=pX h1
 have hv : bP ns ls=true:=by simp only [cx,x0a] at ht;exact ht.1.1
 have htf : cN ns.length (av ns ls)=true:=by simp only [cx,x0a] at ht;exact ht.2
 obtain ⟨hnl,hll⟩:=ci hv
 have hg:=fd hv
 have hel:=aH ns ls
 have hpo:=qf ht hp
 obtain ⟨hq1,hq2⟩:=lf hs
 have hq1' : q.length=ns.length:=by omega
 have hbig : iV (aD ns.length (av ns ls) q)=false:=by
  unfold bK at h5
  split at h5
  ·cases h5
  ·rename_i h;simpa using h
 have hnd : ((av ns ls).map (·.1)).Nodup /\ (bi ns.length (av ns ls)).length=ns.length:=by
  simpa only [cN,x0a,x0b] using htf
 have hlos : ∀ k,k < ls.length -> (b9 ls[k]! (cS ss ls[k]!) (aD ns.length (av ns ls) q)[k]!.2).2=0:=by
  intro k hk
  have hle : fG ls ss (aD ns.length (av ns ls) q) k=0 \/ fG ls ss (aD ns.length (av ns ls) q) k=5 \/ fG ls ss (aD ns.length (av ns ls) q) k=16:=by
   unfold fG b9 fo
   split
   ·simp
   ·split
    ·simp
    ·split <;> simp
  unfold jf at hE
  split at hE
  ·cases hE
  ·rename_i n16
   split at hE
   ·cases hE
   ·rename_i n5
    rw [x1M,x0R] at n16 n5
    have a:=n16 k (by simpa using hk)
    have b:=n5 k (by simpa using hk)
    simp only [x0b] at a b
    rcases hle with h | h | h
    ·exact h
    ·exact absurd h b
    ·exact absurd h a
 have ho : da o=true:=h2
 have ho2 : -4194304 <= o.1 /\ o.2 <= 4194304:=by
  simp only [dE,Bool.or_eq_false_iff,x0H] at h3
  omega
 have ho1 : o.1 <= o.2:=by
  simp only [da,x0a,x0b] at ho
  exact ho.1.1
 refine ⟨⟨⟨hg,hnd.2,hnd.1,hel,hnl,⟨fun k hk=>?_,fun k hk=>?_,fun k hk=>?_,fun k hk=>?_,fun k hk=>?_,fun k hk=>?_⟩,fun k hk=>?_⟩,hpo,hc,fun i hi=>?_,fun i=>?_,by rw [iv,hel]⟩,ho2.1,ho1,ho2.2⟩
 ·rw [mV hk,x0f ls k hk]
  exact (hpo _ (x0h hk)).valid hc
 ·rw [x0f ls k hk]
  exact (hpo _ (x0h hk)).len
 ·rw [x0f ls k hk]
  exact (hpo _ (x0h hk)).le
 ·rw [x0f ls k hk]
  exact (hpo _ (x0h hk)).up
 ·exact pT hbig (by omega)
 ·rw [mV hk]
  exact hlos k hk
 ·exact pU hnl hg htf hq1' hq2 (by omega)
 ·constructor
  ·intro h
   rw [pR]
   intro hm
   obtain ⟨e,he,hee⟩:=x0u.1 hm
   obtain ⟨k,hk,rfl⟩:=x0G he
   have hk' : k < ls.length:=by omega
   have hl : dg ns ls k=true:=by
    simp only [bP,x0a,x0g] at hv
    exact hv.2 k (by simpa using hk')
   simp only [dg,gD,x0a,x0b,x0t,x0H] at hl
   have h8:=hl.1.2.2
   rw [x0f ls k hk'] at h8
   have e1 : (bx (bI ls[k].src) ns).toNat=i:=by
    rw [<- hee]
    simp [av]
   rw [e1,x0f ns i hi] at h8
   exact h8 h
  ·intro h
   apply Classical.byContradiction
   intro h9
   rw [mQ hi h9 h] at h4
   cases h4
 ·by_cases hi : i < ns.length
  ·rw [x0f ns i hi]
   have:=(lT hv hi).1
   simp only [f8,bj,x0a,x0b] at this
   omega
  ·rw [getElem!_neg ns i hi]
   decide
def vm (sp : Nat -> Sp) (n : Nat) (dn : List (List D)) : Prop:=dn.length=n /\ ∀ j,j < n -> dn[j]? = some [.nilp] \/ dn[j]? = some [.ptr [.int .i64 (sp j).1,.int .i64 (sp j).2]]
theorem DI (sp : Nat -> Sp) (n : Nat) : vm sp n (List.replicate n [.nilp]):=⟨by simp,fun j hj=>.inl (by simp [hj])⟩
theorem qG {sp : Nat -> Sp} {n : Nat} {dn : List (List D)} (h : vm sp n dn) {i : Nat} (hi : i < n) : vm sp n (dn.set i [.ptr [.int .i64 (sp i).1,.int .i64 (sp i).2]]):=by
 refine ⟨by simp [h.1],fun j hj=>?_⟩
 by_cases e : i=j
 ·subst e
  right
  rw [List.getElem?_set_self (by rw [h.1];exact hj)]
 ·rw [List.getElem?_set_ne e]
  exact h.2 j hj
def lvX (ns : List Nod) (ls : List Lnk) (ss : List Sec) (es : List Edg) (fl : List Sp) (o : Sp) (i : Nat) : Sp:=lQ ns.length es ns ls (ls.map (cS ss)) fl o i
variable {C : CC} (hC : aw prog C)
include hC
set_option maxHeartbeats 2000000 in
theorem qZ (b1 b2 : Bool) {ns : List Nod} {ls : List Lnk} {ss : List Sec} {es : List Edg} {fl : List Sp} {o : Sp} (T : TrX ns ls ss es fl) (ho : -4194304 <= o.1 /\ o.1 <= o.2 /\ o.2 <= 4194304) : ∀ (r i : Nat),i < ns.length -> ns.length <= r + rkO ns.length es i -> ∀ dn,vm (lvX ns ls ss es fl o) ns.length dn ->
  ∃ dn',vm (lvX ns ls ss es fl o) ns.length dn' /\ C 619 [.blk 9 [fL b1 b2 ns ls ss es fl o dn],.int .i64 i] (.tup [.agg [.int .i64 (lvX ns ls ss es fl o i).1,.int .i64 (lvX ns ls ss es fl o i).2],.int .i64 0]) [.blk 9 [fL b1 b2 ns ls ss es fl o dn']]
 | 0,i,hi,hr,dn,hd=>by
  have:=uu T.trs.full hi
  omega
 | r + 1,i,hi,hr,dn,hd=>by
  obtain ⟨sp,hsp⟩ : ∃ sp,sp=lvX ns ls ss es fl o:=⟨_,rfl⟩
  rw [<- hsp] at hd ⊢
  have hdl:=hd.1
  rcases hd.2 i hi with hdi | hdi
  case inr =>
   refine ⟨dn,hd,?_⟩
   have hA : dn[i]'(by omega)=[.ptr [.int .i64 (sp i).1,.int .i64 (sp i).2]]:=(x0c.1 hdi).2
   refine tw hC (nf:=N619) rfl rfl ?_
   simp [N619,fL,hdl,hi,aE hdi]
  have hA : dn[i]'(by omega)=[.nilp]:=(x0c.1 hdi).2
  cases hf : fE es i with
  | none =>
   have hk:=(T.kind i hi).2 hf
   refine ⟨_,qG hd hi,?_⟩
   have hs : sp i=(mxI ns[i].invert o.1,mxI ns[i].invert o.2):=by
    rw [hsp]
    unfold lvX
    rw [o8 (show jS es i=none from hf)]
    unfold qD
    rw [x0f ns i hi]
   refine tw hC (nf:=N619) rfl rfl ?_
   simp [N619,fL,hdl,hi,aE hdi,aQ,hk]
   refine ⟨am (by decide +kernel),?_⟩
   refine uI (s:=6) (c:=10096) (sz:=2) (row:=[.int .i64 (sp i).1,.int .i64 (sp i).2]) (b:=10015) (i1:=0) (o1:=8) (i:=i) (off:=0) (sz0:=9) (sz1:=1) (es0:=[fL b1 b2 ns ls ss es fl o dn]) (row0:=fL b1 b2 ns ls ss es fl o dn) (es:=dn) (r:=[.nilp]) (by decide) (by simp) (by simp [hs,mxI]) (by simp [aK]) (by simp) (by decide) (by simp [fL]) rfl rfl hdi (by simp) ?_
   simp [fL,hA,hdl,hi]
  | some k =>
   obtain ⟨hk,hek⟩:=fP (show jS es i=some k from hf)
   have hkl : k < ls.length:=by have:=T.trs.cnt;omega
   have hfl:=T.fln
   have hkf : k < fl.length:=by omega
   have hnk : ¬ ns[i].kind=3:=fun h=>by rw [(T.kind i hi).1 h] at hf;cases hf
   obtain ⟨w,hw,r1,r2,e1,e2,hS⟩:=o9 (ns:=ns) (o:=o) T.trs T.inv ⟨ho.2.1,ho.2.2⟩ (uu T.trs.full hi) (show jS es i=some k from hf)
   rw [x0f es k hk] at hw
   have hwn : w < ns.length:=by rw [hw];exact (T.trs.ing _ (x0h hk)).2
   obtain ⟨b1',b2',b3'⟩:=p7 (ns:=ns) (o:=o) T.trs T.inv ⟨ho.2.1,ho.2.2⟩ w
   have hP:=T.lnk _ (x0h hkl)
   obtain ⟨f0,f1⟩:=T.trs.low k hkl
   have f2:=T.trs.tro.flow k hkl
   rw [mV hkl,x0f ls k hkl,x0f fl k hkf] at hS e1 e2
   rw [x0f fl k hkf] at f0 f1 f2
   have hsm:=T.trs.small
   obtain ⟨dn1,hd1,kc⟩:=qZ b1 b2 T ho r w hwn (by omega) dn (by rw [<- hsp];exact hd)
   have hS2 : lvX ns ls ss es fl o i=((bR ls[k] (cS ss ls[k]) fl[k].1 (lvX ns ls ss es fl o w).1).1,(bR ls[k] (cS ss ls[k]) fl[k].2 (lvX ns ls ss es fl o w).2).1):=hS
   change lb ns.length (lvX ns ls ss es fl o w).1 at b1'
   change lb ns.length (lvX ns ls ss es fl o w).2 at b2'
   change (bR ls[k] (cS ss ls[k]) fl[k].1 (lvX ns ls ss es fl o w).1).2=0 at e1
   change (bR ls[k] (cS ss ls[k]) fl[k].2 (lvX ns ls ss es fl o w).2).2=0 at e2
   rw [<- hsp] at kc hS2 b1' b2' e1 e2 hd1
   have hb1 : -4194304 <= (sp w).1 /\ (sp w).1 <= 1099511627776:=⟨b1'.1,by have:=b1'.2;omega⟩
   have hb2 : -4194304 <= (sp w).2 /\ (sp w).2 <= 1099511627776:=⟨b2'.1,by have:=b2'.2;omega⟩
   have hu : bj ls[k].up=true:=by
    have:=hP.up
    simp only [bj,x0a,x0b]
    exact this
   have hdw : bj ls[k].down=true:=by
    have:=hP.down
    simp only [bj,x0a,x0b]
    exact this
   have ka:=pG hC ls[k] (cS ss ls[k]) fl[k].1 (sp w).1 (hP.valid T.cat) hP.len hu hdw ⟨f0,by omega⟩ hb1
   have kb:=pG hC ls[k] (cS ss ls[k]) fl[k].2 (sp w).2 (hP.valid T.cat) hP.len hu hdw ⟨by omega,f2⟩ hb2
   rw [e1] at ka
   rw [e2] at kb
   have s1 : (sp i).1=(bR ls[k] (cS ss ls[k]) fl[k].1 (sp w).1).1:=by rw [hS2]
   have s2 : (sp i).2=(bR ls[k] (cS ss ls[k]) fl[k].2 (sp w).2).1:=by rw [hS2]
   rw [<- s1] at ka
   rw [<- s2] at kb
   refine ⟨_,qG hd1 hi,?_⟩
   have hdl1:=hd1.1
   have hgt:=pW es es.length hi
   rw [x1d,hf] at hgt
   have hto:=Cb (es:=es) (j:=es.length) hk hk
   rw [<- hw] at hto
   have hsg:=rY (ss:=ss) (j:=ls.length) hkl hkl
   clear hS hS2 e1 e2 s1 s2 b1' b2' b3'
   refine tw hC (nf:=N619) rfl rfl ?_
   simp [N619,fL,hdl,hi,aE hdi,aQ,hnk,mP,aE hgt,frI,hk,uM,aE hto]
   refine tX (by simpa [fL] using kc) (by simp) ?_
   simp [hkf,knD]
   refine ⟨am (by decide +kernel),?_⟩
   refine au Nat (fun j=>[(0,.adr (.r 10015) 0 0),(1,.int .i64 i),(4,.adr (.r 10064) 0 0),(6,.adr (.r 10096) 0 0),(8,.int .i64 k),(105,.rfx 2 3 [.int .i64 fl[k].1,.int .i64 (sp w).1,.adr (.r 10096) 0 0,.int .i64 fl[k].2,.int .i64 (sp w).2,.adr (.r 10096) 0 1]),(106,.int .i64 2),(107,.int .i64 j),
     (10015,.blk 9 [fL b1 b2 ns ls ss es fl o dn1]),(10064,.blk 2 [[.int .i64 0,.int .i64 0]]),(10096,.blk 2 [[.int .i64 (if 0 < j then (sp i).1 else 0),.int .i64 (if 1 < j then (sp i).2 else 0)]])]) (fun j=>j <= 2) (fun j=>2 - j) 0 (by simp) (by simp [fL]) ?_
   intro j hj
   simp
   refine ac (fun g=>?_) (fun g=>?_) <;> simp at g
   ·rcases (show j=0 \/ j=1 by omega) with rfl | rfl
    ·simp [fL,hkl,ay,ic,aE hsg]
     refine uG (s:=12) (c:=10192) (sz:=3) (row:=[.int .i64 0,.int .i64 0,.nilp]) (ds:=[.int .i64 fl[k].1,.int .i64 (sp w).1,.adr (.r 10096) 0 0]) (by decide) (by simp) (by simp) rfl (by simp [mA]) rfl (by simp [qT]) ?_
     simp [fL,hkl,ay,aP,ic,aE hsg]
     refine aa (by simpa [ay,aP] using ka) (.inr rfl) ?_
     simp
     exact ⟨am (by decide +kernel),1,by omega,by omega,rfl,by simp⟩
    ·simp [fL,hkl,ay,ic,aE hsg]
     refine uG (s:=12) (c:=10192) (sz:=3) (row:=[.int .i64 0,.int .i64 0,.nilp]) (ds:=[.int .i64 fl[k].2,.int .i64 (sp w).2,.adr (.r 10096) 0 1]) (by decide) (by simp) (by simp) rfl (by simp [mA]) rfl (by simp [qT]) ?_
     simp [fL,hkl,ay,aP,ic,aE hsg]
     refine aa (by simpa [ay,aP] using kb) (.inr rfl) ?_
     simp
     exact ⟨am (by decide +kernel),2,by omega,by omega,rfl,by simp⟩
   ·have ej : j=2:=by omega
    subst ej
    obtain ⟨r',hr',hrl⟩ : ∃ r',dn1[i]? = some r' /\ r'.length=1:=by
     rcases hd1.2 i hi with h | h
     ·exact ⟨_,h,rfl⟩
     ·exact ⟨_,h,rfl⟩
    have hA1 : dn1[i]'(by omega)=r':=(x0c.1 hr').2
    simp [fL,hdl1,hi]
    refine uI (s:=6) (c:=10096) (sz:=2) (row:=[.int .i64 (sp i).1,.int .i64 (sp i).2]) (b:=10015) (i1:=0) (o1:=8) (i:=i) (off:=0) (sz0:=9) (sz1:=1) (es0:=[fL b1 b2 ns ls ss es fl o dn1]) (row0:=fL b1 b2 ns ls ss es fl o dn1) (es:=dn1) (r:=r') (by decide) (by simp) (by simp) (by simp [aK]) (by simp) (by decide) (by simp [fL]) rfl rfl hr' (by omega) ?_
    have hsg1 : br dn1 i 0 1 [.ptr [.int .i64 (sp i).1,.int .i64 (sp i).2]]=dn1.set i [.ptr [.int .i64 (sp i).1,.int .i64 (sp i).2]]:=by
     unfold br
     rw [hr']
     obtain ⟨x,rfl⟩ : ∃ x,r'=[x]:=List.length_eq_one_iff.1 hrl
     rfl
    rw [hsg1]
    simp [fL]
end Go.Gv

set_option maxRecDepth 4000
namespace Go.Gv
theorem qt {ns : List Nod} {ls : List Lnk} {ss : List Sec} {q : List Sp} {o : Sp} (h : cw ns ls ss q o=0) : gf ns ls ss q o=true:=by
 unfold cw at h
 split at h
 ·cases h
 rename_i h1
 split at h
 ·cases h
 split at h
 ·cases h
 rename_i h2
 split at h
 ·rename_i h3;exact absurd h h3
 rename_i h3
 split at h
 ·cases h
 rename_i h4
 split at h
 ·rename_i h5;exact absurd h h5
 rename_i h5
 have h3' : ee ns ls ss q ns.length=0:=Classical.byContradiction h3
 have h5' : bK ns.length (av ns ls) q=0:=Classical.byContradiction h5
 have h6 : da o=true:=by
  apply Classical.byContradiction
  intro h7
  exact h1 (.inr (by simpa using h7))
 have h7 : dE o=false:=by
  rw [<- x1M]
  intro h8
  exact h2 (.inr h8)
 have h8 : lI ns (av ns ls)=false:=by simpa using h4
 unfold gf
 rw [h3',h5',h6,h7,h8,h]
 rfl
def lvT (sp : Nat -> Sp) (j : Nat) : List Sp:=(List.range j).map sp
theorem CN (sp : Nat -> Sp) : lvT sp 0=[]:=rfl
theorem rn (sp : Nat -> Sp) (j : Nat) : lvT sp (j + 1)=lvT sp j++[sp j]:=by simp [lvT,x1w]
theorem cp (sp : Nat -> Sp) (j : Nat) : (lvT sp j).length=j:=by simp [lvT]
theorem gF (sp : Nat -> Sp) {i j : Nat} (h : i < (lvT sp j).length) : (lvT sp j)[i]=sp i:=by simp [lvT]
theorem CO (sp : Nat -> Sp) (n : Nat) : List.map knD (lvT sp n)=List.take n (List.map ((fun e=>List.map aS e) ∘ knD) (lvT sp n)):=by
 rw [x0q (by simp [cp])]
 apply x0j
 intro x _
 simp [knD,aS]
theorem cA (l : List (List UInt8)) : eX l=List.take l.length (eX l):=by rw [x0q (by rw [db];exact x0p _)]
def qY (ns : List Nod) (ls : List Lnk) (ss : List Sec) (q : List Sp) (o : Sp) : Nat -> Sp:=lvX ns ls ss (av ns ls) (aD ns.length (av ns ls) q) o
def pC (ns : List Nod) (ls : List Lnk) (ss : List Sec) (q : List Sp) (o : Sp) : D:=if cw ns ls ss q o=0 then .sl ((lvT (qY ns ls ss q o) ns.length).map knD) else .nils
def zB (ns : List Nod) (sp : Nat -> Sp) (hi : Bool) (i : Nat) : Bool:=!decide (ns[i]!.kind=3) && decide (ns[i]!.ground < (if hi then (sp i).2 else (sp i).1))
def ik (ns : List Nod) (sp : Nat -> Sp) (hi : Bool) (j : Nat) : List (List UInt8):=((List.range j).filter (zB ns sp hi)).map fun i=>ns[i]!.name
theorem zD (ns : List Nod) (sp : Nat -> Sp) (hi : Bool) : ik ns sp hi 0=[]:=rfl
theorem jL (ns : List Nod) (sp : Nat -> Sp) (hi : Bool) (j : Nat) : ik ns sp hi (j + 1)=ik ns sp hi j++(if zB ns sp hi j then [ns[j]!.name] else []):=by
 unfold ik
 rw [x1w,x1P,x1o]
 congr 1
 by_cases h : zB ns sp hi j=true <;> simp [h]
theorem il (ns : List Nod) (sp : Nat -> Sp) (hi : Bool) (j : Nat) : (ik ns sp hi j).length <= j:=by
 unfold ik
 rw [x1n]
 exact x1h (x03 _ _) (by simp)
variable {C : CC} (hC : aw prog C)
include hC
set_option maxHeartbeats 2000000 in
theorem wA (hS : SlC C) (b1 b2 b b' : Bool) (ns : List Nod) (ls : List Lnk) (ss : List Sec) (q : List Sp) (o : Sp) (hls : ls.length < 2 ^ 62) (hss : ss.length < 2 ^ 62) (hq : q.length < 2 ^ 62) (hcv : ∀ l ∈ ls,l.curve.length < 2 ^ 62) {Q : cr -> Env -> Prop}
  (hbad : ¬ cw ns ls ss q o=0 -> bF Q ⟨⟩ .ret [(8,.nils),(9,.int .i64 (cw ns ls ss q o))])
  (hok : cw ns ls ss q o=0 -> bF Q ⟨⟩ .ret [(8,.ref (.r 10128) 0 ns.length),(9,.int .i64 0),(10128,.blk 2 ((lvT (qY ns ls ss q o) ns.length).map knD))]) :
  wN C N573.body Q ⟨⟩ (params 0 [.agg [slx b1 (ns.map aQ),slx b2 (ls.map ay)],slx b (ss.map aP),slx b' (q.map knD),.agg (knD o)]):=by
 simp [N573,knD]
 by_cases hM : gf ns ls ss q o=true
 case neg =>
  have hM' : gf ns ls ss q o=false:=by simpa using hM
  have hne : ¬ cw ns ls ss q o=0:=fun h=>hM (qt h)
  refine vb (by simpa [knD] using tx hC hS b1 b2 b b' ns ls ss q o hls hss hq hcv hM') ?_
  simp [hne]
  exact hbad hne
 refine vc (by simpa [knD] using wo hC hS b1 b2 b b' ns ls ss q o hls hss hq hcv hM) rfl ?_
 by_cases h0 : cw ns ls ss q o=0
 case neg =>
  simp [h0]
  exact hbad h0
 obtain ⟨T,ho⟩:=qu hM h0
 have hok':=hok h0
 unfold qY at hok'
 clear hok hbad
 rw [h0]
 have hnl:=T.trs.small
 generalize av ns ls=es at *
 generalize aD ns.length es q=fl at *
 simp
 refine au (Nat × List (List D)) (fun s=>[(10,.adr (.r 10337) 0 0),(12,.ref (.r 10192) 0 s.1),(29,.int .i64 ns.length),(30,.int .i64 s.1),(10192,.blk 2 ((lvT (lvX ns ls ss es fl o) s.1).map knD)),(10337,.blk 9 [fL b1 b2 ns ls ss es fl o s.2])])
  (fun s=>s.1 <= ns.length /\ vm (lvX ns ls ss es fl o) ns.length s.2) (fun s=>ns.length - s.1) (0,List.replicate ns.length [.nilp]) ⟨by omega,DI _ _⟩ (by simp [CN]) ?_
 rintro ⟨j,dn⟩ ⟨hj,hd⟩
 simp at hj hd
 simp
 refine ac (fun h=>?_) (fun h=>?_) <;> simp at h
 ·have hw : IntKind.wrap .i64 ((j : Int) + 1)=((j + 1 : Nat) : Int):=wrap_i64 (by omega) (by omega)
  obtain ⟨dn',hd',kc⟩:=qZ hC b1 b2 T ho ns.length j h (by omega) dn hd
  have hsu:=rn (lvX ns ls ss es fl o) j
  have hln:=cp (lvX ns ls ss es fl o) j
  simp [h]
  refine tX kc (by simp) ?_
  generalize lvX ns ls ss es fl o=sp at *
  simp [hln]
  refine ⟨by omega,j + 1,dn',⟨by omega,hd'⟩,by omega,rfl,hw,?_,rfl⟩
  rw [x0q (by simp [cp]),hsu,x1o]
  rfl
 ·have ej : j=ns.length:=by omega
  subst ej
  simp [h]
  exact hok'
theorem qy (hS : SlC C) (b1 b2 b b' : Bool) (ns : List Nod) (ls : List Lnk) (ss : List Sec) (q : List Sp) (o : Sp) (hls : ls.length < 2 ^ 62) (hss : ss.length < 2 ^ 62) (hq : q.length < 2 ^ 62) (hcv : ∀ l ∈ ls,l.curve.length < 2 ^ 62) :
  C 573 [.agg [slx b1 (ns.map aQ),slx b2 (ls.map ay)],slx b (ss.map aP),slx b' (q.map knD),.agg (knD o)] (.tup [pC ns ls ss q o,.int .i64 (cw ns ls ss q o)]) []:=by
 refine ai hC (nf:=N573) rfl rfl ?_
 refine wA hC hS b1 b2 b b' ns ls ss q o hls hss hq hcv (fun h=>?_) (fun h=>?_)
 ·unfold pC
  rw [if_neg h]
  simp [N573]
 ·unfold pC
  rw [if_pos h,h]
  simp [N573,cp]
  exact CO _ _
set_option maxHeartbeats 2000000 in
theorem pE (hS : SlC C) (b1 b2 b b' : Bool) (ns : List Nod) (ls : List Lnk) (ss : List Sec) (q : List Sp) (o : Sp) (hls : ls.length < 2 ^ 62) (hss : ss.length < 2 ^ 62) (hq : q.length < 2 ^ 62) (hcv : ∀ l ∈ ls,l.curve.length < 2 ^ 62) :
  C 574 [.agg [slx b1 (ns.map aQ),slx b2 (ls.map ay)],slx b (ss.map aP),slx b' (q.map knD),.agg (knD o)] (.tup (if cw ns ls ss q o=0 then [.sl (eX (ik ns (qY ns ls ss q o) false ns.length)),.sl (eX (ik ns (qY ns ls ss q o) true ns.length)),.int .i64 0] else [.nils,.nils,.int .i64 (cw ns ls ss q o)])) []:=by
 have k1:=qy hC hS b1 b2 b b' ns ls ss q o hls hss hq hcv
 refine ai hC (nf:=N574) rfl rfl ?_
 simp [N574,knD]
 refine aa (by simpa [knD] using k1) (.inr (by simp)) ?_
 by_cases h0 : cw ns ls ss q o=0
 case neg =>
  unfold pC
  rw [if_neg h0,if_neg h0]
  simp [h0]
 have hnl:=(qu (qt h0) h0).1.trs.small
 unfold pC
 rw [if_pos h0,if_pos h0,h0]
 generalize qY ns ls ss q o=sp at *
 simp
 refine au Nat (fun j=>[(11,.sl ((lvT sp ns.length).map knD)),(13,.ref (.r 10208) 0 (ik ns sp false j).length),(14,.ref (.r 10224) 0 (ik ns sp true j).length),(29,slx b1 (ns.map aQ)),(30,.int .i64 ns.length),(31,.int .i64 j),(10208,.blk 1 (eX (ik ns sp false j))),(10224,.blk 1 (eX (ik ns sp true j)))]) (fun j=>j <= ns.length) (fun j=>ns.length - j) 0 (by simp) (by simp [zD,eX]) ?_
 intro j hj
 simp
 refine ac (fun h=>?_) (fun h=>?_) <;> simp at h
 ·have hw : IntKind.wrap .i64 ((j : Int) + 1)=((j + 1 : Nat) : Int):=wrap_i64 (by omega) (by omega)
  have e1:=jL ns sp false j
  have e2:=jL ns sp true j
  have l1:=il ns sp false j
  have l2:=il ns sp true j
  unfold zB at e1 e2
  rw [x0f ns j h] at e1 e2
  simp [h,aQ]
  by_cases c : ns[j].kind=3
  ·simp [c] at e1 e2
   simp [c]
   exact ⟨j + 1,by omega,by omega,by rw [e1],by rw [e2],hw,by rw [e1],by rw [e2]⟩
  ·simp [c] at e1 e2
   simp [c,cp,h,gF,knD]
   refine ⟨am (by decide +kernel),?_⟩
   by_cases g1 : ns[j].ground < (sp j).1
   ·rw [if_pos g1] at e1
    by_cases g2 : ns[j].ground < (sp j).2
    ·rw [if_pos g2] at e2
     simp [g1,g2,cp,h,gF,knD,db]
     exact ⟨by omega,am (by decide +kernel),by omega,j + 1,by omega,by omega,by simp [e1],by simp [e2],hw,by rw [e1,<- cA,fq],by rw [e2,<- cA,fq]⟩
    ·rw [if_neg g2,x02] at e2
     simp [g1,g2,cp,h,gF,knD,db]
     exact ⟨by omega,am (by decide +kernel),j + 1,by omega,by omega,by simp [e1],by simp [e2],hw,by rw [e1,<- cA,fq],by rw [e2]⟩
   ·rw [if_neg g1,x02] at e1
    by_cases g2 : ns[j].ground < (sp j).2
    ·rw [if_pos g2] at e2
     simp [g1,g2,cp,h,gF,knD,db]
     exact ⟨am (by decide +kernel),by omega,j + 1,by omega,by omega,by simp [e1],by simp [e2],hw,by rw [e1],by rw [e2,<- cA,fq]⟩
    ·rw [if_neg g2,x02] at e2
     simp [g1,g2,cp,h,gF,knD,db]
     exact ⟨am (by decide +kernel),j + 1,by omega,by omega,by simp [e1],by simp [e2],hw,by rw [e1],by rw [e2]⟩
 ·have ej : j=ns.length:=by omega
  subst ej
  simp [h,db,zu]
  exact ⟨cA _,cA _⟩
end Go.Gv

namespace Go.Gv
def js (nm : List UInt8) (l : Lnk) : Bool:=l.src == nm
theorem ry {ns : List Nod} {ls : List Lnk} (hv : bP ns ls=true) {nm : List UInt8} {v : Nat} (h : bx (bI nm) ns=(v : Int)) : ∃ hv : v < ns.length,ns[v].name=nm:=by
 unfold bx at h
 split at h
 ·rename_i i hi
  rw [x0P] at hi
  obtain ⟨h1,h2,_⟩:=hi
  have e : i=v:=by omega
  subst e
  exact ⟨h1,by simpa [bI] using h2⟩
 ·omega
theorem qI {ns : List Nod} {ls : List Lnk} (hv : bP ns ls=true) {i : Nat} (hi : i < ls.length) : ∃ (h1 : ((av ns ls)[i]'(by rw [aH];exact hi)).1 < ns.length) (h2 : ((av ns ls)[i]'(by rw [aH];exact hi)).2 < ns.length),(ns[((av ns ls)[i]'(by rw [aH];exact hi)).1]'h1).name=ls[i].src /\ (ns[((av ns ls)[i]'(by rw [aH];exact hi)).2]'h2).name=ls[i].dst /\ bx (bI ls[i].src) ns=((((av ns ls)[i]'(by rw [aH];exact hi)).1 : Nat) : Int) /\ bx (bI ls[i].dst) ns=((((av ns ls)[i]'(by rw [aH];exact hi)).2 : Nat) : Int):=by
 obtain ⟨_,_,h1,h2⟩:=eM hv hi
 have e1 : ((av ns ls)[i]'(by rw [aH];exact hi)).1=(bx (bI ls[i].src) ns).toNat:=by simp [av]
 have e2 : ((av ns ls)[i]'(by rw [aH];exact hi)).2=(bx (bI ls[i].dst) ns).toNat:=by simp [av]
 have a1 : bx (bI ls[i].src) ns=((((av ns ls)[i]'(by rw [aH];exact hi)).1 : Nat) : Int):=by rw [e1];omega
 have a2 : bx (bI ls[i].dst) ns=((((av ns ls)[i]'(by rw [aH];exact hi)).2 : Nat) : Int):=by rw [e2];omega
 obtain ⟨b1,c1⟩:=ry hv a1
 obtain ⟨b2,c2⟩:=ry hv a2
 exact ⟨b1,b2,c1,c2,a1,a2⟩
theorem vI {ns : List Nod} {ls : List Lnk} (hv : bP ns ls=true) {i j : Nat} (hi : i < ns.length) (hj : j < ns.length) (h : ns[i].name=ns[j].name) : i=j:=by
 have h1:=(lT hv hi).2
 have h2:=(lT hv hj).2
 rw [h,h2] at h1
 omega
theorem Bd {ns : List Nod} {ls : List Lnk} (hv : bP ns ls=true) {v : Nat} (h : v < ns.length) : bx (js ns[v].name) ls=frI (fE (av ns ls) v):=by
 have hel:=aH ns ls
 have key : ∀ i (hi : i < ls.length),js ns[v].name ls[i]=(((av ns ls)[i]'(by rw [hel];exact hi)).1 == v):=by
  intro i hi
  obtain ⟨h1,h2,h3,_⟩:=qI hv hi
  rw [x0x]
  simp only [js,x0n]
  rw [<- h3]
  constructor
  ·intro e;exact vI hv h1 h e
  ·intro e;simp only [e]
 have : ls.findIdx? (js ns[v].name)=fE (av ns ls) v:=by
  cases hx : fE (av ns ls) v with
  | some x =>
   obtain ⟨h1,h2,h3⟩:=AO hx
   rw [x0P]
   refine ⟨by omega,?_,fun j hj=>?_⟩
   ·rw [key x (by omega)];simpa using h2
   ·have:=h3 j hj
    rw [key j (by omega)];simpa using this
  | none =>
   rw [pR] at hx
   rw [x1Q]
   intro l hl
   obtain ⟨i,hi,rfl⟩:=x0G hl
   rw [key i hi]
   simp only [beq_eq_false_iff_ne]
   intro e
   exact hx (x0u.2 ⟨_,x0h (by rw [hel];exact hi),e⟩)
 unfold bx
 rw [this]
 cases fE (av ns ls) v <;> rfl
end Go.Gv

namespace Go.Gv
inductive Pth (es : List Edg) : Nat -> Nat -> Prop
 | refl (v : Nat) : Pth es v v
 | step {u v w : Nat} : (u,v) ∈ es -> Pth es v w -> Pth es u w
theorem Pth.snoc {es : List Edg} {u v w : Nat} (h : Pth es u v) (e : (v,w) ∈ es) : Pth es u w:=by
 induction h with
 | refl v=>exact .step e (.refl _)
 | step e' _ ih=>exact .step e' (ih e)
theorem Pth.trans {es : List Edg} {u v w : Nat} (h : Pth es u v) (h2 : Pth es v w) : Pth es u w:=by
 induction h with
 | refl v=>exact h2
 | step e _ ih=>exact .step e (ih h2)
def RR (es : List Edg) (fr : List Nat) (v : Nat) : Prop:=∃ s ∈ fr,Pth es s v
noncomputable def rB (es : List Edg) (fr : List Nat) (v : Nat) : Bool:=@decide (RR es fr v) (Classical.propDecidable _)
theorem ye {es : List Edg} {fr : List Nat} {v : Nat} : rB es fr v=true ↔ RR es fr v:=by
 unfold rB
 exact @decide_eq_true_iff _ (Classical.propDecidable _)
theorem vO {es : List Edg} {fr : List Nat} {out : Nat -> Bool} (h1 : ∀ v,out v=true -> RR es fr v) (h2 : ∀ s ∈ fr,out s=true) (h3 : ∀ u w,(u,w) ∈ es -> out u=true -> out w=true) (v : Nat) : out v=rB es fr v:=by
 have key : ∀ {u w : Nat},Pth es u w -> out u=true -> out w=true:=fun {u w} h=>by
  induction h with
  | refl v=>exact _root_.id
  | step e _ ih=>exact fun hu=>ih (h3 _ _ e hu)
 rw [x0x,ye]
 refine ⟨h1 v,fun ⟨s,hs,hp⟩=>key hp (h2 s hs)⟩
def cc (n : Nat) (f : Nat -> Bool) : List (List D):=(List.range n).map fun v=>[.bool (f v)]
theorem bX (n : Nat) (f : Nat -> Bool) : (cc n f).length=n:=by simp [cc]
theorem fM {n v : Nat} (f : Nat -> Bool) (h : v < n) : (cc n f)[v]? = some [.bool (f v)]:=by simp [cc,h]
theorem lC {n v : Nat} (f : Nat -> Bool) (x : Bool) : (cc n f).set v [.bool x]=cc n fun u=>if u=v then x else f u:=by
 unfold cc
 rw [iH]
 apply x0j
 intro u _
 by_cases h : u=v <;> simp [h]
theorem mf {n : Nat} {f g : Nat -> Bool} (h : ∀ v,v < n -> f v=g v) : cc n f=cc n g:=by
 unfold cc
 apply x0j
 intro v hv
 rw [h v (by simpa using hv)]
theorem An (n : Nat) (f : Nat -> Bool) : (cc n f).map (fun e=>e.map aS)=cc n f:=by
 unfold cc
 rw [x1U]
 apply x0j
 intro v _
 simp [aS]
def wtS (f : Nat -> Nat) : Nat -> Nat
 | 0=>0
 | k + 1=>wtS f k + f k
theorem pB {f g : Nat -> Nat} : ∀ {K : Nat},(∀ k,k < K -> f k=g k) -> wtS f K=wtS g K
 | 0,_=>rfl
 | K + 1,h=>by unfold wtS;rw [pB (K:=K) (fun k hk=>h k (by omega)),h K (by omega)]
theorem uT {f g : Nat -> Nat} {i : Nat} : ∀ {K : Nat},i < K -> (∀ k,k ≠ i -> g k=f k) -> g i=0 -> wtS f K=wtS g K + f i
 | 0,h,_,_=>by omega
 | K + 1,h,h1,h2=>by
  unfold wtS
  by_cases e : K=i
  ·subst e
   rw [pB (f:=g) (g:=f) (fun k hk=>h1 k (by omega)),h2]
   omega
  ·rw [uT (f:=f) (g:=g) (K:=K) (by omega) h1 h2,h1 K e]
   omega
end Go.Gv

namespace Go.Gv
variable {C : CC} (hC : aw prog C)
include hC
end Go.Gv

namespace Go.Gv
variable {C : CC} (hC : aw prog C)
include hC
end Go.Gv
