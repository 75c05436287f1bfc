/-
  Texts of the proof: S6, K15, K16, K17, K18, L1, K19, K20, L2, K23, K23c, K21, S7, S9, S10, S11, M12, S12, S13, S14, S8, S15, S16, K24, L3, S17, S18, S19.
-/
import Derived.Test.YtplgphagimkllaaGreatX7
set_option linter.all false
set_option maxRecDepth 4000
namespace Go.Gv
def ia (f : Nat -> Int) (V : List Nat) (k : Nat) : List (List D):=(V.take k).map fun l=>[.int .i64 (f l)]
theorem th (f : Nat -> Int) (V : List Nat) : ia f V 0=[]:=by simp [ia]
theorem iO {f : Nat -> Int} {V : List Nat} {k : Nat} (h : k < V.length) : ia f V (k + 1)=ia f V k++[[.int .i64 (f V[k])]]:=by
 unfold ia
 rw [List.take_succ_eq_append_getElem h,List.map_append];rfl
theorem ij {f : Nat -> Int} {V : List Nat} {k : Nat} (h : k <= V.length) : (ia f V k).length=k:=by simp [ia];omega
theorem iP {f : Nat -> Int} {V : List Nat} {k : Nat} (h : k <= V.length) : List.take k (ia f V k)=ia f V k:=List.take_of_length_le (by rw [ij h];omega)
theorem u7 (f : Nat -> Int) (V : List Nat) (k : Nat) : ∀ e ∈ ia f V k,∀ c ∈ e,ar c=true:=by
 intro e he
 simp only [ia,List.mem_map] at he
 obtain ⟨v,_,rfl⟩:=he
 simp [ar]
theorem u6 (f : Nat -> Int) (V : List Nat) : ia f V V.length=cS (V.map f):=by
 unfold ia cS
 rw [List.take_length,List.map_map];rfl
def jZ (ss : List Sec) (j : Nat) : List (List D):=(ss.take j).map a7
theorem ud (ss : List Sec) : jZ ss 0=[]:=by simp [jZ]
theorem uc {ss : List Sec} {j : Nat} (h : j < ss.length) : jZ ss (j + 1)=jZ ss j++[a7 ss[j]]:=by
 unfold jZ
 rw [List.take_succ_eq_append_getElem h,List.map_append];rfl
theorem wC {ss : List Sec} {j : Nat} (h : j <= ss.length) : (jZ ss j).length=j:=by simp [jZ];omega
theorem wA (ss : List Sec) : jZ ss ss.length=ss.map a7:=by unfold jZ;rw [List.take_length]
theorem wB (ss : List Sec) (j : Nat) : ∀ e ∈ jZ ss j,∀ c ∈ e,ar c=true:=by
 intro e he
 simp only [jZ,List.mem_map] at he
 obtain ⟨s,_,rfl⟩:=he
 have h1:=iV s.areaN (s.area.map knD)
 have h2:=iV s.convN (s.conv.map knD)
 intro c hc
 simp only [a7,List.mem_cons,List.not_mem_nil,or_false] at hc
 rcases hc with rfl | rfl | rfl | rfl | rfl
 all_goals first | rfl | exact h1 | exact h2
def mnI (a b : Int) : Int:=if b < a then b else a
def lnF (ls : List Lnk) (i : Nat) : Int:=ls[i]!.len
def qvF (q : List Int) (i : Nat) : Int:=q[i]!
def pFa (ls : List Lnk) (i : Nat) : Int:=ls[i]!.up - ls[i]!.down
def pRm (ns : List Nod) (es : List Edg) (ls : List Lnk) (cover : Int) (i : Nat) : Int:=if 0 < mnI (ns[(es[i]!).1]!.ground - ls[i]!.up) (ns[(es[i]!).2]!.ground - ls[i]!.down) - cover then mnI (ns[(es[i]!).1]!.ground - ls[i]!.up) (ns[(es[i]!).2]!.ground - ls[i]!.down) - cover else 0
def iF (ns : List Nod) (es : List Edg) (ls : List Lnk) (cover : Int) (i : Nat) : Bool:=!(decide (0 <= pFa ls i) && decide (pFa ls i <= 4194304)) || decide (4194304 < pRm ns es ls cover i)
def ri (x : Int) : Bool:=!(decide (0 <= x) && decide (x <= 1099511627776))
def prE (ns : List Nod) (ls : List Lnk) (ss : List Sec) (q : List Int) (cover : Int) : Int :=
 if !(ce ns ls && aH ss) then 1 else if ss.length=0 then 14 else if ppE ls ns.length (ao ns ls) ≠ 0 then ppE ls ns.length (ao ns ls) else if q.length ≠ ls.length then 3
 else if (!(decide (0 <= cover) && decide (cover <= 4194304)) || q.any ri) then 2 else if (ppL ns.length (ao ns ls)).any (iF ns (ao ns ls) ls cover) then 23 else 0
def pn : Job:=⟨⟨true,[]⟩,⟨true,[]⟩,⟨true,[]⟩,⟨true,[]⟩,⟨true,[]⟩,true,[]⟩
def bZ (ns : List Nod) (es : List Edg) (ls : List Lnk) (ss : List Sec) (q : List Int) (cover : Int) (V : List Nat) : Job :=
 ⟨⟨false,V.map (i6 es V)⟩,⟨false,V.map (lnF ls)⟩,⟨false,V.map (qvF q)⟩,⟨false,V.map (pFa ls)⟩,⟨false,V.map (pRm ns es ls cover)⟩,false,ss⟩
def prJ (ns : List Nod) (ls : List Lnk) (ss : List Sec) (q : List Int) (cover : Int) : Job :=
 if prE ns ls ss q cover=0 then bZ ns (ao ns ls) ls ss q cover (ppL ns.length (ao ns ls)) else pn
theorem qO : dc pn=[.nils,.nils,.nils,.nils,.nils,.nils]:=by
 unfold dc pn slI slx
 simp
theorem rh {ns : List Nod} {ls : List Lnk} (hv : ce ns ls=true) (hk : ls.any (fun l=>!decide (l.kind=1))=false) {i : Nat} (hi : i < ls.length) :
  (-4194304 <= ls[i].up /\ ls[i].up <= 4194304) /\ (-4194304 <= ls[i].down /\ ls[i].down <= 4194304) /\ 1 <= ls[i].len /\ ls[i].len <= 16777216:=by
 have h1:=(kD hv hi).1
 have h2 : ls[i].kind=1:=by
  rw [List.any_eq_false] at hk
  simpa using hk _ (List.getElem_mem hi)
 simp only [cx,jn,h2,if_true,Bool.and_eq_true] at h1
 have a:=h1.1.1.2;have b:=h1.2.1.2;have c:=h1.2.1.1
 simp only [cT,bf,Bool.and_eq_true,decide_eq_true_eq] at a b c
 exact ⟨a,b,c⟩
theorem we {ns : List Nod} {ls : List Lnk} (hv : ce ns ls=true) {i : Nat} (hi : i < ns.length) : -4194304 <= ns[i].ground /\ ns[i].ground <= 4194304:=by
 have h1:=(tO hv hi).1
 simp only [mj,Bool.and_eq_true] at h1
 have a:=h1.1.2
 simpa only [cT,Bool.and_eq_true,decide_eq_true_eq] using a
theorem mz {ls : List Lnk} {n : Nat} {es : List Edg} (h : ppE ls n es=0) : ls.any (fun l=>!decide (l.kind=1))=false:=by
 unfold ppE at h
 split at h
 ·cases h
 ·rename_i h1;simpa using h1
variable {C : CC} (hC : aj prog C)
include hC
theorem C7 (x : Int) : C 606 [.int .i64 x] (.bool (ri x)) []:=by
 refine au hC (nf:=N606) rfl rfl ?_
 simp [N606]
 refine aa (fI hC x 0 1099511627776) (.inl rfl) ?_
 simp [ri]
set_option maxHeartbeats 2000000 in
theorem sJ (hS : SlC C) (hL : oS C) (b1 b2 b3 b4 : Bool) (ns : List Nod) (ls : List Lnk) (ss : List Sec) (q : List Int) (cover : Int) (hcv : ∀ l ∈ ls,l.curve.length < 2 ^ 62) (htb : ∀ s ∈ ss,s.area.length < 2 ^ 40 /\ s.conv.length < 2 ^ 40) (hq : q.length < 2 ^ 62) :
  C 565 [.agg [slx b1 (ns.map bI),slx b2 (ls.map a8)],slx b3 (ss.map a7),slx b4 (q.map fun x=>[.int .i64 x]),.int .i64 cover] (.tup [.agg (dc (prJ ns ls ss q cover)),.int .i64 (prE ns ls ss q cover)]) []:=by
 have k1:=jO hC b1 b2 ns ls hcv
 have k2:=gG hC b3 ss
 obtain ⟨E,hE⟩ : ∃ E,E=prE ns ls ss q cover:=⟨_,rfl⟩
 obtain ⟨J,hJ⟩ : ∃ J,J=prJ ns ls ss q cover:=⟨_,rfl⟩
 rw [<- hE,<- hJ]
 have bad : ∀ x : Int,x ≠ 0 -> E=x -> dc J=[.nils,.nils,.nils,.nils,.nils,.nils] /\ E=x:=fun x hx h=>by
  have : J=pn:=by rw [hJ];unfold prJ;rw [if_neg (by rw [<- hE,h];exact hx)]
  rw [this]
  exact ⟨qO,h⟩
 refine au hC (nf:=N565) rfl rfl ?_
 simp [N565]
 refine aa k1 (.inl rfl) ?_
 by_cases hv : ce ns ls=true
 ·by_cases hc : aH ss=true
  ·rw [hv]
   simp
   refine aa k2 (.inl rfl) ?_
   rw [hc]
   simp
   have hu : prE ns ls ss q cover=if ss.length=0 then 14 else if ppE ls ns.length (ao ns ls) ≠ 0 then ppE ls ns.length (ao ns ls) else if q.length ≠ ls.length then 3
     else if (!(decide (0 <= cover) && decide (cover <= 4194304)) || q.any ri) then 2 else if (ppL ns.length (ao ns ls)).any (iF ns (ao ns ls) ls cover) then 23 else 0:=by
    unfold prE;rw [if_neg (by simp [hv,hc])]
   have hE0:=hE
   rw [hu] at hE
   clear hu
   have k3:=pL hC hS b1 b2 ns ls hcv hv
   have k4:=lZ hC (b:=b4) (xs:=q) (g:=606) (cs:=[]) ri hq (fun x _=>C7 hC x)
   have k5:=oT hC b1 b2 ns ls hcv
   rw [if_pos hv] at k5
   have k6:=jF hC hL
   have k7:=fI hC cover 0 4194304
   obtain ⟨hnl,hll⟩:=ee hv
   have hg:=jJ hv
   have hel:=da ns ls
   have hss : ss.length <= 40:=by simp only [aH,Bool.and_eq_true,decide_eq_true_eq] at hc;omega
   by_cases h1 : ss=[]
   ·have hE1 : E=14:=by rw [hE,if_pos (by simp [h1])]
    obtain ⟨e1,e2⟩:=bad 14 (by decide) hE1
    rw [e1,e2]
    simp [h1]
   rw [if_neg (by simpa using h1)] at hE
   simp [h1]
   refine aa k3 (.inr rfl) ?_
   by_cases h2 : ppE ls ns.length (ao ns ls)=0
   ·rw [h2]
    rw [if_neg (by simp [h2])] at hE
    simp
    by_cases h3 : q.length=ls.length
    ·rw [if_neg (by simp [h3])] at hE
     simp [h3]
     refine aa k7 (.inl rfl) ?_
     simp
     by_cases h4 : (0 <= cover /\ cover <= 4194304)
     ·simp [h4.1,h4.2]
      refine aa k4 (.inl rfl) ?_
      by_cases h5 : q.any ri=true
      ·have hE1 : E=2:=by rw [hE,if_pos (by simp [h5])]
       obtain ⟨e1,e2⟩:=bad 2 (by decide) hE1
       rw [e1,e2,h5]
       simp
      rw [Bool.not_eq_true] at h5
      rw [if_neg (by simp [h5,h4.1,h4.2])] at hE
      rw [h5]
      simp
      refine aa k5 (.inr rfl) ?_
      have eV : ppV ls ns.length (ao ns ls)=ppL ns.length (ao ns ls):=by unfold ppV;rw [if_pos h2]
      have eW : ppW ls ns.length (ao ns ls)=ppB ns.length (ao ns ls):=by unfold ppW;rw [if_pos h2]
      rw [eV,eW]
      simp
      refine mS (ds:=[.sl (cS (ppB ns.length (ao ns ls))),.nils,.nils,.nils,.nils,.nils]) (b:=10240) (i:=0) (off:=0) (sz:=6) (es:=[[.own 1 [],.own 1 [],.own 1 [],.own 1 [],.own 1 [],.own 5 []]]) (r:=[.own 1 [],.own 1 [],.own 1 [],.own 1 [],.own 1 [],.own 5 []]) (by simp) (by simp [ar]) rfl rfl (by simp) (by simp) rfl (by simp) ?_
      simp [de,dS]
      refine ay Nat (fun j=>[(2,slx b4 (q.map fun x=>[.int .i64 x])),(3,.int .i64 cover),(4,.ptr [slx b1 (ns.map bI),slx b2 (ls.map a8)]),(8,.adr (.r 10128) 0 0),(10,.sl (aV (ppL ns.length (ao ns ls)))),(13,.sl ((ao ns ls).map edK)),(15,.adr (.r 10240) 0 0),(75,slx b3 (ss.map a7)),(76,.int .i64 ss.length),(77,.int .i64 j),(10128,.blk 6 [[.own 1 [],.own 1 [],.own 1 [],.own 1 [],.own 1 [],.own 5 []]]),(10240,.blk 6 [[.sl (cS (ppB ns.length (ao ns ls))),.own 1 [],.own 1 [],.own 1 [],.own 1 [],.own 5 (jZ ss j)]])]) (fun j=>j <= ss.length) (fun j=>ss.length - j) 0 (by simp) (by simp [ud]) ?_
      intro j hj
      simp
      refine ae (fun h=>?_) (fun h=>?_) <;> simp at h
      ·have hw : IntKind.wrap .i64 ((j : Int) + 1)=((j + 1 : Nat) : Int):=ai (by omega) (by omega)
       have ht:=uc h
       have hlen:=wC hj
       have ha:=k6 ss[j].areaN ss[j].area (htb _ (List.getElem_mem h)).1
       have hb:=k6 ss[j].convN ss[j].conv (htb _ (List.getElem_mem h)).2
       have hc1:=wB ss j
       have htk : List.take j (jZ ss j)=jZ ss j:=List.take_of_length_le (by omega)
       have hb2 : (j + 1) * 80 <= 140737488355328:=by omega
       rcases mR ss[j].areaN (ss[j].area.map knD) with e | e <;> rcases mR ss[j].convN (ss[j].conv.map knD) with e' | e'
       all_goals
        rw [e] at ha
        rw [e'] at hb
        simp [h,a7,e,e']
        refine aa ha (.inr rfl) ?_
        simp
        refine aa hb (.inr rfl) ?_
        simp [a7,e,e'] at ht
        simp [hlen,hb2,htk]
        refine ⟨aA (by decide +kernel),fun e he=>by rcases he with he | rfl;exact hc1 e he;simp [ar],j + 1,by omega,by omega,hw,?_⟩
        rw [ht]
      ·have ej : j=ss.length:=by omega
       subst ej
       have hkd:=mz h2
       have eB : ppB ns.length (ao ns ls)=(ppL ns.length (ao ns ls)).map (i6 (ao ns ls) (ppL ns.length (ao ns ls))):=rfl
       have hVl : (ppL ns.length (ao ns ls)).length <= 300:=Nat.le_trans (iY _ _) (Nat.le_trans (gl _ _) hnl)
       have hVlt : ∀ l ∈ ppL ns.length (ao ns ls),l < ls.length:=fun l hl=>by rw [<- hel];exact kH hl
       have eJ : E=0 -> J=bZ ns (ao ns ls) ls ss q cover (ppL ns.length (ao ns ls)):=fun h=>by
        have h' : prE ns ls ss q cover=0:=by rw [<- hE0];exact h
        rw [hJ];unfold prJ;rw [if_pos h']
       clear hJ k3
       generalize hVd : ppL ns.length (ao ns ls)=V at *
       generalize ppB ns.length (ao ns ls)=B at *
       generalize hes : ao ns ls=es at *
       simp [aW,wA]
       refine ay Nat (fun k=>[(2,slx b4 (q.map fun x=>[.int .i64 x])),(3,.int .i64 cover),(4,.ptr [slx b1 (ns.map bI),slx b2 (ls.map a8)]),(8,.adr (.r 10128) 0 0),(13,.sl (es.map edK)),(15,.adr (.r 10240) 0 0),(96,.sl (aV V)),(97,.int .i64 V.length),(98,.int .i64 k),(10128,.blk 6 [[.own 1 [],.own 1 [],.own 1 [],.own 1 [],.own 1 [],.own 5 []]]),
        (10240,.blk 6 [[.sl (cS B),.own 1 (ia (lnF ls) V k),.own 1 (ia (qvF q) V k),.own 1 (ia (pFa ls) V k),.own 1 (ia (pRm ns es ls cover) V k),.own 5 (ss.map a7)]])]) (fun k=>k <= V.length /\ ∀ j (hj : j < V.length),j < k -> iF ns es ls cover V[j]=false) (fun k=>V.length - k) 0 ⟨by omega,by omega⟩ (by simp [th]) ?_
       rintro k ⟨hk,hok⟩
       simp
       refine ae (fun h=>?_) (fun h=>?_) <;> simp at h
       ·have hw : IntKind.wrap .i64 ((k : Int) + 1)=((k + 1 : Nat) : Int):=ai (by omega) (by omega)
        have hi:=hVlt _ (List.getElem_mem h)
        have hie : V[k] < es.length:=by omega
        obtain ⟨g1,g2⟩:=hg _ (List.getElem_mem hie)
        obtain ⟨p1,p2,p3⟩:=rh hv hkd hi
        have n1:=we hv g1
        have n2:=we hv g2
        simp [h,bA (fz h),hi,hie,edK,knD,g1,g2,a8,bI,iV]
        have wf : IntKind.wrap .i64 (ls[V[k]].up - ls[V[k]].down)=pFa ls V[k]:=ai (by unfold pFa;rw [getElem!_pos ls _ hi]) (by unfold pFa;rw [getElem!_pos ls _ hi];omega)
        have w1 : IntKind.wrap .i64 (ns[es[V[k]].1].ground - ls[V[k]].up)=ns[es[V[k]].1].ground - ls[V[k]].up:=ai rfl (by omega)
        have w2 : IntKind.wrap .i64 (ns[es[V[k]].2].ground - ls[V[k]].down)=ns[es[V[k]].2].ground - ls[V[k]].down:=ai rfl (by omega)
        have hmn : -8388608 <= mnI (ns[es[V[k]].1].ground - ls[V[k]].up) (ns[es[V[k]].2].ground - ls[V[k]].down) /\ mnI (ns[es[V[k]].1].ground - ls[V[k]].up) (ns[es[V[k]].2].ground - ls[V[k]].down) <= 8388608:=by
         unfold mnI;split <;> omega
        have w3 : IntKind.wrap .i64 (mnI (ns[es[V[k]].1].ground - ls[V[k]].up) (ns[es[V[k]].2].ground - ls[V[k]].down) - cover)=mnI (ns[es[V[k]].1].ground - ls[V[k]].up) (ns[es[V[k]].2].ground - ls[V[k]].down) - cover:=ai rfl (by omega)
        have er : (if 0 < mnI (ns[es[V[k]].1].ground - ls[V[k]].up) (ns[es[V[k]].2].ground - ls[V[k]].down) - cover then mnI (ns[es[V[k]].1].ground - ls[V[k]].up) (ns[es[V[k]].2].ground - ls[V[k]].down) - cover else 0)=pRm ns es ls cover V[k]:=by
         unfold pRm
         rw [getElem!_pos ls _ hi,getElem!_pos es _ hie,getElem!_pos ns _ g1,getElem!_pos ns _ g2]
        have emn : (if ns[es[V[k]].2].ground - ls[V[k]].down < ns[es[V[k]].1].ground - ls[V[k]].up then ns[es[V[k]].2].ground - ls[V[k]].down else ns[es[V[k]].1].ground - ls[V[k]].up)=mnI (ns[es[V[k]].1].ground - ls[V[k]].up) (ns[es[V[k]].2].ground - ls[V[k]].down):=rfl
        rw [wf,w1,w2,emn,w3,er]
        refine ⟨aA (by decide +kernel),aA (by decide +kernel),?_⟩
        refine aa (fI hC (pFa ls V[k]) 0 4194304) (.inl rfl) ?_
        simp
        have bad23 : iF ns es ls cover V[k]=true -> E=23:=fun hb=>by
         rw [hE,if_pos (List.any_eq_true.2 ⟨_,List.getElem_mem h,hb⟩)]
        by_cases hb1 : 0 <= pFa ls V[k] /\ pFa ls V[k] <= 4194304
        ·by_cases hb2 : 4194304 < pRm ns es ls cover V[k]
         ·obtain ⟨e1,e2⟩:=bad 23 (by decide) (bad23 (by simp [iF,hb2]))
          rw [e1,e2]
          simp [hb1.1,hb1.2,hb2]
         ·have hnb : iF ns es ls cover V[k]=false:=by simp [iF,hb1.1,hb1.2,hb2]
          have c1:=ij (f:=lnF ls) hk
          have c2:=ij (f:=qvF q) hk
          have c3:=ij (f:=pFa ls) hk
          have c4:=ij (f:=pRm ns es ls cover) hk
          have s1:=iO (f:=lnF ls) h
          have s2:=iO (f:=qvF q) h
          have s3:=iO (f:=pFa ls) h
          have s4:=iO (f:=pRm ns es ls cover) h
          have t1:=iP (f:=lnF ls) hk
          have t2:=iP (f:=qvF q) hk
          have t3:=iP (f:=pFa ls) hk
          have t4:=iP (f:=pRm ns es ls cover) hk
          have hqi : V[k] < q.length:=by omega
          have hqv : q[V[k]]=qvF q V[k]:=by unfold qvF;rw [getElem!_pos q _ hqi]
          have hlv : ls[V[k]].len=lnF ls V[k]:=by unfold lnF;rw [getElem!_pos ls _ hi]
          have hb8 : (k + 1) * 8 <= 140737488355328:=by omega
          have cc : ∀ (f : Nat -> Int) (x : Int),∀ e,e ∈ ia f V k \/ e=[D.int .i64 x] -> ∀ c ∈ e,ar c=true:=by
           rintro f x e (he | rfl)
           ·exact u7 _ _ _ e he
           ·simp [ar]
          simp [hb1.1,hb1.2,hb2,bA (fz h),hqi,c1,c2,c3,c4,t1,t2,t3,t4,hb8]
          refine ⟨cc _ _,cc _ _,aA (by decide +kernel),cc _ _,cc _ _,aA (by decide +kernel),?_⟩
          refine ⟨k + 1,⟨by omega,fun j hj hjk=>by rcases Nat.lt_succ_iff_lt_or_eq.1 hjk with h8 | rfl;exact hok j hj h8;exact hnb⟩,by omega,hw,?_⟩
          rw [s1,s2,s3,s4,hqv,hlv]
          exact ⟨rfl,rfl,rfl,rfl⟩
        ·obtain ⟨e1,e2⟩:=bad 23 (by decide) (bad23 (by simp only [iF];rw [Bool.or_eq_true];left;rw [Bool.not_eq_true',Bool.and_eq_false_iff];simp only [decide_eq_false_iff_not];omega))
         rw [e1,e2]
         by_cases hb3 : 0 <= pFa ls V[k]
         ·have hb4 : ¬ pFa ls V[k] <= 4194304:=fun h7=>hb1 ⟨hb3,h7⟩
          simp [hb3,hb4]
         ·simp [hb3]
       ·have ek : k=V.length:=by omega
        subst ek
        have hnb : V.any (iF ns es ls cover)=false:=by
         rw [List.any_eq_false]
         intro x hx
         obtain ⟨j,hj,rfl⟩:=List.getElem_of_mem hx
         simpa using hok j hj hj
        have hE1 : E=0:=by rw [hE,if_neg (by rw [hnb];decide)]
        rw [eJ hE1,hE1]
        simp [h,u6]
        unfold bZ dc slI
        simp only [gr]
        rw [eB]
        rfl
     ·have hE1 : E=2:=by rw [hE,if_pos (by rw [Bool.or_eq_true];left;rw [Bool.not_eq_true',Bool.and_eq_false_iff];simp only [decide_eq_false_iff_not];omega)]
      obtain ⟨e1,e2⟩:=bad 2 (by decide) hE1
      rw [e1,e2]
      by_cases h6 : 0 <= cover
      ·have h7 : ¬ cover <= 4194304:=fun h7=>h4 ⟨h6,h7⟩
       simp [h6,h7]
      ·simp [h6]
    ·have hE1 : E=3:=by rw [hE,if_pos (by simp [h3])]
     obtain ⟨e1,e2⟩:=bad 3 (by decide) hE1
     rw [e1,e2]
     have h3' : ¬ (q.length : Int)=(ls.length : Int):=by omega
     simp [h3']
   ·have hE1 : E=ppE ls ns.length (ao ns ls):=by rw [hE,if_pos (by simp [h2])]
    obtain ⟨e1,e2⟩:=bad _ h2 hE1
    rw [e1,<- e2]
    rw [<- e2] at h2
    simp [h2]
  ·have hE1 : E=1:=by rw [hE];unfold prE;rw [if_pos (by simp [hc])]
   obtain ⟨e1,e2⟩:=bad 1 (by decide) hE1
   rw [hv,e1,e2]
   simp
   refine aa k2 (.inl rfl) ?_
   simp [hc]
 ·have hE1 : E=1:=by rw [hE];unfold prE;rw [if_pos (by simp [hv])]
  obtain ⟨e1,e2⟩:=bad 1 (by decide) hE1
  rw [Bool.not_eq_true] at hv
  rw [hv,e1,e2]
  simp
end Go.Gv

namespace Go.Gv
def cO (j : Job) (i s : Nat) : Bool:=((cJ j.secs[s]! j.falls.l[i]! j.lengths.l[i]!).2 == 5 || ((cJ j.secs[s]! j.falls.l[i]! j.lengths.l[i]!).2 == 0 && decide (j.flows.l[i]! <= (cJ j.secs[s]! j.falls.l[i]! j.lengths.l[i]!).1))) && decide (j.secs[s]!.height <= j.room.l[i]!)
def aM (j : Job) (i : Nat) : List Nat:=(List.range j.below.l.length).filter fun a=>decide (j.below.l[a]! = (i : Int))
def bl (b : Bool) : List D:=[.bool b]
def it (n : Nat) : List D:=[.int .i64 (n : Int)]
def my (j : Job) (i : Nat) : List D:=[.sl ((List.range j.secs.length).map fun s=>bl (cO j i s))]
def nX (j : Job) (i : Nat) : List D:=[.sl ((aM j i).map it)]
def bx (j : Job) : D:=.ptr (dc j++[.sl ((List.range j.below.l.length).map (my j)),.sl ((List.range j.below.l.length).map (nX j))])
@[simp] theorem FC {j} : isV (bx j)=true:=_root_.id rfl
@[simp] theorem Fu {j} : isK (bx j)=true:=_root_.id rfl
@[simp] theorem Fy {j} : isP (bx j)=true:=_root_.id rfl
@[simp] theorem FA {j} : isS (bx j)=true:=_root_.id rfl
@[simp] theorem Ce {j} : ar (bx j)=true:=_root_.id rfl
@[simp] theorem Fw {j} : isO (bx j)=false:=_root_.id rfl
@[simp] theorem Cg {j} : bi (bx j)=false:=_root_.id rfl
@[simp] theorem Fs {j} : isF (bx j)=false:=_root_.id rfl
@[simp] theorem Fh {j} : isB (bx j)=false:=_root_.id rfl
@[simp] theorem At {j} : cq (bx j)=false:=_root_.id rfl
@[simp] theorem w5 {j} : cellsOf (bx j)=[(bx j)]:=_root_.id rfl
@[simp] theorem zR {j} : bX (bx j)=(bx j):=_root_.id rfl
@[simp] theorem zW {j} : aQ (bx j)=(bx j):=_root_.id rfl
@[simp] theorem xh {j} : aE (bx j)=[]:=_root_.id rfl
@[simp] theorem yk {j} : br (bx j)=[]:=_root_.id rfl
@[simp] theorem Et {f : Nat -> D} {j} : dp1 f (bx j)=(bx j):=_root_.id rfl
@[simp] theorem HN {f : Nat -> D} {j} : dp f (bx j)=(bx j):=_root_.id rfl
@[simp] theorem An {f : Nat -> D} {j} : aL f (bx j)=True:=_root_.id rfl
@[simp] theorem BO {f : Nat -> D} {j} : bq f (bx j)=True:=_root_.id rfl
@[simp] theorem FW {p i o} {j} : ldc p i o (bx j)=(bx j):=_root_.id rfl
@[simp] theorem Az {ks} {j} : aS ks (bx j)=(bx j):=by unfold bx;exact tD
theorem bg {j} : bx j=.ptr (dc j++[.sl ((List.range j.below.l.length).map (my j)),.sl ((List.range j.below.l.length).map (nX j))]):=_root_.id rfl
theorem aB {j} : dc j=[slI j.below,slI j.lengths,slI j.flows,slI j.falls,slI j.room,slx j.secN (j.secs.map a7)]:=_root_.id rfl
theorem fd {s} : a7 s=[.str s.name,.int .i64 s.height,.int .i64 s.price,slx s.areaN (s.area.map knD),slx s.convN (s.conv.map knD)]:=_root_.id rfl
def cr (ok : Nat -> Bool) (vs : List Int) (b : Int × Int) (s : Nat) : Int × Int:=if vs[s]! ≠ -1 /\ ok s=true /\ (b.1=-1 \/ vs[s]! < b.1) then (vs[s]!,(s : Int)) else b
def fA (ok : Nat -> Bool) (vs : List Int) : Int × Int:=(List.range vs.length).foldl (cr ok vs) (-1,-1)
def okF (j : Job) (pipe : Nat) (height : Int) (s : Nat) : Bool:=cO j pipe s && decide (j.secs[s]!.height <= height)
variable {C : CC} (hC : aj prog C)
include hC
theorem ox (j : Job) (b : Bool) (vs : List Int) (pipe : Nat) (height : Int) (hp : pipe < j.below.l.length) (hv : vs.length <= j.secs.length) (hs : j.secs.length < 2 ^ 62) :
  C 40 [bx j,slx b (vs.map fun n=>[.int .i64 n]),.int .i64 pipe,.int .i64 height] (.tup [.int .i64 (fA (okF j pipe height) vs).1,.int .i64 (fA (okF j pipe height) vs).2]) []:=by
 obtain ⟨r,hr⟩ : ∃ r,r=fA (okF j pipe height) vs:=⟨_,rfl⟩
 rw [<- hr]
 refine au hC (nf:=N40) rfl rfl ?_
 simp [N40]
 refine ay (Nat × Int × Int) (fun s=>[(0,bx j),(2,.int .i64 pipe),(3,.int .i64 height),(10,.int .i64 s.2.1),(11,.int .i64 s.2.2),(14,slx b (vs.map fun n=>[.int .i64 n])),(15,.int .i64 vs.length),(16,.int .i64 s.1)])
  (fun s=>s.1 <= vs.length /\ s.2=(List.range s.1).foldl (cr (okF j pipe height) vs) (-1,-1)) (fun s=>vs.length - s.1) (0,-1,-1) (by simp) (by simp) ?_
 rintro ⟨i,best,at_⟩ ⟨hi,hst⟩
 simp only at hi hst
 simp
 refine ae (fun h=>?_) (fun h=>?_) <;> simp at h <;> simp [h]
 ·have hw : IntKind.wrap .i64 ((i : Int) + 1)=((i + 1 : Nat) : Int):=ai (by omega) (by omega)
  have his : i < j.secs.length:=by omega
  have hstep : (List.range (i + 1)).foldl (cr (okF j pipe height) vs) (-1,-1)=cr (okF j pipe height) vs (best,at_) i:=by
   rw [List.range_succ,List.foldl_append,<- hst];rfl
  have eo : okF j pipe height i=(cO j pipe i && decide (j.secs[i].height <= height)):=by simp only [okF,getElem!_pos j.secs i his]
  simp only [cr,getElem!_pos vs i h,eo] at hstep
  have next : ∀ (x y : Int),(x,y)=(List.range (i + 1)).foldl (cr (okF j pipe height) vs) (-1,-1) -> ∃ a a_1 b_1,(a <= vs.length /\ (a_1,b_1)=(List.range a).foldl (cr (okF j pipe height) vs) (-1,-1)) /\ vs.length - a < vs.length - i /\ x=a_1 /\ y=b_1 /\ (i : Int) + 1=(a : Int):=fun x y e=>⟨i + 1,x,y,⟨by omega,e⟩,by omega,rfl,rfl,rfl⟩
  refine ae (fun c1=>?_) (fun c1=>?_) <;> simp [h] at c1 <;> simp [c1,h,bg,aB,hp,my,his,bl,fd,hw]
  ·refine ae (fun c2=>?_) (fun c2=>?_) <;> simp [c1,c2,h,bg,aB,hp,my,his,bl,fd,hw]
   ·refine ae (fun c3=>?_) (fun c3=>?_) <;> simp at c3 <;> simp [c1,c2,c3,h,bg,aB,hp,my,his,bl,fd,hw]
    ·refine ae (fun c4=>?_) (fun c4=>?_) <;> simp at c4 <;> simp [c1,c2,c3,c4,hw,bg,aB]
     ·exact next vs[i] i (by rw [hstep];simp [c1,c2,c3,c4])
     ·refine ae (fun c5=>?_) (fun c5=>?_) <;> simp at c5 <;> simp [c1,c2,c3,c4,c5,hw,bg,aB]
      ·exact next vs[i] i (by rw [hstep];simp [c1,c2,c3,c4,c5])
      ·exact next best at_ (by rw [hstep];simp [c1,c2,c3,c4,show ¬ vs[i] < best by omega])
    ·exact next best at_ (by rw [hstep];simp [c1,c2,show ¬ j.secs[i].height <= height by omega])
   ·exact next best at_ (by rw [hstep];simp [c1,c2])
  ·exact next best at_ (by rw [hstep];simp [c1])
 ·have : i=vs.length:=by omega
  subst this
  rw [hr,fA,<- hst]
  simp
end Go.Gv

namespace Go.Gv
def gx (v : Nat -> Int) : List Nat -> Int -> Option Int
 | [],s=>some s
 | a::l,s=>if v a=-1 then none else gx v l (IntKind.wrap .i64 (s + v a))
def lv (j : Job) (val : Nat -> List Int) (h : Int) (a : Nat) : Int:=(fA (okF j a h) (val a)).1
def eO (j : Job) (val : Nat -> List Int) (i s : Nat) : Int:=(gx (lv j val j.secs[s]!.height) (aM j i) (IntKind.wrap .i64 (j.lengths.l[i]! * j.secs[s]!.price))).getD (-1)
def dC (vals : List SlI) (a : Nat) : List Int:=vals[a]!.l
theorem fv {j : Job} {i a : Nat} (h : a ∈ aM j i) : a < j.below.l.length:=by
 simp only [aM,List.mem_filter,List.mem_range] at h
 exact h.1
theorem sM (j : Job) (i : Nat) : (aM j i).length <= j.below.l.length:=by
 have:=List.length_filter_le (fun a=>decide (j.below.l[a]! = (i : Int))) (List.range j.below.l.length)
 simpa [aM] using this
def cy (j : Job) : List Nat:=(List.range j.below.l.length).filter fun a=>decide (j.below.l[a]! = -1)
def ii (j : Job) (val : Nat -> List Int) : Int:=(gx (lv j val 4194304) (cy j) 0).getD (-1)
variable {C : CC} (hC : aj prog C)
include hC
theorem BI (j : Job) (b : Bool) (vals : List SlI) (pipe s : Nat) (hp : pipe < j.below.l.length) (hl : pipe < j.lengths.l.length) (hs : s < j.secs.length) (hn : j.below.l.length < 2 ^ 62) (hm : j.secs.length < 2 ^ 62) (hva : ∀ a ∈ aM j pipe,a < vals.length /\ vals[a]!.l.length <= j.secs.length) :
  C 31 [bx j,slx b (vals.map fun r=>[slI r]),.int .i64 pipe,.int .i64 s] (.int .i64 (eO j (dC vals) pipe s)) []:=by
 obtain ⟨r,hr⟩ : ∃ r,r=eO j (dC vals) pipe s:=⟨_,rfl⟩
 rw [<- hr]
 have hal:=sM j pipe
 refine au hC (nf:=N31) rfl rfl ?_
 simp [N31]
 simp [bg,aB,hp,hl,hs,fd,nX]
 refine ⟨aA (by decide +kernel),?_⟩
 refine ay (Nat × Int) (fun s'=>[(0,bx j),(1,slx b (vals.map fun r=>[slI r])),(3,.int .i64 s),(9,.int .i64 s'.2),(38,.sl ((aM j pipe).map it)),(39,.int .i64 (aM j pipe).length),(40,.int .i64 s'.1)])
  (fun s'=>s'.1 <= (aM j pipe).length /\ (gx (lv j (dC vals) j.secs[s].height) ((aM j pipe).drop s'.1) s'.2).getD (-1)=r) (fun s'=>(aM j pipe).length - s'.1) (0,IntKind.wrap .i64 (j.lengths.l[pipe] * j.secs[s].price)) ⟨by simp,?_⟩ (by simp [bg,aB]) ?_
 ·rw [hr,eO,getElem!_pos j.secs s hs,getElem!_pos j.lengths.l pipe hl];rfl
 rintro ⟨k,sum⟩ ⟨hk,hsum⟩
 simp only at hk hsum
 simp
 refine ae (fun h=>?_) (fun h=>?_) <;> simp at h <;> simp [h]
 ·have hw : IntKind.wrap .i64 ((k : Int) + 1)=((k + 1 : Nat) : Int):=ai (by omega) (by omega)
  obtain ⟨a,ha⟩ : ∃ a,a=(aM j pipe)[k]:=⟨_,rfl⟩
  have hmem : a ∈ aM j pipe:=ha ▸ List.getElem_mem h
  obtain ⟨ha1,ha2⟩:=hva a hmem
  have hd : (aM j pipe).drop k=a::(aM j pipe).drop (k + 1):=by rw [ha,List.drop_eq_getElem_cons h]
  rw [hd,gx] at hsum
  rw [getElem!_pos vals a ha1] at ha2
  have hlc:=ox hC j vals[a].n vals[a].l a j.secs[s].height (fv hmem) ha2 hm
  have ev : (fA (okF j a j.secs[s].height) vals[a].l).1=lv j (dC vals) j.secs[s].height a:=by simp only [lv,dC,getElem!_pos vals a ha1]
  rw [ev] at hlc
  simp [h,it,<- ha,ha1]
  simp [bg,aB,hp,hl,hs,fd,h,it,<- ha,ha1]
  simp [bg,aB] at hlc
  refine aa hlc (.inl rfl) ?_
  simp
  refine ⟨aA (by decide +kernel),?_⟩
  refine ae (fun c=>?_) (fun c=>?_) <;> simp at c <;> simp [c,hw,bg,aB]
  ·rw [if_pos c] at hsum
   simp at hsum
   exact hsum
  ·rw [if_neg c] at hsum
   exact ⟨k + 1,_,⟨by omega,hsum⟩,by omega,rfl,rfl⟩
 ·have hk' : k=(aM j pipe).length:=by omega
  subst hk'
  simp [gx] at hsum
  simp [hsum]
theorem xw (j : Job) (b : Bool) (vals : List SlI) (hn : j.below.l.length < 2 ^ 62) (hm : j.secs.length < 2 ^ 62) (hva : ∀ a ∈ cy j,a < vals.length /\ vals[a]!.l.length <= j.secs.length) :
  C 32 [bx j,slx b (vals.map fun r=>[slI r])] (.int .i64 (ii j (dC vals))) []:=by
 obtain ⟨r,hr⟩ : ∃ r,r=ii j (dC vals):=⟨_,rfl⟩
 rw [<- hr]
 refine au hC (nf:=N32) rfl rfl ?_
 simp [N32]
 simp [bg,aB]
 refine ay (Nat × Int) (fun s'=>[(0,bx j),(1,slx b (vals.map fun r=>[slI r])),(5,.int .i64 s'.2),(14,slI j.below),(15,.int .i64 j.below.l.length),(16,.int .i64 s'.1)])
  (fun s'=>s'.1 <= j.below.l.length /\ (gx (lv j (dC vals) 4194304) (((List.range j.below.l.length).drop s'.1).filter fun a=>decide (j.below.l[a]! = -1)) s'.2).getD (-1)=r) (fun s'=>j.below.l.length - s'.1) (0,0) ⟨by simp,?_⟩ (by simp [bg,aB]) ?_
 ·rw [hr,ii];rfl
 rintro ⟨k,sum⟩ ⟨hk,hsum⟩
 simp only at hk hsum
 simp
 refine ae (fun h=>?_) (fun h=>?_) <;> simp at h <;> simp [h]
 ·have hw : IntKind.wrap .i64 ((k : Int) + 1)=((k + 1 : Nat) : Int):=ai (by omega) (by omega)
  have hd : (List.range j.below.l.length).drop k=k::(List.range j.below.l.length).drop (k + 1):=by rw [List.drop_eq_getElem_cons (by simpa using h)];simp
  rw [hd,List.filter_cons,getElem!_pos j.below.l k h] at hsum
  refine ae (fun c1=>?_) (fun c1=>?_) <;> simp [h] at c1 <;> simp [c1,hw,h]
  ·simp [c1] at hsum
   exact ⟨k + 1,sum,⟨by omega,by simpa using hsum⟩,by omega,rfl,rfl⟩
  ·have hmem : k ∈ cy j:=by simp [cy,h,c1]
   obtain ⟨ha1,ha2⟩:=hva k hmem
   rw [getElem!_pos vals k ha1] at ha2
   have hlc:=ox hC j vals[k].n vals[k].l k 4194304 h ha2 hm
   have ev : (fA (okF j k 4194304) vals[k].l).1=lv j (dC vals) 4194304 k:=by simp only [lv,dC,getElem!_pos vals k ha1]
   rw [ev] at hlc
   simp only [c1,decide_true,if_true,gx] at hsum
   simp [bg,aB,h,ha1]
   simp [bg,aB] at hlc
   refine aa hlc (.inl rfl) ?_
   simp
   refine ae (fun c=>?_) (fun c=>?_) <;> simp at c <;> simp [c,hw,bg,aB]
   ·rw [if_pos c] at hsum
    simp at hsum
    exact hsum
   ·rw [if_neg c] at hsum
    exact ⟨k + 1,_,⟨by omega,by simpa using hsum⟩,by omega,rfl,rfl⟩
 ·have hk' : k=j.below.l.length:=by omega
  subst hk'
  rw [List.drop_of_length_le (by simp)] at hsum
  simp [gx] at hsum
  exact hsum
end Go.Gv

namespace Go.Gv
def mJ (j : Job) (val : Nat -> List Int) (i : Nat) : List Int:=(List.range j.secs.length).map fun s=>if cO j i s then eO j val i s else -1
def f8 (j : Job) : Nat -> List (List Int)
 | 0=>[]
 | i + 1=>f8 j i++[mJ j (fun a=>(f8 j i)[a]!) i]
def wV (j : Job) : List (List Int):=f8 j j.below.l.length
def aP (j : Job) (a : Nat) : List Int:=(wV j)[a]!
def slR (r : List Int) : List D:=[.sl (r.map fun v=>[.int .i64 v])]
def bQ (j : Job) : D:=.sl ((List.range j.below.l.length).map fun a=>slR (aP j a))
theorem gT (j : Job) : ∀ i,(f8 j i).length=i
 | 0=>rfl
 | i + 1=>by simp [f8,gT j i]
theorem fH (j : Job) (a : Nat) : ∀ i,a < i -> (f8 j i)[a]! = mJ j (fun b=>(f8 j a)[b]!) a
 | 0,h=>by omega
 | i + 1,h=>by
  have hl:=gT j i
  by_cases e : a=i
  ·subst e
   rw [getElem!_pos _ a (by rw [gT];omega)]
   simp only [f8]
   rw [List.getElem_append_right (by omega)]
   simp [hl]
  ·have:=fH j a i (by omega)
   rw [getElem!_pos _ a (by rw [gT];omega)] at this ⊢
   simp only [f8]
   rw [List.getElem_append_left (by omega)]
   exact this
theorem jy {v v' : Nat -> Int} : ∀ {l : List Nat} {s : Int},(∀ a ∈ l,v a=v' a) -> gx v l s=gx v' l s
 | [],s,_=>rfl
 | a::l,s,h=>by
  simp only [gx]
  rw [h a (by simp),jy (fun b hb=>h b (by simp [hb]))]
theorem kR {j : Job} {val val' : Nat -> List Int} {i s : Nat} (h : ∀ a ∈ aM j i,val a=val' a) : eO j val i s=eO j val' i s:=by
 unfold eO
 rw [jy (v':=lv j val' j.secs[s]!.height) (fun a ha=>by simp only [lv,h a ha])]
theorem cw {j : Job} (hv : al j=true) {i : Nat} (hi : i < j.below.l.length) : j.below.l[i]! = -1 \/ ((i : Int) < j.below.l[i]! /\ j.below.l[i]! < j.below.l.length):=by
 simp only [al,Bool.and_eq_true,List.all_eq_true,List.mem_range] at hv
 have:=hv.2 i hi
 simp only [eG,Bool.and_eq_true,Bool.or_eq_true,beq_iff_eq,decide_eq_true_eq] at this
 exact this.1.1.1.1
theorem gE {j : Job} (hv : al j=true) {i a : Nat} (h : a ∈ aM j i) : a < i:=by
 have h1:=fv h
 simp only [aM,List.mem_filter,decide_eq_true_eq] at h
 rcases cw hv h1 with h2 | h2 <;> omega
theorem sF {j : Job} (hv : al j=true) {i : Nat} (hi : i < j.below.l.length) : aP j i=mJ j (aP j) i:=by
 unfold aP wV
 rw [fH j i _ hi]
 unfold mJ
 refine List.map_congr_left fun s _=>?_
 rw [kR (val':=fun a=>(f8 j j.below.l.length)[a]!)]
 intro a ha
 have h1:=gE hv ha
 rw [fH j a i h1,fH j a _ (by omega)]
theorem fG {j : Job} {i : Nat} (hi : i < j.below.l.length) : (aP j i).length=j.secs.length:=by
 unfold aP wV
 rw [fH j i _ hi]
 simp [mJ]
theorem eq {α : Type} (F : Nat -> α) (n i : Nat) (x : α) : ((List.range n).map F).set i x=(List.range n).map (fun k=>if k=i then x else F k):=by
 apply List.ext_getElem
 ·simp
 ·intro k h1 h2
  simp only [List.getElem_set,List.getElem_map,List.getElem_range]
  by_cases e : i=k
  ·subst e;simp
  ·rw [if_neg e,if_neg (Ne.symm e)]
theorem eK {α : Type} (n : Nat) (x : α) : List.replicate n x=(List.range n).map fun _=>x:=by
 apply List.ext_getElem <;> simp
def iB (j : Job) (i s k : Nat) : List Int:=if k < i then aP j k else if k=i then (aP j i).take s else []
def ra (j : Job) (i s : Nat) : D:=.blk 1 ((List.range j.below.l.length).map fun k=>[.own 1 ((iB j i s k).map fun v=>[.int .i64 v])])
theorem jR {j i s} : ra j i s=.blk 1 ((List.range j.below.l.length).map fun k=>[.own 1 ((iB j i s k).map fun v=>[.int .i64 v])]):=_root_.id rfl
theorem tT {j : Job} {i s : Nat} (hi : i < j.below.l.length) (hs : s < j.secs.length) :
  D.blk 1 (((List.range j.below.l.length).map fun k=>[D.own 1 ((iB j i s k).map fun v=>[.int .i64 v])]).set i [.own 1 (((iB j i s i).map fun v=>[.int .i64 v])++[[.int .i64 ((aP j i)[s]!)]])])=ra j i (s + 1):=by
 rw [jR,eq]
 congr 1
 refine List.map_congr_left fun k _=>?_
 by_cases e : k=i
 ·subst e
  rw [if_pos rfl]
  have hl : s < (aP j k).length:=by rw [fG hi];exact hs
  simp only [iB,Nat.lt_irrefl,if_false,if_true]
  rw [getElem!_pos _ s hl,List.take_succ_eq_append_getElem hl,List.map_append]
  rfl
 ·rw [if_neg e]
  simp only [iB,if_neg e]
theorem tS {j : Job} {i : Nat} : ra j i j.secs.length=ra j (i + 1) 0:=by
 rw [jR,jR]
 congr 1
 refine List.map_congr_left fun k hk=>?_
 have hk : k < j.below.l.length:=by simpa using hk
 congr 3
 unfold iB
 by_cases e : k=i
 ·subst e
  rw [if_neg (by omega),if_pos rfl,if_pos (by omega),List.take_of_length_le (by rw [fG hk];exact Nat.le_refl _)]
 ·by_cases e2 : k < i
  ·rw [if_pos e2,if_pos (by omega)]
  ·rw [if_neg e2,if_neg e,if_neg (by omega)]
   split <;> simp
theorem sa {xs : List Int} {v : Int} (e : List D) (h : (∃ a,a ∈ xs /\ [D.int .i64 a]=e) \/ e=[D.int .i64 v]) (c : D) (hc : c ∈ e) : ar c=true:=by
 rcases h with ⟨n,_,rfl⟩ | rfl
 ·simp at hc;subst hc;rfl
 ·simp at hc;subst hc;rfl
variable {C : CC} (hC : aj prog C)
include hC
theorem wW (j : Job) (hv : al j=true) : C 39 [bx j] (bQ j) []:=by
 have hn : j.below.l.length <= 400:=by simp only [al,Bool.and_eq_true,decide_eq_true_eq] at hv;omega
 have hm : j.secs.length <= 40:=by simp only [al,aH,Bool.and_eq_true,decide_eq_true_eq] at hv;omega
 have hlen : j.lengths.l.length=j.below.l.length:=by simp only [al,Bool.and_eq_true,decide_eq_true_eq] at hv;omega
 refine au hC (nf:=N39) rfl rfl ?_
 simp [N39]
 simp [bg,aB]
 refine ⟨by omega,?_⟩
 refine ay Nat (fun i=>[(0,bx j),(3,.ref (.r 10048) 0 j.below.l.length),(10048,ra j i 0),(15,.int .i64 j.below.l.length),(16,.int .i64 i)])
  (fun i=>i <= j.below.l.length) (fun i=>j.below.l.length - i) 0 (by simp) (by simp [bg,aB,ra,iB,eK]) ?_
 intro i hi
 simp
 refine ae (fun h=>?_) (fun h=>?_) <;> simp at h <;> simp [h]
 ·have hw : IntKind.wrap .i64 ((i : Int) + 1)=((i + 1 : Nat) : Int):=ai (by omega) (by omega)
  simp [bg,aB]
  refine ay Nat (fun s=>[(0,bx j),(3,.ref (.r 10048) 0 j.below.l.length),(10048,ra j i s),(4,.int .i64 i),(15,.int .i64 j.below.l.length),(16,.int .i64 i),(24,.int .i64 j.secs.length),(25,.int .i64 s)])
   (fun s=>s <= j.secs.length) (fun s=>j.secs.length - s) 0 (by simp) (by simp [bg,aB]) ?_
  intro s hs
  simp
  refine ae (fun h2=>?_) (fun h2=>?_) <;> simp at h2 <;> simp [h2]
  ·have hw2 : IntKind.wrap .i64 ((s : Int) + 1)=((s + 1 : Nat) : Int):=ai (by omega) (by omega)
   simp [bg,aB,h,my,h2,bl]
   have hval : (aP j i)[s]! = if cO j i s then eO j (aP j) i s else -1:=by
    rw [sF hv h,mJ,getElem!_pos _ s (by simpa using h2)]
    simp
   have hst:=tT h h2
   have ht : List.take (iB j i s i).length (List.map (fun n=>[D.int IntKind.i64 n]) (iB j i s i))=List.map (fun n=>[D.int IntKind.i64 n]) (iB j i s i):=List.take_of_length_le (by simp)
   have hol : (iB j i s i).length <= 40:=by simp [iB];omega
   refine ae (fun h3=>?_) (fun h3=>?_) <;> simp [h3,jR]
   ·have hc:=BI hC j false ((List.range j.below.l.length).map fun k=>⟨false,iB j i s k⟩) i s h (by omega) h2 (by omega) (by omega) (fun a ha=>by
     have h4:=gE hv ha
     have h5:=fv ha
     rw [getElem!_pos _ a (by simpa using h5)]
     simp [h5,iB,h4,fG h5])
    rw [kR (val':=aP j) (fun a ha=>by
     have h4:=gE hv ha
     have h5:=fv ha
     rw [dC,getElem!_pos _ a (by simpa using h5)]
     simp [iB,h4])] at hc
    rw [h3,if_pos rfl] at hval
    rw [hval] at hst
    simp [bg,aB] at hc
    refine aa (d:=.int .i64 (eO j (aP j) i s)) ?_ (.inl rfl) ?_
    ·rw [List.take_of_length_le (by simp)]
     exact hc
    ·simp [h,ht,hw2]
     exact ⟨by omega,sa,s + 1,by omega,by omega,by simp [bg,aB],hst,rfl⟩
   ·simp [h,ht,hw2]
    rw [h3,if_neg Bool.false_ne_true] at hval
    rw [hval] at hst
    exact ⟨by omega,sa,s + 1,by omega,by omega,by simp [bg,aB],hst,rfl⟩
  ·have : s=j.secs.length:=by omega
   subst this
   simp [hw]
   exact ⟨i + 1,by omega,by omega,tS,rfl⟩
 ·have : i=j.below.l.length:=by omega
  subst this
  simp [jR,bQ,slR]
  rw [List.take_of_length_le (by simp)]
  refine List.map_congr_left fun k hk=>?_
  simp at hk
  simp [iB,hk]
end Go.Gv

namespace Go.Gv
def fU (j : Job) (i : Nat) : List Bool:=(List.range j.secs.length).map (cO j i)
def dT (j : Job) (i s k : Nat) : List Bool:=if k < i then fU j k else if k=i then (fU j i).take s else []
def iE (j : Job) (i s : Nat) : D:=.blk 1 ((List.range j.below.l.length).map fun k=>[.own 1 ((dT j i s k).map bl)])
def fu (j : Job) (i k : Nat) : List Nat:=(List.range i).filter fun a=>decide (j.below.l[a]! = (k : Int))
def jd (j : Job) (i : Nat) : D:=.blk 1 ((List.range j.below.l.length).map fun k=>[.own 1 ((fu j i k).map it)])
theorem gm {j i s} : iE j i s=.blk 1 ((List.range j.below.l.length).map fun k=>[.own 1 ((dT j i s k).map bl)]):=_root_.id rfl
theorem ga {j i} : jd j i=.blk 1 ((List.range j.below.l.length).map fun k=>[.own 1 ((fu j i k).map it)]):=_root_.id rfl
@[simp] theorem NQ {j : Job} : List.flatMap aE (dc j)=[]:=by simp [dc]
@[simp] theorem Ju {j : Job} {b : Nat} {all : Bool} : List.any (dc j) (aK b all)=false:=by simp [dc]
@[simp] theorem Ay {ks j i s} : aS ks (iE j i s)=iE j i s:=by unfold iE;exact nw
@[simp] theorem Ax {ks j i} : aS ks (jd j i)=jd j i:=by unfold jd;exact nw
@[simp] theorem Fg {j i s} : isB (iE j i s)=true:=_root_.id rfl
@[simp] theorem Ff {j i} : isB (jd j i)=true:=_root_.id rfl
theorem rf {j : Job} {i s : Nat} (hs : s < j.secs.length) :
  D.blk 1 (((List.range j.below.l.length).map fun k=>[D.own 1 ((dT j i s k).map bl)]).set i [.own 1 (((dT j i s i).map bl)++[[.bool (cO j i s)]])])=iE j i (s + 1):=by
 rw [gm,eq]
 congr 1
 refine List.map_congr_left fun k _=>?_
 by_cases e : k=i
 ·subst e
  rw [if_pos rfl]
  have hl : s < (fU j k).length:=by simpa [fU] using hs
  simp only [dT,Nat.lt_irrefl,if_false,if_true]
  rw [List.take_succ_eq_append_getElem hl,List.map_append]
  simp [fU,bl]
 ·rw [if_neg e]
  simp only [dT,if_neg e]
theorem re {j : Job} {i : Nat} : iE j i j.secs.length=iE j (i + 1) 0:=by
 rw [gm,gm]
 congr 1
 refine List.map_congr_left fun k _=>?_
 congr 3
 unfold dT
 by_cases e : k=i
 ·subst e
  rw [if_neg (by omega),if_pos rfl,if_pos (by omega),List.take_of_length_le (by simp [fU])]
 ·by_cases e2 : k < i
  ·rw [if_pos e2,if_pos (by omega)]
  ·rw [if_neg e2,if_neg e,if_neg (by omega)]
   split <;> simp
theorem lN {j : Job} {i k : Nat} : fu j (i + 1) k=fu j i k++(if j.below.l[i]! = (k : Int) then [i] else []):=by
 unfold fu
 rw [List.range_succ,List.filter_append]
 congr 1
 rw [List.filter_cons,List.filter_nil]
 by_cases e : j.below.l[i]! = (k : Int)
 ·rw [if_pos e,if_pos (by simp only [decide_eq_true_eq];exact e)]
 ·rw [if_neg e,if_neg (by simp only [decide_eq_true_eq];exact e)]
theorem qj {j : Job} {i : Nat} (h : j.below.l[i]! = -1) : jd j i=jd j (i + 1):=by
 rw [ga,ga]
 congr 1
 refine List.map_congr_left fun k _=>?_
 rw [lN,if_neg (by omega),List.append_nil]
theorem qk {j : Job} {i b : Nat} (h : j.below.l[i]! = (b : Int)) :
  D.blk 1 (((List.range j.below.l.length).map fun k=>[D.own 1 ((fu j i k).map it)]).set b [.own 1 (((fu j i b).map it)++[[.int .i64 (i : Int)]])])=jd j (i + 1):=by
 rw [ga,eq]
 congr 1
 refine List.map_congr_left fun k _=>?_
 rw [lN]
 by_cases e : k=b
 ·subst e
  rw [if_pos rfl,if_pos h,List.map_append]
  rfl
 ·rw [if_neg e,if_neg (by omega),List.append_nil]
theorem sL {j : Job} {i k : Nat} : (fu j i k).length <= i:=by
 have:=List.length_filter_le (fun a=>decide (j.below.l[a]! = (k : Int))) (List.range i)
 simpa [fu] using this
variable {C : CC} (hC : aj prog C)
include hC
set_option maxRecDepth 4000 in
set_option maxHeartbeats 4000000 in
theorem wT (j : Job) (hv : al j=true) : C 30 [.agg (dc j)] (bx j) []:=by
 have hn : j.below.l.length <= 400:=by simp only [al,Bool.and_eq_true,decide_eq_true_eq] at hv;omega
 have hm : j.secs.length <= 40:=by simp only [al,aH,Bool.and_eq_true,decide_eq_true_eq] at hv;omega
 have hlen : j.lengths.l.length=j.below.l.length:=by simp only [al,Bool.and_eq_true,decide_eq_true_eq] at hv;omega
 have hlen2 : j.flows.l.length=j.below.l.length:=by simp only [al,Bool.and_eq_true,decide_eq_true_eq] at hv;omega
 have hlen3 : j.falls.l.length=j.below.l.length:=by simp only [al,Bool.and_eq_true,decide_eq_true_eq] at hv;omega
 have hlen4 : j.room.l.length=j.below.l.length:=by simp only [al,Bool.and_eq_true,decide_eq_true_eq] at hv;omega
 refine au hC (nf:=N30) rfl rfl ?_
 simp [N30,aB]
 refine ⟨by omega,aA (by decide +kernel),?_⟩
 refine ay Nat (fun i=>[(1,.ptr (dc j)),(3,.ptx (dc j++[.ref (.r 10224) 0 j.below.l.length,.ref (.r 10288) 0 j.below.l.length])),(10224,iE j i 0),(10288,jd j i),(22,slI j.below),(23,.int .i64 j.below.l.length),(24,.int .i64 i)])
  (fun i=>i <= j.below.l.length) (fun i=>j.below.l.length - i) 0 (by simp) (by simp [aB,gm,ga,dT,fu,eK]) ?_
 intro i hi
 simp
 refine ae (fun h=>?_) (fun h=>?_) <;> simp at h <;> simp [h]
 ·have hw : IntKind.wrap .i64 ((i : Int) + 1)=((i + 1 : Nat) : Int):=ai (by omega) (by omega)
  have hb:=cw hv h
  have hbs : j.below.l[i]! = j.below.l[i]:=getElem!_pos j.below.l i h
  rw [hbs] at hb
  have inner : ∀ {Q : b9 -> Env -> Prop},True:=fun {Q}=>trivial
  refine ae (fun c1=>?pa) (fun c1=>?pb) <;> simp at c1 <;> simp [c1]
  case' pa =>
   obtain ⟨bn,hbn⟩ : ∃ bn : Nat,j.below.l[i]=(bn : Int):=⟨j.below.l[i].toNat,by omega⟩
   have hb1 : bn < j.below.l.length:=by omega
   have hst:=qk (j:=j) (i:=i) (b:=bn) (by rw [hbs,hbn])
   have hol : (fu j i bn).length <= i:=sL
   have ht : List.take (fu j i bn).length (List.map it (fu j i bn))=List.map it (fu j i bn):=List.take_of_length_le (by simp)
   simp [ga,aB,hbn,hb1,ht]
   refine ⟨by omega,?_,aA (by decide +kernel),?_⟩
   ·rintro e (⟨a,_,rfl⟩ | rfl) c hc
    ·simp [it] at hc;subst hc;rfl
    ·simp at hc;subst hc;rfl
   simp [hst]
  case' pb =>
   have hst:=qj (j:=j) (i:=i) (by rw [hbs,c1])
   simp [aB,hst]
  all_goals
   refine ay Nat (fun s=>[(1,.ptr (dc j)),(3,.ptx (dc j++[.ref (.r 10224) 0 j.below.l.length,.ref (.r 10288) 0 j.below.l.length])),(10224,iE j i s),(10288,jd j (i + 1)),(4,.int .i64 i),(22,slI j.below),(23,.int .i64 j.below.l.length),(24,.int .i64 i),(48,slx j.secN (j.secs.map a7)),(49,.int .i64 j.secs.length),(50,.int .i64 s)])
    (fun s=>s <= j.secs.length) (fun s=>j.secs.length - s) 0 (by simp) (by simp [aB]) ?_
   intro s hs
   simp
   refine ae (fun h2=>?_) (fun h2=>?_) <;> simp at h2 <;> simp [h2]
   ·have hw2 : IntKind.wrap .i64 ((s : Int) + 1)=((s + 1 : Nat) : Int):=ai (by omega) (by omega)
    have g3 : i < j.falls.l.length:=by omega
    have g2 : i < j.lengths.l.length:=by omega
    have g4 : i < j.flows.l.length:=by omega
    have g5 : i < j.room.l.length:=by omega
    have hF:=uz hC j.secs[s] j.falls.l[i] j.lengths.l[i]
    have hp : cO j i s=(((cJ j.secs[s] j.falls.l[i] j.lengths.l[i]).2 == 5 || ((cJ j.secs[s] j.falls.l[i] j.lengths.l[i]).2 == 0 && decide (j.flows.l[i] <= (cJ j.secs[s] j.falls.l[i] j.lengths.l[i]).1))) && decide (j.secs[s].height <= j.room.l[i])):=by
     simp only [cO,getElem!_pos j.secs s h2,getElem!_pos j.falls.l i g3,getElem!_pos j.lengths.l i g2,getElem!_pos j.flows.l i g4,getElem!_pos j.room.l i g5]
    obtain ⟨q,hq⟩ : ∃ q,q=(cJ j.secs[s] j.falls.l[i] j.lengths.l[i]).1:=⟨_,rfl⟩
    obtain ⟨e,he⟩ : ∃ e,e=(cJ j.secs[s] j.falls.l[i] j.lengths.l[i]).2:=⟨_,rfl⟩
    rw [<- hq,<- he] at hF hp
    have hst2:=rf (i:=i) h2
    rw [hp] at hst2
    have hol2 : (dT j i s i).length <= 40:=by simp [dT,fU];omega
    have ht2 : List.take (dT j i s i).length (List.map bl (dT j i s i))=List.map bl (dT j i s i):=List.take_of_length_le (by simp)
    simp [aB,h,h2,fd,g2,g3]
    simp [fd] at hF
    refine aa hF (.inl rfl) ?_
    simp
    refine ⟨aA (by decide +kernel),?_⟩
    simp [gm,h,ht2,aB]
    have fin : ∀ b : Bool,cO j i s=b -> ∃ s',s' <= j.secs.length /\ j.secs.length - s' < j.secs.length - s /\ D.blk 1 (((List.range j.below.l.length).map fun k=>[D.own 1 ((dT j i s k).map bl)]).set i [.own 1 (((dT j i s i).map bl)++[[.bool b]])])=iE j i s' /\ (s : Int) + 1=s':=fun b hb=>⟨s + 1,by omega,by omega,by rw [<- hb,hp];exact hst2,rfl⟩
    rw [hp] at fin
    have bls : ∀ (b : Bool) (e : List D),(false ∈ dT j i s i /\ bl false=e \/ true ∈ dT j i s i /\ bl true=e) \/ e=[D.bool b] -> ∀ c,c ∈ e -> ar c=true:=by
     rintro b e ((⟨_,rfl⟩ | ⟨_,rfl⟩) | rfl) c hc
     ·simp [bl] at hc;subst hc;rfl
     ·simp [bl] at hc;subst hc;rfl
     ·simp at hc;subst hc;rfl
    refine ae (fun d1=>?_) (fun d1=>?_) <;> simp at d1 <;> simp [d1,aB,g5,h,ht2,hw2]
    ·refine ⟨by omega,bls _,aA (by decide +kernel),fin _ (by simp [d1])⟩
    ·refine ae (fun d2=>?_) (fun d2=>?_) <;> simp at d2 <;> simp [d2,aB,g4,g5,h,ht2,hw2]
     ·refine ae (fun d3=>?_) (fun d3=>?_)
      ·simp at d3
       simp [d3,aB,g4,g5,h,ht2,hw2]
       refine ⟨by omega,bls _,aA (by decide +kernel),fin _ (by simp [d2,d3])⟩
      ·have d3' : ¬ j.flows.l[i] <= q:=by simpa using d3
       simp [d3',aB,g4,g5,h,ht2,hw2]
       refine ⟨by omega,bls _,aA (by decide +kernel),fin _ (by simp [d2,d3'])⟩
     ·refine ⟨by omega,bls _,aA (by decide +kernel),fin _ (by simp [d1,d2])⟩
   ·have : s=j.secs.length:=by omega
    subst this
    simp [hw,aB]
    exact ⟨i + 1,by omega,by omega,re,rfl,rfl⟩
 ·have : i=j.below.l.length:=by omega
  subst this
  simp [aB,or_imp,forall_and,gm,ga,bg]
  rw [List.take_of_length_le (by simp),List.take_of_length_le (by simp)]
  constructor
  ·refine List.map_congr_left fun k hk=>?_
   simp at hk
   simp [dT,hk,my,fU]
  ·refine List.map_congr_left fun k hk=>?_
   simp [nX,fu,aM]
end Go.Gv

namespace Go.Gv
theorem me (ok : Nat -> Bool) (vs : List Int) : (fA ok vs=(-1,-1) /\ ∀ s,s < vs.length -> vs[s]! ≠ -1 -> ok s=false) \/
  ∃ s,s < vs.length /\ fA ok vs=(vs[s]!,(s : Int)) /\ vs[s]! ≠ -1 /\ ok s=true /\ ∀ s',s' < vs.length -> vs[s']! ≠ -1 -> ok s'=true -> vs[s]! <= vs[s']!:=by
 have key : ∀ n,n <= vs.length -> ((List.range n).foldl (cr ok vs) (-1,-1)=(-1,-1) /\ ∀ s,s < n -> vs[s]! ≠ -1 -> ok s=false) \/
   ∃ s,s < n /\ (List.range n).foldl (cr ok vs) (-1,-1)=(vs[s]!,(s : Int)) /\ vs[s]! ≠ -1 /\ ok s=true /\ ∀ s',s' < n -> vs[s']! ≠ -1 -> ok s'=true -> vs[s]! <= vs[s']!:=by
  intro n
  induction n with
  | zero=>intro _;exact .inl ⟨rfl,fun s h=>by omega⟩
  | succ n ih =>
   intro hn
   rw [List.range_succ,List.foldl_append]
   simp only [List.foldl_cons,List.foldl_nil]
   rcases ih (by omega) with ⟨h1,h2⟩ | ⟨s,h1,h2,h3,h4,h5⟩
   ·rw [h1]
    unfold cr
    by_cases hc : vs[n]! ≠ -1 /\ ok n=true
    ·rw [if_pos ⟨hc.1,hc.2,.inl rfl⟩]
     refine .inr ⟨n,by omega,rfl,hc.1,hc.2,fun s' hs' hv ho=>?_⟩
     rcases Nat.lt_succ_iff_lt_or_eq.1 hs' with h | rfl
     ·rw [h2 s' h hv] at ho;cases ho
     ·exact Int.le_refl _
    ·rw [if_neg (fun h=>hc ⟨h.1,h.2.1⟩)]
     refine .inl ⟨rfl,fun s hs hv=>?_⟩
     rcases Nat.lt_succ_iff_lt_or_eq.1 hs with h | rfl
     ·exact h2 s h hv
     ·cases ho : ok s with
      | false=>rfl
      | true=>exact absurd ⟨hv,ho⟩ hc
   ·rw [h2]
    unfold cr
    by_cases hc : vs[n]! ≠ -1 /\ ok n=true /\ vs[n]! < vs[s]!
    ·rw [if_pos ⟨hc.1,hc.2.1,.inr hc.2.2⟩]
     refine .inr ⟨n,by omega,rfl,hc.1,hc.2.1,fun s' hs' hv ho=>?_⟩
     rcases Nat.lt_succ_iff_lt_or_eq.1 hs' with h | rfl
     ·have:=h5 s' h hv ho
      omega
     ·exact Int.le_refl _
    ·rw [if_neg (fun h=>hc ⟨h.1,h.2.1,h.2.2.resolve_left h3⟩)]
     refine .inr ⟨s,by omega,rfl,h3,h4,fun s' hs' hv ho=>?_⟩
     rcases Nat.lt_succ_iff_lt_or_eq.1 hs' with h | rfl
     ·exact h5 s' h hv ho
     ·exact Int.not_lt.1 fun hlt=>hc ⟨hv,ho,hlt⟩
 exact key vs.length (Nat.le_refl _)
theorem kK {v : Nat -> Int} : ∀ {l : List Nat} {s t : Int},gx v l s=some t -> ∀ a ∈ l,v a ≠ -1
 | [],s,t,_,a,ha=>by cases ha
 | x::l,s,t,h,a,ha=>by
  simp only [gx] at h
  split at h
  ·cases h
  ·rename_i hx
   rcases List.mem_cons.1 ha with rfl | ha
   ·exact hx
   ·exact kK h a ha
theorem rY {x : Option Int} (h : x.getD (-1) ≠ -1) : ∃ t,x=some t /\ x.getD (-1)=t:=by
 cases x with
 | none=>exact absurd rfl h
 | some t=>exact ⟨t,rfl,rfl⟩
def hgt (j : Job) (ch : Nat -> Int) (i : Nat) : Int:=if j.below.l[i]! = -1 then 4194304 else j.secs[(ch (j.below.l[i]!).toNat).toNat]!.height
def mt (j : Job) (ch : Nat -> Int) (i : Nat) : Int:=(fA (okF j i (hgt j ch i)) (aP j i)).2
def dU (j : Job) : Nat -> Nat -> Int
 | 0=>fun _=>0
 | k + 1=>fun i=>if i + (k + 1)=j.below.l.length then mt j (dU j k) i else dU j k i
def cD (j : Job) : List Int:=(List.range j.below.l.length).map (dU j j.below.l.length)
def dJ (j : Job) : Int:=ii j (aP j)
def eM (j : Job) : Int × (Bool × List Int) × Int:=if al j then (if dJ j=-1 then (0,(true,[]),28) else (dJ j,(false,cD j),0)) else (0,(true,[]),1)
def md (x : Bool × List Int) : D:=slx x.1 (x.2.map fun n=>[.int .i64 n])
structure Bc (j : Job) (ch : Nat -> Int) (i : Nat) : Prop where
 sec : ∃ s : Nat,ch i=s /\ s < j.secs.length /\ (aP j i)[s]! ≠ -1 /\ okF j i (hgt j ch i) s=true /\ lv j (aP j) (hgt j ch i) i=(aP j i)[s]!
theorem oO {j : Job} (hv : al j=true) {i s : Nat} (hi : i < j.below.l.length) (hs : s < j.secs.length) : (aP j i)[s]! = if cO j i s then eO j (aP j) i s else -1:=by
 rw [sF hv hi,mJ,getElem!_pos _ s (by simpa using hs)]
 simp
theorem tL {j : Job} {i b : Nat} (hi : i < j.below.l.length) (h : j.below.l[i]! = (b : Int)) : i ∈ aM j b:=by
 simp [aM,hi]
 rw [getElem!_pos j.below.l i hi] at h
 simp [hi,h]
theorem kj {j : Job} {k i : Nat} (h : i + (k + 1) ≠ j.below.l.length) : dU j (k + 1) i=dU j k i:=by
 simp only [dU];rw [if_neg h]
theorem rL {j : Job} {k i : Nat} (h : i + (k + 1)=j.below.l.length) : dU j (k + 1) i=mt j (dU j k) i:=by
 simp only [dU];rw [if_pos h]
theorem tx {j : Job} (hv : al j=true) (hc : dJ j ≠ -1) {ch : Nat -> Int} {i : Nat} (hi : i < j.below.l.length) (hb : ∀ b : Nat,j.below.l[i]! = (b : Int) -> Bc j ch b) :
  ∃ s : Nat,mt j ch i=s /\ s < j.secs.length /\ (aP j i)[s]! ≠ -1 /\ okF j i (hgt j ch i) s=true /\ lv j (aP j) (hgt j ch i) i=(aP j i)[s]!:=by
 have hlv : lv j (aP j) (hgt j ch i) i ≠ -1:=by
  by_cases e : j.below.l[i]! = -1
  ·obtain ⟨t,h1,_⟩:=rY hc
   have:=kK h1 i (by
    rw [getElem!_pos j.below.l i hi] at e
    simp [cy,hi,e])
   rw [hgt,if_pos e]
   exact this
  ·rcases cw hv hi with h1 | ⟨h1,h2⟩
   ·exact absurd h1 e
   ·obtain ⟨b,hbn⟩ : ∃ b : Nat,j.below.l[i]! = (b : Int):=⟨(j.below.l[i]!).toNat,by omega⟩
    obtain ⟨s,g1,g2,g3,_⟩:=(hb b hbn).sec
    rw [hgt,if_neg e,hbn,Int.toNat_natCast,g1,Int.toNat_natCast]
    have hbl : b < j.below.l.length:=by omega
    rw [oO hv hbl g2] at g3
    split at g3
    ·obtain ⟨t,h3,_⟩:=rY g3
     exact kK h3 i (tL hi hbn)
    ·exact absurd rfl g3
 unfold mt
 unfold lv at hlv ⊢
 rcases me (okF j i (hgt j ch i)) (aP j i) with ⟨h1,_⟩ | ⟨s,h1,h2,h3,h4,_⟩
 ·rw [h1] at hlv;exact absurd rfl hlv
 ·rw [h2]
  exact ⟨s,rfl,by rw [fG hi] at h1;exact h1,h3,h4,rfl⟩
theorem tA {j : Job} {ch ch' : Nat -> Int} {i : Nat} (h : ∀ b : Nat,j.below.l[i]! = (b : Int) -> ch b=ch' b) (hv : j.below.l[i]! = -1 \/ 0 <= j.below.l[i]!) : hgt j ch i=hgt j ch' i:=by
 unfold hgt
 by_cases e : j.below.l[i]! = -1
 ·rw [if_pos e,if_pos e]
 ·rw [if_neg e,if_neg e,h _ (by omega)]
theorem lB {j : Job} (hv : al j=true) (hc : dJ j ≠ -1) : ∀ k,k <= j.below.l.length -> ∀ i,i < j.below.l.length -> j.below.l.length <= i + k -> Bc j (dU j k) i
 | 0,_,i,hi,h=>by omega
 | k + 1,hk,i,hi,h=>by
  have hbv:=cw hv hi
  have same : ∀ b : Nat,j.below.l[i]! = (b : Int) -> dU j k b=dU j (k + 1) b:=fun b hb=>(kj (by rcases hbv with h1 | h1 <;> omega)).symm
  have he : hgt j (dU j k) i=hgt j (dU j (k + 1)) i:=tA same (by rcases hbv with h1 | h1 <;> omega)
  by_cases e : i + (k + 1)=j.below.l.length
  ·obtain ⟨s,g1,g2⟩:=tx (ch:=dU j k) hv hc hi (fun b hb=>lB hv hc k (by omega) b (by rcases hbv with h1 | h1 <;> omega) (by rcases hbv with h1 | h1 <;> omega))
   rw [he] at g2
   exact ⟨⟨s,by rw [rL e];exact g1,g2⟩⟩
  ·obtain ⟨s,g1,g2⟩:=(lB hv hc k (by omega) i hi (by omega)).sec
   rw [he] at g2
   exact ⟨⟨s,by rw [kj e];exact g1,g2⟩⟩
end Go.Gv

namespace Go.Gv
theorem mX {j} : bQ j=.sl ((List.range j.below.l.length).map fun a=>slR (aP j a)):=_root_.id rfl
theorem wE {r} : slR r=[.sl (r.map fun v=>[.int .i64 v])]:=_root_.id rfl
@[simp] theorem FD {j} : isV (bQ j)=true:=_root_.id rfl
@[simp] theorem Fv {j} : isK (bQ j)=true:=_root_.id rfl
@[simp] theorem Fz {j} : isP (bQ j)=true:=_root_.id rfl
@[simp] theorem FB {j} : isS (bQ j)=true:=_root_.id rfl
@[simp] theorem Cf {j} : ar (bQ j)=true:=_root_.id rfl
@[simp] theorem Fx {j} : isO (bQ j)=false:=_root_.id rfl
@[simp] theorem Ci {j} : bi (bQ j)=false:=_root_.id rfl
@[simp] theorem Ft {j} : isF (bQ j)=false:=_root_.id rfl
@[simp] theorem Fi {j} : isB (bQ j)=false:=_root_.id rfl
@[simp] theorem Au {j} : cq (bQ j)=false:=_root_.id rfl
@[simp] theorem w6 {j} : cellsOf (bQ j)=[(bQ j)]:=_root_.id rfl
@[simp] theorem zS {j} : bX (bQ j)=(bQ j):=_root_.id rfl
@[simp] theorem zX {j} : aQ (bQ j)=(bQ j):=_root_.id rfl
@[simp] theorem xi {j} : aE (bQ j)=[]:=_root_.id rfl
@[simp] theorem yl {j} : br (bQ j)=[]:=_root_.id rfl
@[simp] theorem Eu {f : Nat -> D} {j} : dp1 f (bQ j)=(bQ j):=_root_.id rfl
@[simp] theorem HO {f : Nat -> D} {j} : dp f (bQ j)=(bQ j):=_root_.id rfl
@[simp] theorem Ao {f : Nat -> D} {j} : aL f (bQ j)=True:=_root_.id rfl
@[simp] theorem BP {f : Nat -> D} {j} : bq f (bQ j)=True:=_root_.id rfl
@[simp] theorem FX {p i o} {j} : ldc p i o (bQ j)=(bQ j):=_root_.id rfl
@[simp] theorem AA {ks} {j} : aS ks (bQ j)=(bQ j):=by unfold bQ;exact vO
@[simp] theorem Bq {C : CC} {hs : Option (List Nat)} {K : Env -> Prop} {ns : List ap} {u : Tag (hs,K,ns)} {e : Env} {R : List Nat} {acc : List (List Nat × List Nat)} {t j} : jD C hs K ns t u e R acc (bQ j)=doW C hs K ns ⟨⟩ e R acc [(t,bQ j)] []:=by unfold bQ;exact xr
def CZ (j : Job) (k : Nat) : D:=.blk 1 ((List.range j.below.l.length).map fun i=>[.int .i64 (dU j k i)])
theorem jS {j k} : CZ j k=.blk 1 ((List.range j.below.l.length).map fun i=>[.int .i64 (dU j k i)]):=_root_.id rfl
theorem tV {j : Job} {k i : Nat} (h : i + (k + 1)=j.below.l.length) : D.blk 1 (((List.range j.below.l.length).map fun i=>[.int .i64 (dU j k i)]).set i [.int .i64 (mt j (dU j k) i)])=CZ j (k + 1):=by
 rw [jS,eq]
 congr 1
 refine List.map_congr_left fun x _=>?_
 by_cases e : x=i
 ·subst e;rw [if_pos rfl,rL h]
 ·rw [if_neg e,kj (by omega)]
variable {C : CC} (hC : aj prog C)
include hC
set_option maxRecDepth 2000 in
set_option maxHeartbeats 1000000 in
theorem nW (j : Job) : C 15 [.agg (dc j)] (.tup [.int .i64 (eM j).1,md (eM j).2.1,.int .i64 (eM j).2.2]) []:=by
 refine au hC (nf:=N15) rfl rfl ?_
 simp [N15]
 have hv:=lz hC j
 cases h : al j
 ·rw [h] at hv
  simp [aB]
  simp [aB] at hv
  refine aa hv (.inl rfl) ?_
  simp [eM,h,md,slx]
 have hn : j.below.l.length <= 400:=by simp only [al,Bool.and_eq_true,decide_eq_true_eq] at h;omega
 have hm : j.secs.length <= 40:=by simp only [al,aH,Bool.and_eq_true,decide_eq_true_eq] at h;omega
 rw [h] at hv
 have ht:=wT hC j h
 have hvals:=wW hC j h
 have hb:=xw hC j false ((List.range j.below.l.length).map fun a=>⟨false,aP j a⟩) (by omega) (by omega) (fun a ha=>by
  have h5 : a < j.below.l.length:=by simp only [cy,List.mem_filter,List.mem_range] at ha;exact ha.1
  rw [getElem!_pos _ a (by simpa using h5)]
  simp [h5,fG h5])
 have eb : ii j (dC ((List.range j.below.l.length).map fun a=>⟨false,aP j a⟩))=dJ j:=by
  unfold dJ ii
  rw [jy (v':=lv j (aP j) 4194304) (fun a ha=>by
   have h5 : a < j.below.l.length:=by simp only [cy,List.mem_filter,List.mem_range] at ha;exact ha.1
   rw [lv,dC,getElem!_pos _ a (by simpa using h5)]
   simp [lv])]
 rw [eb] at hb
 obtain ⟨c,hc⟩ : ∃ c,c=dJ j:=⟨_,rfl⟩
 rw [<- hc] at hb
 simp [aB]
 simp [aB] at hv ht
 refine aa hv (.inl rfl) ?_
 simp
 refine aa ht (.inr rfl) ?_
 simp
 refine aa hvals (.inr rfl) ?_
 simp
 refine aa (d:=.int .i64 c) ?_ (.inl rfl) ?_
 ·rw [mX]
  simp at hb
  exact hb
 simp
 refine ae (fun h1=>?_) (fun h1=>?_) <;> simp at h1 <;> simp [h1]
 ·simp [eM,h,<- hc,h1,md,slx]
 refine ⟨by omega,?_⟩
 refine ay Nat (fun k=>[(1,.ptr (dc j)),(5,bx j),(6,bQ j),(7,.int .i64 c),(8,.ref (.r 10128) 0 j.below.l.length),(10128,CZ j k),(9,.int .i64 ((j.below.l.length : Int) - 1 - k))])
  (fun k=>k <= j.below.l.length) (fun k=>j.below.l.length - k) 0 (by simp) (by simp [aB,jS,dU,eK];exact ai rfl (by omega)) ?_
 intro k hk
 rcases Nat.lt_or_ge k j.below.l.length with hkl | hkl
 ·obtain ⟨i,hi⟩ : ∃ i,i + (k + 1)=j.below.l.length:=⟨j.below.l.length - (k + 1),by omega⟩
  have e9 : (j.below.l.length : Int) - 1 - k=(i : Int):=by omega
  have hil : i < j.below.l.length:=by omega
  have hw : IntKind.wrap .i64 ((i : Int) - 1)=(j.below.l.length : Int) - 1 - ((k + 1 : Nat) : Int):=ai (by omega) (by omega)
  have hbv:=cw h hil
  have hg : ∀ b : Nat,j.below.l[i]! = (b : Int) -> Bc j (dU j k) b:=fun b hb=>lB h (by rw [<- hc];exact h1) k hk b (by rcases hbv with h2 | h2 <;> omega) (by rcases hbv with h2 | h2 <;> omega)
  have hst:=tV hi
  have hlc : ∀ y,hgt j (dU j k) i=y -> C 40 [bx j,.sl ((aP j i).map fun n=>[.int .i64 n]),.int .i64 i,.int .i64 y] (.tup [.int .i64 (fA (okF j i y) (aP j i)).1,.int .i64 (mt j (dU j k) i)]) []:=fun y hy=>by
   have:=ox hC j false (aP j i) i y hil (by rw [fG hil];exact Nat.le_refl _) (by omega)
   rw [gr] at this
   rw [mt,hy]
   exact this
  rw [e9]
  simp [hil,aB]
  refine ae (fun c1=>?_) (fun c1=>?_) <;> simp [hil] at c1 <;> simp [c1,hil]
  ·obtain ⟨b,hb⟩ : ∃ b : Nat,j.below.l[i]=(b : Int):=⟨(j.below.l[i]).toNat,by rw [getElem!_pos j.below.l i hil] at hbv;rcases hbv with h2 | h2 <;> omega⟩
   have hb! : j.below.l[i]! = (b : Int):=by rw [getElem!_pos j.below.l i hil,hb]
   have hbl : b < j.below.l.length:=by rcases hbv with h2 | h2 <;> omega
   obtain ⟨s,g1,g2,_⟩:=(hg b hb!).sec
   have hh : hgt j (dU j k) i=j.secs[s].height:=by
    rw [hgt,if_neg (by rw [hb!];omega),hb!,Int.toNat_natCast,g1,Int.toNat_natCast,getElem!_pos j.secs s g2]
   simp [hb,jS,hbl,g1,g2,fd]
   refine ⟨aA (by decide +kernel),?_⟩
   simp [mX,hil,wE]
   refine aa (hlc _ hh) (.inl rfl) ?_
   simp [hil,hst,hw]
   exact ⟨k + 1,by omega,by omega,by simp [aB],rfl,rfl,by omega⟩
  ·have hh : hgt j (dU j k) i=4194304:=by rw [hgt,if_pos (by rw [getElem!_pos j.below.l i hil,c1])]
   simp [jS,mX,hil,wE]
   refine aa (hlc _ hh) (.inl rfl) ?_
   simp [hil,hst,hw]
   exact ⟨k + 1,by omega,by omega,by simp [aB],rfl,rfl,by omega⟩
 ·have : k=j.below.l.length:=by omega
  subst this
  have e9 : (j.below.l.length : Int) - 1 - j.below.l.length=-1:=by omega
  rw [e9]
  simp [jS]
  rw [eM,if_pos h,<- hc,if_neg h1]
  refine ⟨rfl,?_,rfl⟩
  rw [List.take_of_length_le (by simp)]
  simp [md,cD]
end Go.Gv

namespace Go.Gv
def KY (v : Int) : Bool:=!(decide (-1 <= v) && decide (v <= 4611686018427387904))
def O2 (j : Job) (vals : List SlI) (i s : Nat) : Bool:=cO j i s && ((decide (eO j (dC vals) i s=-1) && !decide ((dC vals i)[s]! = -1)) || (!decide (eO j (dC vals) i s=-1) && (decide ((dC vals i)[s]! = -1) || decide (eO j (dC vals) i s < (dC vals i)[s]!))))
def O1 (j : Job) (vals : List SlI) (i : Nat) : Bool:=(List.range j.secs.length).any (O2 j vals i)
def Hk (j : Job) (vals : List SlI) : Bool × Int × Int :=
 if al j=false then (false,0,1) else
 if vals.length ≠ j.below.l.length \/ vals.any (fun x=>decide (x.l.length ≠ j.secs.length))=true then (false,0,3) else
 if vals.any (fun x=>x.l.any KY)=true then (false,0,2) else
 match (List.range j.below.l.length).find? (O1 j vals) with
 | some i=>(false,i,0)
 | none=>(true,ii j (dC vals),0)
end Go.Gv

namespace Go.Gv
def S (g : Nat -> Int) : Nat -> Int
 | 0=>0
 | n + 1=>S g n + g n
theorem jA {g g' : Nat -> Int} : ∀ n,(∀ a,a < n -> g a=g' a) -> S g n=S g' n
 | 0,_=>rfl
 | n + 1,h=>by simp only [S];rw [jA n (fun a ha=>h a (by omega)),h n (by omega)]
theorem Bf {g g' : Nat -> Int} : ∀ n,(∀ a,a < n -> g a <= g' a) -> S g n <= S g' n
 | 0,_=>Int.le_refl _
 | n + 1,h=>by
  simp only [S]
  have:=Bf n (fun a ha=>h a (by omega))
  have:=h n (by omega)
  omega
theorem zO {g g' : Nat -> Int} : ∀ n,S (fun a=>g a + g' a) n=S g n + S g' n
 | 0=>rfl
 | n + 1=>by simp only [S];rw [zO n];omega
theorem uM : ∀ n,S (fun _=>0) n=0
 | 0=>rfl
 | n + 1=>by simp only [S];rw [uM n];rfl
theorem oU {g : Nat -> Int} (n : Nat) (h : ∀ a,a < n -> 0 <= g a) : 0 <= S g n:=by
 have:=Bf (g:=fun _=>0) (g':=g) n h
 rw [uM] at this
 exact this
theorem zQ {g : Nat -> Int} {m : Nat} : ∀ n,m <= n -> (∀ a,m <= a -> a < n -> g a=0) -> S g n=S g m
 | 0,h,_=>by
  have : m=0:=by omega
  subst this;rfl
 | n + 1,h,hz=>by
  by_cases e : m=n + 1
  ·subst e;rfl
  ·simp only [S]
   rw [zQ n (by omega) (fun a h1 h2=>hz a h1 (by omega)),hz n (by omega) (by omega)]
   omega
theorem jz (f : Nat -> Int) (p : Nat -> Bool) : ∀ n,(((List.range n).filter p).map f).sum=S (fun a=>if p a then f a else 0) n
 | 0=>rfl
 | n + 1=>by
  rw [List.range_succ,List.filter_append,List.map_append,List.sum_append,jz f p n]
  simp only [S,List.filter_cons,List.filter_nil]
  cases p n <;> simp
theorem oK {v : Nat -> Int} : ∀ {l : List Nat} {s : Int},(∀ a ∈ l,v a ≠ -1) -> (∀ a ∈ l,0 <= v a) -> 0 <= s -> s + (l.map v).sum < 9223372036854775808 -> gx v l s=some (s + (l.map v).sum)
 | [],s,_,_,_,_=>by simp [gx]
 | a::l,s,h1,h2,h3,h4=>by
  have h5:=h2 a (by simp)
  have h6 : 0 <= (l.map v).sum:=by
   have : ∀ l : List Nat,(∀ a ∈ l,0 <= v a) -> 0 <= (l.map v).sum:=by
    intro l
    induction l with
    | nil=>intro _;simp
    | cons x l ih=>intro h;simp only [List.map_cons,List.sum_cons];have:=h x (by simp);have:=ih (fun a ha=>h a (by simp [ha]));omega
   exact this l (fun a ha=>h2 a (by simp [ha]))
  simp only [List.map_cons,List.sum_cons] at h4 ⊢
  simp only [gx]
  rw [if_neg (h1 a (by simp)),ai rfl (by omega),oK (fun b hb=>h1 b (by simp [hb])) (fun b hb=>h2 b (by simp [hb])) (by omega) (by omega)]
  congr 1
  omega
theorem mV {v : Nat -> Int} : ∀ {l : List Nat} {s : Int} {a : Nat},a ∈ l -> v a=-1 -> gx v l s=none
 | x::l,s,a,h,ha=>by
  simp only [gx]
  by_cases hx : v x=-1
  ·rw [if_pos hx]
  ·rw [if_neg hx]
   rcases List.mem_cons.1 h with rfl | h
   ·exact absurd ha hx
   ·exact mV h ha
def B : Int:=18014398509481984
theorem mZ : B=18014398509481984:=rfl
theorem iM {j : Job} (hv : al j=true) : j.below.l.length <= 400 /\ j.lengths.l.length=j.below.l.length /\ j.secs.length <= 40:=by
 simp only [al,aH,Bool.and_eq_true,decide_eq_true_eq] at hv
 omega
def mq (j : Job) (i s : Nat) : Int:=j.lengths.l[i]! * j.secs[s]!.price
theorem sk {j : Job} (hv : al j=true) {i s : Nat} (hi : i < j.below.l.length) (hs : s < j.secs.length) : 0 <= mq j i s /\ mq j i s <= B:=by
 have h1 : 1 <= j.lengths.l[i]! /\ j.lengths.l[i]! <= 16777216:=by
  simp only [al,Bool.and_eq_true,List.all_eq_true,List.mem_range] at hv
  have:=hv.2 i hi
  simp only [eG,fy,Bool.and_eq_true,decide_eq_true_eq] at this
  exact this.1.1.1.2
 have h2 : 0 <= j.secs[s]!.price /\ j.secs[s]!.price <= 1073741824:=by
  rw [getElem!_pos j.secs s hs]
  simp only [al,aH,Bool.and_eq_true,List.all_eq_true] at hv
  have:=hv.1.2.1.2 _ (List.getElem_mem hs)
  simp only [aN,Bool.and_eq_true,decide_eq_true_eq] at this
  omega
 have h3:=Int.mul_nonneg (show 0 <= j.lengths.l[i]! by omega) h2.1
 have h4:=Int.mul_le_mul h1.2 h2.2 h2.1 (by omega)
 refine ⟨h3,?_⟩
 unfold mq B
 omega
def fr (j : Job) (i a : Nat) : Bool:=decide (j.below.l[a]! = -1) || decide ((i : Int) <= j.below.l[a]!)
def FS (j : Job) (f : Nat -> Int) (i : Nat) : Int:=S (fun a=>if fr j i a then f a else 0) i
def AS (j : Job) (f : Nat -> Int) (i : Nat) : Int:=S (fun a=>if j.below.l[a]! = (i : Int) then f a else 0) i
theorem ka {j : Job} (hv : al j=true) (f : Nat -> Int) {i : Nat} (hi : i < j.below.l.length) : ((aM j i).map f).sum=AS j f i:=by
 unfold aM AS
 rw [jz,zQ (m:=i) _ (by omega)]
 ·exact jA _ (fun a _=>by simp)
 ·intro a h1 h2
  rw [if_neg]
  intro h3
  have h3 : j.below.l[a]! = (i : Int):=by simpa using h3
  rcases cw hv h2 with h4 | h4 <;> omega
theorem rF {j : Job} (hv : al j=true) (f : Nat -> Int) {i : Nat} (hi : i < j.below.l.length) : FS j f (i + 1) + AS j f i=FS j f i + f i:=by
 unfold FS AS
 simp only [S]
 have h1 : fr j (i + 1) i=true:=by
  unfold fr
  rcases cw hv hi with h | h
  ·simp [h]
  ·simp only [Bool.or_eq_true,decide_eq_true_eq];right;omega
 rw [if_pos h1]
 have h2 : S (fun a=>if fr j i a=true then f a else 0) i=S (fun a=>(if fr j (i + 1) a=true then f a else 0) + (if j.below.l[a]! = (i : Int) then f a else 0)) i:=by
  refine jA _ (fun a ha=>?_)
  unfold fr
  by_cases e1 : j.below.l[a]! = (i : Int)
  ·rw [if_pos e1,if_pos (by simp only [Bool.or_eq_true,decide_eq_true_eq];omega),if_neg (by simp only [Bool.or_eq_true,decide_eq_true_eq];omega)]
   omega
  ·rw [if_neg e1]
   by_cases e2 : j.below.l[a]! = -1
   ·rw [if_pos (by simp only [Bool.or_eq_true,decide_eq_true_eq];omega),if_pos (by simp only [Bool.or_eq_true,decide_eq_true_eq];omega)]
    omega
   ·by_cases e3 : (i : Int) <= j.below.l[a]!
    ·rw [if_pos (by simp only [Bool.or_eq_true,decide_eq_true_eq];omega),if_pos (by simp only [Bool.or_eq_true,decide_eq_true_eq];omega)]
     omega
    ·rw [if_neg (by simp only [Bool.or_eq_true,decide_eq_true_eq];omega),if_neg (by simp only [Bool.or_eq_true,decide_eq_true_eq];omega)]
     omega
 rw [h2,zO]
 omega
theorem oR {j : Job} {f : Nat -> Int} {i : Nat} (h : ∀ a,a < i -> 0 <= f a) : AS j f i <= FS j f i:=by
 unfold AS FS
 refine Bf _ (fun a ha=>?_)
 have:=h a ha
 by_cases e : j.below.l[a]! = (i : Int)
 ·rw [if_pos e,if_pos (by simp only [fr,Bool.or_eq_true,decide_eq_true_eq];omega)]
  exact Int.le_refl _
 ·rw [if_neg e]
  split <;> omega
theorem nN {j : Job} (hv : al j=true) (f : Nat -> Int) : ((cy j).map f).sum=FS j f j.below.l.length:=by
 unfold cy FS
 rw [jz]
 refine jA _ (fun a ha=>?_)
 have e : fr j j.below.l.length a=decide (j.below.l[a]! = -1):=by
  unfold fr
  rcases cw hv ha with h | h
  ·rw [h];rfl
  ·rw [show decide (((j.below.l.length : Nat) : Int) <= j.below.l[a]!)=false by simp only [decide_eq_false_iff_not];omega,Bool.or_false]
 rw [e]
theorem pV {j : Job} {a : Nat} (h : a ∈ cy j) : a < j.below.l.length /\ j.below.l[a]! = -1:=by
 simp only [cy,List.mem_filter,List.mem_range,decide_eq_true_eq] at h
 exact h
theorem ye (j : Job) (val : Nat -> List Int) (h : Int) (a : Nat) : (lv j val h a=-1 /\ ∀ s,s < (val a).length -> (val a)[s]! ≠ -1 -> okF j a h s=false) \/
  ∃ s,s < (val a).length /\ lv j val h a=(val a)[s]! /\ (val a)[s]! ≠ -1 /\ okF j a h s=true /\ ∀ s',s' < (val a).length -> (val a)[s']! ≠ -1 -> okF j a h s'=true -> (val a)[s]! <= (val a)[s']!:=by
 unfold lv
 rcases me (okF j a h) (val a) with ⟨h1,h2⟩ | ⟨s,h1,h2,h3,h4,h5⟩
 ·exact .inl ⟨by rw [h1],h2⟩
 ·exact .inr ⟨s,h1,by rw [h2],h3,h4,h5⟩
def mx (l : List Int) : Int:=l.foldl max 0
theorem lE : ∀ (l : List Int) (b : Int),b <= l.foldl max b /\ ∀ x ∈ l,x <= l.foldl max b
 | [],b=>⟨Int.le_refl _,by simp⟩
 | y::l,b=>by
  obtain ⟨h1,h2⟩:=lE l (max b y)
  simp only [List.foldl_cons]
  refine ⟨by omega,fun x hx=>?_⟩
  rcases List.mem_cons.1 hx with rfl | hx
  ·omega
  ·exact h2 x hx
theorem JX {l : List Int} {t : Int} (ht : 0 <= t) (h : ∀ x ∈ l,x <= t) : mx l <= t:=by
 unfold mx
 have : ∀ (l : List Int) (b : Int),b <= t -> (∀ x ∈ l,x <= t) -> l.foldl max b <= t:=by
  intro l
  induction l with
  | nil=>intro b hb _;exact hb
  | cons y l ih =>
   intro b hb h
   simp only [List.foldl_cons]
   exact ih _ (by have:=h y (by simp);omega) (fun x hx=>h x (by simp [hx]))
 exact this l 0 ht h
theorem xZ {l : List Int} {s : Nat} (h : s < l.length) : l[s]! ∈ l:=by
 rw [getElem!_pos l s h];exact List.getElem_mem h
theorem AB {j : Job} {val : Nat -> List Int} {h : Int} {a : Nat} (hp : ∀ x ∈ val a,-1 <= x) : lv j val h a=-1 \/ (0 <= lv j val h a /\ lv j val h a <= mx (val a)):=by
 rcases ye j val h a with ⟨h1,_⟩ | ⟨s,h1,h2,h3,_⟩
 ·exact .inl h1
 ·right
  have h4:=xZ h1
  have h5:=hp _ h4
  have h6:=(lE (val a) 0).2 _ h4
  rw [h2]
  exact ⟨by omega,h6⟩
theorem o5 {j : Job} (hv : al j=true) {val : Nat -> List Int} {i s : Nat} (hi : i < j.below.l.length) (hs : s < j.secs.length) (hp : ∀ a ∈ aM j i,lv j val j.secs[s]!.height a=-1 \/ 0 <= lv j val j.secs[s]!.height a)
  (hb : (∀ a ∈ aM j i,lv j val j.secs[s]!.height a ≠ -1) -> ((aM j i).map (lv j val j.secs[s]!.height)).sum <= 9000000000000000000) :
  ((∃ a ∈ aM j i,lv j val j.secs[s]!.height a=-1) /\ eO j val i s=-1) \/ ((∀ a ∈ aM j i,lv j val j.secs[s]!.height a ≠ -1) /\ eO j val i s=mq j i s + ((aM j i).map (lv j val j.secs[s]!.height)).sum):=by
 obtain ⟨h1,h2⟩:=sk hv hi hs
 rw [mZ] at h2
 by_cases hx : ∃ a ∈ aM j i,lv j val j.secs[s]!.height a=-1
 ·obtain ⟨a,ha,h3⟩:=hx
  exact .inl ⟨⟨a,ha,h3⟩,by unfold eO;rw [mV ha h3];rfl⟩
 ·right
  have hx' : ∀ a ∈ aM j i,lv j val j.secs[s]!.height a ≠ -1:=fun a ha e=>hx ⟨a,ha,e⟩
  refine ⟨hx',?_⟩
  have:=hb hx'
  show (gx _ _ (IntKind.wrap .i64 (mq j i s))).getD (-1)=_
  rw [ai (m:=mq j i s) rfl (by omega),oK hx' (fun a ha=>(hp a ha).resolve_left (hx' a ha)) h1 (by omega)]
  rfl
theorem kW {l : List Nat} {f : Nat -> Int} (h : ∀ a ∈ l,0 <= f a) : 0 <= (l.map f).sum:=by
 induction l with
 | nil=>simp
 | cons x l ih =>
  simp only [List.map_cons,List.sum_cons]
  have:=h x (by simp)
  have:=ih (fun a ha=>h a (by simp [ha]))
  omega
theorem iw {l : List Nat} {f g : Nat -> Int} (h : ∀ a ∈ l,f a <= g a) : (l.map f).sum <= (l.map g).sum:=by
 induction l with
 | nil=>simp
 | cons x l ih =>
  simp only [List.map_cons,List.sum_cons]
  have:=h x (by simp)
  have:=ih (fun a ha=>h a (by simp [ha]))
  omega
theorem lK {j : Job} (hv : al j=true) : ∀ i,i <= j.below.l.length -> (∀ a,a < i -> ∀ x ∈ aP j a,-1 <= x) /\ FS j (fun a=>mx (aP j a)) i <= i * B
 | 0,_=>⟨fun a h=>by omega,by simp [FS,S]⟩
 | i + 1,hi=>by
  obtain ⟨h1,h2⟩:=lK hv i (by omega)
  have hil : i < j.below.l.length:=by omega
  have hn:=(iM hv).1
  have hm0 : ∀ a,a < i -> 0 <= mx (aP j a):=fun a _=>(lE (aP j a) 0).1
  have h3:=oR (j:=j) (f:=fun a=>mx (aP j a)) hm0
  have hsum:=ka hv (fun a=>mx (aP j a)) hil
  have hB : (i : Int) * B <= 400 * B:=Int.mul_le_mul_of_nonneg_right (by omega) (by rw [mZ];omega)
  have hcell : ∀ s,s < j.secs.length -> (-1 <= (aP j i)[s]! /\ (aP j i)[s]! <= B + AS j (fun a=>mx (aP j a)) i):=by
   intro s hs
   have hAS0 : 0 <= AS j (fun a=>mx (aP j a)) i:=oU _ (fun a ha=>by split;exact hm0 a ha;exact Int.le_refl _)
   rw [oO hv hil hs]
   split
   ·have hlv : ∀ a ∈ aM j i,lv j (aP j) j.secs[s]!.height a=-1 \/ (0 <= lv j (aP j) j.secs[s]!.height a /\ lv j (aP j) j.secs[s]!.height a <= mx (aP j a)):=fun a ha=>AB (h1 a (gE hv ha))
    have hle : (∀ a ∈ aM j i,lv j (aP j) j.secs[s]!.height a ≠ -1) -> ((aM j i).map (lv j (aP j) j.secs[s]!.height)).sum <= AS j (fun a=>mx (aP j a)) i:=fun hne=>by
     rw [<- hsum]
     exact iw (fun a ha=>((hlv a ha).resolve_left (hne a ha)).2)
    have hnn : (∀ a ∈ aM j i,lv j (aP j) j.secs[s]!.height a ≠ -1) -> 0 <= ((aM j i).map (lv j (aP j) j.secs[s]!.height)).sum:=fun hne=>by
     exact kW (fun a ha=>((hlv a ha).resolve_left (hne a ha)).1)
    obtain ⟨o1,o2⟩:=sk hv hil hs
    rw [mZ] at *
    rcases o5 hv hil hs (fun a ha=>(hlv a ha).imp id (fun h=>h.1)) (fun hne=>by have:=hle hne;omega) with ⟨_,h4⟩ | ⟨hne,h4⟩
    ·rw [h4];omega
    ·rw [h4]
     have:=hle hne
     have:=hnn hne
     omega
   ·rw [mZ];omega
  have hrow : ∀ x ∈ aP j i,∃ s,s < j.secs.length /\ x=(aP j i)[s]!:=fun x hx=>by
   obtain ⟨s,hs,rfl⟩:=List.mem_iff_getElem.1 hx
   exact ⟨s,by rw [fG hil] at hs;exact hs,by rw [getElem!_pos _ s hs]⟩
  constructor
  ·intro a ha x hx
   rcases Nat.lt_succ_iff_lt_or_eq.1 ha with h | rfl
   ·exact h1 a h x hx
   ·obtain ⟨s,hs,rfl⟩:=hrow x hx
    exact (hcell s hs).1
  ·have h5:=rF hv (fun a=>mx (aP j a)) hil
   have hAS0 : 0 <= AS j (fun a=>mx (aP j a)) i:=oU _ (fun a ha=>by split;exact hm0 a ha;exact Int.le_refl _)
   have h6 : mx (aP j i) <= B + AS j (fun a=>mx (aP j a)) i:=JX (by rw [mZ];omega) (fun x hx=>by
    obtain ⟨s,hs,rfl⟩:=hrow x hx
    exact (hcell s hs).2)
   rw [mZ] at *
   push_cast
   omega
end Go.Gv
namespace Go.Gv
def QR (j : Job) : List SlI:=(List.range j.below.l.length).map fun a=>⟨false,aP j a⟩
theorem uu {j : Job} (hv : al j=true) {i : Nat} (hi : i < j.below.l.length) : ∀ x ∈ aP j i,-1 <= x:=(lK hv (i + 1) (by omega)).1 i (by omega)
theorem qS {j : Job} (hv : al j=true) {h : Int} {a : Nat} (ha : a < j.below.l.length) : lv j (aP j) h a=-1 \/ (0 <= lv j (aP j) h a /\ lv j (aP j) h a <= mx (aP j a)):=AB (uu hv ha)
theorem oL {j : Job} (hv : al j=true) {h : Int} {i : Nat} (hi : i < j.below.l.length) (hne : ∀ a ∈ aM j i,lv j (aP j) h a ≠ -1) : ((aM j i).map (lv j (aP j) h)).sum <= 7205759403792793600:=by
 have h1:=iw (fun a ha=>((qS hv (fv ha)).resolve_left (hne a ha)).2)
 rw [ka hv (fun a=>mx (aP j a)) hi] at h1
 have h2:=oR (j:=j) (i:=i) (f:=fun a=>mx (aP j a)) (fun a _=>(lE (aP j a) 0).1)
 have h3:=(lK hv i (by omega)).2
 have hn:=(iM hv).1
 have h4 : (i : Int) * B <= 400 * B:=Int.mul_le_mul_of_nonneg_right (by omega) (by rw [mZ];omega)
 rw [mZ] at h4 h3
 omega
theorem wU {j : Job} (hv : al j=true) {i s : Nat} (hi : i < j.below.l.length) (hs : s < j.secs.length) (hp : cO j i s=true) :
  ((∃ a ∈ aM j i,lv j (aP j) j.secs[s]!.height a=-1) /\ (aP j i)[s]! = -1) \/ ((∀ a ∈ aM j i,lv j (aP j) j.secs[s]!.height a ≠ -1) /\ (aP j i)[s]! = mq j i s + ((aM j i).map (lv j (aP j) j.secs[s]!.height)).sum):=by
 rw [oO hv hi hs,if_pos hp]
 exact o5 hv hi hs (fun a ha=>(qS hv (fv ha)).imp id (fun h=>h.1)) (fun hne=>by have:=oL hv hi hne;omega)
theorem u9 {j : Job} (hv : al j=true) : ((∃ a ∈ cy j,lv j (aP j) 4194304 a=-1) /\ dJ j=-1) \/ ((∀ a ∈ cy j,lv j (aP j) 4194304 a ≠ -1) /\ dJ j=((cy j).map (lv j (aP j) 4194304)).sum /\ 0 <= dJ j):=by
 unfold dJ ii
 by_cases hx : ∃ a ∈ cy j,lv j (aP j) 4194304 a=-1
 ·obtain ⟨a,ha,h3⟩:=hx
  exact .inl ⟨⟨a,ha,h3⟩,by rw [mV ha h3];rfl⟩
 ·right
  have hx' : ∀ a ∈ cy j,lv j (aP j) 4194304 a ≠ -1:=fun a ha e=>hx ⟨a,ha,e⟩
  have h1 : ∀ a ∈ cy j,0 <= lv j (aP j) 4194304 a /\ lv j (aP j) 4194304 a <= mx (aP j a):=fun a ha=>(qS hv (pV ha).1).resolve_left (hx' a ha)
  have h2:=iw (fun a ha=>(h1 a ha).2)
  rw [nN hv (fun a=>mx (aP j a))] at h2
  have h3:=(lK hv _ (Nat.le_refl _)).2
  have hn:=(iM hv).1
  have h4 : (j.below.l.length : Int) * B <= 400 * B:=Int.mul_le_mul_of_nonneg_right (by omega) (by rw [mZ];omega)
  rw [mZ] at h4 h3
  refine ⟨hx',?_⟩
  rw [oK hx' (fun a ha=>(h1 a ha).1) (Int.le_refl _) (by omega)]
  simp only [Option.getD_some,Int.zero_add]
  exact ⟨trivial,kW (fun a ha=>(h1 a ha).1)⟩
end Go.Gv

namespace Go.Gv
def kZ (j : Job) (s : Int) : Bool:=decide (s < 0) || decide ((j.secs.length : Int) <= s)
def bU (j : Job) (ch : List Int) : Int:=if al j=false then 1 else if ch.length ≠ j.below.l.length then 3 else if ch.any (kZ j)=true then 2 else 0
def iK (j : Job) (ch : List Int) (i : Nat) : Nat:=(ch[i]!).toNat
def A7 (j : Job) (ch : List Int) (i : Nat) (a : Nat) : Bool:=decide (j.secs[iK j ch i]!.height < j.secs[iK j ch a]!.height)
def uS (j : Job) (ch : List Int) (i : Nat) : Bool:=!cO j i (iK j ch i) || (aM j i).any (A7 j ch i)
def ig (j : Job) (ch : List Int) : Bool × Int × Int:=if bU j ch ≠ 0 then (false,0,bU j ch) else
 match (List.range j.below.l.length).find? (uS j ch) with
 | some i=>(false,i,0)
 | none=>(true,-1,0)
def rM (j : Job) (ch : List Int) : Int:=S (fun i=>mq j i (iK j ch i)) j.below.l.length
def qw (j : Job) (ch : List Int) : Int × Int:=if bU j ch ≠ 0 then (0,bU j ch) else (rM j ch,0)
theorem tc {j : Job} {ch : List Int} (h : bU j ch=0) : al j=true /\ ch.length=j.below.l.length /\ ∀ i,i < j.below.l.length -> ∃ s : Nat,ch[i]! = s /\ s < j.secs.length /\ iK j ch i=s:=by
 unfold bU at h
 split at h
 ·cases h
 rename_i h1
 split at h
 ·cases h
 rename_i h2
 split at h
 ·cases h
 rename_i h3
 have hl : ch.length=j.below.l.length:=Classical.byContradiction fun e=>h2 e
 refine ⟨by simpa using h1,hl,fun i hi=>?_⟩
 rw [Bool.not_eq_true,List.any_eq_false] at h3
 have h4:=h3 ch[i]! (by rw [getElem!_pos ch i (by omega)];exact List.getElem_mem _)
 simp only [kZ,Bool.or_eq_true,decide_eq_true_eq,not_or] at h4
 exact ⟨(ch[i]!).toNat,by omega,by omega,rfl⟩
end Go.Gv

namespace Go.Gv
variable {C : CC} (hC : aj prog C)
include hC
theorem yw (j : Job) (s : Int) : C 122 [.int .i64 s,.ptr (dc j)] (.bool (kZ j s)) []:=by
 refine au hC (nf:=N122) rfl rfl ?_
 simp [N122,aB]
 refine ae (fun h=>?_) (fun h=>?_) <;> simp at h <;> simp [h,kZ]
 omega
theorem u2 (j : Job) (b : Bool) (ch : List Int) (hl : ch.length < 2 ^ 62) : C 120 [.agg (dc j),slx b (ch.map fun n=>[.int .i64 n])] (.int .i64 (bU j ch)) []:=by
 refine au hC (nf:=N120) rfl rfl ?_
 simp [N120]
 have hv:=lz hC j
 have hh:=lZ hC (b:=b) (xs:=ch) (g:=122) (cs:=[.ptr (dc j)]) (kZ j) hl (fun s _=>yw hC j s)
 simp [aB]
 simp [aB] at hv hh
 refine aa hv (.inl rfl) ?_
 cases h : al j
 ·simp [bU,h]
 simp
 refine ae (fun h1=>?_) (fun h1=>?_) <;> simp at h1 <;> simp [h1]
 ·rw [bU,if_neg (by rw [h];simp),if_pos (by omega)]
 refine aa hh (.inl rfl) ?_
 cases h2 : ch.any (kZ j)
 ·simp [bU,h,h2];omega
 ·simp [bU,h,h2];omega
end Go.Gv

namespace Go.Gv
def vx (name : List UInt8) (h p : Int) : Sec:=⟨name,h,p,false,[(0,0),(h,h * h)],false,[(0,0),(h,1000 * h)]⟩
def lS (room : Int) : Job:=⟨⟨false,[1,-1]⟩,⟨false,[1000,1000]⟩,⟨false,[1,1]⟩,⟨false,[10,10]⟩,⟨false,[room,2000]⟩,false,[vx [97] 200 5,vx [98] 300 4]⟩
theorem HS : eM (lS 400)=(8000,(false,[1,1]),0):=by decide +kernel
theorem HR : eM (lS 250)=(9000,(false,[0,1]),0):=by decide +kernel
theorem ex1 : al (lS 1)=true:=by decide +kernel
variable {C : CC} (hC : aj prog C)
include hC
theorem lR (b b' : Bool) (xs ys : List Int) (hx : xs.length < 2 ^ 62) (hy : ys.length < 2 ^ 62) : C 19 [slx b (xs.map fun n=>[.int .i64 n]),slx b' (ys.map fun n=>[.int .i64 n])] (.bool (decide (xs=ys))) []:=by
 refine au hC (nf:=N19) rfl rfl ?_
 simp [N19]
 refine ae (fun h=>?_) (fun h=>?_) <;> simp at h <;> simp [h]
 ·rintro rfl;exact h rfl
 have h' : xs.length=ys.length:=by omega
 refine ay Nat (fun i=>[(0,slx b (xs.map fun n=>[.int .i64 n])),(1,slx b' (ys.map fun n=>[.int .i64 n])),(12,.int .i64 ys.length),(13,.int .i64 i)])
  (fun i=>i <= ys.length /\ ∀ k,k < i -> xs[k]? = ys[k]?) (fun i=>ys.length - i) 0 (by simp) (by simp) ?_
 rintro i ⟨hi,hok⟩
 simp
 refine ae (fun h1=>?_) (fun h1=>?_) <;> simp at h1 <;> simp [h1]
 ·have hw : IntKind.wrap .i64 ((i : Int) + 1)=((i + 1 : Nat) : Int):=ai (by omega) (by omega)
  have hx1 : i < xs.length:=by omega
  simp [h1,hx1]
  refine ⟨aA (by decide +kernel),?_⟩
  refine ae (fun h2=>?_) (fun h2=>?_) <;> simp [h1,hx1] at h2 <;> simp [h1,hx1,h2,hw]
  ·rintro rfl
   exact h2 rfl
  ·refine ⟨i + 1,⟨by omega,fun k hk=>?_⟩,by omega,rfl⟩
   rcases Nat.lt_succ_iff_lt_or_eq.1 hk with h5 | rfl
   ·exact hok k h5
   ·rw [List.getElem?_eq_getElem h1,List.getElem?_eq_getElem hx1,h2]
 ·refine List.ext_getElem? fun k=>?_
  rcases Nat.lt_or_ge k i with h2 | h2
  ·exact hok k h2
  ·rw [List.getElem?_eq_none (by omega),List.getElem?_eq_none (by omega)]
theorem nQ (name : List UInt8) (h p : Int) (hh : 0 <= h /\ h < 1000000) : C 43 [.str name,.int .i64 h,.int .i64 p] (.agg (a7 (vx name h p))) []:=by
 have e1 : IntKind.wrap .i64 (h * h)=h * h:=ai rfl (by
  have:=Int.mul_nonneg hh.1 hh.1
  have:=Int.mul_le_mul (show h <= 1000000 by omega) (show h <= 1000000 by omega) hh.1 (by omega)
  omega)
 have e2 : IntKind.wrap .i64 (1000 * h)=1000 * h:=ai rfl (by omega)
 refine au hC (nf:=N43) rfl rfl ?_
 simp [N43,e1,e2]
 rfl
theorem ko (room : Int) : C 23 [.int .i64 room] (.agg (dc (lS room))) []:=by
 refine au hC (nf:=N23) rfl rfl ?_
 have h1:=nQ hC [97] 200 5 (by omega)
 have h2:=nQ hC [98] 300 4 (by omega)
 simp [N23]
 refine aa h1 (.inr rfl) ?_
 simp
 refine aa h2 (.inr rfl) ?_
 simp [fd]
 rfl
theorem xt : C 3 [] (.bool true) []:=by
 refine au hC (nf:=N3) rfl rfl ?_
 have h1:=ko hC 400
 have h2:=ko hC 250
 have h3:=ko hC 1
 have s1:=nW hC (lS 400)
 have s2:=nW hC (lS 250)
 have v3:=lz hC (lS 1)
 rw [HS] at s1
 rw [HR] at s2
 rw [ex1] at v3
 have q1:=lR hC false false [1,1] [1,1] (by simp) (by simp)
 have q2:=lR hC false false [0,1] [0,1] (by simp) (by simp)
 simp [md] at s1 s2 q1 q2
 simp [N3]
 refine aa h1 (.inr rfl) ?_
 simp
 refine aa s1 (.inr rfl) ?_
 simp
 refine aa h2 (.inr rfl) ?_
 simp
 refine aa s2 (.inr rfl) ?_
 simp
 refine aa q1 (.inl rfl) ?_
 simp
 refine aa q2 (.inl rfl) ?_
 simp
 refine aa h3 (.inr rfl) ?_
 simp
 refine aa v3 (.inl rfl) ?_
 simp
end Go.Gv

set_option maxRecDepth 4000
namespace Go.Gv
def dP (a b : Sec) : Bool:=decide (a.name=b.name) && decide (a.height=b.height) && decide (a.price=b.price) && decide (a.area=b.area) && decide (a.conv=b.conv)
def dl : List Sec -> List Sec -> Bool
 | [],[]=>true
 | a::us,b::bs=>dP a b && dl us bs
 | _,_=>false
theorem gP : ∀ {xs ys : List Sec},xs.length ≠ ys.length -> dl xs ys=false
 | [],[],h=>by simp at h
 | [],_::_,_=>rfl
 | _::_,[],_=>rfl
 | a::us,b::bs,h=>by
  unfold dl
  rw [gP (xs:=us) (ys:=bs) (by simpa using h)]
  simp
theorem ef : ∀ {xs ys : List Sec} (hl : xs.length=ys.length),dl xs ys=true ↔ ∀ j (h : j < xs.length),dP xs[j] (ys[j]'(by omega))=true
 | [],[],_=>by simp [dl]
 | [],_::_,h=>by simp at h
 | _::_,[],h=>by simp at h
 | a::us,b::bs,hl=>by
  have ih:=ef (xs:=us) (ys:=bs) (by simpa using hl)
  unfold dl
  rw [Bool.and_eq_true,ih]
  constructor
  ·rintro ⟨h1,h2⟩ j hj
   cases j with
   | zero=>exact h1
   | succ j=>exact h2 j (by simpa using hj)
  ·intro h
   exact ⟨h 0 (by simp),fun j hj=>h (j + 1) (by simpa using hj)⟩
structure xn (C : CC) : Prop where
 nil : ∀ ds,C 609 ds .any [.own 11 []] -> C 609 ds (.sl []) []
variable {C : CC} (hC : aj prog C)
include hC
theorem De (a b : Sec) (h1 : a.area.length < 2 ^ 62) (h2 : b.area.length < 2 ^ 62) (h3 : a.conv.length < 2 ^ 62) (h4 : b.conv.length < 2 ^ 62) : C 608 [.agg (a7 a),.agg (a7 b)] (.bool (dP a b)) []:=by
 have k1:=qA hC a.areaN b.areaN a.area b.area h1 h2
 have k2:=qA hC a.convN b.convN a.conv b.conv h3 h4
 refine au hC (nf:=N608) rfl rfl ?_
 simp [N608,a7]
 by_cases e1 : a.name=b.name
 ·by_cases e2 : a.height=b.height
  ·by_cases e3 : a.price=b.price
   ·simp [e1,e2,e3]
    refine aa k1 (.inl rfl) ?_
    by_cases e4 : a.area=b.area
    ·simp [e4]
     refine aa k2 (.inl rfl) ?_
     simp [dP,e1,e2,e3,e4]
    ·simp [e4,dP]
   ·simp [e1,e2,e3,dP]
  ·simp [e1,e2,dP]
 ·simp [e1,dP]
theorem vu (b b' : Bool) (xs ys : List Sec) (hx : xs.length < 2 ^ 62) (hy : ys.length < 2 ^ 62) (h1 : ∀ s ∈ xs,s.area.length < 2 ^ 62 /\ s.conv.length < 2 ^ 62) (h2 : ∀ s ∈ ys,s.area.length < 2 ^ 62 /\ s.conv.length < 2 ^ 62) :
  C 607 [slx b (xs.map a7),slx b' (ys.map a7),.fn 608 []] (.bool (dl xs ys)) []:=by
 have key:=fun (j : Nat) (h : j < xs.length) (h' : j < ys.length)=>De hC xs[j] ys[j] (h1 _ (List.getElem_mem h)).1 (h2 _ (List.getElem_mem h')).1 (h1 _ (List.getElem_mem h)).2 (h2 _ (List.getElem_mem h')).2
 obtain ⟨r,hr⟩ : ∃ r,r=dl xs ys:=⟨_,rfl⟩
 rw [<- hr]
 refine au hC (nf:=N607) rfl rfl ?_
 simp [N607]
 by_cases hl : xs.length=ys.length
 ·have hl' : (xs.length : Int)=ys.length:=by omega
  simp [hl']
  refine ay Nat (fun j=>[(1,slx b' (ys.map a7)),(2,.fn 608 []),(15,slx b (xs.map a7)),(16,.int .i64 ys.length),(17,.int .i64 j)]) (fun j=>j <= xs.length /\ ∀ i (h : i < xs.length),i < j -> dP xs[i] (ys[i]'(by omega))=true) (fun j=>xs.length - j) 0 ⟨by omega,by omega⟩ (by simp) ?_
  rintro j ⟨hj,hok⟩
  simp
  refine ae (fun h=>?_) (fun h=>?_) <;> simp at h
  ·have hw : IntKind.wrap .i64 ((j : Int) + 1)=((j + 1 : Nat) : Int):=ai (by omega) (by omega)
   have hjx : j < xs.length:=by omega
   have k:=key j hjx h
   simp only [a7] at k
   simp [h,hjx,a7]
   refine aa k (.inl rfl) ?_
   by_cases e : dP xs[j] ys[j]=true
   ·simp [e]
    exact ⟨j + 1,⟨by omega,fun i hi hij=>by rcases Nat.lt_succ_iff_lt_or_eq.1 hij with h8 | rfl;exact hok i hi h8;exact e⟩,by omega,hw⟩
   ·have e1 : r=false:=by
     rw [hr,Bool.eq_false_iff]
     exact fun h9=>e ((ef hl).1 h9 j hjx)
    simp [e,e1]
  ·have e1 : r=true:=by
    rw [hr,ef hl]
    exact fun i hi=>hok i hi (by omega)
   simp [h,e1]
 ·have e1 : r=false:=by rw [hr];exact gP hl
  have hl' : ¬ (xs.length : Int)=ys.length:=by omega
  simp [hl',e1]
omit hC in
theorem vR (ls : List Lnk) : ∀ e ∈ ls.map a8,∀ c ∈ e,ar c=true:=fun e he=>(sd ls e he).2
theorem u3 (l : List Lnk) (h : 0 < l.length) (h2 : l.length <= 400) (b : Bool) : C 609 [slx b (l.map a8)] (.own 11 (l.map a8)) [.nils]:=by
 have e : slx b (l.map a8)=.sl (l.map a8):=by
  cases b with
  | false=>simp
  | true =>
   unfold slx
   cases l with
   | nil=>simp at h
   | cons x xs=>simp
 have hu:=sd l
 have hb : l.length * 136 <= 140737488355328:=by omega
 rw [e]
 obtain ⟨R,hR⟩ : ∃ R,R=l.map a8:=⟨_,rfl⟩
 have hRl : R.length=l.length:=by rw [hR,List.length_map]
 rw [<- hR] at hu ⊢
 refine Dp hC (nf:=N609) rfl rfl rfl ?_
 simp [N609,hRl,hb]
 exact ⟨fun _=>hu,fun e=>by subst e;simp at h⟩
theorem td (hP : xn C) (b : Bool) : ∃ d,(d=.nils \/ d=.sl []) /\ C 609 [slx b (([] : List Lnk).map a8)] d []:=by
 cases b with
 | true =>
  refine ⟨.nils,.inl rfl,?_⟩
  show C 609 [.nils] .nils []
  refine au hC (nf:=N609) rfl rfl ?_
  simp [N609]
 | false =>
  refine ⟨.sl [],.inr rfl,?_⟩
  show C 609 [.sl []] (.sl []) []
  refine hP.nil _ ?_
  refine rq hC (nf:=N609) rfl rfl ?_
  simp [N609]
end Go.Gv

set_option maxRecDepth 4000
namespace Go.Gv
variable {C : CC} (hC : aj prog C)
include hC
theorem pM (b b' : Bool) (xs ys : List (Int × Int)) (hx : xs.length < 2 ^ 62) (hy : ys.length < 2 ^ 62) : C 637 [slx b (xs.map knD),slx b' (ys.map knD)] (.bool (decide (xs=ys))) []:=by
 obtain ⟨r,hr⟩ : ∃ r,r=decide (xs=ys):=⟨_,rfl⟩
 rw [<- hr]
 refine au hC (nf:=N637) rfl rfl ?_
 simp [N637]
 by_cases hl : xs.length=ys.length
 ·have hl' : (xs.length : Int)=ys.length:=by omega
  simp [hl']
  refine ay Nat (fun j=>[(0,slx b (xs.map knD)),(1,slx b' (ys.map knD)),(5,.int .i64 j)]) (fun j=>j <= xs.length /\ ∀ i (h : i < xs.length),i < j -> xs[i]=(ys[i]'(by omega))) (fun j=>xs.length - j) 0 ⟨by omega,by omega⟩ (by simp) ?_
  rintro j ⟨hj,hok⟩
  simp
  refine ae (fun h=>?_) (fun h=>?_) <;> simp at h
  ·have hw : IntKind.wrap .i64 ((j : Int) + 1)=((j + 1 : Nat) : Int):=ai (by omega) (by omega)
   have hjy : j < ys.length:=by omega
   simp [h,hjy,knD]
   refine ⟨aA (by decide +kernel),?_⟩
   by_cases e : xs[j]=ys[j]
   ·simp [e]
    exact ⟨j + 1,⟨by omega,fun i hi hij=>by rcases Nat.lt_succ_iff_lt_or_eq.1 hij with h8 | rfl;exact hok i hi h8;exact e⟩,by omega,hw⟩
   ·have e1 : r=false:=by
     rw [hr,decide_eq_false_iff_not]
     rintro rfl
     exact e rfl
    have e2 : ¬ ((xs[j].1=ys[j].1) /\ xs[j].2=ys[j].2):=fun h=>e (Prod.ext h.1 h.2)
    by_cases e3 : xs[j].1=ys[j].1
    ·have e4 : ¬ xs[j].2=ys[j].2:=fun h=>e2 ⟨e3,h⟩
     simp [e3,e4,e1]
    ·simp [e3,e1]
  ·have e1 : r=true:=by
    rw [hr,decide_eq_true_eq]
    exact List.ext_getElem hl fun i hi _=>hok i hi (by omega)
   simp [h,e1]
 ·have e1 : r=false:=by rw [hr,decide_eq_false_iff_not];rintro rfl;exact hl rfl
  have hl' : ¬ (xs.length : Int)=ys.length:=by omega
  simp [hl',e1]
theorem jW (b b' : Bool) (xs ys : List Int) (hx : xs.length < 2 ^ 62) (hy : ys.length < 2 ^ 62) : C 614 [slx b (xs.map fun n=>[.int .i64 n]),slx b' (ys.map fun n=>[.int .i64 n])] (.bool (decide (xs=ys))) []:=by
 obtain ⟨r,hr⟩ : ∃ r,r=decide (xs=ys):=⟨_,rfl⟩
 rw [<- hr]
 refine au hC (nf:=N614) rfl rfl ?_
 simp [N614]
 by_cases hl : xs.length=ys.length
 ·have hl' : (xs.length : Int)=ys.length:=by omega
  simp [hl']
  refine ay Nat (fun j=>[(0,slx b (xs.map fun n=>[.int .i64 n])),(1,slx b' (ys.map fun n=>[.int .i64 n])),(5,.int .i64 j)]) (fun j=>j <= xs.length /\ ∀ i (h : i < xs.length),i < j -> xs[i]=(ys[i]'(by omega))) (fun j=>xs.length - j) 0 ⟨by omega,by omega⟩ (by simp) ?_
  rintro j ⟨hj,hok⟩
  simp
  refine ae (fun h=>?_) (fun h=>?_) <;> simp at h
  ·have hw : IntKind.wrap .i64 ((j : Int) + 1)=((j + 1 : Nat) : Int):=ai (by omega) (by omega)
   have hjy : j < ys.length:=by omega
   simp [h,hjy]
   refine ⟨aA (by decide +kernel),?_⟩
   by_cases e : xs[j]=ys[j]
   ·simp [e]
    exact ⟨j + 1,⟨by omega,fun i hi hij=>by rcases Nat.lt_succ_iff_lt_or_eq.1 hij with h8 | rfl;exact hok i hi h8;exact e⟩,by omega,hw⟩
   ·have e1 : r=false:=by
     rw [hr,decide_eq_false_iff_not]
     rintro rfl
     exact e rfl
    simp [e,e1]
  ·have e1 : r=true:=by
    rw [hr,decide_eq_true_eq]
    exact List.ext_getElem hl fun i hi _=>hok i hi (by omega)
   simp [h,e1]
 ·have e1 : r=false:=by rw [hr,decide_eq_false_iff_not];rintro rfl;exact hl rfl
  have hl' : ¬ (xs.length : Int)=ys.length:=by omega
  simp [hl',e1]
theorem C8 (a b : Sec) (h1 : a.area.length < 2 ^ 62) (h2 : b.area.length < 2 ^ 62) (h3 : a.conv.length < 2 ^ 62) (h4 : b.conv.length < 2 ^ 62) : C 640 [.agg (a7 a),.agg (a7 b)] (.bool (dP a b)) []:=by
 have k1:=pM hC a.areaN b.areaN a.area b.area h1 h2
 have k2:=pM hC a.convN b.convN a.conv b.conv h3 h4
 refine au hC (nf:=N640) rfl rfl ?_
 simp [N640,a7]
 by_cases e1 : a.name=b.name
 ·by_cases e2 : a.height=b.height
  ·by_cases e3 : a.price=b.price
   ·simp [e1,e2,e3]
    refine aa k1 (.inl rfl) ?_
    by_cases e4 : a.area=b.area
    ·simp [e4]
     refine aa k2 (.inl rfl) ?_
     simp [dP,e1,e2,e3,e4]
    ·simp [e4,dP]
   ·simp [e1,e2,e3,dP]
  ·simp [e1,e2,dP]
 ·simp [e1,dP]
theorem yF (b b' : Bool) (xs ys : List Sec) (hx : xs.length < 2 ^ 62) (hy : ys.length < 2 ^ 62) (h1 : ∀ s ∈ xs,s.area.length < 2 ^ 62 /\ s.conv.length < 2 ^ 62) (h2 : ∀ s ∈ ys,s.area.length < 2 ^ 62 /\ s.conv.length < 2 ^ 62) :
  C 615 [slx b (xs.map a7),slx b' (ys.map a7)] (.bool (dl xs ys)) []:=by
 have key:=fun (j : Nat) (h : j < xs.length) (h' : j < ys.length)=>C8 hC xs[j] ys[j] (h1 _ (List.getElem_mem h)).1 (h2 _ (List.getElem_mem h')).1 (h1 _ (List.getElem_mem h)).2 (h2 _ (List.getElem_mem h')).2
 obtain ⟨r,hr⟩ : ∃ r,r=dl xs ys:=⟨_,rfl⟩
 rw [<- hr]
 refine au hC (nf:=N615) rfl rfl ?_
 simp [N615]
 by_cases hl : xs.length=ys.length
 ·have hl' : (xs.length : Int)=ys.length:=by omega
  simp [hl']
  refine ay Nat (fun j=>[(0,slx b (xs.map a7)),(1,slx b' (ys.map a7)),(5,.int .i64 j)]) (fun j=>j <= xs.length /\ ∀ i (h : i < xs.length),i < j -> dP xs[i] (ys[i]'(by omega))=true) (fun j=>xs.length - j) 0 ⟨by omega,by omega⟩ (by simp) ?_
  rintro j ⟨hj,hok⟩
  simp
  refine ae (fun h=>?_) (fun h=>?_) <;> simp at h
  ·have hw : IntKind.wrap .i64 ((j : Int) + 1)=((j + 1 : Nat) : Int):=ai (by omega) (by omega)
   have hjy : j < ys.length:=by omega
   have k:=key j h hjy
   simp only [a7] at k
   simp [h,hjy,a7]
   refine aa k (.inl rfl) ?_
   simp
   refine ⟨aA (by decide +kernel),?_⟩
   by_cases e : dP xs[j] ys[j]=true
   ·simp [e]
    exact ⟨j + 1,⟨by omega,fun i hi hij=>by rcases Nat.lt_succ_iff_lt_or_eq.1 hij with h8 | rfl;exact hok i hi h8;exact e⟩,by omega,hw⟩
   ·have e1 : r=false:=by
     rw [hr,Bool.eq_false_iff]
     exact fun h9=>e ((ef hl).1 h9 j h)
    simp [e,e1]
  ·have e1 : r=true:=by
    rw [hr,ef hl]
    exact fun i hi=>hok i hi (by omega)
   simp [h,e1]
 ·have e1 : r=false:=by rw [hr];exact gP hl
  have hl' : ¬ (xs.length : Int)=ys.length:=by omega
  simp [hl',e1]
end Go.Gv

set_option maxRecDepth 4000
namespace Go.Gv
def QL (nm : List UInt8) (l : Lnk) : Bool:=l.src == nm
variable {C : CC} (hC : aj prog C)
include hC
end Go.Gv

set_option maxRecDepth 4000
namespace Go.Gv
theorem yo {O : List Nat} {n : Nat} (hnd : O.Nodup) (hlt : ∀ v ∈ O,v < n) (hlen : O.length=n) {v : Nat} (hv : v < n) : v ∈ O:=by
 apply Classical.byContradiction
 intro hn
 have hnd2 : (v::O).Nodup:=List.nodup_cons.2 ⟨hn,hnd⟩
 have hsub : (v::O) ⊆ List.range n:=by
  intro u hu
  rcases List.mem_cons.1 hu with rfl | hu
  ·simpa using hv
  ·simpa using hlt u hu
 have:=List.Nodup.length_le_of_subset hnd2 hsub
 simp at this
 omega
theorem C3 {es : List Edg} {vs : List Nat} (h : vs.Nodup) : (ppT es vs).Nodup:=by
 unfold ppT List.Nodup
 rw [List.pairwise_filterMap]
 refine h.imp ?_
 intro a b hab x hx y hy e
 subst e
 obtain ⟨_,h2,_⟩:=dK hx
 obtain ⟨_,h4,_⟩:=dK hy
 exact hab (by rw [<- h2,<- h4])
theorem pK {es : List Edg} {n : Nat} (hlen : (cl n es).length=n) {v x : Nat} (hv : v < n) (h : fE es v=some x) : x ∈ ppL n es:=by
 unfold ppL ppT
 rw [List.mem_filterMap]
 exact ⟨v,yo (lF n es) (fun _ h=>sj h) hlen hv,h⟩
def nlO (E : Int) (l : List (List D)) : D:=if E=0 then .sl l else .nils
variable {C : CC} (hC : aj prog C)
include hC
end Go.Gv

namespace Go.Gv
def Le (j : Job) (i : Nat) : Bool:=j.below.l[i]! == -1 || (decide ((i : Int) < j.below.l[i]!) && decide (j.below.l[i]! < j.below.l.length))
variable {C : CC} (hC : aj prog C)
include hC
end Go.Gv

set_option maxRecDepth 4000
namespace Go.Gv
def Qp (x : Nod) (b : Bool) : Nod:={ x with shapeN:=b }
def O8 (x : Lnk) (b : Bool) : Lnk:={ x with curveN:=b }
def mY (n : Nod) : Bool:=decide (20 < n.shape.length) || decide (60 < n.name.length)
def j8 (l : Lnk) : Bool:=decide (20 < l.curve.length) || decide (60 < l.name.length) || decide (60 < l.src.length) || decide (60 < l.dst.length) || decide (60 < l.sect.length)
def j7 (ns : List Nod) (ls : List Lnk) : Bool:=decide (12 < ns.length) || decide (12 < ls.length) || ns.any mY || ls.any j8
theorem lf (xs : List Sec) : dl xs xs=true:=(ef rfl).2 fun j h=>by simp [dP]
variable {C : CC} (hC : aj prog C)
include hC
theorem tZ (a b : Job) (h1 : a.below.l=b.below.l) (h2 : a.lengths.l=b.lengths.l) (h3 : a.flows.l=b.flows.l) (h4 : a.falls.l=b.falls.l) (h5 : a.room.l=b.room.l) (h6 : a.secs=b.secs) (hl : a.below.l.length < 2 ^ 62 /\ a.lengths.l.length < 2 ^ 62 /\ a.flows.l.length < 2 ^ 62 /\ a.falls.l.length < 2 ^ 62 /\ a.room.l.length < 2 ^ 62 /\ a.secs.length < 2 ^ 62) (hs : ∀ s ∈ a.secs,s.area.length < 2 ^ 62 /\ s.conv.length < 2 ^ 62) :
  C 570 [.agg (dc a),.agg (dc b)] (.bool true) []:=by
 obtain ⟨l1,l2,l3,l4,l5,l6⟩:=hl
 have k1:=jW hC a.below.n b.below.n a.below.l b.below.l l1 (by rw [<- h1];exact l1)
 have k2:=jW hC a.lengths.n b.lengths.n a.lengths.l b.lengths.l l2 (by rw [<- h2];exact l2)
 have k3:=jW hC a.flows.n b.flows.n a.flows.l b.flows.l l3 (by rw [<- h3];exact l3)
 have k4:=jW hC a.falls.n b.falls.n a.falls.l b.falls.l l4 (by rw [<- h4];exact l4)
 have k5:=jW hC a.room.n b.room.n a.room.l b.room.l l5 (by rw [<- h5];exact l5)
 have k6:=yF hC a.secN b.secN a.secs b.secs l6 (by rw [<- h6];exact l6) hs (by rw [<- h6];exact hs)
 rw [<- h1] at k1
 rw [<- h2] at k2
 rw [<- h3] at k3
 rw [<- h4] at k4
 rw [<- h5] at k5
 rw [<- h6,lf] at k6
 simp at k1 k2 k3 k4 k5
 refine au hC (nf:=N570) rfl rfl ?_
 simp [N570,dc,yV,<- h1,<- h2,<- h3,<- h4,<- h5,<- h6]
 refine aa k1 (.inl rfl) ?_
 simp
 refine aa k2 (.inl rfl) ?_
 simp
 refine aa k3 (.inl rfl) ?_
 simp
 refine aa k4 (.inl rfl) ?_
 simp
 refine aa k5 (.inl rfl) ?_
 simp
 refine aa k6 (.inl rfl) ?_
 simp
theorem zG (x : Nod) : C 603 [.agg (bI x)] (.bool (mY x)) []:=by
 refine au hC (nf:=N603) rfl rfl ?_
 simp [N603,bI]
 refine ae (fun h1=>?_) (fun h1=>?_) <;> simp [h1] <;> simp at h1
 ·simp [mY];omega
 simp [mY]
 rw [Bool.eq_iff_iff];simp
 omega
theorem zF (x : Lnk) : C 604 [.agg (a8 x)] (.bool (j8 x)) []:=by
 refine au hC (nf:=N604) rfl rfl ?_
 simp [N604,a8]
 refine ae (fun h1=>?_) (fun h1=>?_) <;> simp [h1] <;> simp at h1
 ·simp [j8];omega
 refine ae (fun h2=>?_) (fun h2=>?_) <;> simp [h2] <;> simp at h2
 ·simp [j8];omega
 refine ae (fun h3=>?_) (fun h3=>?_) <;> simp [h3] <;> simp at h3
 ·simp [j8];omega
 refine ae (fun h4=>?_) (fun h4=>?_) <;> simp [h4] <;> simp at h4
 ·simp [j8];omega
 simp [j8]
 rw [Bool.eq_iff_iff];simp
 omega
theorem Dx (b1 b2 : Bool) (ns : List Nod) (ls : List Lnk) (hn : ns.length < 2 ^ 62) (hl : ls.length < 2 ^ 62) : C 564 [.agg [slx b1 (ns.map bI),slx b2 (ls.map a8)]] (.bool (j7 ns ls)) []:=by
 have k1:=vK hC (b:=b1) (xs:=ns) (g:=603) (cs:=[]) mY hn (fun x _=>zG hC x)
 have k2:=pg hC (b:=b2) (xs:=ls) (g:=604) (cs:=[]) j8 hl (fun x _=>zF hC x)
 refine au hC (nf:=N564) rfl rfl ?_
 simp [N564]
 by_cases h1 : 12 < ns.length
 ·have h1' : (12 : Int) < (ns.length : Int):=by omega
  simp [h1',j7,h1]
 have h1' : ¬ (12 : Int) < (ns.length : Int):=by omega
 simp [h1']
 by_cases h2 : 12 < ls.length
 ·have h2' : (12 : Int) < (ls.length : Int):=by omega
  simp [h2',j7,h2]
 have h2' : ¬ (12 : Int) < (ls.length : Int):=by omega
 simp [h2']
 refine aa k1 (.inl rfl) ?_
 cases h3 : ns.any mY
 ·simp
  refine aa k2 (.inl rfl) ?_
  simp [j7,h1,h2,h3]
 ·simp [j7,h1,h2,h3]
end Go.Gv

set_option maxRecDepth 4000
namespace Go.Gv
variable {C : CC} (hC : aj prog C)
include hC
end Go.Gv

set_option maxRecDepth 4000
namespace Go.Gv
def rwT {α : Type} (f : α -> List D) (l : List α) (k : Nat) : List (List D):=(l.take k).map f
def cpN (x : Nod) : Nod:=Qp x x.shape.isEmpty
def cpL (x : Lnk) : Lnk:=O8 x x.curve.isEmpty
def O7 (x : Nod) : List D:=bI (cpN x)
def QV (x : Lnk) : List D:=a8 (cpL x)
variable {C : CC} (hC : aj prog C)
include hC
end Go.Gv

set_option maxRecDepth 4000
namespace Go.Gv
def iN (l : Lnk) (nm : List UInt8) : Lnk:={ l with sect:=nm }
def fa (ls : List Lnk) (ss : List Sec) (V : List Nat) (ch : List Int) : Nat -> List Lnk
 | 0=>ls
 | k + 1=>(fa ls ss V ch k).set (V[k]!) (iN ((fa ls ss V ch k)[V[k]!]!) ss[(ch[k]!).toNat]!.name)
theorem fC (ls : List Lnk) (ss : List Sec) (V : List Nat) (ch : List Int) : ∀ k,(fa ls ss V ch k).length=ls.length
 | 0=>rfl
 | k + 1=>by unfold fa;rw [List.length_set,fC ls ss V ch k]
def iG (ls : List Lnk) (ss : List Sec) (V : List Nat) (ch : List Int) (k : Nat) : List (List D):=(fa ls ss V ch k).map a8
theorem wi (ls : List Lnk) (ss : List Sec) (V : List Nat) (ch : List Int) (k : Nat) : (iG ls ss V ch k).length=ls.length:=by unfold iG;rw [List.length_map,fC]
theorem wh {ls : List Lnk} (ss : List Sec) (V : List Nat) (ch : List Int) (k : Nat) {i : Nat} (h : i < ls.length) : (iG ls ss V ch k)[i]? = some (a8 ((fa ls ss V ch k)[i]!)):=by
 have h' : i < (fa ls ss V ch k).length:=by rw [fC];exact h
 unfold iG
 rw [List.getElem?_map,List.getElem?_eq_getElem h',getElem!_pos _ i h'];rfl
theorem zJ (l : Lnk) (nm : List UInt8) : a8 (iN l nm)=(a8 l).take 7++[.str nm]++(a8 l).drop 8:=by
 simp [iN,a8]
theorem wj {ls : List Lnk} {ss : List Sec} {V : List Nat} {ch : List Int} {k : Nat} (hk : k < V.length) (hc : k < ch.length) (hs : (ch[k]).toNat < ss.length) : (iG ls ss V ch k).set V[k] ((a8 ((fa ls ss V ch k)[V[k]]!)).take 7++[.str ss[(ch[k]).toNat].name]++(a8 ((fa ls ss V ch k)[V[k]]!)).drop 8)=iG ls ss V ch (k + 1):=by
 unfold iG
 rw [show fa ls ss V ch (k + 1)=(fa ls ss V ch k).set (V[k]!) (iN ((fa ls ss V ch k)[V[k]!]!) ss[(ch[k]!).toNat]!.name) from rfl]
 rw [List.map_set,zJ,getElem!_pos V k hk,getElem!_pos ch k hc,getElem!_pos ss _ hs]
def mC (ns : List Nod) (ls : List Lnk) (ss : List Sec) (j : Job) (ch : List Int) : Int :=
 if !(ce ns ls && aH ss && al j) then 1 else if ppE ls ns.length (ao ns ls) ≠ 0 then ppE ls ns.length (ao ns ls)
 else if !(decide (ppB ns.length (ao ns ls)=j.below.l) && dl ss j.secs) then 25 else bU j ch
def tY (ns : List Nod) (ls : List Lnk) (ss : List Sec) (j : Job) (ch : List Int) : D :=
 if mC ns ls ss j ch=0 then .agg [.sl (ns.map bI),.sl (iG ls ss (ppL ns.length (ao ns ls)) ch (ppL ns.length (ao ns ls)).length)] else .agg [.nils,.nils]
variable {C : CC} (hC : aj prog C)
include hC
set_option maxHeartbeats 2000000 in
theorem GD (hS : SlC C) (hL : oS C) (hP : xn C) (b1 b2 b3 b4 : Bool) (ns : List Nod) (ls : List Lnk) (ss : List Sec) (j : Job) (ch : List Int) (hcv : ∀ l ∈ ls,l.curve.length < 2 ^ 40) (hsh : ∀ n ∈ ns,n.shape.length < 2 ^ 40) (h1 : ∀ s ∈ ss,s.area.length < 2 ^ 62 /\ s.conv.length < 2 ^ 62) (h2 : ∀ s ∈ j.secs,s.area.length < 2 ^ 62 /\ s.conv.length < 2 ^ 62) (hch : ch.length < 2 ^ 62) :
  C 566 [.agg [slx b1 (ns.map bI),slx b2 (ls.map a8)],slx b3 (ss.map a7),.agg (dc j),slx b4 (ch.map fun x=>[.int .i64 x])] (.tup [tY ns ls ss j ch,.int .i64 (mC ns ls ss j ch)]) []:=by
 have k1:=jO hC b1 b2 ns ls (fun l h=>by have:=hcv l h;omega)
 have k2:=gG hC b3 ss
 have k3:=lz hC j
 obtain ⟨E,hE⟩ : ∃ E,E=mC ns ls ss j ch:=⟨_,rfl⟩
 obtain ⟨X,hX⟩ : ∃ X,X=tY ns ls ss j ch:=⟨_,rfl⟩
 rw [<- hE,<- hX]
 have bad : ∀ x : Int,x ≠ 0 -> E=x -> X=.agg [.nils,.nils] /\ E=x:=fun x hx h=>by
  refine ⟨?_,h⟩
  rw [hX];unfold tY;rw [if_neg (by rw [<- hE,h];exact hx)]
 refine au hC (nf:=N566) rfl rfl ?_
 simp [N566,aB]
 simp [aB] at k3
 refine aa k1 (.inl rfl) ?_
 by_cases hv : ce ns ls=true
 ·rw [hv]
  simp
  refine aa k2 (.inl rfl) ?_
  by_cases hc : aH ss=true
  ·rw [hc]
   simp
   refine aa k3 (.inl rfl) ?_
   by_cases hj : al j=true
   ·rw [hj]
    simp
    have hu : mC ns ls ss j ch=if ppE ls ns.length (ao ns ls) ≠ 0 then ppE ls ns.length (ao ns ls) else if !(decide (ppB ns.length (ao ns ls)=j.below.l) && dl ss j.secs) then 25 else bU j ch:=by
     unfold mC;rw [if_neg (by simp [hv,hc,hj])]
    have hE0:=hE
    rw [hu] at hE
    clear hu
    have k4:=pL hC hS b1 b2 ns ls (fun l h=>by have:=hcv l h;omega) hv
    obtain ⟨hnl,hll⟩:=ee hv
    have hel:=da ns ls
    have hjb : j.below.l.length <= 400:=by simp only [al,Bool.and_eq_true,decide_eq_true_eq] at hj;omega
    have hjs : j.secs.length <= 40:=by simp only [al,aH,Bool.and_eq_true,decide_eq_true_eq] at hj;omega
    have hss : ss.length <= 40:=by simp only [aH,Bool.and_eq_true,decide_eq_true_eq] at hc;omega
    refine aa k4 (.inr rfl) ?_
    by_cases h3 : ppE ls ns.length (ao ns ls)=0
    ·have eV : ppV ls ns.length (ao ns ls)=ppL ns.length (ao ns ls):=by unfold ppV;rw [if_pos h3]
     have eW : ppW ls ns.length (ao ns ls)=ppB ns.length (ao ns ls):=by unfold ppW;rw [if_pos h3]
     rw [if_neg (by simp [h3])] at hE
     have hBl : (ppB ns.length (ao ns ls)).length=(ppL ns.length (ao ns ls)).length:=by unfold ppB;rw [List.length_map]
     have hVl : (ppL ns.length (ao ns ls)).length <= 300:=Nat.le_trans (iY _ _) (Nat.le_trans (gl _ _) hnl)
     have hVlt : ∀ l ∈ ppL ns.length (ao ns ls),l < ls.length:=fun l hl=>by rw [<- hel];exact kH hl
     have eX : E=0 -> X=.agg [.sl (ns.map bI),.sl (iG ls ss (ppL ns.length (ao ns ls)) ch (ppL ns.length (ao ns ls)).length)]:=fun h=>by
      rw [hX];unfold tY;rw [if_pos (by rw [<- hE0];exact h)]
     rw [h3,eV,eW]
     clear hE0 hX k4
     have k5:=lR hC false j.below.n (ppB ns.length (ao ns ls)) j.below.l (by omega) (by omega)
     have k6:=vu hC b3 j.secN ss j.secs (by omega) (by omega) h1 h2
     have k7:=u2 hC j b4 ch hch
     generalize ppL ns.length (ao ns ls)=V at *
     generalize ppB ns.length (ao ns ls)=B at *
     rw [gr] at k5
     simp [aW]
     by_cases h4 : V.length=j.below.l.length
     ·simp [h4]
      refine aa k5 (.inl rfl) ?_
      by_cases h5 : B=j.below.l
      ·simp [h5]
       refine aa k6 (.inl rfl) ?_
       by_cases h6 : dl ss j.secs=true
       ·rw [if_neg (by simp [h5,h6])] at hE
        simp [h6]
        simp [aB] at k7
        refine aa k7 (.inl rfl) ?_
        rw [<- hE]
        by_cases h7 : E=0
        ·rw [eX h7,h7]
         simp
         have hch0 : bU j ch=0:=by rw [<- hE,h7]
         have hsl : ss.length=j.secs.length:=by
          apply Classical.byContradiction
          intro h8
          rw [gP h8] at h6
          cases h6
         have hchl : ch.length=V.length:=by
          unfold bU at hch0
          rw [if_neg (by rw [hj];decide)] at hch0
          split at hch0
          ·cases hch0
          ·omega
         have hrange : ∀ k (h : k < ch.length),0 <= ch[k] /\ (ch[k]).toNat < ss.length:=by
          intro k hk
          unfold bU at hch0
          rw [if_neg (by rw [hj];decide),if_neg (by omega)] at hch0
          split at hch0
          ·cases hch0
          ·rename_i h8
           rw [Bool.not_eq_true,List.any_eq_false] at h8
           have h9:=h8 _ (List.getElem_mem hk)
           simp [kZ] at h9
           omega
         rcases Nat.eq_zero_or_pos ls.length with hl0 | hl0
         ·have hl00 : ls=[]:=List.eq_nil_of_length_eq_zero hl0
          have hV0 : V=[]:=by
           cases V with
           | nil=>rfl
           | cons v V=>have:=hVlt v (by simp);omega
          subst hl00
          obtain ⟨d,hd,hcl⟩:=td hC hP b2
          refine sW hcl ?_
          rcases hd with rfl | rfl
          ·simp
           refine mS (ds:=[.nils,.nils]) (b:=10224) (i:=0) (off:=0) (sz:=2) (es:=[[.own 9 [],.own 11 []]]) (r:=[.own 9 [],.own 11 []]) (by simp) (by simp [ar]) rfl rfl (by simp) (by simp) rfl (by simp) ?_
           simp [de,dS]
           refine ay Nat (fun i=>[(1,slx b3 (ss.map a7)),(3,slx b4 (ch.map fun n=>[.int .i64 n])),(8,.adr (.r 10128) 0 0),(10,.sl (aV V)),(14,.adr (.r 10224) 0 0),(76,slx b1 (ns.map bI)),(77,.int .i64 ns.length),(78,.int .i64 i),(10128,.blk 2 [[.own 9 [],.own 11 []]]),(10224,.blk 2 [[.own 9 (nT ns i),.own 11 []]])]) (fun i=>i <= ns.length) (fun i=>ns.length - i) 0 (by simp) (by simp [oB]) ?_
           intro i hi
           simp
           refine ae (fun h=>?_) (fun h=>?_) <;> simp at h
           ·have hw : IntKind.wrap .i64 ((i : Int) + 1)=((i + 1 : Nat) : Int):=ai (by omega) (by omega)
            have ht:=oA h
            have hlen:=qV hi
            have hk:=jF hC hL ns[i].shapeN ns[i].shape (hsh _ (List.getElem_mem h))
            have hcc:=qU ns i
            have htk : List.take i (nT ns i)=nT ns i:=List.take_of_length_le (by omega)
            have hb2 : (i + 1) * 96 <= 140737488355328:=by omega
            rcases mR ns[i].shapeN (ns[i].shape.map knD) with e | e
            all_goals
             rw [e] at hk
             simp [h,bI,e]
             refine aa hk (.inr rfl) ?_
             simp [bI,e] at ht
             simp [hlen,hb2,htk]
             refine ⟨fun e he=>by rcases he with he | rfl;exact (hcc e he).2;simp [ar],i + 1,by omega,by omega,hw,?_⟩
             rw [ht]
           ·have ei : i=ns.length:=by omega
            subst ei
            simp [h,qT,aW]
            subst hV0
            simp
            refine ay Nat (fun i=>[(1,slx b3 (ss.map a7)),(3,slx b4 (ch.map fun n=>[.int .i64 n])),(8,.adr (.r 10128) 0 0),(14,.adr (.r 10224) 0 0),(93,.sl (aV [])),(94,.int .i64 0),(95,.int .i64 i),(10128,.blk 2 [[.own 9 [],.own 11 []]]),(10224,.blk 2 [[.own 9 (ns.map bI),.own 11 []]])]) (fun i=>i=0) (fun i=>0) 0 rfl (by simp [aV]) ?_
            rintro i rfl
            simp [iG,fa]
          ·simp
           refine mS (ds:=[.nils,.sl []]) (b:=10224) (i:=0) (off:=0) (sz:=2) (es:=[[.own 9 [],.own 11 []]]) (r:=[.own 9 [],.own 11 []]) (by simp) (by simp [ar]) rfl rfl (by simp) (by simp) rfl (by simp) ?_
           simp [de,dS]
           refine ay Nat (fun i=>[(1,slx b3 (ss.map a7)),(3,slx b4 (ch.map fun n=>[.int .i64 n])),(8,.adr (.r 10128) 0 0),(10,.sl (aV V)),(14,.adr (.r 10224) 0 0),(76,slx b1 (ns.map bI)),(77,.int .i64 ns.length),(78,.int .i64 i),(10128,.blk 2 [[.own 9 [],.own 11 []]]),(10224,.blk 2 [[.own 9 (nT ns i),.sl []]])]) (fun i=>i <= ns.length) (fun i=>ns.length - i) 0 (by simp) (by simp [oB]) ?_
           intro i hi
           simp
           refine ae (fun h=>?_) (fun h=>?_) <;> simp at h
           ·have hw : IntKind.wrap .i64 ((i : Int) + 1)=((i + 1 : Nat) : Int):=ai (by omega) (by omega)
            have ht:=oA h
            have hlen:=qV hi
            have hk:=jF hC hL ns[i].shapeN ns[i].shape (hsh _ (List.getElem_mem h))
            have hcc:=qU ns i
            have htk : List.take i (nT ns i)=nT ns i:=List.take_of_length_le (by omega)
            have hb2 : (i + 1) * 96 <= 140737488355328:=by omega
            rcases mR ns[i].shapeN (ns[i].shape.map knD) with e | e
            all_goals
             rw [e] at hk
             simp [h,bI,e]
             refine aa hk (.inr rfl) ?_
             simp [bI,e] at ht
             simp [hlen,hb2,htk]
             refine ⟨fun e he=>by rcases he with he | rfl;exact (hcc e he).2;simp [ar],i + 1,by omega,by omega,hw,?_⟩
             rw [ht]
           ·have ei : i=ns.length:=by omega
            subst ei
            simp [h,qT,aW]
            subst hV0
            simp
            refine ay Nat (fun i=>[(1,slx b3 (ss.map a7)),(3,slx b4 (ch.map fun n=>[.int .i64 n])),(8,.adr (.r 10128) 0 0),(14,.adr (.r 10224) 0 0),(93,.sl (aV [])),(94,.int .i64 0),(95,.int .i64 i),(10128,.blk 2 [[.own 9 [],.own 11 []]]),(10224,.blk 2 [[.own 9 (ns.map bI),.sl []]])]) (fun i=>i=0) (fun i=>0) 0 rfl (by simp [aV]) ?_
            rintro i rfl
            simp [iG,fa]
         ·refine sX (u3 hC ls hl0 hll b2) rfl ?_
          simp
          refine wP (ds:=[.nils,.ref (.r 11169) 0 ls.length]) (cs:=[.nils,.own 11 (ls.map a8)]) (bs:=[11169]) (b:=10224) (i:=0) (off:=0) (sz:=2) (es:=[[.own 9 [],.own 11 []]]) (r:=[.own 9 [],.own 11 []]) (by simp) rfl ?_ (by simp) (by simp) rfl (by simp) (by simp) rfl (by simp) ?_
          ·intro Q hQ
           simp [je,dx,ar]
           exact ⟨fun a ha=>vR ls _ (List.mem_map_of_mem ha),hQ⟩
          simp [de,dS]
          refine ay Nat (fun i=>[(1,slx b3 (ss.map a7)),(3,slx b4 (ch.map fun n=>[.int .i64 n])),(8,.adr (.r 10128) 0 0),(10,.sl (aV V)),(14,.adr (.r 10224) 0 0),(76,slx b1 (ns.map bI)),(77,.int .i64 ns.length),(78,.int .i64 i),(10128,.blk 2 [[.own 9 [],.own 11 []]]),(10224,.blk 2 [[.own 9 (nT ns i),.own 11 (ls.map a8)]])]) (fun i=>i <= ns.length) (fun i=>ns.length - i) 0 (by simp) (by simp [oB]) ?_
          intro i hi
          simp
          refine ae (fun h=>?_) (fun h=>?_) <;> simp at h
          ·have hw : IntKind.wrap .i64 ((i : Int) + 1)=((i + 1 : Nat) : Int):=ai (by omega) (by omega)
           have ht:=oA h
           have hlen:=qV hi
           have hk:=jF hC hL ns[i].shapeN ns[i].shape (hsh _ (List.getElem_mem h))
           have hcc:=qU ns i
           have htk : List.take i (nT ns i)=nT ns i:=List.take_of_length_le (by omega)
           have hb2 : (i + 1) * 96 <= 140737488355328:=by omega
           rcases mR ns[i].shapeN (ns[i].shape.map knD) with e | e
           all_goals
            rw [e] at hk
            simp [h,bI,e]
            refine aa hk (.inr rfl) ?_
            simp [bI,e] at ht
            simp [hlen,hb2,htk]
            refine ⟨fun e he=>by rcases he with he | rfl;exact (hcc e he).2;simp [ar],i + 1,by omega,by omega,hw,?_⟩
            rw [ht]
          ·have ei : i=ns.length:=by omega
           subst ei
           simp [h,qT,aW]
           refine ay Nat (fun k=>[(1,slx b3 (ss.map a7)),(3,slx b4 (ch.map fun n=>[.int .i64 n])),(8,.adr (.r 10128) 0 0),(14,.adr (.r 10224) 0 0),(93,.sl (aV V)),(94,.int .i64 V.length),(95,.int .i64 k),(10128,.blk 2 [[.own 9 [],.own 11 []]]),(10224,.blk 2 [[.own 9 (ns.map bI),.own 11 (iG ls ss V ch k)]])]) (fun k=>k <= V.length) (fun k=>V.length - k) 0 (by simp) (by simp [iG,fa]) ?_
           intro k hk
           simp
           refine ae (fun h=>?_) (fun h=>?_) <;> simp at h
           ·have hw : IntKind.wrap .i64 ((k : Int) + 1)=((k + 1 : Nat) : Int):=ai (by omega) (by omega)
            have hi:=hVlt _ (List.getElem_mem h)
            have hkc : k < ch.length:=by omega
            obtain ⟨hs0,hs1⟩:=hrange k hkc
            have hget:=wh (ls:=ls) ss V ch k hi
            have hpl:=wi ls ss V ch k
            have hset:=wj (ls:=ls) h hkc hs1
            have hrow : (iG ls ss V ch k)[V[k]]'(by rw [hpl];exact hi)=a8 ((fa ls ss V ch k)[V[k]]!):=by
             have h' : V[k] < (fa ls ss V ch k).length:=by rw [fC];exact hi
             simp only [iG,List.getElem_map]
             rw [getElem!_pos (fa ls ss V ch k) V[k] h']
            simp [h,bA (fz h),hkc,hs0,hs1,a7,hpl,hi]
            refine ⟨by rw [hrow];simp [a8],aA (by decide +kernel),k + 1,by omega,by omega,hw,?_⟩
            rw [hrow,<- hset]
            simp
           ·have ek : k=V.length:=by omega
            subst ek
            simp [h]
        ·obtain ⟨e1,e2⟩:=bad E h7 rfl
         rw [e1]
         simp [h7]
       ·obtain ⟨e1,e2⟩:=bad 25 (by decide) (by rw [hE,if_pos (by simp [h6])])
        rw [e1,e2]
        simp [h6]
      ·obtain ⟨e1,e2⟩:=bad 25 (by decide) (by rw [hE,if_pos (by simp [h5])])
       rw [e1,e2]
       simp [h5]
     ·have h5 : ¬ B=j.below.l:=fun h=>h4 (by rw [<- hBl,h])
      obtain ⟨e1,e2⟩:=bad 25 (by decide) (by rw [hE,if_pos (by simp [h5])])
      have h4' : ¬ (V.length : Int)=(j.below.l.length : Int):=by omega
      rw [e1,e2]
      simp [h4']
    ·obtain ⟨e1,e2⟩:=bad _ h3 (by rw [hE,if_pos h3])
     rw [e1,<- e2]
     rw [<- e2] at h3
     simp [h3]
   ·obtain ⟨e1,e2⟩:=bad 1 (by decide) (by rw [hE];unfold mC;rw [if_pos (by simp [hj])])
    rw [e1,e2]
    simp [hj]
  ·obtain ⟨e1,e2⟩:=bad 1 (by decide) (by rw [hE];unfold mC;rw [if_pos (by simp [hc])])
   rw [e1,e2]
   simp [hc]
 ·obtain ⟨e1,e2⟩:=bad 1 (by decide) (by rw [hE];unfold mC;rw [if_pos (by simp [hv])])
  rw [e1,e2]
  simp [hv]
end Go.Gv

set_option maxRecDepth 4000
namespace Go.Gv
def QJ (ns : List Nod) (ls : List Lnk) (ss : List Sec) (j : Job) (ch : List Int) : D :=
 if mC ns ls ss j ch=0 then .agg [.sl (ns.map O7),.sl (iG (ls.map cpL) ss (ppL ns.length (ao ns ls)) ch (ppL ns.length (ao ns ls)).length)] else .agg [.nils,.nils]
variable {C : CC} (hC : aj prog C)
include hC
end Go.Gv

set_option maxRecDepth 4000
namespace Go.Gv
theorem zH {ns : List Nod} {ls : List Lnk} (h : j7 ns ls=false) : (∀ n ∈ ns,n.shape.length <= 20) /\ ∀ l ∈ ls,l.curve.length <= 20:=by
 simp only [j7,Bool.or_eq_false_iff,decide_eq_false_iff_not,List.any_eq_false] at h
 refine ⟨fun n hn=>?_,fun l hl=>?_⟩
 ·have:=h.1.2 n hn
  simp only [mY,Bool.or_eq_true,decide_eq_true_eq,not_or] at this
  omega
 ·have:=h.2 l hl
  simp only [j8,Bool.or_eq_true,decide_eq_true_eq,not_or] at this
  omega
theorem yf {l : List Sec} (h : mf l=false) : l.length <= 8 /\ ∀ s ∈ l,s.area.length <= 20 /\ s.conv.length <= 20:=by
 simp only [mf,Bool.or_eq_false_iff,decide_eq_false_iff_not,List.any_eq_false] at h
 refine ⟨by omega,fun s hs=>?_⟩
 have:=h.2 s hs
 simp only [gL,Bool.or_eq_true,decide_eq_true_eq,not_or] at this
 omega
def QY (P : List D) : Prop:=P=[.nils,.nils,.nils,.nils,.nils,.nils] \/ ∃ a b c d e f,P=[.sl a,.sl b,.sl c,.sl d,.sl e,.sl f]
variable {C : CC} (hC : aj prog C)
include hC
theorem yt : C 567 [.agg [.nils,.nils,.nils,.nils,.nils,.nils]] (.bool true) []:=by
 have k:=tZ hC pn pn rfl rfl rfl rfl rfl rfl (by simp [pn]) (by simp [pn])
 rw [qO] at k
 refine au hC (nf:=N567) rfl rfl ?_
 simp [N567]
 refine aa k (.inl rfl) ?_
 simp
end Go.Gv

namespace Go.Gv
theorem nY {j : Job} {ch : List Int} (hc : bU j ch=0) (h : ∀ k,k < j.below.l.length -> uS j ch k=false) : ig j ch=(true,-1,0):=by
 unfold ig
 rw [if_neg (by rw [hc];simp)]
 have : (List.range j.below.l.length).find? (uS j ch)=none:=by
  rw [List.find?_eq_none]
  intro k hk
  rw [List.mem_range] at hk
  rw [h k hk];simp
 rw [this]
end Go.Gv

namespace Go.Gv
theorem uV {j : Job} {i : Nat} (hi : i < j.below.l.length) : (cD j)[i]! = dU j j.below.l.length i:=by
 rw [getElem!_pos _ i (by simpa [cD] using hi)]
 simp [cD]
theorem oC {j : Job} {a s : Nat} {h : Int} : okF j a h s=true ↔ cO j a s=true /\ j.secs[s]!.height <= h:=by
 simp [okF]
theorem sN {j : Job} {i a : Nat} (h : a ∈ aM j i) : j.below.l[a]! = (i : Int):=by
 simp only [aM,List.mem_filter,List.mem_range,decide_eq_true_eq] at h
 exact h.2
theorem xu {j : Job} (hv : al j=true) (hc : dJ j ≠ -1) : ig j (cD j)=(true,-1,0) /\ qw j (cD j)=(dJ j,0):=by
 have hG:=fun i hi=>(lB hv hc j.below.l.length (Nat.le_refl _) i hi (by omega)).sec
 obtain ⟨ch,hch⟩ : ∃ ch,ch=dU j j.below.l.length:=⟨_,rfl⟩
 rw [<- hch] at hG
 have hat : ∀ i,i < j.below.l.length -> (cD j)[i]! = ch i:=fun i hi=>by rw [uV hi,hch]
 have hlen : (cD j).length=j.below.l.length:=by simp [cD]
 have hsec : ∀ i s,i < j.below.l.length -> ch i=((s : Nat) : Int) -> iK j (cD j) i=s:=fun i s hi e=>by rw [iK,hat i hi,e];rfl
 have h0 : bU j (cD j)=0:=by
  rw [bU,if_neg (by rw [hv];simp),if_neg (by omega),if_neg]
  rw [Bool.not_eq_true,List.any_eq_false]
  intro x hx
  obtain ⟨i,hi,rfl⟩:=List.getElem_of_mem hx
  obtain ⟨s,e1,e2,_⟩:=hG i (by omega)
  have:=hat i (by omega)
  rw [getElem!_pos _ i hi,e1] at this
  rw [this]
  simp [kZ]
  omega
 have hh : ∀ i a s,i < j.below.l.length -> ch i=((s : Nat) : Int) -> a ∈ aM j i -> hgt j ch a=j.secs[s]!.height:=fun i a s hi e ha=>by
  have:=sN ha
  rw [hgt,if_neg (by omega),this]
  simp [e]
 refine ⟨nY h0 (fun i hi=>?_),?_⟩
 ·obtain ⟨s,e1,e2,e3,e4,e5⟩:=hG i hi
  rw [uS,hsec i s hi e1,(oC.1 e4).1,Bool.not_true,Bool.false_or,List.any_eq_false]
  intro a ha
  have hal:=fv ha
  obtain ⟨t,f1,f2,f3,f4,f5⟩:=hG a hal
  rw [A7,hsec i s hi e1,hsec a t hal f1,decide_eq_true_eq]
  have:=(oC.1 f4).2
  rw [hh i a s hi e1 ha] at this
  omega
 rw [qw,if_neg (by rw [h0];simp)]
 have hstep : ∀ i,i < j.below.l.length -> lv j (aP j) (hgt j ch i) i=mq j i (iK j (cD j) i) + AS j (fun a=>lv j (aP j) (hgt j ch a) a) i:=fun i hi=>by
  obtain ⟨s,e1,e2,e3,e4,e5⟩:=hG i hi
  rw [hsec i s hi e1,e5]
  rcases wU hv hi e2 (oC.1 e4).1 with ⟨_,f⟩ | ⟨_,f⟩
  ·exact absurd f e3
  rw [f,<- ka hv _ hi]
  have : (aM j i).map (lv j (aP j) j.secs[s]!.height)=(aM j i).map (fun a=>lv j (aP j) (hgt j ch a) a):=List.map_congr_left fun a ha=>by rw [hh i a s hi e1 ha]
  rw [this]
 have hF : ∀ i,i <= j.below.l.length -> FS j (fun a=>lv j (aP j) (hgt j ch a) a) i=S (fun i=>mq j i (iK j (cD j) i)) i:=by
  intro i
  induction i with
  | zero=>intro _;simp [FS,S]
  | succ i ih =>
   intro hi
   have h1:=rF hv (fun a=>lv j (aP j) (hgt j ch a) a) (i:=i) (by omega)
   have h2:=hstep i (by omega)
   have h3:=ih (by omega)
   simp only [S]
   omega
 rcases u9 hv with ⟨_,e⟩ | ⟨e1,e2,e3⟩
 ·exact absurd e hc
 have hr : (cy j).map (lv j (aP j) 4194304)=(cy j).map (fun a=>lv j (aP j) (hgt j ch a) a):=List.map_congr_left fun a ha=>by rw [hgt,if_pos (pV ha).2]
 rw [hr,nN hv,hF _ (Nat.le_refl _)] at e2
 rw [e2,rM]
end Go.Gv

set_option maxRecDepth 4000
namespace Go.Gv
theorem Ca {O : List Nat} (h : O.Nodup) : O.Pairwise fun a b=>O.idxOf a < O.idxOf b:=by
 rw [List.pairwise_iff_getElem]
 intro i j hi hj hij
 rw [List.Nodup.idxOf_getElem h i hi,List.Nodup.idxOf_getElem h j hj]
 exact hij
theorem C4 {es : List Edg} {O : List Nat} (h : O.Nodup) : (ppT es O).Pairwise fun a b=>O.idxOf (es[a]!).1 < O.idxOf (es[b]!).1:=by
 unfold ppT
 rw [List.pairwise_filterMap]
 refine (Ca h).imp ?_
 intro a b hab x hx y hy
 obtain ⟨h1,h2,_⟩:=dK hx
 obtain ⟨h3,h4,_⟩:=dK hy
 rw [getElem!_pos es x h1,getElem!_pos es y h3,h2,h4]
 exact hab
structure uC (ns : List Nod) (ls : List Lnk) (ss : List Sec) (q : List Int) (cover : Int) : Prop where
 hv : ce ns ls=true
 hc : aH ss=true
 ss0 : 0 < ss.length
 pe : ppE ls ns.length (ao ns ls)=0
 ql : q.length=ls.length
 cv : 0 <= cover /\ cover <= 4194304
 qr : ∀ x ∈ q,0 <= x /\ x <= 1099511627776
 ok : ∀ l ∈ ppL ns.length (ao ns ls),iF ns (ao ns ls) ls cover l=false
theorem yC {ns : List Nod} {ls : List Lnk} {ss : List Sec} {q : List Int} {cover : Int} (h : prE ns ls ss q cover=0) : uC ns ls ss q cover:=by
 unfold prE at h
 split at h
 ·cases h
 rename_i h1
 split at h
 ·cases h
 rename_i h2
 split at h
 ·rename_i h3;exact absurd h h3
 rename_i h3
 split at h
 ·cases h
 rename_i h4
 split at h
 ·cases h
 rename_i h5
 split at h
 ·cases h
 rename_i h6
 simp only [Bool.not_eq_true,Bool.not_eq_false',Bool.and_eq_true] at h1
 simp only [Bool.or_eq_true,not_or,Bool.not_eq_true',Bool.and_eq_false_iff,decide_eq_false_iff_not,Classical.not_not,Bool.not_eq_true,List.any_eq_false] at h5
 rw [Bool.not_eq_true,List.any_eq_false] at h6
 refine ⟨h1.1,h1.2,by omega,by simpa using h3,by simpa using h4,?_,fun x hx=>?_,fun l hl=>by simpa using h6 l hl⟩
 ·have:=h5.1;omega
 ·have:=h5.2 x hx
  simp only [ri,Bool.not_eq_true',Bool.and_eq_false_iff,decide_eq_false_iff_not,not_or,Classical.not_not,Bool.not_eq_false',Bool.and_eq_true,decide_eq_true_eq] at this
  exact this
theorem rg {ls : List Lnk} {n : Nat} {es : List Edg} (h : ppE ls n es=0) : (∀ i (h : i < ls.length),ls[i].kind=1) /\ (es.map (·.1)).Nodup /\ (cl n es).length=n:=by
 unfold ppE at h
 split at h
 ·cases h
 rename_i h1
 split at h
 ·cases h
 rename_i h2
 split at h
 ·cases h
 rename_i h3
 rw [List.any_eq_true] at h1
 refine ⟨fun i hi=>?_,Classical.not_not.1 h2,?_⟩
 ·apply Classical.byContradiction
  intro hk
  exact h1 ⟨ls[i],List.getElem_mem hi,by simp [hk]⟩
 ·have:=gl n es;omega
variable {ns : List Nod} {ls : List Lnk} {ss : List Sec} {q : List Int} {cover : Int}
theorem C5 (h : uC ns ls ss q cover) {i : Nat} (hi : i < ls.length) : i ∈ ppL ns.length (ao ns ls):=by
 obtain ⟨_,hnd,hfull⟩:=rg h.pe
 have hel:=da ns ls
 have hie : i < (ao ns ls).length:=by omega
 obtain ⟨g1,_⟩:=jJ h.hv _ (List.getElem_mem hie)
 cases hx : fE (ao ns ls) (ao ns ls)[i].1 with
 | none=>exact absurd (List.mem_map_of_mem (List.getElem_mem hie)) (rV.1 hx)
 | some x =>
  obtain ⟨h1,h2,_⟩:=dK hx
  have:=qb hnd h1 hie h2
  subst this
  exact pK hfull g1 hx
theorem C6 (h : uC ns ls ss q cover) {i : Nat} (hi : i < (ppL ns.length (ao ns ls)).length) :
  i6 (ao ns ls) (ppL ns.length (ao ns ls)) (ppL ns.length (ao ns ls))[i]=-1 \/ ((i : Int) < i6 (ao ns ls) (ppL ns.length (ao ns ls)) (ppL ns.length (ao ns ls))[i] /\ i6 (ao ns ls) (ppL ns.length (ao ns ls)) (ppL ns.length (ao ns ls))[i] < (ppL ns.length (ao ns ls)).length):=by
 obtain ⟨_,hnd,hfull⟩:=rg h.pe
 have hg:=jJ h.hv
 have hr:=fun (u v : Nat) (he : (u,v) ∈ ao ns ls)=>wa hg hfull he
 have hpw:=C4 (es:=ao ns ls) (lF ns.length (ao ns ls))
 have hVl : ∀ l ∈ ppL ns.length (ao ns ls),l < (ao ns ls).length:=fun l hl=>kH hl
 have hlt:=hVl _ (List.getElem_mem hi)
 have hfu:=fun (v x : Nat) (h1 : v < ns.length) (h2 : fE (ao ns ls) v=some x)=>pK hfull h1 h2
 change (ppL ns.length (ao ns ls)).Pairwise _ at hpw
 generalize hV : ppL ns.length (ao ns ls)=V at *
 generalize ao ns ls=es at *
 generalize cl ns.length es=O at *
 unfold i6
 rw [List.getElem?_eq_getElem hlt]
 simp only [Option.getD_some]
 cases hx : fE es es[V[i]].2 with
 | none=>exact .inl rfl
 | some x =>
  right
  obtain ⟨h1,h2,_⟩:=dK hx
  have hxV:=hfu _ _ (hg _ (List.getElem_mem hlt)).2 hx
  have hk:=List.idxOf_lt_length_iff.2 hxV
  have hxk : V[V.idxOf x]=x:=List.getElem_idxOf hk
  have hrk:=(hr es[V[i]].1 es[V[i]].2 (List.getElem_mem hlt)).1
  simp only [qY,if_pos hxV]
  refine ⟨?_,by omega⟩
  apply Classical.byContradiction
  intro hle
  rcases Nat.lt_or_eq_of_le (show V.idxOf x <= i by omega) with h8 | h8
  ·have:=List.pairwise_iff_getElem.1 hpw _ _ hk hi h8
   rw [hxk,getElem!_pos es x h1,getElem!_pos es _ hlt,h2] at this
   omega
  ·have e : V[i]=x:=by rw [<- hxk];congr 1;omega
   have e2 : es[V[i]].1=es[V[i]].2:=by rw [<- h2];simp only [e]
   rw [e2] at hrk
   omega
theorem nJ (h : uC ns ls ss q cover) : al (bZ ns (ao ns ls) ls ss q cover (ppL ns.length (ao ns ls)))=true:=by
 obtain ⟨hnl,hll⟩:=ee h.hv
 have hkd:=mz h.pe
 have hb:=fun (i : Nat) hi=>C6 h (i:=i) hi
 have hok:=h.ok
 have hel:=da ns ls
 have hVl : (ppL ns.length (ao ns ls)).length <= 300:=Nat.le_trans (iY _ _) (Nat.le_trans (gl _ _) hnl)
 have hVlt : ∀ l ∈ ppL ns.length (ao ns ls),l < ls.length:=fun l hl=>by rw [<- hel];exact kH hl
 have hpl:=fun (i : Nat) (hi : i < ls.length)=>rh h.hv hkd hi
 have hql:=h.ql
 have hqr:=h.qr
 generalize ppL ns.length (ao ns ls)=V at *
 generalize ao ns ls=es at *
 have hpipe : ∀ i,i < V.length -> eG (bZ ns es ls ss q cover V) i=true:=by
  intro i hi
  have hl:=hVlt _ (List.getElem_mem hi)
  have h1:=hb i hi
  have h2:=hok _ (List.getElem_mem hi)
  obtain ⟨_,_,h3⟩:=hpl _ hl
  have h4:=hqr _ (List.getElem_mem (show V[i] < q.length by omega))
  simp only [iF,Bool.or_eq_false_iff,Bool.not_eq_false',Bool.and_eq_true,decide_eq_true_eq,decide_eq_false_iff_not] at h2
  have h5 : 0 <= pRm ns es ls cover V[i]:=by unfold pRm;split <;> omega
  have e1 : lnF ls V[i]=ls[V[i]].len:=by unfold lnF;rw [getElem!_pos ls _ hl]
  have e2 : qvF q V[i]=q[V[i]]:=by unfold qvF;rw [getElem!_pos q _ (by omega)]
  have g0 : (bZ ns es ls ss q cover V).below.l.length=V.length:=by simp [bZ]
  have g1 : (bZ ns es ls ss q cover V).below.l[i]! = i6 es V V[i]:=by
   show (V.map (i6 es V))[i]! = _
   rw [getElem!_pos _ i (by simpa using hi),List.getElem_map]
  have g2 : (bZ ns es ls ss q cover V).lengths.l[i]! = ls[V[i]].len:=by
   show (V.map (lnF ls))[i]! = _
   rw [getElem!_pos _ i (by simpa using hi),List.getElem_map,e1]
  have g3 : (bZ ns es ls ss q cover V).flows.l[i]! = q[V[i]]:=by
   show (V.map (qvF q))[i]! = _
   rw [getElem!_pos _ i (by simpa using hi),List.getElem_map,e2]
  have g4 : (bZ ns es ls ss q cover V).falls.l[i]! = pFa ls V[i]:=by
   show (V.map (pFa ls))[i]! = _
   rw [getElem!_pos _ i (by simpa using hi),List.getElem_map]
  have g5 : (bZ ns es ls ss q cover V).room.l[i]! = pRm ns es ls cover V[i]:=by
   show (V.map (pRm ns es ls cover))[i]! = _
   rw [getElem!_pos _ i (by simpa using hi),List.getElem_map]
  simp only [eG,fy,g0,g1,g2,g3,g4,g5]
  simp only [Bool.and_eq_true,Bool.or_eq_true,beq_iff_eq,decide_eq_true_eq]
  refine ⟨⟨⟨⟨h1,by omega⟩,by omega⟩,by omega⟩,by omega⟩
 simp only [al,Bool.and_eq_true,decide_eq_true_eq,List.all_eq_true,List.mem_range]
 refine ⟨⟨⟨⟨⟨⟨⟨?_,?_⟩,?_⟩,?_⟩,?_⟩,h.ss0⟩,h.hc⟩,fun i hi=>hpipe i (by simpa [bZ] using hi)⟩
 all_goals simp only [bZ,List.length_map]
 omega
end Go.Gv

set_option maxRecDepth 4000
namespace Go.Gv
theorem wb {l l' : List Int} (h : l.Perm l') : l.sum=l'.sum:=by
 induction h with
 | nil=>rfl
 | cons x _ ih=>simp only [List.sum_cons,ih]
 | swap x y l=>simp only [List.sum_cons];omega
 | trans _ _ h1 h2=>rw [h1,h2]
theorem uL (g : Nat -> Int) : ∀ n,S g n=((List.range n).map g).sum
 | 0=>rfl
 | n + 1=>by
  rw [List.range_succ,List.map_append,List.sum_append_int]
  simp only [S,List.map_cons,List.map_nil,List.sum_cons,List.sum_nil]
  rw [uL g n];omega
theorem tK (V : List Nat) : (List.range V.length).map (fun k=>V[k]!)=V:=by
 apply List.ext_getElem
 ·simp
 ·intro i h1 h2
  simp only [List.getElem_map,List.getElem_range]
  rw [getElem!_pos V i h2]
theorem Bg {V : List Nat} {m : Nat} (hn : V.Nodup) (hm : ∀ i,i ∈ V ↔ i < m) (g : Nat -> Int) : S (fun k=>g V[k]!) V.length=S g m:=by
 rw [uL,uL]
 have e : (List.range V.length).map (fun k=>g V[k]!)=V.map g:=by
  rw [show (fun k=>g V[k]!)=g ∘ (fun k=>V[k]!) from rfl,<- List.map_map,tK]
 rw [e]
 refine wb (List.Perm.map g ?_)
 rw [List.perm_ext_iff_of_nodup hn List.nodup_range]
 intro a
 rw [hm,List.mem_range]
def secN (ss : List Sec) (V : List Nat) (ch : List Int) (i : Nat) : List UInt8:=ss[(ch[V.idxOf i]!).toNat]!.name
theorem oE {ls : List Lnk} {ss : List Sec} {V : List Nat} {ch : List Int} (hn : V.Nodup) (hV : ∀ l ∈ V,l < ls.length) : ∀ k,k <= V.length -> ∀ i,i < ls.length -> (fa ls ss V ch k)[i]! = if i ∈ V.take k then iN ls[i]! (secN ss V ch i) else ls[i]!
 | 0,_,i,hi=>by simp [fa]
 | k + 1,hk,i,hi=>by
  have ih:=oE (ss:=ss) (ch:=ch) hn hV k (by omega)
  have hkV : k < V.length:=by omega
  have hVk:=hV _ (List.getElem_mem hkV)
  have hl:=fC ls ss V ch k
  rw [show fa ls ss V ch (k + 1)=(fa ls ss V ch k).set (V[k]!) (iN ((fa ls ss V ch k)[V[k]!]!) ss[(ch[k]!).toNat]!.name) from rfl]
  rw [getElem!_pos V k hkV,getElem!_pos _ i (by rw [List.length_set,hl];exact hi),List.getElem_set,List.take_succ_eq_append_getElem hkV]
  by_cases e : V[k]=i
  ·subst e
   have hnot : V[k] ∉ V.take k:=by
    intro hm
    obtain ⟨j,hj,hj2⟩:=List.getElem_of_mem hm
    rw [List.getElem_take] at hj2
    have:=(List.getElem_inj hn).1 hj2
    simp at hj
    omega
   have h1:=ih _ hVk
   rw [if_neg hnot] at h1
   rw [if_pos rfl,if_pos (List.mem_append.2 (.inr (List.mem_singleton.2 rfl))),h1]
   unfold secN
   rw [List.Nodup.idxOf_getElem hn k hkV]
  ·rw [if_neg e]
   have h1:=ih i hi
   rw [getElem!_pos _ i (by rw [hl];exact hi)] at h1
   rw [h1]
   have : (i ∈ V.take k++[V[k]]) ↔ i ∈ V.take k:=⟨fun hm=>by
    rcases List.mem_append.1 hm with hm | hm
    ·exact hm
    ·exact absurd (List.mem_singleton.1 hm).symm e,fun hm=>List.mem_append.2 (.inl hm)⟩
   simp only [this]
theorem tC {α β : Type} {p : α -> Bool} {p' : β -> Bool} {xs : List α} {ys : List β} (hl : xs.length=ys.length) (h : ∀ i (h1 : i < xs.length) (h2 : i < ys.length),p xs[i]=p' ys[i]) : cd p xs=cd p' ys:=by
 have : xs.findIdx? p=ys.findIdx? p':=by
  cases e : ys.findIdx? p' with
  | none =>
   rw [List.findIdx?_eq_none_iff] at e ⊢
   intro x hx
   obtain ⟨i,hi,rfl⟩:=List.getElem_of_mem hx
   rw [h i hi (by omega)]
   exact e _ (List.getElem_mem _)
  | some i =>
   rw [List.findIdx?_eq_some_iff_getElem] at e ⊢
   obtain ⟨h1,h2,h3⟩:=e
   refine ⟨by omega,by rw [h i (by omega) h1];exact h2,fun j hj=>?_⟩
   rw [h j (by omega) (by omega)]
   exact h3 j hj
 unfold cd
 rw [this]
theorem pt {l : Lnk} {nm : List UInt8} (h : cx l=true) (hk : l.kind=1) (hn : bN nm=true) : cx (iN l nm)=true:=by
 simp only [cx,fF,iD,jn,iN,hk,if_true,Bool.and_eq_true,decide_eq_true_eq,true_or] at h ⊢
 simp only [hn,and_true,true_and] at h ⊢
 exact ⟨⟨h.1.1,h.1.2⟩,h.2.1⟩
theorem qW {ns : List Nod} {ls T : List Lnk} {f : Nat -> List UInt8} (h : ce ns ls=true) (hk : ∀ i (h : i < ls.length),ls[i].kind=1) (hl : T.length=ls.length) (hT : ∀ i,i < ls.length -> T[i]! = iN ls[i]! (f i)) (hf : ∀ i,i < ls.length -> bN (f i)=true) : ce ns T=true:=by
 have hx : ∀ nm,cd (jN nm) T=cd (jN nm) ls:=fun nm=>tC hl fun i h1 h2=>by
  have:=hT i h2
  rw [getElem!_pos T i h1,getElem!_pos ls i h2] at this
  rw [this];rfl
 simp only [ce,Bool.and_eq_true,decide_eq_true_eq,List.all_eq_true,List.mem_range] at h ⊢
 refine ⟨⟨⟨h.1.1.1,by omega⟩,h.1.2⟩,fun i hi=>?_⟩
 have hi' : i < ls.length:=by omega
 have h1:=h.2 i hi'
 have h2:=hT i hi'
 have hk':=hk i hi'
 simp only [jg,h2,hx] at h1 ⊢
 simp only [Bool.and_eq_true] at h1 ⊢
 refine ⟨⟨⟨pt h1.1.1.1 (by rw [getElem!_pos ls i hi'];exact hk') (hf i hi'),h1.1.1.2⟩,h1.1.2⟩,h1.2⟩
theorem nZ {j : Job} {ch : List Int} (h : ig j ch=(true,-1,0)) : bU j ch=0 /\ ∀ i,i < j.below.l.length -> cO j i (iK j ch i)=true:=by
 unfold ig at h
 split at h
 ·cases h
 rename_i h1
 refine ⟨Classical.not_not.1 h1,fun i hi=>?_⟩
 split at h
 ·cases h
 ·rename_i h2
  have:=List.find?_eq_none.1 h2 i (List.mem_range.2 hi)
  simp only [uS,Bool.or_eq_true,Bool.not_eq_true',not_or,Bool.not_eq_false] at this
  exact this.1
structure Carry (ns : List Nod) (ls : List Lnk) (ss : List Sec) (q : List Int) (cover : Int) : Prop where
 jv : al (bZ ns (ao ns ls) ls ss q cover (ppL ns.length (ao ns ls)))=true
 pe : mC ns ls ss (bZ ns (ao ns ls) ls ss q cover (ppL ns.length (ao ns ls))) (cD (bZ ns (ao ns ls) ls ss q cover (ppL ns.length (ao ns ls))))=0
 ok : ∃ (T : List Lnk) (f : Nat -> Nat),iG ls ss (ppL ns.length (ao ns ls)) (cD (bZ ns (ao ns ls) ls ss q cover (ppL ns.length (ao ns ls)))) (ppL ns.length (ao ns ls)).length=T.map a8 /\ T.length=ls.length /\ ce ns T=true /\
  (∀ i (h : i < ls.length) (h' : i < T.length),∃ (hf : f i < ss.length),T[i]=iN ls[i] ss[f i].name /\ lU ss ss[f i].name=(((f i : Nat) : Int),0) /\ ((cJ ss[f i] (pFa ls i) ls[i].len).2=5 \/ ((cJ ss[f i] (pFa ls i) ls[i].len).2=0 /\ q[i]! <= (cJ ss[f i] (pFa ls i) ls[i].len).1))) /\
  dJ (bZ ns (ao ns ls) ls ss q cover (ppL ns.length (ao ns ls)))=S (fun i=>ls[i]!.len * ss[f i]!.price) ls.length
theorem uY {ns : List Nod} {ls : List Lnk} {ss : List Sec} {q : List Int} {cover : Int} (h : uC ns ls ss q cover) (hcst : dJ (bZ ns (ao ns ls) ls ss q cover (ppL ns.length (ao ns ls))) ≠ -1) : Carry ns ls ss q cover:=by
 have hj:=nJ h
 obtain ⟨b1,b2⟩:=xu hj hcst
 obtain ⟨b3,b4⟩:=nZ b1
 obtain ⟨c1,c2,c3⟩:=tc b3
 have b5 : rM (bZ ns (ao ns ls) ls ss q cover (ppL ns.length (ao ns ls))) (cD (bZ ns (ao ns ls) ls ss q cover (ppL ns.length (ao ns ls))))=dJ (bZ ns (ao ns ls) ls ss q cover (ppL ns.length (ao ns ls))):=by
  unfold qw at b2
  rw [if_neg (by rw [b3];simp)] at b2
  exact (Prod.mk.inj b2).1
 refine ⟨hj,?_,?_⟩
 ·unfold mC
  rw [if_neg (by simp [h.hv,h.hc,hj]),if_neg (by simp [h.pe]),if_neg,b3]
  have e1 : ppB ns.length (ao ns ls)=(bZ ns (ao ns ls) ls ss q cover (ppL ns.length (ao ns ls))).below.l:=rfl
  have e2 : dl ss (bZ ns (ao ns ls) ls ss q cover (ppL ns.length (ao ns ls))).secs=true:=lf ss
  rw [e2,e1]
  simp
 obtain ⟨hkd,hnd,hfull⟩:=rg h.pe
 have hall:=fun (i : Nat) (hi : i < ls.length)=>C5 h hi
 have hel:=da ns ls
 have hVn : (ppL ns.length (ao ns ls)).Nodup:=C3 (lF _ _)
 have hVlt : ∀ l ∈ ppL ns.length (ao ns ls),l < ls.length:=fun l hl=>by rw [<- hel];exact kH hl
 have hnm : (ss.map (·.name)).Nodup:=by
  have:=h.hc
  simp only [aH,Bool.and_eq_true,decide_eq_true_eq] at this
  exact this.2
 have hsv : ∀ s (hs : s < ss.length),bN ss[s].name=true:=fun s hs=>by
  have:=h.hc
  simp only [aH,Bool.and_eq_true,decide_eq_true_eq,List.all_eq_true] at this
  have:=this.1.2 _ (List.getElem_mem hs)
  simp only [aN,Bool.and_eq_true] at this
  exact this.1.1.1.1.1.1
 have hql:=h.ql
 have hcat:=h.hc
 generalize hVd : ppL ns.length (ao ns ls)=V at *
 generalize ao ns ls=es at *
 have hbl : (bZ ns es ls ss q cover V).below.l.length=V.length:=by simp [bZ]
 have hsl : (bZ ns es ls ss q cover V).secs=ss:=rfl
 have j1 : ∀ k (hk : k < V.length),(bZ ns es ls ss q cover V).lengths.l[k]! = (ls[V[k]]'(hVlt _ (List.getElem_mem hk))).len:=fun k hk=>by
  show (V.map (lnF ls))[k]! = _
  rw [getElem!_pos _ k (by simpa using hk),List.getElem_map]
  unfold lnF
  rw [getElem!_pos ls _ (hVlt _ (List.getElem_mem hk))]
 have j2 : ∀ k (hk : k < V.length),(bZ ns es ls ss q cover V).flows.l[k]! = q[V[k]]!:=fun k hk=>by
  show (V.map (qvF q))[k]! = _
  rw [getElem!_pos _ k (by simpa using hk),List.getElem_map];rfl
 have j3 : ∀ k (hk : k < V.length),(bZ ns es ls ss q cover V).falls.l[k]! = pFa ls V[k]:=fun k hk=>by
  show (V.map (pFa ls))[k]! = _
  rw [getElem!_pos _ k (by simpa using hk),List.getElem_map]
 generalize cD (bZ ns es ls ss q cover V)=ch at *
 obtain ⟨f,hf⟩ : ∃ f : Nat -> Nat,∀ i,f i=(ch[V.idxOf i]!).toNat:=⟨_,fun _=>rfl⟩
 have hfi : ∀ i,i < ls.length -> ∃ k,∃ hk : k < V.length,V[k]=i /\ V.idxOf i=k /\ f i < ss.length /\ iK (bZ ns es ls ss q cover V) ch k=f i:=by
  intro i hi
  have hm:=hall i hi
  have hk:=List.idxOf_lt_length_iff.2 hm
  obtain ⟨s,d1,d2,d3⟩:=c3 (V.idxOf i) (by rw [hbl];exact hk)
  refine ⟨V.idxOf i,hk,List.getElem_idxOf hk,rfl,?_,?_⟩
  ·rw [hf,d1,Int.toNat_natCast];exact d2
  ·rw [d3,hf,d1];simp
 refine ⟨fa ls ss V ch V.length,f,rfl,fC _ _ _ _ _,?_,?_,?_⟩
 ·refine qW (f:=secN ss V ch) h.hv hkd (fC _ _ _ _ _) (fun i hi=>?_) (fun i hi=>?_)
  ·rw [oE hVn hVlt V.length (Nat.le_refl _) i hi,List.take_length,if_pos (hall i hi)]
  ·obtain ⟨k,hk,e1,e2,e3,e4⟩:=hfi i hi
   unfold secN
   rw [<- hf,getElem!_pos ss _ e3]
   exact hsv _ e3
 ·intro i hi hi'
  obtain ⟨k,hk,e1,e2,e3,e4⟩:=hfi i hi
  refine ⟨e3,?_,?_,?_⟩
  ·have:=oE (ss:=ss) (ch:=ch) hVn hVlt V.length (Nat.le_refl _) i hi
   rw [List.take_length,if_pos (hall i hi),getElem!_pos _ i hi',getElem!_pos ls i hi] at this
   rw [this]
   unfold secN
   rw [<- hf,getElem!_pos ss _ e3]
  ·have hidx : m8 ss ss[f i].name=((f i : Nat) : Int):=by
    unfold m8
    refine dA (fun j hj hji=>?_) e3 (by simp [dZ])
    have:=List.pairwise_iff_getElem.1 hnm j (f i) (by simpa using hj) (by simpa using e3) hji
    simpa [dZ] using this
   unfold lU
   rw [if_pos hcat,hidx,if_pos (by omega)]
  ·have hp:=b4 k (by rw [hbl];exact hk)
   subst e1
   rw [e4] at hp
   simp only [cO,hsl,j1 k hk,j2 k hk,j3 k hk,Bool.and_eq_true,Bool.or_eq_true,beq_iff_eq,decide_eq_true_eq] at hp
   rw [getElem!_pos ss _ e3] at hp
   exact hp.1
 ·rw [<- b5]
  unfold rM
  rw [hbl,<- Bg hVn (fun i=>⟨fun hm=>hVlt i hm,fun hi=>hall i hi⟩)]
  refine jA _ fun k hk=>?_
  have hl:=hVlt _ (List.getElem_mem hk)
  obtain ⟨k',hk',e1,e2,e3,e4⟩:=hfi V[k] hl
  have : k'=k:=(List.getElem_inj hVn).1 e1
  subst this
  simp only [mq]
  rw [getElem!_pos V k' hk,j1 k' hk,e4,hsl,getElem!_pos ls _ hl]
end Go.Gv

set_option maxRecDepth 4000
namespace Go.Gv
theorem zP {g : Nat -> Int} {B : Int} : ∀ n,(∀ a,a < n -> 0 <= g a /\ g a <= B) -> 0 <= S g n /\ S g n <= n * B
 | 0,_=>by simp [S]
 | n + 1,h=>by
  have h1:=zP n (fun a ha=>h a (by omega))
  have h2:=h n (by omega)
  simp only [S]
  have : ((n + 1 : Nat) : Int) * B=(n : Int) * B + B:=by rw [Int.natCast_add,Int.add_mul];simp
  omega
theorem wg (ns : List Nod) (es : List Edg) (ls : List Lnk) (ss : List Sec) (q : List Int) (cover : Int) (V : List Nat) : dc (bZ ns es ls ss q cover V)=[.sl (cS (V.map (i6 es V))),.sl (cS (V.map (lnF ls))),.sl (cS (V.map (qvF q))),.sl (cS (V.map (pFa ls))),.sl (cS (V.map (pRm ns es ls cover))),.sl (ss.map a7)]:=by
 unfold bZ dc slI
 simp only [gr];rfl
variable {C : CC} (hC : aj prog C)
include hC
set_option maxHeartbeats 2000000 in
theorem ll (hS : SlC C) (hL : oS C) (hP : xn C) (b1 b2 : Bool) (ns : List Nod) (ls : List Lnk) (hn : ns.length < 2 ^ 62) (hl : ls.length < 2 ^ 62) (hcv : ∀ l ∈ ls,l.curve.length < 2 ^ 62) (b3 : Bool) (ss : List Sec) (hs : ss.length < 2 ^ 62) (b4 : Bool) (q : List Int) (hq : q.length < 2 ^ 62) (cover : Int) :
  C 534 [.agg [slx b1 (ns.map bI),slx b2 (ls.map a8)],slx b3 (ss.map a7),slx b4 (q.map fun n=>[.int .i64 n]),.int .i64 cover] (.bool true) []:=by
 have k0:=xt hC
 have k1:=Dx hC b1 b2 ns ls hn hl
 have k2:=Ct hC b3 ss
 have k7:=yt hC
 refine au hC (nf:=N534) rfl rfl ?_
 simp [N534]
 refine aa k0 (.inl rfl) ?_
 simp
 refine aa k1 (.inl rfl) ?_
 by_cases w1 : j7 ns ls=true
 ·rw [w1];simp
 rw [Bool.not_eq_true] at w1
 rw [w1]
 simp
 refine aa k2 (.inl rfl) ?_
 by_cases w2 : mf ss=true
 ·rw [w2];simp
 rw [Bool.not_eq_true] at w2
 rw [w2]
 simp
 by_cases w4 : (20 : Int) < (q.length : Int)
 ·simp [w4]
 simp [w4]
 obtain ⟨sh1,sh2⟩:=zH w1
 obtain ⟨tb1,tb2⟩:=yf w2
 have hl12 : ls.length <= 12:=by
  simp only [j7,Bool.or_eq_false_iff,decide_eq_false_iff_not] at w1;omega
 have p1:=sJ hC hS hL b1 b2 b3 b4 ns ls ss q cover hcv (fun s h=>by have:=tb2 s h;omega) hq
 by_cases hE : prE ns ls ss q cover=0
 ·have hok:=yC hE
  have eJ : prJ ns ls ss q cover=bZ ns (ao ns ls) ls ss q cover (ppL ns.length (ao ns ls)):=by unfold prJ;rw [if_pos hE]
  have hjv:=nJ hok
  rw [hE,eJ] at p1
  have p2:=nW hC (bZ ns (ao ns ls) ls ss q cover (ppL ns.length (ao ns ls)))
  have hql:=hok.ql
  have hkd:=mz hok.pe
  have hpl:=fun (i : Nat) (hi : i < ls.length)=>rh hok.hv hkd hi
  have hcat:=hok.hc
  rw [wg] at p1 p2
  refine aa p1 (.inr rfl) ?_
  simp
  refine aa p2 (.inr rfl) ?_
  by_cases hcst : dJ (bZ ns (ao ns ls) ls ss q cover (ppL ns.length (ao ns ls)))=-1
  ·have e1 : eM (bZ ns (ao ns ls) ls ss q cover (ppL ns.length (ao ns ls)))=(0,(true,[]),28):=by unfold eM;rw [if_pos hjv,if_pos hcst]
   rw [e1]
   simp [md]
  have e1 : eM (bZ ns (ao ns ls) ls ss q cover (ppL ns.length (ao ns ls)))=(dJ (bZ ns (ao ns ls) ls ss q cover (ppL ns.length (ao ns ls))),(false,cD (bZ ns (ao ns ls) ls ss q cover (ppL ns.length (ao ns ls)))),0):=by unfold eM;rw [if_pos hjv,if_neg hcst]
  obtain ⟨_,r1,T,f,r2,r3,r4,r5,r6⟩:=uY hok hcst
  have hchl : (cD (bZ ns (ao ns ls) ls ss q cover (ppL ns.length (ao ns ls)))).length < 2 ^ 62:=by
   have:=(ee hok.hv).1
   have h2 : (ppL ns.length (ao ns ls)).length <= 300:=Nat.le_trans (iY _ _) (Nat.le_trans (gl _ _) this)
   simp [cD,bZ];omega
  have p3:=GD hC hS hL hP b1 b2 b3 false ns ls ss (bZ ns (ao ns ls) ls ss q cover (ppL ns.length (ao ns ls))) (cD (bZ ns (ao ns ls) ls ss q cover (ppL ns.length (ao ns ls)))) (fun l h=>by have:=sh2 l h;omega) (fun n h=>by have:=sh1 n h;omega) (fun s h=>by have:=tb2 s h;omega) (fun s h=>by have:=tb2 s h;omega) hchl
  have e2 : tY ns ls ss (bZ ns (ao ns ls) ls ss q cover (ppL ns.length (ao ns ls))) (cD (bZ ns (ao ns ls) ls ss q cover (ppL ns.length (ao ns ls))))=.agg [.sl (ns.map bI),.sl (T.map a8)]:=by unfold tY;rw [if_pos r1,r2]
  rw [e2,r1,wg] at p3
  rw [e1]
  generalize dJ (bZ ns (ao ns ls) ls ss q cover (ppL ns.length (ao ns ls)))=cst at *
  generalize cD (bZ ns (ao ns ls) ls ss q cover (ppL ns.length (ao ns ls)))=ch at *
  have p4:=jO hC false false ns T (fun l hl=>by
   obtain ⟨i,hi,rfl⟩:=List.getElem_of_mem hl
   obtain ⟨hf,e,_⟩:=r5 i (by omega) hi
   rw [e]
   exact hcv ls[i] (List.getElem_mem _))
  rw [r4] at p4
  simp [md]
  simp at p3 p4
  refine aa p3 (.inr rfl) ?_
  simp
  refine aa p4 (.inl rfl) ?_
  have hlen : (T.length : Int)=(q.length : Int):=by omega
  simp [hlen]
  have hg : ∀ a,a < ls.length -> 0 <= ls[a]!.len * ss[f a]!.price /\ ls[a]!.len * ss[f a]!.price <= 18014398509481984:=by
   intro a ha
   obtain ⟨hf,_⟩:=r5 a ha (by omega)
   rw [getElem!_pos ls a ha,getElem!_pos ss _ hf]
   obtain ⟨_,_,g1⟩:=hpl a ha
   have g2 : 0 <= ss[f a].price /\ ss[f a].price <= 1073741824:=by
    simp only [aH,Bool.and_eq_true,decide_eq_true_eq,List.all_eq_true] at hcat
    have:=hcat.1.2 _ (List.getElem_mem hf)
    simp only [aN,Bool.and_eq_true,decide_eq_true_eq] at this
    exact ⟨this.1.1.1.2,this.1.1.2⟩
   refine ⟨Int.mul_nonneg (by omega) g2.1,?_⟩
   have:=Int.mul_le_mul g1.2 g2.2 g2.1 (by omega : (0 : Int) <= 16777216)
   omega
  generalize hgd : (fun i=>ls[i]!.len * ss[f i]!.price)=g at *
  have hg' : ∀ a,a < ls.length -> 0 <= g a /\ g a <= 18014398509481984:=fun a ha=>by rw [<- hgd];exact hg a ha
  have hTl : T.length=ls.length:=r3
  rw [<- hlen]
  refine ay Nat (fun i=>[(1,slx b3 (ss.map a7)),(2,slx b4 (q.map fun n=>[.int .i64 n])),(11,.int .i64 cst),(16,.int .i64 (S g i)),(86,.sl (T.map a8)),(87,.int .i64 T.length),(88,.int .i64 i)]) (fun i=>i <= ls.length) (fun i=>ls.length - i) 0 (by simp) (by simp [S]) ?_
  intro i hi
  simp
  by_cases h : i < ls.length
  ·have hT : i < T.length:=by omega
   have hqi : i < q.length:=by omega
   have hT' : (i : Int) < (T.length : Int):=by omega
   obtain ⟨hf,e3,e4,e5⟩:=r5 i h hT
   obtain ⟨g0,g1,g2⟩:=hpl i h
   have kf:=Ba hC b3 ss ss[f i].name
   rw [e4] at kf
   have ku:=uz hC ss[f i] (pFa ls i) ls[i].len
   have hfa : pFa ls i=ls[i].up - ls[i].down:=by unfold pFa;rw [getElem!_pos ls i h]
   have hwf : IntKind.wrap .i64 (ls[i].up - ls[i].down)=pFa ls i:=ai hfa.symm (by omega)
   have hgi:=hg' i h
   have hge : ls[i].len * ss[f i].price=g i:=by
    rw [<- hgd]
    show _=ls[i]!.len * ss[f i]!.price
    rw [getElem!_pos ls i h,getElem!_pos ss (f i) hf]
   have hS:=zP i (fun a ha=>hg' a (by omega))
   have hwm : IntKind.wrap .i64 (ls[i].len * ss[f i].price)=g i:=ai hge (by omega)
   have hS1 : S g (i + 1)=S g i + g i:=rfl
   have hwa : IntKind.wrap .i64 (S g i + g i)=S g (i + 1):=ai hS1.symm (by omega)
   have hw : IntKind.wrap .i64 ((i : Int) + 1)=((i + 1 : Nat) : Int):=ai (by omega) (by omega)
   rw [getElem!_pos q i hqi] at e5
   simp only [a7] at ku
   simp [hT',hT,e3,iN,a8,iV]
   refine aa kf (.inr rfl) ?_
   have hf' : (f i : Int) < (ss.length : Int):=by omega
   have hfn : ¬ (f i : Int) < 0:=by omega
   have hfl : ¬ ss.length <= f i:=by omega
   simp [hf',hfn,hfl,hf,a7,hwf]
   refine aa ku (.inr rfl) ?_
   obtain ⟨fc,hfc⟩ : ∃ x,x=cJ ss[f i] (pFa ls i) ls[i].len:=⟨_,rfl⟩
   rw [<- hfc] at e5 ⊢
   rcases e5 with e5 | ⟨e5,e6⟩
   ·simp [e5]
    refine ⟨aA (by decide +kernel),?_⟩
    simp [hf,a7,hwm,hwa]
    exact ⟨aA (by decide +kernel),i + 1,by omega,by omega,rfl,hw⟩
   ·have e7 : ¬ fc.1 < q[i]:=by omega
    simp [e5,hqi,e7]
    refine ⟨aA (by decide +kernel),?_⟩
    simp [hf,a7,hwm,hwa]
    exact ⟨aA (by decide +kernel),i + 1,by omega,by omega,rfl,hw⟩
  ·have ei : i=ls.length:=by omega
   subst ei
   have hT' : ¬ (ls.length : Int) < (T.length : Int):=by omega
   have hT2 : ¬ ls.length < T.length:=by omega
   simp [hT',hT2,r6]
 ·have hS1 : dc (prJ ns ls ss q cover)=[.nils,.nils,.nils,.nils,.nils,.nils]:=by unfold prJ;rw [if_neg hE];exact qO
  rw [hS1] at p1
  refine aa p1 (.inr rfl) ?_
  simp [hE]
  refine aa k7 (.inl rfl) ?_
  simp
end Go.Gv
