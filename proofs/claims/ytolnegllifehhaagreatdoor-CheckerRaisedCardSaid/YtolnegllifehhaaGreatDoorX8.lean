/-
  Texts of the proof: A10, A14, A16, A17, A11, A18, A12, A20, A23, Q35, A24, A25, H8, I1, V1, Z1, Z2, V2, Z3, H1, H2, H3, H4, H5, H6, H10, H7, H9, H11, H12, V3, V4, Z4, Z5, Z6, I3, Z7, Z8, A13, A26, A27, GvX3.
-/
import Derived.Test.YtolnegllifehhaaGreatDoorX7
import Derived.Test.YtolnegllifehhaaGreatDoorX6
set_option linter.all false
set_option maxRecDepth 4000
namespace Go.Gv
def edG (es : List Edg) (i : Nat) : Edg:=es[i]?.getD (0,0)
def lnG (ls : List Lnk) (i : Nat) : Lnk:=ls[i]?.getD ⟨[],[],[],0,0,0,0,[],0,0,true,[]⟩
def lZ (ns : List Nod) (i : Nat) : Nod:=ns[i]?.getD ⟨[],0,0,0,0,0,true,[],false,0⟩
theorem me {es : List Edg} {i : Nat} (h : i < es.length) : edG es i=es[i]:=by simp [edG,h]
theorem jm {ls : List Lnk} {i : Nat} (h : i < ls.length) : lnG ls i=ls[i]:=by simp [lnG,h]
theorem gK {ns : List Nod} {i : Nat} (h : i < ns.length) : lZ ns i=ns[i]:=by simp [lZ,h]
def jT (k : Lnk) (a b : Nod) : Bool:=if k.kind=4 then decide (k.down < a.invert) else decide (k.up < a.invert) || (decide (k.kind=1) && decide (k.down < b.invert))
def jS (k : Lnk) (a b : Nod) (h : Int) (known : Bool) : Bool :=
 if k.kind=1 then known && (decide (a.ground < IntKind.wrap .i64 (k.up + h)) || decide (b.ground < IntKind.wrap .i64 (k.down + h)))
 else if k.kind=3 then decide (a.ground < IntKind.wrap .i64 (k.up + k.height)) else decide (a.ground < k.up)
def mY (es : List Edg) (l : List Sec) (ls : List Lnk) (i j : Nat) : List Fnd:=one (decide ((edG es j).2=(edG es i).1) && decide (hgF l (lnG ls i) < hgF l (lnG ls j))) (7,gJ ls i)
def iB (ns : List Nod) (es : List Edg) (l : List Sec) (ls : List Lnk) (i : Nat) : List Fnd :=
 one (jT (lnG ls i) (lZ ns (edG es i).1) (lZ ns (edG es i).2)) (4,gJ ls i)++one (jS (lnG ls i) (lZ ns (edG es i).1) (lZ ns (edG es i).2) (hgF l (lnG ls i)) (decide (0 <= hgF l (lnG ls i)))) (5,gJ ls i) ++
 one (decide ((lnG ls i).kind=1) && decide (hgF l (lnG ls i) < 0)) (6,gJ ls i)++(if hgF l (lnG ls i) < 0 then [] else bL (mY es l ls i) ls.length)
theorem qu (es : List Edg) (l : List Sec) (ls : List Lnk) (i j : Nat) : (mY es l ls i j).length <= 1:=eG _ _
theorem qd (ns : List Nod) (es : List Edg) (l : List Sec) (ls : List Lnk) (i : Nat) : (iB ns es l ls i).length <= 3 + ls.length:=by
 unfold iB
 have:=eG (jT (lnG ls i) (lZ ns (edG es i).1) (lZ ns (edG es i).2)) ((4,gJ ls i) : Fnd)
 have:=eG (jS (lnG ls i) (lZ ns (edG es i).1) (lZ ns (edG es i).2) (hgF l (lnG ls i)) (decide (0 <= hgF l (lnG ls i)))) ((5,gJ ls i) : Fnd)
 have:=eG (decide ((lnG ls i).kind=1) && decide (hgF l (lnG ls i) < 0)) ((6,gJ ls i) : Fnd)
 have h4 : (if hgF l (lnG ls i) < 0 then [] else bL (mY es l ls i) ls.length).length <= ls.length:=by
  split
  ·simp
  ·have:=cC (qu es l ls i) ls.length;omega
 simp only [List.length_append];omega
noncomputable def lu (ns : List Nod) (ls : List Lnk) (l : List Sec) : List Fnd:=bL (iB ns (cB ns ls) l ls) ls.length
def pe : cy:=match N589.body with
 | .seq _ (.seq _ (.seq _ (.seq _ (.block _ (.loop (.seq _ (.seq _ (.seq (.block _ (.seq _ (.seq _ (.seq _ (.seq _ t))))) _))))))))=>t
 | _=>.skip
def sY : cy:=match pe with
 | .seq _ (.seq _ (.seq _ (.seq _ t)))=>t
 | _=>.skip
variable {C : CC} (hC : aj prog C)
include hC
set_option maxHeartbeats 4000000 in
theorem xh (b1 b2 b3 : Bool) (ns : List Nod) (ls : List Lnk) (l : List Sec) (hv : bq ns ls=true) (hcv : ∀ l ∈ ls,l.curve.length < 2 ^ 62) (hll : l.length <= 40) (L : List Fnd) (hL : L.length < 2 ^ 30) : C 589 [.blk 1 [[.own 2 (aX L)]],.agg [slx b1 (ns.map aQ),slx b2 (ls.map aD)],slx b3 (l.map dS)] (.tup []) [.blk 1 [[.own 2 (aX (L++lu ns ls l))]]]:=by
 have hn:=(cF hv).1
 have hl:=(cF hv).2
 have hg:=mf hv
 have hel:=fR ns ls
 have k1:=uh hC b1 b2 b3 ns ls l hl hll
 have k2:=rn hC b1 b2 ns ls hv hcv
 have k4:=vF hC
 have hknd : ∀ (i : Nat) (h : i < ls.length),ls[i].kind=1 \/ ls[i].kind=2 \/ ls[i].kind=3 \/ ls[i].kind=4:=fun i h=>by
  have h0:=(jp hv h).1
  simp only [di,Bool.and_eq_true] at h0
  have h1:=h0.2
  unfold jR at h1
  by_cases e1 : ls[i].kind=1
  ·exact .inl e1
  by_cases e2 : ls[i].kind=2
  ·exact .inr (.inl e2)
  by_cases e3 : ls[i].kind=3
  ·exact .inr (.inr (.inl e3))
  by_cases e4 : ls[i].kind=4
  ·exact .inr (.inr (.inr e4))
  simp [e1,e2,e3,e4] at h1
 unfold lu
 generalize cB ns ls=es at *
 obtain ⟨T,hT⟩ : ∃ T,T=pe:=⟨_,rfl⟩
 obtain ⟨T7,hT7⟩ : ∃ T,T=sY:=⟨_,rfl⟩
 simp [sY,pe,N589] at hT7
 simp [pe,N589] at hT
 have tail7 : ∀ (j : Nat) (h : j < ls.length) (Q : bX -> Env -> Prop) (kd : Int) (M1 M' : List Fnd),M1.length <= 2 ^ 31 + 2 ->
   M'=M1++bL (mY es l ls j) ls.length ->
   (bC Q ⟨⟩ .nrm [(0,.adr (.r 10015) 0 0),(4,.ptr [slx b1 (ns.map aQ),slx b2 (ls.map aD)]),(6,.sl (hgA l ls)),(7,.sl (es.map edK)),(8,.int .i64 j),(9,.adr (.r 10144) 0 0),(21,slx b2 (ls.map aD)),(22,.int .i64 ls.length),(23,.int .i64 j),(161,.int .i64 ls.length),(162,.int .i64 ls.length),(163,.bool false),(10015,.blk 1 [[.own 2 (aX M')]]),(10144,.blk 11 [[.str ls[j].name,.str ls[j].src,.str ls[j].dst,.int .i64 kd,.int .i64 ls[j].len,.int .i64 ls[j].up,.int .i64 ls[j].down,.str ls[j].sect,.int .i64 ls[j].width,.int .i64 ls[j].height,slx ls[j].curveN (ls[j].curve.map knD)]])]) ->
   wN C T7 Q ⟨⟩ [(0,.adr (.r 10015) 0 0),(4,.ptr [slx b1 (ns.map aQ),slx b2 (ls.map aD)]),(6,.sl (hgA l ls)),(7,.sl (es.map edK)),(8,.int .i64 j),(9,.adr (.r 10144) 0 0),(21,slx b2 (ls.map aD)),(22,.int .i64 ls.length),(23,.int .i64 j),(158,.bool false),(10015,.blk 1 [[.own 2 (aX M1)]]),(10144,.blk 11 [[.str ls[j].name,.str ls[j].src,.str ls[j].dst,.int .i64 kd,.int .i64 ls[j].len,.int .i64 ls[j].up,.int .i64 ls[j].down,.str ls[j].sect,.int .i64 ls[j].width,.int .i64 ls[j].height,slx ls[j].curveN (ls[j].curve.map knD)]])]:=by
  intro j h Q kd M1 M' hM1l hM' hQ
  have hgj:=mg l h
  have hje : j < es.length:=by omega
  rw [hT7]
  simp
  refine ar Nat (fun k=>[(0,.adr (.r 10015) 0 0),(4,.ptr [slx b1 (ns.map aQ),slx b2 (ls.map aD)]),(6,.sl (hgA l ls)),(7,.sl (es.map edK)),(8,.int .i64 j),(9,.adr (.r 10144) 0 0),(21,slx b2 (ls.map aD)),(22,.int .i64 ls.length),(23,.int .i64 j),(161,.int .i64 ls.length),(162,.int .i64 k),(10015,.blk 1 [[.own 2 (aX (M1++bL (mY es l ls j) k))]]),(10144,.blk 11 [[.str ls[j].name,.str ls[j].src,.str ls[j].dst,.int .i64 kd,.int .i64 ls[j].len,.int .i64 ls[j].up,.int .i64 ls[j].down,.str ls[j].sect,.int .i64 ls[j].width,.int .i64 ls[j].height,slx ls[j].curveN (ls[j].curve.map knD)]])]) (fun k=>k <= ls.length) (fun k=>ls.length - k) 0 (by simp) (by simp [fS]) ?_
  intro k hk
  simp
  refine ac (fun h8=>?_) (fun h8=>?_) <;> simp at h8
  ·have hke : k < es.length:=by omega
   have hw8 : IntKind.wrap .i64 ((k : Int) + 1)=((k + 1 : Nat) : Int):=ah (by omega) (by omega)
   have hfk:=eX (mY es l ls j) k
   have hsk : mY es l ls j k=one (decide (es[k].2=es[j].1) && decide (hgF l ls[j] < hgF l ls[k])) (7,ls[j].name):=by unfold mY;rw [lp h,me hje,me hke,jm h,jm h8]
   have hlk:=cC (qu es l ls j) k
   rw [hsk] at hfk
   have hgk:=mg l h8
   simp [h8,hke,hje,edK,knD,bj,h]
   by_cases c1 : es[k].2=es[j].1
   ·simp [c1,h8,h,hke,hje,edK,knD,bj,au hgj,au hgk]
    refine ⟨am (by decide +kernel),?_⟩
    refine ac (fun c2=>?_) (fun c2=>?_)
    ·rw [c2]
     simp at c2
     simp [c2]
     refine bY (k4 _ 7 _ (by (try simp only [List.length_append,List.length_cons,List.length_nil]);omega)) (by simp) ?_
     simp [hw8]
     exact ⟨k + 1,by omega,by omega,by omega,by rw [hfk];simp [one,c1,c2]⟩
    ·rw [c2]
     simp at c2
     simp [c2,hw8]
     exact ⟨k + 1,by omega,by omega,by omega,by rw [hfk];simp [one,c1,Int.not_lt.2 c2]⟩
   ·have c1' : ¬ (es[k].2 : Int)=es[j].1:=by omega
    simp [c1,c1',hw8]
    exact ⟨am (by decide +kernel),k + 1,by omega,by omega,by omega,by rw [hfk];simp [one,c1]⟩
  ·have ek : k=ls.length:=by omega
   subst ek
   simp [h8]
   subst hM'
   simpa using hQ
 have tail : ∀ (lo hi : Bool) (j : Nat) (h : j < ls.length) (Q : bX -> Env -> Prop) (kd : Int) (M M' : List Fnd),M.length <= 2 ^ 31 ->
   M'=M++one lo (4,ls[j].name)++one hi (5,ls[j].name)++one (decide (kd=1) && decide (hgF l ls[j] < 0)) (6,ls[j].name)++(if hgF l ls[j] < 0 then [] else bL (mY es l ls j) ls.length) ->
   (bC Q ⟨⟩ .nrm [(0,.adr (.r 10015) 0 0),(4,.ptr [slx b1 (ns.map aQ),slx b2 (ls.map aD)]),(6,.sl (hgA l ls)),(7,.sl (es.map edK)),(8,.int .i64 j),(9,.adr (.r 10144) 0 0),(21,slx b2 (ls.map aD)),(22,.int .i64 ls.length),(23,.int .i64 j),(161,.int .i64 ls.length),(162,.int .i64 ls.length),(163,.bool false),(10015,.blk 1 [[.own 2 (aX M')]]),(10144,.blk 11 [[.str ls[j].name,.str ls[j].src,.str ls[j].dst,.int .i64 kd,.int .i64 ls[j].len,.int .i64 ls[j].up,.int .i64 ls[j].down,.str ls[j].sect,.int .i64 ls[j].width,.int .i64 ls[j].height,slx ls[j].curveN (ls[j].curve.map knD)]])]) ->
   (bC Q ⟨⟩ (.ext 1) [(0,.adr (.r 10015) 0 0),(4,.ptr [slx b1 (ns.map aQ),slx b2 (ls.map aD)]),(6,.sl (hgA l ls)),(7,.sl (es.map edK)),(8,.int .i64 j),(9,.adr (.r 10144) 0 0),(21,slx b2 (ls.map aD)),(22,.int .i64 ls.length),(23,.int .i64 j),(158,.bool true),(10015,.blk 1 [[.own 2 (aX M')]]),(10144,.blk 11 [[.str ls[j].name,.str ls[j].src,.str ls[j].dst,.int .i64 kd,.int .i64 ls[j].len,.int .i64 ls[j].up,.int .i64 ls[j].down,.str ls[j].sect,.int .i64 ls[j].width,.int .i64 ls[j].height,slx ls[j].curveN (ls[j].curve.map knD)]])]) ->
   wN C T Q ⟨⟩ [(0,.adr (.r 10015) 0 0),(4,.ptr [slx b1 (ns.map aQ),slx b2 (ls.map aD)]),(6,.sl (hgA l ls)),(7,.sl (es.map edK)),(8,.int .i64 j),(9,.adr (.r 10144) 0 0),(12,.bool lo),(13,.bool hi),(21,slx b2 (ls.map aD)),(22,.int .i64 ls.length),(23,.int .i64 j),(10015,.blk 1 [[.own 2 (aX M)]]),(10144,.blk 11 [[.str ls[j].name,.str ls[j].src,.str ls[j].dst,.int .i64 kd,.int .i64 ls[j].len,.int .i64 ls[j].up,.int .i64 ls[j].down,.str ls[j].sect,.int .i64 ls[j].width,.int .i64 ls[j].height,slx ls[j].curveN (ls[j].curve.map knD)]])]:=by
  intro lo hi j h Q kd M M' hM hM' hQ hX
  have hgj:=mg l h
  have hje : j < es.length:=by omega
  obtain ⟨M1,hM1⟩ : ∃ M1,M1=M++one lo (4,ls[j].name)++one hi (5,ls[j].name):=⟨_,rfl⟩
  have hM1l : M1.length <= 2 ^ 31 + 2:=by
   rw [hM1]
   have:=eG lo ((4,ls[j].name) : Fnd)
   have:=eG hi ((5,ls[j].name) : Fnd)
   simp only [List.length_append];omega
  rw [hT,<- hT7]
  simp
  refine ac (fun q1=>?_) (fun q1=>?_)
  ·simp [q1]
   refine bY (k4 _ 4 _ (by (try simp only [List.length_append,List.length_cons,List.length_nil]);omega)) (by simp) ?_
   simp
   refine ac (fun q2=>?_) (fun q2=>?_)
   ·simp [q2]
    refine bY (k4 _ 5 _ (by (try simp only [List.length_append,List.length_cons,List.length_nil]);omega)) (by simp) ?_
    simp
    by_cases q3 : kd=1
    ·simp [q3,h,bj,au hgj]
     by_cases q4 : hgF l ls[j] < 0
     ·simp [q4]
      refine bY (k4 _ 6 _ (by (try simp only [List.length_append,List.length_cons,List.length_nil]);omega)) (by simp) ?_
      simp [h,bj,au hgj,q4]
      subst hM'
      simpa [one,q3,q4,q1,q2] using hX
     ·simp [q4,h,bj,au hgj]
      refine tail7 j h _ kd M1 M' hM1l (by rw [hM',hM1];simp [one,q3,q4]) (by simpa [q3] using hQ) |> fun x=>?_
      simpa [hM1,one,q1,q2,q3,q4] using x
    ·simp [q3,h,bj,au hgj]
     by_cases q4 : hgF l ls[j] < 0
     ·simp [q4];subst hM';simpa [one,q3,q4,q1,q2] using hX
     ·simp [q4]
      refine tail7 j h _ kd M1 M' hM1l (by rw [hM',hM1];simp [one,q3,q4]) (by simpa [q3] using hQ) |> fun x=>?_
      simpa [hM1,one,q1,q2,q3,q4] using x
   ·simp [q2]
    by_cases q3 : kd=1
    ·simp [q3,h,bj,au hgj]
     by_cases q4 : hgF l ls[j] < 0
     ·simp [q4]
      refine bY (k4 _ 6 _ (by (try simp only [List.length_append,List.length_cons,List.length_nil]);omega)) (by simp) ?_
      simp [h,bj,au hgj,q4]
      subst hM'
      simpa [one,q3,q4,q1,q2] using hX
     ·simp [q4,h,bj,au hgj]
      refine tail7 j h _ kd M1 M' hM1l (by rw [hM',hM1];simp [one,q3,q4]) (by simpa [q3] using hQ) |> fun x=>?_
      simpa [hM1,one,q1,q2,q3,q4] using x
    ·simp [q3,h,bj,au hgj]
     by_cases q4 : hgF l ls[j] < 0
     ·simp [q4];subst hM';simpa [one,q3,q4,q1,q2] using hX
     ·simp [q4]
      refine tail7 j h _ kd M1 M' hM1l (by rw [hM',hM1];simp [one,q3,q4]) (by simpa [q3] using hQ) |> fun x=>?_
      simpa [hM1,one,q1,q2,q3,q4] using x
  ·simp [q1]
   refine ac (fun q2=>?_) (fun q2=>?_)
   ·simp [q2]
    refine bY (k4 _ 5 _ (by (try simp only [List.length_append,List.length_cons,List.length_nil]);omega)) (by simp) ?_
    simp
    by_cases q3 : kd=1
    ·simp [q3,h,bj,au hgj]
     by_cases q4 : hgF l ls[j] < 0
     ·simp [q4]
      refine bY (k4 _ 6 _ (by (try simp only [List.length_append,List.length_cons,List.length_nil]);omega)) (by simp) ?_
      simp [h,bj,au hgj,q4]
      subst hM'
      simpa [one,q3,q4,q1,q2] using hX
     ·simp [q4,h,bj,au hgj]
      refine tail7 j h _ kd M1 M' hM1l (by rw [hM',hM1];simp [one,q3,q4]) (by simpa [q3] using hQ) |> fun x=>?_
      simpa [hM1,one,q1,q2,q3,q4] using x
    ·simp [q3,h,bj,au hgj]
     by_cases q4 : hgF l ls[j] < 0
     ·simp [q4];subst hM';simpa [one,q3,q4,q1,q2] using hX
     ·simp [q4]
      refine tail7 j h _ kd M1 M' hM1l (by rw [hM',hM1];simp [one,q3,q4]) (by simpa [q3] using hQ) |> fun x=>?_
      simpa [hM1,one,q1,q2,q3,q4] using x
   ·simp [q2]
    by_cases q3 : kd=1
    ·simp [q3,h,bj,au hgj]
     by_cases q4 : hgF l ls[j] < 0
     ·simp [q4]
      refine bY (k4 _ 6 _ (by (try simp only [List.length_append,List.length_cons,List.length_nil]);omega)) (by simp) ?_
      simp [h,bj,au hgj,q4]
      subst hM'
      simpa [one,q3,q4,q1,q2] using hX
     ·simp [q4,h,bj,au hgj]
      refine tail7 j h _ kd M1 M' hM1l (by rw [hM',hM1];simp [one,q3,q4]) (by simpa [q3] using hQ) |> fun x=>?_
      simpa [hM1,one,q1,q2,q3,q4] using x
    ·simp [q3,h,bj,au hgj]
     by_cases q4 : hgF l ls[j] < 0
     ·simp [q4];subst hM';simpa [one,q3,q4,q1,q2] using hX
     ·simp [q4]
      refine tail7 j h _ kd M1 M' hM1l (by rw [hM',hM1];simp [one,q3,q4]) (by simpa [q3] using hQ) |> fun x=>?_
      simpa [hM1,one,q1,q2,q3,q4] using x
 refine sq hC (nf:=N589) rfl rfl ?_
 simp [N589]
 refine aa k1 (.inr rfl) ?_
 simp
 refine aa k2 (.inr rfl) ?_
 simp
 refine ar Nat (fun j=>[(0,.adr (.r 10015) 0 0),(10015,.blk 1 [[.own 2 (aX (L++bL (iB ns es l ls) j))]]),(4,.ptr [slx b1 (ns.map aQ),slx b2 (ls.map aD)]),(6,.sl (hgA l ls)),(7,.sl (es.map edK)),(21,slx b2 (ls.map aD)),(22,.int .i64 ls.length),(23,.int .i64 j)]) (fun j=>j <= ls.length) (fun j=>ls.length - j) 0 (by simp) (by simp [fS]) ?_
 intro j hj
 simp
 refine ac (fun h=>?_) (fun h=>?_) <;> simp at h
 ·have hje : j < es.length:=by omega
  have hin:=hg es[j] (List.getElem_mem _)
  obtain ⟨a,b,hab⟩ : ∃ a b,es[j]=(a,b):=⟨_,_,rfl⟩
  rw [hab] at hin
  simp at hin
  simp [h,hje,aD,hab,edK,knD,hin.1,hin.2,aQ]
  refine ⟨am (by decide +kernel),?_⟩
  rw [<- hT]
  have hw : IntKind.wrap .i64 ((j : Int) + 1)=((j + 1 : Nat) : Int):=ah (by omega) (by omega)
  have hgj:=mg l h
  have hfs:=eX (iB ns es l ls) j
  have hfl:=cC (qd ns es l ls) j
  have hjm : (3 + ls.length) * j <= 403 * 400:=Nat.mul_le_mul (by omega) (by omega)
  have hlv : iB ns es l ls j=one (jT ls[j] ns[a] ns[b]) (4,ls[j].name)++one (jS ls[j] ns[a] ns[b] (hgF l ls[j]) (decide (0 <= hgF l ls[j]))) (5,ls[j].name)++one (decide (ls[j].kind=1) && decide (hgF l ls[j] < 0)) (6,ls[j].name)++(if hgF l ls[j] < 0 then [] else bL (mY es l ls j) ls.length):=by
   unfold iB
   rw [lp h,me hje,jm h,hab]
   simp only
   rw [gK hin.1,gK hin.2]
  have hM0 : (L++bL (iB ns es l ls) j).length <= 2 ^ 31:=by rw [List.length_append];omega
  have hk4:=hknd j h
  refine ac (fun c1=>?_) (fun c1=>?_) <;> simp at c1
  ·simp [c1]
   by_cases p1 : ls[j].up < ns[a].invert
   ·simp [p1,c1,h,bj,au hgj]
    by_cases p2 : 0 <= hgF l ls[j]
    ·simp [p2,h,bj,au hgj]
     by_cases p3 : ns[a].ground < IntKind.wrap .i64 (ls[j].up + hgF l ls[j])
     ·simp [p3,p2,h,bj,au hgj]
      refine ⟨am (by decide +kernel),?_⟩
      refine tail _ _ j h _ 1 _ (L++bL (iB ns es l ls) (j + 1)) hM0 (by rw [hfs,hlv];simp [jT,jS, *]) ?_ ?_ <;> (simp [hw];exact ⟨j + 1,by omega,by omega,rfl,by omega⟩)
     ·simp [p3,p2,h,bj,au hgj]
      refine ⟨am (by decide +kernel),?_⟩
      refine tail _ _ j h _ 1 _ (L++bL (iB ns es l ls) (j + 1)) hM0 (by rw [hfs,hlv];simp [jT,jS, *]) ?_ ?_ <;> (simp [hw];exact ⟨j + 1,by omega,by omega,rfl,by omega⟩)
    ·simp [p2]
     refine ⟨am (by decide +kernel),?_⟩
     refine tail _ _ j h _ 1 _ (L++bL (iB ns es l ls) (j + 1)) hM0 (by rw [hfs,hlv];simp [jT,jS, *]) ?_ ?_ <;> (simp [hw];exact ⟨j + 1,by omega,by omega,rfl,by omega⟩)
   ·simp [p1,c1,h,bj,au hgj]
    by_cases p2 : 0 <= hgF l ls[j]
    ·simp [p2,h,bj,au hgj]
     by_cases p3 : ns[a].ground < IntKind.wrap .i64 (ls[j].up + hgF l ls[j])
     ·simp [p3,p2,h,bj,au hgj]
      refine ⟨am (by decide +kernel),?_⟩
      refine tail _ _ j h _ 1 _ (L++bL (iB ns es l ls) (j + 1)) hM0 (by rw [hfs,hlv];simp [jT,jS, *]) ?_ ?_ <;> (simp [hw];exact ⟨j + 1,by omega,by omega,rfl,by omega⟩)
     ·simp [p3,p2,h,bj,au hgj]
      refine ⟨am (by decide +kernel),?_⟩
      refine tail _ _ j h _ 1 _ (L++bL (iB ns es l ls) (j + 1)) hM0 (by rw [hfs,hlv];simp [jT,jS, *]) ?_ ?_ <;> (simp [hw];exact ⟨j + 1,by omega,by omega,rfl,by omega⟩)
    ·simp [p2]
     refine ⟨am (by decide +kernel),?_⟩
     refine tail _ _ j h _ 1 _ (L++bL (iB ns es l ls) (j + 1)) hM0 (by rw [hfs,hlv];simp [jT,jS, *]) ?_ ?_ <;> (simp [hw];exact ⟨j + 1,by omega,by omega,rfl,by omega⟩)
  ·simp [c1]
   refine ac (fun c2=>?_) (fun c2=>?_) <;> simp at c2
   ·simp [c1,c2]
    refine ⟨am (by decide +kernel),?_⟩
    refine tail _ _ j h _ 2 _ (L++bL (iB ns es l ls) (j + 1)) hM0 (by rw [hfs,hlv];simp [jT,jS, *]) ?_ ?_ <;> (simp [hw];exact ⟨j + 1,by omega,by omega,rfl,by omega⟩)
   ·simp [c2]
    refine ac (fun c3=>?_) (fun c3=>?_) <;> simp at c3
    ·simp [c1,c2,c3]
     refine ⟨am (by decide +kernel),?_⟩
     refine tail _ _ j h _ 3 _ (L++bL (iB ns es l ls) (j + 1)) hM0 (by rw [hfs,hlv];simp [jT,jS, *]) ?_ ?_ <;> (simp [hw];exact ⟨j + 1,by omega,by omega,rfl,by omega⟩)
    ·have c4 : ls[j].kind=4:=by omega
     simp [c1,c2,c3,c4]
     refine ⟨am (by decide +kernel),?_⟩
     refine tail _ _ j h _ 4 _ (L++bL (iB ns es l ls) (j + 1)) hM0 (by rw [hfs,hlv];simp [jT,jS, *]) ?_ ?_ <;> (simp [hw];exact ⟨j + 1,by omega,by omega,rfl,by omega⟩)
 ·have ej : j=ls.length:=by omega
  subst ej
  simp [h]
end Go.Gv

set_option maxRecDepth 4000
namespace Go.Gv
theorem Dq (L : List Fnd) : List.map (fun e=>List.map aH e) (aX L)=aX L:=by
 unfold aX
 rw [List.map_map]
 apply List.map_congr_left
 intro v _
 simp [cS,aH]
theorem qM (ns : List Nod) (ls : List Lnk) : (kP ns ls).length <= 3 * ns.length + ls.length:=by
 unfold kP
 have:=cC (tt ns (cB ns ls)) ns.length
 have:=cC (sG ls) ls.length
 rw [List.length_append];omega
theorem qm (ns : List Nod) (ls : List Lnk) (l : List Sec) : (lu ns ls l).length <= (3 + ls.length) * ls.length:=cC (qd ns (cB ns ls) l ls) ls.length
noncomputable def j5 (ns : List Nod) (ls : List Lnk) (l : List Sec) : List Fnd:=iz eS (kP ns ls++lu ns ls l)
noncomputable def TI (ns : List Nod) (ls : List Lnk) (l : List Sec) : List Fnd:=iz eS (lu ns ls l)
variable {C : CC} (hC : aj prog C)
include hC
set_option maxHeartbeats 2000000 in
theorem qW (hS : SlC C) (hK : qV C) (b1 b2 b3 : Bool) (ns : List Nod) (ls : List Lnk) (l : List Sec) (hcv : ∀ l ∈ ls,l.curve.length < 2 ^ 62) : C 543 [.agg [slx b1 (ns.map aQ),slx b2 (ls.map aD)],slx b3 (l.map dS)] (.tup (if bq ns ls && il l then [.sl (aX (j5 ns ls l)),.int .i64 0] else [.nils,.int .i64 1])) []:=by
 have k0:=vY hC b1 b2 b3 ns ls l hcv
 refine start hC (nf:=N543) rfl rfl ?_
 simp [N543]
 refine aa k0 (.inl rfl) ?_
 cases hv : (bq ns ls && il l)
 ·simp
 obtain ⟨hv1,hv2⟩:=Bool.and_eq_true_iff.1 hv
 obtain ⟨l1,l2⟩:=cF hv1
 have hll : l.length <= 40:=by
  simp only [il,Bool.and_eq_true,decide_eq_true_eq] at hv2
  exact hv2.1.1
 have hsl:=qM ns ls
 have hvl:=qm ns ls l
 have hml : (3 + ls.length) * ls.length <= 403 * 400:=Nat.mul_le_mul (by omega) (by omega)
 have k1:=qN hC hS b1 b2 ns ls hv1 hcv [] (by simp)
 have k2:=xh hC b1 b2 b3 ns ls l hv1 hcv hll (kP ns ls) (by omega)
 have e0 : aX []=[]:=rfl
 rw [e0,List.nil_append] at k1
 have k3:=tr hC hK (kP ns ls++lu ns ls l) (by rw [List.length_append];omega)
 unfold j5
 generalize kP ns ls=A at *
 generalize lu ns ls l=B at *
 simp
 refine bY k1 (by simp) ?_
 simp
 refine bY k2 (by simp) ?_
 simp
 refine ⟨dL _,?_⟩
 refine md k3 (fun e he=>⟨kj _ e he,dL _ e he⟩) ?_
 simp [bf,Dq]
 exact (List.take_of_length_le (by rw [bf];exact Nat.le_refl _)).symm
end Go.Gv

namespace Go.Gv
def mD (n : Nod) : Bool:=decide (20 < n.shape.length) || decide (60 < n.name.length)
def mC (l : Lnk) : Bool:=decide (20 < l.curve.length) || decide (60 < l.name.length) || decide (60 < l.src.length) || decide (60 < l.dst.length) || decide (60 < l.sect.length)
def oM (s : Sec) : Bool:=decide (20 < s.area.length) || decide (20 < s.conv.length) || decide (60 < s.name.length)
def jl (ns : List Nod) (ls : List Lnk) : Bool:=decide (14 < ns.length) || decide (16 < ls.length) || ns.any mD || ls.any mC
def pf (l : List Sec) : Bool:=decide (8 < l.length) || l.any oM
def eN : List Nod:=[⟨[109],1,0,0,0,1000,false,[(0,0),(1000,900)],false,0⟩,⟨[111],3,0,0,0,1000,true,[],false,0⟩]
def gD : List Lnk:=[⟨[97],[109],[111],1,100,10,20,[115],0,0,true,[]⟩]
theorem rN {ns : List Nod} {ls : List Lnk} (h : jl ns ls=false) : ns.length <= 14 /\ ls.length <= 16 /\ ∀ l ∈ ls,l.curve.length <= 20:=by
 simp only [jl,Bool.or_eq_false_iff,decide_eq_false_iff_not,List.any_eq_false] at h
 refine ⟨by omega,by omega,fun l hl=>?_⟩
 have:=h.2 l hl
 simp only [mC,Bool.or_eq_true,decide_eq_true_eq,not_or] at this
 omega
variable {C : CC} (hC : aj prog C)
include hC
theorem vJ (n : Nod) : C 584 [.agg (aQ n)] (.bool (mD n)) []:=by
 refine start hC (nf:=N584) rfl rfl ?_
 simp [N584,aQ]
 unfold mD
 by_cases h1 : (20 : Int) < n.shape.length
 ·simp [h1,show 20 < n.shape.length by omega]
 ·simp [h1,show ¬ 20 < n.shape.length by omega]
  omega
theorem vI (l : Lnk) : C 585 [.agg (aD l)] (.bool (mC l)) []:=by
 refine start hC (nf:=N585) rfl rfl ?_
 simp [N585,aD]
 unfold mC
 by_cases h1 : (20 : Int) < l.curve.length
 ·simp [h1,show 20 < l.curve.length by omega]
 by_cases h2 : (60 : Int) < l.name.length
 ·simp [h1,h2,show 60 < l.name.length by omega]
 by_cases h3 : (60 : Int) < l.src.length
 ·simp [h1,h2,h3,show 60 < l.src.length by omega]
 by_cases h4 : (60 : Int) < l.dst.length
 ·simp [h1,h2,h3,h4,show 60 < l.dst.length by omega]
 simp [h1,h2,h3,h4,show ¬ 20 < l.curve.length by omega,show ¬ 60 < l.name.length by omega,show ¬ 60 < l.src.length by omega,show ¬ 60 < l.dst.length by omega]
 omega
theorem vK (s : Sec) : C 586 [.agg (dS s)] (.bool (oM s)) []:=by
 refine start hC (nf:=N586) rfl rfl ?_
 simp [N586,dS]
 unfold oM
 by_cases h1 : (20 : Int) < s.area.length
 ·simp [h1,show 20 < s.area.length by omega]
 by_cases h2 : (20 : Int) < s.conv.length
 ·simp [h1,h2,show 20 < s.conv.length by omega]
 simp [h1,h2,show ¬ 20 < s.area.length by omega,show ¬ 20 < s.conv.length by omega]
 omega
theorem ul (b1 b2 : Bool) (ns : List Nod) (ls : List Lnk) (h1 : ns.length < 2 ^ 62) (h2 : ls.length < 2 ^ 62) : C 541 [.agg [slx b1 (ns.map aQ),slx b2 (ls.map aD)]] (.bool (jl ns ls)) []:=by
 have k1:=wM hC (b:=b1) (xs:=ns) (g:=584) (cs:=[]) mD h1 (fun x _=>vJ hC x)
 have k2:=wL hC (b:=b2) (xs:=ls) (g:=585) (cs:=[]) mC h2 (fun x _=>vI hC x)
 refine start hC (nf:=N541) rfl rfl ?_
 simp [N541]
 unfold jl
 by_cases c1 : (14 : Int) < ns.length
 ·simp [c1,show 14 < ns.length by omega]
 by_cases c2 : (16 : Int) < ls.length
 ·simp [c1,c2,show 16 < ls.length by omega]
 have c1' : decide (14 < ns.length)=false:=decide_eq_false (by omega)
 have c2' : decide (16 < ls.length)=false:=decide_eq_false (by omega)
 rw [c1',c2']
 simp [c1,c2]
 refine aa k1 (.inl rfl) ?_
 cases d1 : ns.any mD
 ·simp
  refine aa k2 (.inl rfl) ?_
  simp
 ·simp
theorem xt (b : Bool) (l : List Sec) (h : l.length < 2 ^ 62) : C 542 [slx b (l.map dS)] (.bool (pf l)) []:=by
 have k1:=wP hC (b:=b) (xs:=l) (g:=586) (cs:=[]) oM h (fun x _=>vK hC x)
 refine start hC (nf:=N542) rfl rfl ?_
 simp [N542]
 unfold pf
 by_cases c1 : (8 : Int) < l.length
 ·simp [c1,show 8 < l.length by omega]
 have c1' : decide (8 < l.length)=false:=decide_eq_false (by omega)
 rw [c1']
 simp [c1]
 refine aa k1 (.inl rfl) ?_
 simp
theorem Dj : C 583 [] (.agg [.sl (eN.map aQ),.sl (gD.map aD)]) []:=by
 have e0 : slx true ([] : List (List D))=.nils:=rfl
 refine start hC (nf:=N583) rfl rfl ?_
 simp [N583,eN,gD,aQ,aD,knD]
 rfl
theorem sP (b b' : Bool) (xs ys : List Fnd) (hx : xs.length < 2 ^ 62) (hy : ys.length < 2 ^ 62) : C 147 [slx b (aX xs),slx b' (aX ys)] (.bool (decide (xs=ys))) []:=by
 obtain ⟨r,hr⟩ : ∃ r,r=decide (xs=ys):=⟨_,rfl⟩
 rw [<- hr]
 refine start hC (nf:=N147) rfl rfl ?_
 simp [N147,aX]
 refine ac (fun h=>?_) (fun h=>?_) <;> simp at h <;> simp [h]
 ·rw [hr,decide_eq_false]
  intro e
  exact h (by rw [e])
 have h' : xs.length=ys.length:=by omega
 refine ar Nat (fun i=>[(0,slx b (xs.map cS)),(1,slx b' (ys.map cS)),(12,.int .i64 xs.length),(13,.int .i64 i)])
  (fun i=>i <= xs.length /\ ∀ (k : Nat) (h1 : k < xs.length) (h2 : k < ys.length),k < i -> xs[k]=ys[k]) (fun i=>xs.length - i) 0 (by simp) (by simp [h']) ?_
 rintro i ⟨hi,hok⟩
 simp
 refine ac (fun h1=>?_) (fun h1=>?_) <;> simp at h1 <;> simp [h1]
 ·have hw : IntKind.wrap .i64 ((i : Int) + 1)=((i + 1 : Nat) : Int):=ah (by omega) (by omega)
  have hy1 : i < ys.length:=by omega
  simp [h1,hy1,cS]
  refine ⟨am (by decide +kernel),?_⟩
  by_cases h2 : xs[i]=ys[i]
  ·simp [h2,hw]
   refine ⟨i + 1,⟨by omega,fun k k1 k2 hk=>?_⟩,by omega,rfl⟩
   rcases Nat.lt_succ_iff_lt_or_eq.1 hk with h5 | rfl
   ·exact hok k k1 k2 h5
   ·exact h2
  ·have h3 : ¬ (xs[i].1=ys[i].1 /\ xs[i].2=ys[i].2):=fun e=>h2 (Prod.ext e.1 e.2)
   refine ac (fun h4=>?_) (fun h4=>?_) <;> simp at h4 <;> simp [h4]
   ·rw [hr,decide_eq_false]
    intro e
    exact h2 (by simp [e])
   ·exact absurd h4 h3
 ·rw [hr,decide_eq_true]
  exact List.ext_getElem h' fun k k1 k2=>hok k k1 k2 (by omega)
end Go.Gv

namespace Go.Gv
theorem pQ : cB eN gD=[(0,1)]:=by decide +kernel
theorem sR : (bq eN gD && il [])=true:=by decide +kernel
theorem Me {k : Nat} (h : Pth [(0,1)] 1 k) : k=1:=by
 cases h with
 | refl=>rfl
 | step e _=>simp at e
theorem S6 (i k : Nat) : wyB [(0,1)] i k=(decide (i=0) && decide (k=1)):=by
 rw [Bool.eq_iff_iff,tA]
 simp only [Bool.and_eq_true,decide_eq_true_eq]
 constructor
 ·rintro ⟨s,h1,h2⟩
  simp at h1
  obtain ⟨rfl,rfl⟩:=h1
  exact ⟨rfl,Me h2⟩
 ·rintro ⟨rfl,rfl⟩
  exact ⟨1,by simp,.refl 1⟩
theorem wu : kP eN gD=[(2,[97])]:=by
 unfold kP
 rw [pQ]
 have e1 : stF eN [(0,1)]=fun i=>one (decide (i=0) && decide (i=1)) (1,ee eN i)++one (!decide (l3 eN i=3) && !((List.range eN.length).any fun k=>(decide (i=0) && decide (k=1)) && decide (l3 eN k=3))) (3,ee eN i)++one (!ib [(0,1)] 1 i) (8,ee eN i):=by
  funext i
  unfold stF mT
  simp only [S6,List.length_cons,List.length_nil]
 rw [e1]
 decide +kernel
theorem wt : lu eN gD []=[(6,[97])]:=by
 unfold lu
 rw [pQ]
 decide +kernel
theorem wq : j5 eN gD []=[(2,[97]),(6,[97])]:=by
 unfold j5
 rw [wu,wt]
 refine yU ji ?_ fun x=>Iff.rfl
 refine List.pairwise_cons.2 ⟨fun y hy=>?_,List.pairwise_singleton _ _⟩
 simp at hy
 subst hy
 decide +kernel
variable {C : CC} (hC : aj prog C)
include hC
theorem tK (hS : SlC C) (hK : qV C) : C 540 [] (.bool true) []:=by
 have k1:=Dj hC
 have k2:=qW hC hS hK false false true eN gD [] (by decide)
 have k3:=tB hC false false eN gD (by decide)
 rw [sR,wq] at k2
 have e1 : bq eN gD=true:=(Bool.and_eq_true_iff.1 sR).1
 have e2 : lmT gD gz gD.length=[[97]]:=by decide +kernel
 rw [e1,e2] at k3
 simp only [bu,if_true] at k2 k3
 have e3 : slx true (([] : List Sec).map dS)=.nils:=rfl
 rw [e3] at k2
 have k4:=sP hC false false [(2,[97]),(6,[97])] [(2,[97]),(6,[97])] (by simp) (by simp)
 have k5:=zJ hC false false [[97]] [[97]] (by simp) (by simp)
 simp only [bu] at k4 k5
 have f1 : aX [(2,[97]),(6,[97])]=[[.int .i64 2,.str [97]],[.int .i64 6,.str [97]]]:=rfl
 have f2 : fd [[97]]=[[.str [97]]]:=rfl
 rw [f1] at k2 k4
 rw [f2] at k3 k5
 generalize eN.map aQ=X at *
 generalize gD.map aD=Y at *
 refine start hC (nf:=N540) rfl rfl ?_
 simp [N540]
 refine aa k1 (.inr rfl) ?_
 simp
 refine aa k2 (.inr rfl) ?_
 simp
 refine aa k1 (.inr rfl) ?_
 simp
 refine aa k3 (.inr rfl) ?_
 simp
 refine aa k4 (.inl rfl) ?_
 simp
 refine aa k5 (.inl rfl) ?_
 simp
end Go.Gv

namespace Go.Gv
def lpM (R : Nat -> Nat -> Bool) (i k : Nat) : List Nat:=(List.range k).filter fun k'=>uC R i k'
def lpE (R : Nat -> Nat -> Bool) (i k v : Nat) : Bool:=DL R i v || (decide (v < k) && uC R i v)
variable {C : CC} (hC : aj prog C)
include hC
end Go.Gv

namespace Go.Gv
variable {C : CC} (hC : aj prog C)
include hC
end Go.Gv

namespace Go.Gv
open Go.Lib
theorem pH {α : Type} [DecidableEq α] (c : α -> α -> Int) (M : List α) : (iz c M).length <= M.length:=by
 unfold iz
 exact Nat.le_trans (y6 _) (by rw [i9];exact Nat.le_refl _)
variable {C : CC} (hC : aj prog C)
include hC
end Go.Gv

set_option maxRecDepth 4000
namespace Go.Gv
variable {C : CC} (hC : aj prog C)
include hC
theorem wU (b : Bool) (xs : List Fnd) (s : Fnd) (hs : xs.length < 2 ^ 62) : C 599 [slx b (aX xs),.agg (cS s)] (.int .i64 (bv (fun x=>decide (x=s)) xs)) []:=by
 refine start hC (nf:=N599) rfl rfl ?_
 simp [N599,aX,cS]
 refine ar Nat (fun i=>[(0,slx b (xs.map cS)),(3,.ptr [.int .i64 s.1,.str s.2]),(7,.int .i64 xs.length),(8,.int .i64 i)]) (fun i=>i <= xs.length /\ ∀ (j : Nat) (h : j < xs.length),j < i -> decide (xs[j]=s)=false) (fun i=>xs.length - i) 0 (by simp) (by simp [cS]) ?_
 rintro i ⟨hi,hj⟩
 simp
 refine ac (fun h=>?_) (fun h=>?_) <;> simp [h] <;> simp at h
 ·have hw : IntKind.wrap .i64 ((i : Int) + 1)=((i + 1 : Nat) : Int):=ah (by omega) (by omega)
  simp [h,cS]
  refine ⟨am (by decide +kernel),?_⟩
  by_cases h1 : xs[i]=s
  ·simp [h1]
   rw [cq hj h (by simp [h1])]
  ·have h3 : ¬ (s.1=xs[i].1 /\ s.2=xs[i].2):=fun e=>h1 (Prod.ext e.1.symm e.2.symm)
   refine ac (fun h4=>?_) (fun h4=>?_) <;> simp at h4 <;> simp [h4,hw]
   ·exact absurd h4 h3
   ·refine ⟨i + 1,⟨by omega,fun j hl hjj=>?_⟩,by omega,by omega⟩
    rcases Nat.lt_succ_iff_lt_or_eq.1 hjj with h2 | rfl
    ·simpa using hj j hl h2
    ·exact h1
 ·rw [cE (fun j hl=>by simpa using hj j hl (by omega))]
end Go.Gv

set_option maxRecDepth 4000
namespace Go.Gv
def erI (i k : Nat) : Nat:=if k < i then k else k + 1
end Go.Gv

namespace Go.Gv
noncomputable def SP (ns : List Nod) (ls : List Lnk) (q : List Sp) (x v : Nat) : Bool:=upX ns ls x v && decide (0 < q[v]!.2)
def Rh (ns : List Nod) (ls : List Lnk) (q : List Sp) (nm : List UInt8) : Int:=if ym ns ls=true then (if vi q ns.length=0 then (if 0 <= bv (mS nm) ls then 0 else 9) else vi q ns.length) else 1
noncomputable def Tx (ns : List Nod) (ls : List Lnk) (q : List Sp) (nm : List UInt8) : D:=if Rh ns ls q nm=0 then .sl (fd (nmT ns (SP ns ls q ((cB ns ls)[(bv (mS nm) ls).toNat]!).1) ns.length)) else .nils
variable {C : CC} (hC : aj prog C)
include hC
end Go.Gv


set_option maxRecDepth 4000
namespace Go.Gv
structure S7 (C : CC) : Prop where
 nil : ∀ ds,C 598 ds .any [.own 2 []] -> C 598 ds (.sl []) []
def nT (ns : List Nod) (j : Nat) : List (List D):=(ns.take j).map aQ
def lT (ls : List Lnk) (i j : Nat) : List (List D):=((ls.take j).eraseIdx i).map aD
@[simp high] theorem MB (b : Bool) (xs : List (List D)) (k : Nat) : stK (slx b xs) [] k=[]:=by unfold slx;split <;> rfl
theorem oi (b : Bool) (xs : List (List D)) : av (slx b xs)=true:=by unfold slx;split <;> rfl
theorem oD (b : Bool) (xs : List (List D)) : aH (slx b xs)=slx b xs:=by unfold slx;split <;> rfl
theorem LN (ns : List Nod) : (ns.map aQ).map (fun e=>e.map aH)=ns.map aQ:=by
 rw [List.map_map]
 apply List.map_congr_left
 intro n _
 simp only [Function.comp,aQ,List.map_cons,List.map_nil,oD]
 rfl
theorem Li (ls : List Lnk) : (ls.map aD).map (fun e=>e.map aH)=ls.map aD:=by
 rw [List.map_map]
 apply List.map_congr_left
 intro n _
 simp only [Function.comp,aD,List.map_cons,List.map_nil,oD]
 rfl
variable {C : CC} (hC : aj prog C)
include hC
end Go.Gv

set_option maxRecDepth 4000
namespace Go.Gv
open Go.Lib
variable {C : CC} (hC : aj prog C)
include hC
theorem zZ {b : Bool} {xs : List (Int × List UInt8)} {g : Nat} {cs : List D} (p : Int × List UInt8 -> Bool) (hs : xs.length < 2 ^ 62) (hp : ∀ x ∈ xs,C g (.agg (cS x)::cs) (.bool (p x)) []) : C 129 [slx b (xs.map fun x=>cS x),.fn g cs] (.int .i64 (bv p xs)) []:=by
 refine start hC (nf:=N129) rfl rfl ?_
 simp [N129]
 refine ar Nat (fun i=>[(0,slx b (xs.map fun x=>cS x)),(1,.fn g cs),(7,.int .i64 xs.length),(8,.int .i64 i)]) (fun i=>i <= xs.length /\ ∀ (j : Nat) (h : j < xs.length),j < i -> p xs[j]=false) (fun i=>xs.length - i) 0 (by simp) (by simp) ?_
 rintro i ⟨hi,hj⟩
 simp
 refine ac (fun h=>?_) (fun h=>?_) <;> simp [h] <;> simp at h
 ·have hw : IntKind.wrap .i64 ((i : Int) + 1)=((i + 1 : Nat) : Int):=ah (by omega) (by omega)
  have hc:=hp _ (List.getElem_mem h)
  simp [h,cS] at hc ⊢
  refine aa hc (.inl rfl) ?_
  simp
  refine ac (fun h1=>?_) (fun h1=>?_) <;> simp [h1,hw]
  ·rw [cq hj h h1]
  ·refine ⟨i + 1,⟨by omega,fun j hl hjj=>?_⟩,by omega,rfl⟩
   rcases Nat.lt_succ_iff_lt_or_eq.1 hjj with h2 | rfl
   ·exact hj j hl h2
   ·exact h1
 ·rw [cE (fun j hl=>hj j hl (by omega))]
theorem zR {b : Bool} {xs : List (Int × List UInt8)} {g : Nat} {cs : List D} (p : Int × List UInt8 -> Bool) (hs : xs.length < 2 ^ 62) (hp : ∀ x ∈ xs,C g (.agg (cS x)::cs) (.bool (p x)) []) : C 125 [slx b (xs.map fun x=>cS x),.fn g cs] (.bool (xs.any p)) []:=by
 refine start hC (nf:=N125) rfl rfl ?_
 simp [N125]
 refine aa (zZ hC p hs hp) (.inl rfl) ?_
 simp [dN]
end Go.Gv

namespace Go.Gv
def Rp (x y : Int) : Int:=if x < y then -1 else if y < x then 1 else 0
variable {C : CC} (hC : aj prog C)
include hC
end Go.Gv

namespace Go.Gv
open Go.Lib
variable {C : CC} (hC : aj prog C)
include hC
def nmD (x : Nat) : D:=.agg [.int .u64 ((x / 18446744073709551616 : Nat) : Int),.int .u64 ((x % 18446744073709551616 : Nat) : Int),.bool false]
end Go.Gv

namespace Go.Gv
open Go.Lib
def wiS (v : Int) : D:=.agg [.int .i64 (v / 1152921504606846976),.int .i64 (v % 1152921504606846976)]
theorem mt (p : Nat) : wiS p=wiD p:=by simp [wiS,wiD]
variable {C : CC} (hC : aj prog C)
include hC
theorem qS (n : Nat) (h0 : 0 < n) (h : n < 9223372036854775808) : C 112 [.int .i64 (-(n : Int))] (.int .u64 (n : Int)) []:=by
 have e1 : IntKind.u64.wrap (-(n : Int))=((18446744073709551616 - n : Nat) : Int):=uw (by omega) (by omega)
 have e2 : IntKind.u64.wrap (-((18446744073709551616 - n : Nat) : Int))=(n : Int):=uw (by omega) (by omega)
 have h1 : (-(n : Int)) < 0:=by omega
 refine start hC (nf:=N112) rfl rfl ?_
 obtain ⟨z,hz⟩ : ∃ z,z=-(n : Int):=⟨_,rfl⟩
 obtain ⟨y,hy⟩ : ∃ y,y=((18446744073709551616 - n : Nat) : Int):=⟨_,rfl⟩
 rw [<- hz] at e1 h1 ⊢
 rw [<- hy] at e1 e2
 simp [N112,h1,e1,e2]
theorem oy (p : Nat) (h0 : 0 < p) (h : p < 1329227995784915872903807060280344576) : C 105 [fx p true] (.tup [wiS (-(p : Int)),.int .i64 0]) []:=by
 obtain ⟨ph,hph⟩ : ∃ z,z=p / 1152921504606846976:=⟨_,rfl⟩
 obtain ⟨pl,hpl⟩ : ∃ z,z=p % 1152921504606846976:=⟨_,rfl⟩
 obtain ⟨zh,hzh⟩ : ∃ z,z=p / 18446744073709551616:=⟨_,rfl⟩
 obtain ⟨zl,hzl⟩ : ∃ z,z=p % 18446744073709551616:=⟨_,rfl⟩
 obtain ⟨qh,hqh⟩ : ∃ z,z=(-(p : Int)) / 1152921504606846976:=⟨_,rfl⟩
 obtain ⟨ql,hql⟩ : ∃ z,z=(-(p : Int)) % 1152921504606846976:=⟨_,rfl⟩
 rw [wiS,fx,<- hzh,<- hzl,<- hqh,<- hql]
 obtain ⟨zt,hzt⟩ : ∃ z,z=zl / 1152921504606846976:=⟨_,rfl⟩
 have h1 : ¬ (72057594037927936 : Int) < zh:=by omega
 have h2 : ¬ (zh : Int)=72057594037927936:=by omega
 have e1:=Mn zh (zh * 16) (by omega)
 have e2:=Cw zl
 rw [<- hzt] at e2
 have e3:=L9 zh zt (by omega) (by omega)
 have e4 : IntKind.i64.wrap ((zh * 16 + zt : Nat) : Int)=(ph : Int):=ah (by omega) (by omega)
 have e5:=xu zl (by omega)
 have e6 : IntKind.i64.wrap ((zl % 1152921504606846976 : Nat) : Int)=(pl : Int):=ah (by omega) (by omega)
 have e7 : IntKind.i64.wrap (-(ph : Int))=-(ph : Int):=ah rfl (by omega)
 have e8 : IntKind.i64.wrap (-(ph : Int) - 1)=-(ph : Int) - 1:=ah rfl (by omega)
 have e9 : IntKind.i64.wrap (1152921504606846976 - (pl : Int))=1152921504606846976 - (pl : Int):=ah rfl (by omega)
 refine start hC (nf:=N105) rfl rfl ?_
 simp [N105,h1,h2,e2,-Int.natCast_mul,-Int.natCast_emod]
 refine ⟨am (by decide +kernel),?_⟩
 rw [e1,e3,e4,e5,e6]
 simp
 refine ac (fun c1=>?_) (fun c1=>?_) <;> simp at c1
 ·simp [c1,e7]
  omega
 ·simp [c1,e7,e8,e9]
  omega
theorem lE (v : Int) (h : -1329227995784915872903807060280344576 <= v /\ v < 1329227995784915872903807060280344576) : C 106 [wiS v] (.bool true) []:=by
 obtain ⟨ph,hph⟩ : ∃ z,z=v / 1152921504606846976:=⟨_,rfl⟩
 obtain ⟨pl,hpl⟩ : ∃ z,z=v % 1152921504606846976:=⟨_,rfl⟩
 rw [wiS,<- hph,<- hpl]
 have h1 : (-1152921504606846976 : Int) <= ph:=by omega
 have h2 : ph < 1152921504606846976:=by omega
 have h3 : 0 <= pl:=by omega
 have h4 : pl < 1152921504606846976:=by omega
 refine start hC (nf:=N106) rfl rfl ?_
 simp [N106,h1,h2,h3,h4]
end Go.Gv

namespace Go.Gv
open Go.Lib
def gL (v : Int) : D:=fx v.natAbs (decide (v < 0))
theorem gd {v : Int} {p : Nat} {b : Bool} (h1 : v.natAbs=p) (h2 : decide (v < 0)=b) : gL v=fx p b:=by rw [gL,h1,h2]
theorem fN (p : Nat) (b : Bool) : ∃ x y : Nat,x=p / 18446744073709551616 /\ y=p % 18446744073709551616 /\ fx p b=.agg [.int .u64 x,.int .u64 y,.bool b]:=⟨_,_,rfl,rfl,rfl⟩
theorem iw {n m : Int} (h : n=m \/ n=m + 18446744073709551616) (h2 : -9223372036854775808 <= m /\ m < 9223372036854775808) : IntKind.i64.wrap n=m:=by
 have e1 : IntKind.i64.signed=true:=rfl
 have e2 : (2 ^ (IntKind.i64.bits - 1) : Int)=9223372036854775808:=rfl
 have e3 : (2 ^ IntKind.i64.bits : Int)=18446744073709551616:=rfl
 unfold IntKind.wrap
 simp only [e1,e2,e3,Bool.true_and,decide_eq_true_eq]
 split <;> omega
variable {C : CC} (hC : aj prog C)
include hC
end Go.Gv

namespace Go.Gv
open Go.Lib
theorem lP (n b : Nat) (hb : 0 < b) : (-(n : Int)) / (b : Int)=-((if n % b=0 then n / b else n / b + 1 : Nat) : Int):=by
 have h1:=Nat.div_add_mod n b
 have h2:=Nat.mod_lt n hb
 obtain ⟨q,hq⟩ : ∃ q,q=n / b:=⟨_,rfl⟩
 obtain ⟨r,hr⟩ : ∃ r,r=n % b:=⟨_,rfl⟩
 rw [<- hq,<- hr] at h1
 rw [<- hr] at h2
 rw [<- hq,<- hr]
 clear hq hr
 subst h1
 split
 ·rename_i h
  subst h
  rw [Nat.add_zero,Int.natCast_mul,<- Int.mul_neg]
  exact Int.mul_ediv_cancel_left _ (by omega)
 ·rename_i h
  have e : -((b * q + r : Nat) : Int)=((b : Int) - r) + b * (-((q + 1 : Nat) : Int)):=by
   rw [Int.natCast_add,Int.natCast_mul,Int.natCast_add,Int.mul_neg,Int.mul_add]
   omega
  rw [e,Int.add_mul_ediv_left _ _ (by omega),Int.ediv_eq_zero_of_lt (by omega) (by omega)]
  omega
variable {C : CC} (hC : aj prog C)
include hC
end Go.Gv

namespace Go.Gv
variable {C : CC} (hC : aj prog C)
include hC
theorem vn (x y : Nat) (hx0 : 0 < x) (hx : x < 9223372036854775808) (hy : y < 9223372036854775808) : C 103 [.int .i64 (-(x : Int)),.int .i64 y] (fx (x * y) (decide (x * y ≠ 0))) []:=by
 have h0 : (-(x : Int)) < 0:=by omega
 have h1 : ¬ (y : Int) < 0:=by omega
 have hm:=sB hC x y (by omega) (by omega)
 have k1:=qS hC x hx0 hx
 have k2:=jy hC y hy
 rw [fx]
 obtain ⟨Z,hZ⟩ : ∃ Z,Z=x * y:=⟨_,rfl⟩
 rw [<- hZ] at hm ⊢
 obtain ⟨zh,hzh⟩ : ∃ zh,zh=Z / 18446744073709551616:=⟨_,rfl⟩
 obtain ⟨zl,hzl⟩ : ∃ zl,zl=Z % 18446744073709551616:=⟨_,rfl⟩
 have k3:=i8 hC zh zl true
 rw [show (true && (!decide ((zh : Int)=0) || !decide ((zl : Int)=0)))=decide (Z ≠ 0) by
  rw [Bool.eq_iff_iff];simp;omega] at k3
 rw [<- hzh,<- hzl] at hm ⊢
 obtain ⟨z,hz⟩ : ∃ z,z=-(x : Int):=⟨_,rfl⟩
 rw [<- hz] at k1 h0 ⊢
 obtain ⟨b,hb⟩ : ∃ b,b=decide (Z ≠ 0):=⟨_,rfl⟩
 rw [<- hb] at k3 ⊢
 refine start hC (nf:=N103) rfl rfl ?_
 simp [N103]
 refine aa k1 (.inl rfl) ?_
 simp
 refine aa k2 (.inl rfl) ?_
 simp
 refine aa hm (.inl rfl) ?_
 simp [h0,h1]
 refine aa k3 (.inl rfl) ?_
 simp
theorem qX (x : Int) (y : Nat) (hx : -9223372036854775808 < x /\ x < 9223372036854775808) (hy : y < 9223372036854775808) (h : x.natAbs * y < 1329227995784915872903807060280344576) : C 99 [.int .i64 x,.int .i64 y] (.tup [wiS (x * y),.int .i64 0]) []:=by
 by_cases h0 : x < 0
 ·obtain ⟨n,rfl⟩ : ∃ n : Nat,x=-(n : Int):=⟨x.natAbs,by omega⟩
  rw [Int.natAbs_neg,Int.natAbs_natCast] at h
  have k1:=vn hC n y (by omega) (by omega) hy
  have e : -(n : Int) * (y : Int)=-((n * y : Nat) : Int):=by rw [Int.neg_mul,Int.natCast_mul]
  rw [e]
  obtain ⟨Z,hZ⟩ : ∃ Z,Z=n * y:=⟨_,rfl⟩
  rw [<- hZ] at k1 h ⊢
  have k2 : C 105 [fx Z (decide (Z ≠ 0))] (.tup [wiS (-(Z : Int)),.int .i64 0]) []:=by
   by_cases z0 : Z=0
   ·subst z0
    have:=m8 hC 0 (by omega)
    rw [<- mt] at this
    simpa using this
   ·rw [decide_eq_true z0]
    exact oy hC Z (by omega) h
  obtain ⟨c1,c2,e3⟩ : ∃ a b : Int,wiS (-(Z : Int))=.agg [.int .i64 a,.int .i64 b]:=⟨_,_,rfl⟩
  obtain ⟨i1,i2,i3,e7⟩ : ∃ a b c,fx Z (decide (Z ≠ 0))=.agg [.int .u64 a,.int .u64 b,.bool c]:=⟨_,_,_,rfl⟩
  rw [e7] at k1 k2
  rw [e3] at k2 ⊢
  obtain ⟨z,hz⟩ : ∃ z,z=-(n : Int):=⟨_,rfl⟩
  rw [<- hz] at k1 ⊢
  refine start hC (nf:=N99) rfl rfl ?_
  simp [N99]
  refine aa k1 (.inl rfl) ?_
  simp
  refine aa k2 (.inr rfl) ?_
  simp
 ·obtain ⟨n,rfl⟩ : ∃ n : Nat,x=(n : Int):=⟨x.natAbs,by omega⟩
  rw [Int.natAbs_natCast] at h
  have k:=tD hC n y (by omega) hy h
  rw [<- mt] at k
  simpa using k
end Go.Gv

namespace Go.Gv
open Go.Lib
theorem cc (v : Int) : ∃ h l : Int,h=v / 1152921504606846976 /\ l=v % 1152921504606846976 /\ wiS v=.agg [.int .i64 h,.int .i64 l]:=⟨_,_,rfl,rfl,rfl⟩
variable {C : CC} (hC : aj prog C)
include hC
theorem uK (v : Int) (h : -1329227995784915872903807060280344576 < v /\ v < 1329227995784915872903807060280344576) : C 105 [gL v] (.tup [wiS v,.int .i64 0]) []:=by
 by_cases v0 : v < 0
 ·have k:=oy hC v.natAbs (by omega) (by omega)
  rw [show -((v.natAbs : Nat) : Int)=v by omega] at k
  rw [gL,decide_eq_true v0]
  exact k
 ·have k:=m8 hC v.natAbs (by omega)
  rw [<- mt,show ((v.natAbs : Nat) : Int)=v by omega] at k
  rw [gL,decide_eq_false v0]
  exact k
set_option maxHeartbeats 2000000 in
theorem nG (v : Int) (h : -1329227995784915872903807060280344576 <= v /\ v < 1329227995784915872903807060280344576) : C 108 [wiS v] (gL v) []:=by
 by_cases v0 : v < 0
 ·obtain ⟨ph,pl,hph,hpl,e0⟩:=cc v
  obtain ⟨n,hn⟩ : ∃ n : Nat,n=ph.natAbs:=⟨_,rfl⟩
  obtain ⟨l,hl⟩ : ∃ l : Nat,l=pl.natAbs:=⟨_,rfl⟩
  obtain ⟨p,hp⟩ : ∃ p,p=v.natAbs:=⟨_,rfl⟩
  obtain ⟨zh,zl,hzh,hzl,e1⟩:=fN p true
  have epl : pl=(l : Int):=by omega
  have eph : ph=-(n : Int):=by omega
  have k1:=qS hC n (by omega) (by omega)
  rw [gd hp.symm (decide_eq_true v0),e0,e1,epl,eph]
  have h1 : ¬ (0 : Int) <= -(n : Int):=by omega
  obtain ⟨w,hw⟩ : ∃ z,z=n % 16:=⟨_,rfl⟩
  obtain ⟨t,ht⟩ : ∃ z,z=n / 16:=⟨_,rfl⟩
  have s1 : Int.fdiv (n : Int) (2 ^ min 4 IntKind.u64.bits)=(t : Int):=by rw [Mp,ht]
  have s2 : IntKind.u64.wrap ((n : Int) * 2 ^ min 60 IntKind.u64.bits)=((w * 1152921504606846976 : Nat) : Int):=Cu n _ (by omega)
  have s3 : IntKind.u64.wrap (l : Int)=(l : Int):=dE l (by omega)
  have c1 : (l : Int) < 18446744073709551616:=by omega
  have c2 : ((w * 1152921504606846976 : Nat) : Int) < 18446744073709551616:=by omega
  have s4 : (((w * 1152921504606846976 : Nat) : Int) - (l : Int)) % 18446744073709551616=(zl : Int):=by omega
  have s5 : IntKind.u64.wrap ((t : Int) - (if w * 1152921504606846976 < l then 1 else 0))=(zh : Int):=by
   split <;> exact uw (by omega) (by omega)
  obtain ⟨W,hW⟩ : ∃ W,W=w * 1152921504606846976:=⟨_,rfl⟩
  rw [<- hW] at s2 s4 s5 c2
  obtain ⟨z,hz⟩ : ∃ z,z=-(n : Int):=⟨_,rfl⟩
  rw [<- hz] at k1 h1 ⊢
  have c3 : (0 : Int) <= W:=by omega
  have c4 : (0 : Int) <= l:=by omega
  refine start hC (nf:=N108) rfl rfl ?_
  simp [N108]
  refine aa k1 (.inl rfl) ?_
  simp [h1]
  rw [s1,s2,s3]
  simp [c1,c2,s4,s5]
 ·have k:=Bl hC v.natAbs (by omega)
  rw [<- mt,show ((v.natAbs : Nat) : Int)=v by omega] at k
  rw [gL,decide_eq_false v0]
  exact k
set_option maxRecDepth 20000 in
set_option maxHeartbeats 4000000 in
theorem ED (x y : Int) (hx : x.natAbs < 170141183460469231731687303715884105728) (hy : y.natAbs < 170141183460469231731687303715884105728) : C 107 [gL x,gL y] (gL (x + y)) []:=by
 obtain ⟨p,hp⟩ : ∃ p,p=x.natAbs:=⟨_,rfl⟩
 obtain ⟨r,hr⟩ : ∃ r,r=y.natAbs:=⟨_,rfl⟩
 obtain ⟨s,hs⟩ : ∃ s,s=decide (x < 0):=⟨_,rfl⟩
 obtain ⟨t,ht⟩ : ∃ t,t=decide (y < 0):=⟨_,rfl⟩
 rw [gd hp.symm hs.symm,gd hr.symm ht.symm]
 obtain ⟨ph,pl,hph,hpl,ep⟩:=fN p s
 obtain ⟨rh,rl,hrh,hrl,er⟩:=fN r t
 rw [ep,er]
 have k0 : (0 : Int) <= pl:=by omega
 have k1 : (0 : Int) <= rl:=by omega
 have k3 : (pl : Int) < 18446744073709551616:=by omega
 have k4 : (rl : Int) < 18446744073709551616:=by omega
 by_cases c : s=t
 ·have e : gL (x + y)=fx (p + r) (s && !decide (p + r=0)):=gd (by
   subst c
   rw [hs,decide_eq_decide] at ht
   omega) (by
   subst c
   rw [hs] at ht ⊢
   rw [decide_eq_decide] at ht
   rw [Bool.eq_iff_iff]
   simp
   omega)
  obtain ⟨dh,dl,hdh,hdl,ed⟩:=fN (p + r) (s && !decide (p + r=0))
  rw [e,ed]
  have kk:=i8 hC dh dl s
  rw [show (s && (!decide ((dh : Int)=0) || !decide ((dl : Int)=0)))=(s && !decide (p + r=0)) by
   congr 1;rw [Bool.eq_iff_iff];simp;omega] at kk
  obtain ⟨w,hw⟩ : ∃ w,w=(s && !decide (p + r=0)):=⟨_,rfl⟩
  rw [<- hw] at kk ⊢
  subst c
  clear hs ht hw e ed
  have e1 : ((pl : Int) + rl) % 18446744073709551616=(dl : Int):=by omega
  have e2 : IntKind.u64.wrap ((ph : Int) + rh)=(ph : Int) + rh:=uw (m:=ph + rh) (by omega) (by omega)
  have e3 : IntKind.u64.wrap ((ph : Int) + rh + ((pl : Int) + rl) / 18446744073709551616)=(dh : Int):=uw (by omega) (by omega)
  obtain ⟨g,hg⟩ : ∃ g,g=((pl : Int) + rl) / 18446744073709551616:=⟨_,rfl⟩
  rw [<- hg] at e3
  refine start hC (nf:=N107) rfl rfl ?_
  simp [N107,k0,k1,k3,k4,e1,e2,e3,<- hg]
  refine aa kk (.inl rfl) ?_
  simp
 ·have c3 : (s == t)=false:=by simpa using c
  rw [hs,ht,decide_eq_decide] at c
  by_cases l : p < r
  ·have e : gL (x + y)=fx (r - p) (t && !decide (r - p=0)):=gd (by
    omega) (by
    rw [Bool.eq_iff_iff,ht]
    simp
    omega)
   obtain ⟨dh,dl,hdh,hdl,ed⟩:=fN (r - p) (t && !decide (r - p=0))
   rw [e,ed]
   have kk:=i8 hC dh dl t
   rw [show (t && (!decide ((dh : Int)=0) || !decide ((dl : Int)=0)))=(t && !decide (r - p=0)) by
    congr 1;rw [Bool.eq_iff_iff];simp;omega] at kk
   obtain ⟨w,hw⟩ : ∃ w,w=(t && !decide (r - p=0)):=⟨_,rfl⟩
   rw [<- hw] at kk ⊢
   have e1 : ((rl : Int) - pl) % 18446744073709551616=(dl : Int):=by omega
   have e2 : IntKind.u64.wrap ((rh : Int) - ph)=((rh - ph : Nat) : Int):=uw (by omega) (by omega)
   have e3 : IntKind.u64.wrap (((rh - ph : Nat) : Int) - (if rl < pl then 1 else 0))=(dh : Int):=by
    split <;> exact uw (by omega) (by omega)
   have c5 : ph < rh \/ (ph=rh /\ pl < rl):=by omega
   clear hs ht hw e ed c
   refine start hC (nf:=N107) rfl rfl ?_
   simp [N107,c3]
   rcases c5 with c5 | ⟨c5,c6⟩
   ·simp [c5,k3,k4,e1,e2]
    rw [e3]
    refine aa kk (.inl rfl) ?_
    simp
   ·have c7 : ¬ rl < pl:=by omega
    have hd : dh=0:=by omega
    have hz : IntKind.u64.wrap 0=0:=dE 0 (by omega)
    subst hd
    clear hph hpl hrh hrl hdh hdl k0 k1
    subst c5
    refine ac (fun c4=>?_) (fun c4=>?_) <;> simp at c4
    simp
    refine ac (fun c4=>?_) (fun c4=>?_) <;> simp at c4
    ·simp [c4,c7,k3,k4,e1,hz]
     refine aa kk (.inl rfl) ?_
     simp
    ·omega
  ·have e : gL (x + y)=fx (p - r) (s && !decide (p - r=0)):=gd (by
    omega) (by
    rw [Bool.eq_iff_iff,hs]
    simp
    omega)
   obtain ⟨dh,dl,hdh,hdl,ed⟩:=fN (p - r) (s && !decide (p - r=0))
   rw [e,ed]
   have kk:=i8 hC dh dl s
   rw [show (s && (!decide ((dh : Int)=0) || !decide ((dl : Int)=0)))=(s && !decide (p - r=0)) by
    congr 1;rw [Bool.eq_iff_iff];simp;omega] at kk
   obtain ⟨w,hw⟩ : ∃ w,w=(s && !decide (p - r=0)):=⟨_,rfl⟩
   rw [<- hw] at kk ⊢
   have e1 : ((pl : Int) - rl) % 18446744073709551616=(dl : Int):=by omega
   have e2 : IntKind.u64.wrap ((ph : Int) - rh)=((ph - rh : Nat) : Int):=uw (by omega) (by omega)
   have e3 : IntKind.u64.wrap (((ph - rh : Nat) : Int) - (if pl < rl then 1 else 0))=(dh : Int):=by
    split <;> exact uw (by omega) (by omega)
   have c5 : ¬ ph < rh:=by omega
   have c6 : ph=rh -> ¬ pl < rl:=by omega
   clear hs ht hw e ed c
   refine start hC (nf:=N107) rfl rfl ?_
   simp [N107,c3]
   simp [c5]
   refine ac (fun c7=>?_) (fun c7=>?_) <;> simp at c7 <;> simp [c7]
   ·have c8 : ¬ pl < rl:=c6 (by omega)
    have hd : dh=0:=by omega
    have hz : IntKind.u64.wrap 0=0:=dE 0 (by omega)
    subst hd
    refine ac (fun c4=>?_) (fun c4=>?_) <;> simp at c4 <;> simp [c4]
    ·omega
    simp [c8,k3,k4,e1,hz]
    refine aa kk (.inl rfl) ?_
    simp
   ·simp [k3,k4,e1,e2]
    rw [e3]
    refine aa kk (.inl rfl) ?_
    simp
theorem qU (x y : Int) (hx : -664613997892457936451903530140172288 <= x /\ x <= 664613997892457936451903530140172287) (hy : -664613997892457936451903530140172288 < y /\ y <= 664613997892457936451903530140172287) : C 327 [wiS x,wiS y] (.tup [wiS (x + y),.int .i64 0]) []:=by
 have k1:=lE hC x (by omega)
 have k2:=lE hC y (by omega)
 have k3:=nG hC x (by omega)
 have k4:=nG hC y (by omega)
 have k5:=ED hC x y (by omega) (by omega)
 have k6:=uK hC (x + y) (by omega)
 obtain ⟨a1,a2,_,_,ea⟩:=cc x
 obtain ⟨b1,b2,_,_,eb⟩:=cc y
 obtain ⟨c1,c2,_,_,ec⟩:=cc (x + y)
 obtain ⟨f1,f2,f3,ef⟩ : ∃ (a1 a2 : Nat) (a3 : Bool),gL x=.agg [.int .u64 a1,.int .u64 a2,.bool a3]:=⟨_,_,_,rfl⟩
 obtain ⟨g1,g2,g3,eg⟩ : ∃ (a1 a2 : Nat) (a3 : Bool),gL y=.agg [.int .u64 a1,.int .u64 a2,.bool a3]:=⟨_,_,_,rfl⟩
 obtain ⟨h1,h2,h3,eh⟩ : ∃ (a1 a2 : Nat) (a3 : Bool),gL (x + y)=.agg [.int .u64 a1,.int .u64 a2,.bool a3]:=⟨_,_,_,rfl⟩
 rw [ea] at k1 k3 ⊢
 rw [eb] at k2 k4 ⊢
 rw [ef] at k3 k5
 rw [eg] at k4 k5
 rw [eh] at k5 k6
 rw [ec] at k6 ⊢
 clear ea eb ec ef eg eh
 refine start hC (nf:=N327) rfl rfl ?_
 simp [N327]
 refine aa k1 (.inl rfl) ?_
 simp
 refine aa k2 (.inl rfl) ?_
 simp
 refine aa k3 (.inl rfl) ?_
 simp
 refine aa k4 (.inl rfl) ?_
 simp
 refine aa k5 (.inl rfl) ?_
 simp
 refine aa k6 (.inr rfl) ?_
 simp
 exact am (by decide +kernel)
theorem yq (n : Nat) (h : n < 9223372036854775808) (b : Bool) : C 110 [.int .u64 n,.bool b] (.tup [.int .i64 (if b then -(n : Int) else n),.int .i64 0]) []:=by
 cases b
 ·exact kX hC n h
 ·by_cases h0 : n=0
  ·subst h0
   refine start hC (nf:=N110) rfl rfl ?_
   have hz : IntKind.u64.wrap 0=0:=by decide
   have hz2 : IntKind.i64.wrap 0=0:=by decide
   simp [N110,hz,hz2]
  ·have h1 : (n : Int) <= 9223372036854775808:=by omega
   have h2 : IntKind.u64.wrap (-(n : Int))=((18446744073709551616 - n : Nat) : Int):=uw (by omega) (by omega)
   have h3 : IntKind.i64.wrap ((18446744073709551616 - n : Nat) : Int)=-(n : Int):=iw (by omega) (by omega)
   obtain ⟨y,hy⟩ : ∃ y,y=((18446744073709551616 - n : Nat) : Int):=⟨_,rfl⟩
   rw [<- hy] at h2 h3
   refine start hC (nf:=N110) rfl rfl ?_
   simp [N110,h1,h2,h3]
theorem qA (p d : Nat) (up : Bool) (q : Nat) (hp0 : 0 < p) (hd : d < 9223372036854775808) (hp : p / 18446744073709551616 < d) (hq : q < 9223372036854775808) (hv : q=if up then p / d else if p % d=0 then p / d else p / d + 1) (hqd : p / d + 1 < 9223372036854775808) : C 104 [fx p true,.int .i64 d,.bool up] (.tup [.int .i64 (-(q : Int)),.int .i64 0]) []:=by
 obtain ⟨ph,hph⟩ : ∃ z,z=p / 18446744073709551616:=⟨_,rfl⟩
 obtain ⟨pl,hpl⟩ : ∃ z,z=p % 18446744073709551616:=⟨_,rfl⟩
 have hpp : ph * 18446744073709551616 + pl=p:=by omega
 obtain ⟨q0,hq0⟩ : ∃ z,z=p / d:=⟨_,rfl⟩
 obtain ⟨r0,hr0⟩ : ∃ z,z=p % d:=⟨_,rfl⟩
 have hdiv:=sA hC ph pl d (by omega) (by omega) (by omega)
 rw [hpp,<- hq0,<- hr0] at hdiv
 rw [<- hq0,<- hr0] at hv
 rw [fx,<- hph,<- hpl]
 have h1 : ¬ (d : Int) <= (ph : Int):=by omega
 have h2 : ¬ (d : Int) < 0:=by omega
 have h3 : IntKind.u64.wrap ((q0 : Int) + 1)=((q0 + 1 : Nat) : Int):=uw (by omega) (by omega)
 have kw:=yq hC q hq (decide (0 < q))
 have kq : (if decide (0 < q)=true then -(q : Int) else (q : Int))=-(q : Int):=by
  by_cases h : 0 < q
  ·simp [h]
  ·have : q=0:=by omega
   subst this
   simp
 rw [kq] at kw
 obtain ⟨Q,hQ⟩ : ∃ Q,Q=-(q : Int):=⟨_,rfl⟩
 rw [<- hQ] at kw ⊢
 refine start hC (nf:=N104) rfl rfl ?_
 simp [N104]
 refine aa (jy hC d hd) (.inl rfl) ?_
 simp [h1]
 refine aa hdiv (.inl rfl) ?_
 simp [h2]
 cases up
 ·by_cases h : 0 < r0
  ·have hi : (0 : Int) < r0:=by omega
   have e : q=q0 + 1:=by rw [hv];simp;omega
   subst e
   have h4 : ¬ ((q0 : Int) + 1=0):=by omega
   simp [hi,h3,h4,h]
   simp at kw
   refine aa kw (.inl rfl) ?_
   simp
  ·have hi : ¬ (0 : Int) < r0:=by omega
   have e : q=q0:=by rw [hv];simp;omega
   subst e
   simp [hi,h]
   refine aa kw (.inl rfl) ?_
   simp
 ·have e : q=q0:=by rw [hv];simp
  subst e
  by_cases h : 0 < r0
  ·have hi : (0 : Int) < r0:=by omega
   simp [hi,h]
   refine aa kw (.inl rfl) ?_
   simp
  ·have hi : ¬ (0 : Int) < r0:=by omega
   simp [hi,h]
   refine aa kw (.inl rfl) ?_
   simp
end Go.Gv

namespace Go.Gv
structure Spt where
 x : Int
 y : Int
 z : Int
 deriving Inhabited,DecidableEq
structure Fce where
 a : Int
 b : Int
 c : Int
 k : Int
 deriving Inhabited,DecidableEq
structure Msh where
 sn : Bool
 s : List Spt
 fn : Bool
 f : List Fce
def gr (s : Spt) : List D:=[.int .i64 s.x,.int .i64 s.y,.int .i64 s.z]
def dc (f : Fce) : List D:=[.int .i64 f.a,.int .i64 f.b,.int .i64 f.c,.int .i64 f.k]
def cI (m : Msh) : List D:=[slx m.sn (m.s.map gr),slx m.fn (m.f.map dc)]
theorem jv (s : Spt) : gr s=[.int .i64 s.x,.int .i64 s.y,.int .i64 s.z]:=_root_.id rfl
theorem eC (f : Fce) : dc f=[.int .i64 f.a,.int .i64 f.b,.int .i64 f.c,.int .i64 f.k]:=_root_.id rfl
theorem ao (m : Msh) : cI m=[slx m.sn (m.s.map gr),slx m.fn (m.f.map dc)]:=_root_.id rfl
def spt (m : Msh) (i : Nat) : Spt:=m.s[i]!
def fce (m : Msh) (i : Nat) : Fce:=m.f[i]!
@[simp high] theorem SV (m : Msh) (i : Nat) : m.s[i]! = spt m i:=_root_.id rfl
@[simp high] theorem RU (m : Msh) (i : Nat) : m.f[i]! = fce m i:=_root_.id rfl
@[simp high] theorem SW (m : Msh) (i : Nat) : m.s[i]?.getD default=spt m i:=by simp only [spt,List.getElem!_eq_getElem?_getD]
@[simp high] theorem RV (m : Msh) (i : Nat) : m.f[i]?.getD default=fce m i:=by simp only [fce,List.getElem!_eq_getElem?_getD]
@[simp] theorem To (m : Msh) (i : Nat) (h : i < m.s.length) : m.s[i]=spt m i:=(getElem!_pos m.s i h).symm
@[simp] theorem Tc (m : Msh) (i : Nat) (h : i < m.f.length) : m.f[i]=fce m i:=(getElem!_pos m.f i h).symm
abbrev Pnt:=Int × Int
def ptD (p : Pnt) : List D:=[.int .i64 p.1,.int .i64 p.2]
def ptS (s : Spt) : Pnt:=(s.x,s.y)
def okP (p : Pnt) : Bool:=-16777216 <= p.1 && p.1 <= 16777216 && -16777216 <= p.2 && p.2 <= 16777216
def bH (s : Spt) : Bool:=-16777216 <= s.x && s.x <= 16777216 && -16777216 <= s.y && s.y <= 16777216 && -4194304 <= s.z && s.z <= 4194304
theorem jW {s : Spt} (h : bH s=true) : okP (ptS s)=true:=by
 simp only [bH,Bool.and_eq_true,decide_eq_true_eq] at h
 show okP (s.x,s.y)=true
 simp [okP]
 omega
def cH (a b c : Pnt) : Int:=(b.1 - a.1) * (c.2 - a.2) - (b.2 - a.2) * (c.1 - a.1)
theorem xA {a b k l : Int} (h1 : -k <= a) (h2 : a <= k) (h3 : -l <= b) (h4 : b <= l) : -(k * l) <= a * b /\ a * b <= k * l:=by
 have hk : 0 <= k:=by omega
 have hl : 0 <= l:=by omega
 have e1:=Int.mul_nonneg (show 0 <= k - a by omega) (show 0 <= l - b by omega)
 have e2:=Int.mul_nonneg (show 0 <= k + a by omega) (show 0 <= l + b by omega)
 have e3:=Int.mul_nonneg (show 0 <= k - a by omega) (show 0 <= l + b by omega)
 have e4:=Int.mul_nonneg (show 0 <= k + a by omega) (show 0 <= l - b by omega)
 simp only [Int.sub_mul,Int.mul_sub,Int.add_mul,Int.mul_add] at e1 e2 e3 e4
 omega
theorem gn {p : Pnt} (h : okP p=true) : -16777216 <= p.1 /\ p.1 <= 16777216 /\ -16777216 <= p.2 /\ p.2 <= 16777216:=by
 simp only [okP,Bool.and_eq_true,decide_eq_true_eq] at h
 omega
theorem pv {a b c : Pnt} (ha : okP a=true) (hb : okP b=true) (hc : okP c=true) :
  (-1125899906842624 <= (b.1 - a.1) * (c.2 - a.2) /\ (b.1 - a.1) * (c.2 - a.2) <= 1125899906842624) /\ (-1125899906842624 <= (b.2 - a.2) * (c.1 - a.1) /\ (b.2 - a.2) * (c.1 - a.1) <= 1125899906842624):=by
 have:=gn ha
 have:=gn hb
 have:=gn hc
 exact ⟨xA (k:=33554432) (l:=33554432) (by omega) (by omega) (by omega) (by omega),xA (k:=33554432) (l:=33554432) (by omega) (by omega) (by omega) (by omega)⟩
abbrev Tri:=Pnt × Pnt × Pnt
def cl (t : Tri) : List D:=[.int .i64 t.1.1,.int .i64 t.1.2,.int .i64 t.2.1.1,.int .i64 t.2.1.2,.int .i64 t.2.2.1,.int .i64 t.2.2.2]
def okT (t : Tri) : Bool:=okP t.1 && okP t.2.1 && okP t.2.2
def tw (t : Tri) : Int:=cH t.1 t.2.1 t.2.2
def nQ (p q : Pnt) (u : Tri) : Bool:=cH p q u.1 <= 0 && cH p q u.2.1 <= 0 && cH p q u.2.2 <= 0
def xZ (t u : Tri) : Bool:=nQ t.1 t.2.1 u || nQ t.2.1 t.2.2 u || nQ t.2.2 t.1 u
def ovT (t u : Tri) : Bool:=!xZ t u && !xZ u t
def aY (m : Msh) (f : Fce) : Tri:=(ptS (spt m f.a.toNat),ptS (spt m f.b.toNat),ptS (spt m f.c.toNat))
def crn (f : Fce) : Nat -> Int
 | 0=>f.a
 | 1=>f.b
 | 2=>f.c
 | 3=>f.a
 | 4=>f.b
 | _=>f.c
def gl (n : Nat) (a : Int) : Bool:=0 <= a && a < n
def inS (m : Msh) (f : Fce) : Bool:=gl m.s.length f.a && gl m.s.length f.b && gl m.s.length f.c
theorem pc {m : Msh} {f : Fce} (h : inS m f=true) : (0 <= f.a /\ f.a.toNat < m.s.length) /\ (0 <= f.b /\ f.b.toNat < m.s.length) /\ (0 <= f.c /\ f.c.toNat < m.s.length):=by
 simp only [inS,gl,Bool.and_eq_true,decide_eq_true_eq] at h
 omega
variable {C : CC} (hC : aj prog C)
include hC
theorem qy (p : Pnt) : C 313 [.agg (ptD p)] (.bool (okP p)) []:=by
 refine start hC (nf:=N313) rfl rfl ?_
 simp [N313,ptD,okP]
 repeat' (refine ac (fun h=>?_) (fun h=>?_) <;> simp at h <;> simp [h] <;> try omega)
theorem xy (s : Spt) : C 303 [.agg (gr s)] (.bool (bH s)) []:=by
 have k:=qy hC (s.x,s.y)
 simp [ptD,okP] at k
 refine start hC (nf:=N303) rfl rfl ?_
 simp [N303,gr,bH]
 refine aa k (.inl rfl) ?_
 simp
 repeat' (refine ac (fun h=>?_) (fun h=>?_) <;> simp at h <;> simp [h] <;> try omega)
theorem qr (m : Msh) : C 302 [.agg (cI m)] (.bool (decide (m.s.length <= 2000) && decide (m.f.length <= 4000))) []:=by
 refine start hC (nf:=N302) rfl rfl ?_
 simp [N302,cI]
 refine ac (fun h=>?_) (fun h=>?_) <;> simp at h <;> simp [h]
 ·rw [decide_eq_true (show m.s.length <= 2000 by omega)]
  simp
  exact Iff.intro (fun h2=>by omega) (fun h2=>by omega)
 ·omega
theorem kF (m : Msh) (i : Nat) (h : i < m.s.length) : C 304 [.agg (cI m),.int .i64 i] (.agg (ptD (ptS (spt m i)))) []:=by
 refine start hC (nf:=N304) rfl rfl ?_
 simp [N304,cI,h,jv,ptD,ptS]
 exact am (by decide +kernel)
theorem mU (f : Fce) : C 305 [.agg (dc f)] (.agg [.int .i64 f.a,.int .i64 f.b,.int .i64 f.c]) []:=by
 refine start hC (nf:=N305) rfl rfl ?_
 simp [N305,dc]
theorem Ap (f : Fce) (k : Nat) (hk : k < 3) : C 298 [.agg (dc f),.int .i64 k] (.agg [.int .i64 (crn f k),.int .i64 (crn f (k + 1))]) []:=by
 have k1:=mU hC f
 refine start hC (nf:=N298) rfl rfl ?_
 rw [dc] at k1 ⊢
 simp [N298]
 refine aa k1 (.inl rfl) ?_
 have w : IntKind.wrap .i64 ((k : Int) + 1)=((k + 1 : Nat) : Int):=ah (by omega) (by omega)
 have w0 : IntKind.wrap .i64 1=1:=by decide
 have w1 : IntKind.wrap .i64 2=2:=by decide
 have w2 : IntKind.wrap .i64 3=3:=by decide
 rcases (by omega : k=0 \/ k=1 \/ k=2) with rfl | rfl | rfl <;> simp [crn,w0,w1,w2] <;> exact am (by decide +kernel)
theorem s9 {a b c : Pnt} (ha : okP a=true) (hb : okP b=true) (hc : okP c=true) : C 308 [.agg (ptD a),.agg (ptD b),.agg (ptD c)] (.int .i64 (cH a b c)) []:=by
 have:=gn ha
 have:=gn hb
 have:=gn hc
 have h4:=pv ha hb hc
 refine start hC (nf:=N308) rfl rfl ?_
 have w1 : IntKind.wrap .i64 (b.1 - a.1)=b.1 - a.1:=ah rfl (by omega)
 have w2 : IntKind.wrap .i64 (c.2 - a.2)=c.2 - a.2:=ah rfl (by omega)
 have w3 : IntKind.wrap .i64 (b.2 - a.2)=b.2 - a.2:=ah rfl (by omega)
 have w4 : IntKind.wrap .i64 (c.1 - a.1)=c.1 - a.1:=ah rfl (by omega)
 have w5 : IntKind.wrap .i64 ((b.1 - a.1) * (c.2 - a.2))=(b.1 - a.1) * (c.2 - a.2):=ah rfl (by omega)
 have w6 : IntKind.wrap .i64 ((b.2 - a.2) * (c.1 - a.1))=(b.2 - a.2) * (c.1 - a.1):=ah rfl (by omega)
 have w7 : IntKind.wrap .i64 ((b.1 - a.1) * (c.2 - a.2) - (b.2 - a.2) * (c.1 - a.1))=cH a b c:=ah rfl (by rw [cH];omega)
 simp [N308,ptD,w1,w2,w3,w4,w5,w6,w7]
theorem Ea (m : Msh) (f : Fce) (h : inS m f=true) : C 307 [.agg (cI m),.agg (dc f)] (.agg (cl (aY m f))) []:=by
 obtain ⟨⟨a1,a2⟩,⟨b1,b2⟩,⟨c1,c2⟩⟩:=pc h
 have ka:=kF hC m f.a.toNat a2
 have kb:=kF hC m f.b.toNat b2
 have kc:=kF hC m f.c.toNat c2
 rw [Int.toNat_of_nonneg a1] at ka
 rw [Int.toNat_of_nonneg b1] at kb
 rw [Int.toNat_of_nonneg c1] at kc
 refine start hC (nf:=N307) rfl rfl ?_
 rw [cI] at ka kb kc ⊢
 simp [N307,dc]
 simp [ptD] at ka kb kc
 refine aa ka (.inl rfl) ?_
 simp
 refine aa kb (.inl rfl) ?_
 simp
 refine aa kc (.inl rfl) ?_
 simp [cl,aY]
 exact am (by decide +kernel)
end Go.Gv

namespace Go.Gv
theorem gU : IntKind.wrap .i64 1=1:=by decide
theorem iv : IntKind.wrap .i64 2=2:=by decide
theorem ix : IntKind.wrap .i64 3=3:=by decide
variable {C : CC} (hC : aj prog C)
include hC
set_option maxHeartbeats 1000000 in
theorem Ct {t u : Tri} (ht : okT t=true) (hu : okT u=true) : C 311 [.agg (cl t),.agg (cl u)] (.bool (xZ t u)) []:=by
 simp only [okT,Bool.and_eq_true] at ht hu
 obtain ⟨⟨t1,t2⟩,t3⟩:=ht
 obtain ⟨⟨u1,u2⟩,u3⟩:=hu
 have kk:=fun (p q r : Pnt) (hp : okP p=true) (hq : okP q=true) (hr : okP r=true)=>s9 hC hp hq hr
 simp only [ptD] at kk
 have E : xZ t u=(nQ t.1 t.2.1 u || nQ t.2.1 t.2.2 u || nQ t.2.2 t.1 u):=rfl
 rw [E]
 clear E
 have S : ∀ p q,nQ p q u=(decide (cH p q u.1 <= 0) && decide (cH p q u.2.1 <= 0) && decide (cH p q u.2.2 <= 0)):=fun p q=>rfl
 refine start hC (nf:=N311) rfl rfl ?_
 rw [cl,cl]
 simp [N311]
 refine ar Nat (fun i=>[(2,.ptr (cl t)),(3,.ptr (cl u)),(8,.int .i64 i)]) (fun i=>i <= 3 /\ (1 <= i -> nQ t.1 t.2.1 u=false) /\ (2 <= i -> nQ t.2.1 t.2.2 u=false) /\ (3 <= i -> nQ t.2.2 t.1 u=false)) (fun i=>3 - i) 0 (by simp) (by simp [cl]) ?_
 rintro i ⟨hi,s1,s2,s3⟩
 rcases (by omega : i=0 \/ i=1 \/ i=2 \/ i=3) with rfl | rfl | rfl | rfl
 ·simp [cl,gU,iv,ix]
  refine ⟨am (by decide +kernel),?_⟩
  refine aa (kk t.1 t.2.1 u.1 t1 t2 u1) (.inl rfl) ?_
  simp
  refine ac (fun h1=>?_) (fun h1=>?_) <;> simp at h1
  ·simp [h1]
   refine aa (kk t.1 t.2.1 u.2.1 t1 t2 u2) (.inl rfl) ?_
   simp
   refine ac (fun h2=>?_) (fun h2=>?_) <;> simp at h2
   ·simp [h2]
    refine aa (kk t.1 t.2.1 u.2.2 t1 t2 u3) (.inl rfl) ?_
    simp
    refine ac (fun h3=>?_) (fun h3=>?_) <;> simp at h3 <;> simp [h3]
    ·simp [S,h1,h2,h3]
    ·refine ⟨1,⟨by omega,fun _=>by simp only [S,Bool.and_eq_false_iff,decide_eq_false_iff_not];omega,fun h=>by omega,fun h=>by omega⟩,by omega,?_⟩ <;> simp [gU,iv,ix]
   ·simp [Int.not_le.2 h2]
    refine ⟨1,⟨by omega,fun _=>by simp only [S,Bool.and_eq_false_iff,decide_eq_false_iff_not];omega,fun h=>by omega,fun h=>by omega⟩,by omega,?_⟩ <;> simp [gU,iv,ix]
  ·simp [Int.not_le.2 h1]
   refine ⟨1,⟨by omega,fun _=>by simp only [S,Bool.and_eq_false_iff,decide_eq_false_iff_not];omega,fun h=>by omega,fun h=>by omega⟩,by omega,?_⟩ <;> simp [gU,iv,ix]
 ·simp [cl,gU,iv,ix]
  refine ⟨am (by decide +kernel),?_⟩
  refine aa (kk t.2.1 t.2.2 u.1 t2 t3 u1) (.inl rfl) ?_
  simp
  refine ac (fun h1=>?_) (fun h1=>?_) <;> simp at h1
  ·simp [h1]
   refine aa (kk t.2.1 t.2.2 u.2.1 t2 t3 u2) (.inl rfl) ?_
   simp
   refine ac (fun h2=>?_) (fun h2=>?_) <;> simp at h2
   ·simp [h2]
    refine aa (kk t.2.1 t.2.2 u.2.2 t2 t3 u3) (.inl rfl) ?_
    simp
    refine ac (fun h3=>?_) (fun h3=>?_) <;> simp at h3 <;> simp [h3]
    ·simp [S,h1,h2,h3]
    ·refine ⟨2,⟨by omega,fun _=>s1 (by omega),fun _=>by simp only [S,Bool.and_eq_false_iff,decide_eq_false_iff_not];omega,fun h=>by omega⟩,by omega,?_⟩ <;> simp [gU,iv,ix]
   ·simp [Int.not_le.2 h2]
    refine ⟨2,⟨by omega,fun _=>s1 (by omega),fun _=>by simp only [S,Bool.and_eq_false_iff,decide_eq_false_iff_not];omega,fun h=>by omega⟩,by omega,?_⟩ <;> simp [gU,iv,ix]
  ·simp [Int.not_le.2 h1]
   refine ⟨2,⟨by omega,fun _=>s1 (by omega),fun _=>by simp only [S,Bool.and_eq_false_iff,decide_eq_false_iff_not];omega,fun h=>by omega⟩,by omega,?_⟩ <;> simp [gU,iv,ix]
 ·simp [cl,gU,iv,ix]
  refine ⟨am (by decide +kernel),?_⟩
  refine aa (kk t.2.2 t.1 u.1 t3 t1 u1) (.inl rfl) ?_
  simp
  refine ac (fun h1=>?_) (fun h1=>?_) <;> simp at h1
  ·simp [h1]
   refine aa (kk t.2.2 t.1 u.2.1 t3 t1 u2) (.inl rfl) ?_
   simp
   refine ac (fun h2=>?_) (fun h2=>?_) <;> simp at h2
   ·simp [h2]
    refine aa (kk t.2.2 t.1 u.2.2 t3 t1 u3) (.inl rfl) ?_
    simp
    refine ac (fun h3=>?_) (fun h3=>?_) <;> simp at h3 <;> simp [h3]
    ·simp [S,h1,h2,h3]
    ·refine ⟨3,⟨by omega,fun _=>s1 (by omega),fun _=>s2 (by omega),fun _=>by simp only [S,Bool.and_eq_false_iff,decide_eq_false_iff_not];omega⟩,by omega,?_⟩ <;> simp [gU,iv,ix]
   ·simp [Int.not_le.2 h2]
    refine ⟨3,⟨by omega,fun _=>s1 (by omega),fun _=>s2 (by omega),fun _=>by simp only [S,Bool.and_eq_false_iff,decide_eq_false_iff_not];omega⟩,by omega,?_⟩ <;> simp [gU,iv,ix]
  ·simp [Int.not_le.2 h1]
   refine ⟨3,⟨by omega,fun _=>s1 (by omega),fun _=>s2 (by omega),fun _=>by simp only [S,Bool.and_eq_false_iff,decide_eq_false_iff_not];omega⟩,by omega,?_⟩ <;> simp [gU,iv,ix]
 ·simp [s1 (by omega),s2 (by omega),s3 (by omega)]
def TY (t : Tri) : List (List D):=[ptD t.1,ptD t.2.1,ptD t.2.2]
end Go.Gv

namespace Go.Gv
def okc (m : Msh) (a b : Int) : Bool:=gl m.s.length a && decide (a ≠ b) && bH (spt m a.toNat)
def okF (m : Msh) (f : Fce) : Bool:=okc m f.a f.b && okc m f.b f.c && okc m f.c f.a && decide (0 <= f.k) && decide (f.k < 16)
def mtc (f g : Fce) (i k : Nat) : Bool:=decide (crn f i=crn g k) && decide (crn f (i + 1)=crn g (k + 1))
def sk (f g : Fce) : Bool:=(List.range 3).any fun i=>(List.range 3).any fun k=>mtc f g i k
theorem pi {m : Msh} {f : Fce} (h : okF m f=true) : inS m f=true:=by
 simp only [okF,okc,Bool.and_eq_true] at h
 simp only [inS,Bool.and_eq_true]
 exact ⟨⟨h.1.1.1.1.1.1,h.1.1.1.2.1.1⟩,h.1.1.2.1.1⟩
theorem dz {m : Msh} {f : Fce} (h : okF m f=true) : okT (aY m f)=true:=by
 simp only [okF,okc,Bool.and_eq_true] at h
 simp only [okT,aY,Bool.and_eq_true]
 exact ⟨⟨jW h.1.1.1.1.2,jW h.1.1.1.2.2⟩,jW h.1.1.2.2⟩
def IB (n : Nat) : UInt8:=UInt8.ofNat (48 + n % 10)
def Db (n : Nat) (out : List UInt8) : List UInt8:=if n < 10 then IB n::out else Db (n / 10) (IB n::out)
def Ty (n : Nat) (out : List UInt8) : List UInt8:=if n=0 then out else Db n out
variable {C : CC} (hC : aj prog C)
include hC
end Go.Gv

namespace Go.Gv
def nv (m : Msh) (i : Nat) : Pnt:=ptS (spt m i)
def fil (p : Nat -> Bool) (n : Nat) : List Nat:=(List.range n).filter p
theorem pR (p : Nat -> Bool) : fil p 0=[]:=rfl
theorem cW {p : Nat -> Bool} {n : Nat} (h : p n=true) : fil p (n + 1)=fil p n++[n]:=by
 rw [fil,List.range_succ,List.filter_append]
 simp [h,fil]
theorem rp {p : Nat -> Bool} {n : Nat} (h : p n=false) : fil p (n + 1)=fil p n:=by
 rw [fil,List.range_succ,List.filter_append]
 simp [h,fil]
theorem aP (p : Nat -> Bool) (n : Nat) : (fil p n).length <= n:=by
 have:=List.length_filter_le p (List.range n)
 rw [fil]
 simpa using this
theorem eT {p : Nat -> Bool} {n i : Nat} (h : i ∈ fil p n) : i < n /\ p i=true:=by
 rw [fil,List.mem_filter,List.mem_range] at h
 exact h
theorem oX {p : Nat -> Bool} {n : Nat} : fil p n=[] ↔ ∀ i,i < n -> p i=false:=by
 rw [fil,List.filter_eq_nil_iff]
 simp
def fj (m : Msh) (i : Nat) : Bool:=!bH (spt m i)
def dC (m : Msh) (i : Nat) : Bool:=bH (spt m i) && (List.range i).any fun k=>bH (spt m k) && decide (nv m k=nv m i)
def fQ (m : Msh) (i : Nat) : Bool:=!okF m (fce m i)
def dX (m : Msh) (i : Nat) : Bool:=okF m (fce m i) && decide (tw (aY m (fce m i)) <= 0)
def aC (m : Msh) (i : Nat) : Bool:=okF m (fce m i) && decide (0 < tw (aY m (fce m i)))
def cY (m : Msh) (i : Nat) : Bool:=aC m i && (List.range i).any fun k=>aC m k && sk (fce m i) (fce m k)
def a8 (m : Msh) (i : Nat) : Bool:=aC m i && (List.range i).any fun k=>aC m k && ovT (aY m (fce m i)) (aY m (fce m k))
def LL (m : Msh) : List (List Nat):=[[],fil (fj m) m.s.length,fil (dC m) m.s.length,fil (fQ m) m.f.length,fil (dX m) m.f.length,fil (cY m) m.f.length,fil (a8 m) m.f.length]
def eM (dec : Nat -> List UInt8) : Nat -> List (List Nat) -> List (Int × List UInt8)
 | _,[]=>[]
 | k,l::r=>(l.map fun i=>((k : Int),dec i))++eM dec (k + 1) r
def fnD (x : Int × List UInt8) : List D:=[.int .i64 x.1,.str x.2]
def gq (m : Msh) : Bool:=decide (m.s.length <= 2000) && decide (m.f.length <= 4000)
def bK (m : Msh) : Bool:=gq m && (LL m).all fun l=>decide (l=[])
theorem qx (dec : Nat -> List UInt8) : ∀ (k : Nat) (ls : List (List Nat)),eM dec k ls=[] ↔ (ls.all fun l=>decide (l=[]))=true
 | _,[]=>by simp [eM]
 | k,l::r=>by simp [eM,qx dec (k + 1) r]
def jE (m : Msh) : Nat -> List D
 | 0=>[]
 | i + 1=>if bH (spt m i) then .agg (ptD (nv m i))::jE m i else jE m i
def lz (m : Msh) : Nat -> List D
 | 0=>[]
 | i + 1=>if bH (spt m i) then .bool true::lz m i else lz m i
theorem qz (m : Msh) : ∀ i,(jE m i).length <= i
 | 0=>by simp [jE]
 | i + 1=>by
  have:=qz m i
  rw [jE]
  split <;> simp <;> omega
theorem Dh (p q : Pnt) : eqD (.agg (ptD p)) (.agg (ptD q))=decide (q=p):=by
 obtain ⟨a,b⟩:=p
 obtain ⟨c,d⟩:=q
 simp [eqD,oV,nK,ptD]
 rw [Bool.eq_iff_iff]
 simp
 exact ⟨fun h=>⟨h.1.symm,h.2.symm⟩,fun h=>⟨h.1.symm,h.2.symm⟩⟩
theorem rX (m : Msh) (p : Pnt) : ∀ i,(cX (jE m i) (lz m i) (.agg (ptD p))).getD (.bool false)=.bool ((List.range i).any fun k=>bH (spt m k) && decide (nv m k=p))
 | 0=>rfl
 | i + 1=>by
  rw [jE,lz,List.range_succ,List.any_append]
  by_cases h : bH (spt m i)=true
  ·rw [if_pos h,if_pos h,cX,Dh]
   by_cases h2 : nv m i=p
   ·simp [h,h2]
   ·simp [h2,rX m p i]
  ·rw [if_neg h,if_neg h,rX m p i]
   simp [h]
def ft (m : Msh) (i : Nat) : List Bool:=(List.range m.s.length).map fun j=>decide (j < i) && fj m j
theorem kh (m : Msh) (i : Nat) : (ft m i).length=m.s.length:=by simp [ft]
theorem t8 (m : Msh) : ft m 0=List.replicate m.s.length false:=by
 refine List.ext_getElem (by simp [ft]) fun k h1 h2=>?_
 simp [ft]
theorem wx (m : Msh) {i : Nat} (h : i < m.s.length) : (ft m i).set i (fj m i)=ft m (i + 1):=by
 refine List.ext_getElem (by simp [ft]) fun k h1 h2=>?_
 rw [List.getElem_set]
 simp only [ft,List.getElem_map,List.getElem_range]
 by_cases e : i=k
 ·subst e;simp
 ·rw [if_neg e]
  by_cases e2 : k < i
  ·simp [e2,show k < i + 1 by omega]
  ·simp [e2,show ¬ k < i + 1 by omega]
theorem wv (m : Msh) {k : Nat} (h : k < m.s.length) : (ft m m.s.length)[k]'(by rw [kh];exact h)=fj m k:=by simp [ft,h]
variable {C : CC} (hC : aj prog C)
include hC
theorem wX {b : Bool} {xs : List Tri} {g : Nat} {cs : List D} (p : Tri -> Bool) (hs : xs.length < 2 ^ 62) (hp : ∀ x ∈ xs,C g (.agg (cl x)::cs) (.bool (p x)) []) : C 328 [slx b (xs.map cl),.fn g cs] (.int .i64 (bv p xs)) []:=by
 refine start hC (nf:=N328) rfl rfl ?_
 simp [N328]
 refine ar Nat (fun i=>[(0,slx b (xs.map cl)),(1,.fn g cs),(7,.int .i64 xs.length),(8,.int .i64 i)]) (fun i=>i <= xs.length /\ ∀ (j : Nat) (h : j < xs.length),j < i -> p xs[j]=false) (fun i=>xs.length - i) 0 (by simp) (by simp) ?_
 rintro i ⟨hi,hj⟩
 simp
 refine ac (fun h=>?_) (fun h=>?_) <;> simp [h] <;> simp at h
 ·have hw : IntKind.wrap .i64 ((i : Int) + 1)=((i + 1 : Nat) : Int):=ah (by omega) (by omega)
  have hc:=hp _ (List.getElem_mem h)
  simp [h,List.getElem_map,cl] at hc ⊢
  refine aa hc (.inl rfl) ?_
  simp
  refine ac (fun h1=>?_) (fun h1=>?_) <;> simp [h1,hw]
  ·rw [cq hj h h1]
  ·refine ⟨i + 1,⟨by omega,fun j hl hjj=>?_⟩,by omega,by simp [cl]⟩
   rcases Nat.lt_succ_iff_lt_or_eq.1 hjj with h2 | rfl
   ·exact hj j hl h2
   ·exact h1
 ·rw [cE (fun j hl=>hj j hl (by omega))]
theorem cP {b : Bool} {xs : List Tri} {g : Nat} {cs : List D} (p : Tri -> Bool) (hs : xs.length < 2 ^ 62) (hp : ∀ x ∈ xs,C g (.agg (cl x)::cs) (.bool (p x)) []) : C 309 [slx b (xs.map cl),.fn g cs] (.bool (xs.any p)) []:=by
 refine start hC (nf:=N309) rfl rfl ?_
 simp [N309]
 refine aa (wX hC p hs hp) (.inl rfl) ?_
 simp [dN]
theorem C4 (m : Msh) (k : Int) (hn : m.s.length < 2 ^ 40) : C 306 [.int .i64 k,.ptr (cI m),.ptr [.sl ((ft m m.s.length).map fun b=>[.bool b])]] (.bool (!(gl m.s.length k && bH (spt m k.toNat)))) []:=by
 have E : gl m.s.length k=(decide (0 <= k) && decide (k < m.s.length)):=rfl
 refine start hC (nf:=N306) rfl rfl ?_
 simp [N306,cI]
 refine ac (fun c1=>?_) (fun c1=>?_) <;> simp at c1
 ·simp [c1]
  rw [E,decide_eq_false (by omega)];simp
 ·simp [Int.not_lt.2 c1]
  refine ac (fun c2=>?_) (fun c2=>?_) <;> simp at c2
  ·simp [c2]
   rw [E,decide_eq_false (show ¬ k < m.s.length by omega)];simp
  ·have c3 : k.toNat < m.s.length:=by omega
   have c4:=wv m c3
   simp [Int.not_le.2 c2,c1,c3,kh]
   rw [c4,E,decide_eq_true c1,decide_eq_true c2]
   simp [fj]
theorem fq {t o : Tri} (ht : okT t=true) (ho : okT o=true) : C 310 [.agg (cl o),.ptr (cl t)] (.bool (ovT t o)) []:=by
 have k1:=Ct hC ht ho
 have k2:=Ct hC ho ht
 refine start hC (nf:=N310) rfl rfl ?_
 rw [cl,cl] at k1 k2 ⊢
 simp [N310]
 refine aa k1 (.inl rfl) ?_
 simp
 cases h1 : xZ t o <;> simp [ovT,h1]
 refine aa k2 (.inl rfl) ?_
 simp
 exact fun _=>h1
end Go.Gv

namespace Go.Gv
def nmR (l : List Nat) : List (List D):=l.map fun (k : Nat)=>[D.int .i64 k]
theorem fu (l : List Nat) : nmR l=l.map fun (k : Nat)=>[D.int .i64 k]:=_root_.id rfl
theorem jq {p : Nat -> Bool} {n : Nat} (h : p n=true) : nmR (fil p n)++[[D.int .i64 n]]=nmR (fil p (n + 1)):=by
 rw [cW h];simp [nmR]
theorem fw {p : Nat -> Bool} {n : Nat} (h : p n=false) : nmR (fil p n)=nmR (fil p (n + 1)):=by rw [rp h]
@[simp] theorem Ql (l : List Nat) : (nmR l).length=l.length:=by simp [nmR]
@[simp] theorem Ec (l : List Nat) : (∀ e ∈ nmR l,∀ c ∈ e,av c=true)=True:=by simp [nmR]
@[simp] theorem LK (l : List Nat) : List.take l.length (nmR l)=nmR l:=List.take_of_length_le (by simp)
@[simp] theorem Qk (l : List Nat) (x : List D) : (∀ e,e ∈ nmR l \/ e=x -> ∀ c,c ∈ e -> av c=true)=∀ c,c ∈ x -> av c=true:=by
 apply propext
 constructor
 ·exact fun h=>h x (.inr rfl)
 ·rintro h e (he | rfl)
  ·exact (Ec l).mpr trivial e he
  ·exact h
@[simp] theorem Qm : nmR []=[]:=rfl
def boR (l : List Bool) : List (List D):=l.map fun b=>[D.bool b]
theorem oO (l : List Bool) : boR l=l.map fun b=>[D.bool b]:=_root_.id rfl
@[simp] theorem MW (l : List Bool) : (boR l).length=l.length:=by simp [boR]
@[simp] theorem MV (l : List Bool) (i : Nat) (h : i < (boR l).length) : (boR l)[i]=[D.bool (l[i]'(by simpa using h))]:=by simp [boR]
@[simp] theorem MX (l : List Bool) (i : Nat) (b : Bool) : (boR l).set i [D.bool b]=boR (l.set i b):=by simp [boR,List.map_set]
theorem t7 (m : Msh) {i : Nat} (h : i < m.s.length) : (ft m i).set i (!bH (spt m i))=ft m (i + 1):=wx m h
theorem zK (m : Msh) {i : Nat} (h : i < m.s.length) (h' : i < (ft m (i + 1)).length) : (ft m (i + 1))[i]=!bH (spt m i):=by simp [ft,fj]
theorem ww (m : Msh) : List.replicate m.s.length [D.bool false]=boR (ft m 0):=by rw [t8];simp [boR]
def BI (m : Msh) (i : Nat) : Env:=[(1,.ptr (cI m)),(4,.adr (.r 10064) 0 0),(10064,.blk 7 [[.own 1 [],.own 1 (nmR (fil (fj m) i)),.own 1 (nmR (fil (dC m) i)),.own 1 [],.own 1 [],.own 1 [],.own 1 []]]),(5,.adr (.r 10080) 0 0),(10080,.blk 1 [[.own 1 (boR (ft m i))]]),(6,.mrf 10464),(10464,.mp 4 1 (jE m i) (lz m i)),(31,slx m.sn (m.s.map gr)),(32,.int .i64 m.s.length),(33,.int .i64 i)]
theorem iF (m : Msh) (i : Nat) : BI m i=[(1,.ptr (cI m)),(4,.adr (.r 10064) 0 0),(10064,.blk 7 [[.own 1 [],.own 1 (nmR (fil (fj m) i)),.own 1 (nmR (fil (dC m) i)),.own 1 [],.own 1 [],.own 1 [],.own 1 []]]),(5,.adr (.r 10080) 0 0),(10080,.blk 1 [[.own 1 (boR (ft m i))]]),(6,.mrf 10464),(10464,.mp 4 1 (jE m i) (lz m i)),(31,slx m.sn (m.s.map gr)),(32,.int .i64 m.s.length),(33,.int .i64 i)]:=_root_.id rfl
def trR (m : Msh) (l : List Nat) : List (List D):=l.map fun k=>cl (aY m (fce m k))
theorem fB (m : Msh) (l : List Nat) : trR m l=(l.map fun k=>aY m (fce m k)).map cl:=by simp [trR]
@[simp] theorem QW (m : Msh) (l : List Nat) : (trR m l).length=l.length:=by simp [trR]
@[simp] theorem MG (m : Msh) (l : List Nat) : List.take l.length (trR m l)=trR m l:=List.take_of_length_le (by simp)
@[simp] theorem SZ (m : Msh) (l : List Nat) : List.map (fun e=>List.map aH e) (trR m l)=trR m l:=by simp [trR,cl]
@[simp] theorem QX (m : Msh) : trR m []=[]:=rfl
theorem dO {m : Msh} {i : Nat} (h : aC m i=true) : trR m (fil (aC m) i)++[cl (aY m (fce m i))]=trR m (fil (aC m) (i + 1)):=by rw [cW h];simp [trR]
def sdK (f : Fce) : Nat -> List D
 | 0=>[]
 | j + 1=>.agg [.int .i64 (crn f j),.int .i64 (crn f (j + 1))]::sdK f j
theorem pp (f : Fce) : ∀ j,(sdK f j).length=j
 | 0=>rfl
 | j + 1=>by simp [sdK,pp f j]
def bW (m : Msh) : Nat -> List D
 | 0=>[]
 | i + 1=>if aC m i then sdK (fce m i) 3++bW m i else bW m i
def b6 (m : Msh) : Nat -> List D
 | 0=>[]
 | i + 1=>if aC m i then List.replicate 3 (.bool true)++b6 m i else b6 m i
theorem cG (m : Msh) : ∀ i,(bW m i).length <= 3 * i
 | 0=>by simp [bW]
 | i + 1=>by
  have:=cG m i
  rw [bW]
  split <;> simp [pp] <;> omega
def iL (m : Msh) (i j : Nat) : Bool:=(List.range i).any fun k=>aC m k && (List.range 3).any fun j'=>mtc (fce m i) (fce m k) j j'
theorem I5 (a b c d : Int) : eqD (.agg [.int .i64 a,.int .i64 b]) (.agg [.int .i64 c,.int .i64 d])=(decide (a=c) && decide (b=d)):=by
 simp [eqD,oV,nK]
theorem sr (m : Msh) (a b : Int) : ∀ i,(cX (bW m i) (b6 m i) (.agg [.int .i64 a,.int .i64 b])).getD (.bool false)=.bool ((List.range i).any fun k=>aC m k && (List.range 3).any fun j=>decide (a=crn (fce m k) j) && decide (b=crn (fce m k) (j + 1)))
 | 0=>rfl
 | i + 1=>by
  rw [bW,b6,List.range_succ,List.any_append]
  have h3 : List.range 3=[0,1,2]:=rfl
  by_cases h : aC m i=true
  ·rw [if_pos h,if_pos h]
   simp only [sdK,List.replicate,List.cons_append,List.nil_append,cX,I5]
   have ih:=sr m a b i
   by_cases c0 : (decide (a=crn (fce m i) 2) && decide (b=crn (fce m i) (2 + 1)))=true
   ·rw [if_pos c0]
    simp only [List.any_cons,List.any_nil,h,h3,c0]
    simp
   ·rw [if_neg c0]
    by_cases c1 : (decide (a=crn (fce m i) 1) && decide (b=crn (fce m i) (1 + 1)))=true
    ·rw [if_pos c1]
     simp only [List.any_cons,List.any_nil,h,h3,c1]
     simp
    ·rw [if_neg c1]
     by_cases c2 : (decide (a=crn (fce m i) 0) && decide (b=crn (fce m i) (0 + 1)))=true
     ·rw [if_pos c2]
      simp only [List.any_cons,List.any_nil,h,h3,c2]
      simp
     ·rw [if_neg c2,ih]
      rw [Bool.not_eq_true] at c0 c1 c2
      simp only [List.any_cons,List.any_nil,h,h3,c0,c1,c2]
      simp
  ·rw [if_neg h,if_neg h,sr m a b i]
   simp [h]
theorem yP {α : Type} (A p q r : α -> Bool) (l : List α) : (l.any fun k=>A k && (p k || (q k || r k)))=((l.any fun k=>A k && p k) || ((l.any fun k=>A k && q k) || (l.any fun k=>A k && r k))):=by
 induction l with
 | nil=>rfl
 | cons x l ih =>
  simp only [List.any_cons,ih]
  cases A x <;> cases p x <;> cases q x <;> cases r x <;> simp
theorem x4 {m : Msh} {i : Nat} (h : aC m i=true) : cY m i=(iL m i 0 || (iL m i 1 || iL m i 2)):=by
 unfold cY sk iL
 rw [h,Bool.true_and,<- yP]
 have h3 : List.range 3=[0,1,2]:=rfl
 simp only [h3,List.any_cons,List.any_nil,Bool.or_false]
theorem C9 {m : Msh} {f : Fce} (h : inS m f=true) (j : Nat) : 0 <= crn f j /\ crn f j < m.s.length:=by
 have:=pc h
 unfold crn
 split <;> omega
def pK (m : Msh) (i k : Nat) : Env:=[(1,.ptr (cI m)),(4,.adr (.r 10064) 0 0),(10064,.blk 7 [[.own 1 [],.own 1 (nmR (fil (fj m) m.s.length)),.own 1 (nmR (fil (dC m) m.s.length)),.own 1 (nmR (fil (fQ m) i)),.own 1 (nmR (fil (dX m) i)),.own 1 (nmR (fil (cY m) (i + 1))),.own 1 (nmR (fil (a8 m) i))]]),(5,.adr (.r 10080) 0 0),(10080,.blk 1 [[.own 1 (boR (ft m m.s.length))]]),(10,.mrf 11104),(11104,.mp 3 1 (sdK (fce m i) k++bW m i) (List.replicate k (.bool true)++b6 m i)),(11,.ref (.r 10176) 0 (fil (aC m) i).length),(10176,.blk 6 (trR m (fil (aC m) i))),(12,.int .i64 i),(13,.adr (.r 10208) 0 0),(10208,.blk 4 [dc (fce m i)]),(15,.adr (.r 10240) 0 0),(10240,.blk 6 [cl (aY m (fce m i))]),(71,slx m.fn (m.f.map dc)),(72,.int .i64 m.f.length),(73,.int .i64 i),(159,.int .i64 k)]
theorem gB (m : Msh) (i k : Nat) : pK m i k=[(1,.ptr (cI m)),(4,.adr (.r 10064) 0 0),(10064,.blk 7 [[.own 1 [],.own 1 (nmR (fil (fj m) m.s.length)),.own 1 (nmR (fil (dC m) m.s.length)),.own 1 (nmR (fil (fQ m) i)),.own 1 (nmR (fil (dX m) i)),.own 1 (nmR (fil (cY m) (i + 1))),.own 1 (nmR (fil (a8 m) i))]]),(5,.adr (.r 10080) 0 0),(10080,.blk 1 [[.own 1 (boR (ft m m.s.length))]]),(10,.mrf 11104),(11104,.mp 3 1 (sdK (fce m i) k++bW m i) (List.replicate k (.bool true)++b6 m i)),(11,.ref (.r 10176) 0 (fil (aC m) i).length),(10176,.blk 6 (trR m (fil (aC m) i))),(12,.int .i64 i),(13,.adr (.r 10208) 0 0),(10208,.blk 4 [dc (fce m i)]),(15,.adr (.r 10240) 0 0),(10240,.blk 6 [cl (aY m (fce m i))]),(71,slx m.fn (m.f.map dc)),(72,.int .i64 m.f.length),(73,.int .i64 i),(159,.int .i64 k)]:=_root_.id rfl
def fnR (l : List (Int × List UInt8)) : List (List D):=l.map fnD
@[simp] theorem NF (l : List (Int × List UInt8)) : (fnR l).length=l.length:=by simp [fnR]
@[simp] theorem gG (l : List (Int × List UInt8)) : List.take l.length (fnR l)=fnR l:=List.take_of_length_le (by simp)
@[simp] theorem RX (l : List (Int × List UInt8)) : List.map (fun e=>List.map aH e) (fnR l)=fnR l:=by simp [fnR,fnD]
theorem jj (l : List (Int × List UInt8)) (k : Int) (s : List UInt8) : fnR l++[[.int .i64 k,.str s]]=fnR (l++[(k,s)]):=by simp [fnR,fnD]
@[simp] theorem NG : fnR []=[]:=rfl
def HP (L1 L2 L3 L4 L5 L6 : List Nat) : D:=.agx [.ref (.n 10064 0 0) 0 0,.ref (.n 10064 0 1) 0 L1.length,.ref (.n 10064 0 2) 0 L2.length,.ref (.n 10064 0 3) 0 L3.length,.ref (.n 10064 0 4) 0 L4.length,.ref (.n 10064 0 5) 0 L5.length,.ref (.n 10064 0 6) 0 L6.length]
theorem aG (L1 L2 L3 L4 L5 L6 : List Nat) : HP L1 L2 L3 L4 L5 L6=.agx [.ref (.n 10064 0 0) 0 0,.ref (.n 10064 0 1) 0 L1.length,.ref (.n 10064 0 2) 0 L2.length,.ref (.n 10064 0 3) 0 L3.length,.ref (.n 10064 0 4) 0 L4.length,.ref (.n 10064 0 5) 0 L5.length,.ref (.n 10064 0 6) 0 L6.length]:=_root_.id rfl
def Ib (L1 L2 L3 L4 L5 L6 : List Nat) : D:=.blk 7 [[.own 1 [],.own 1 (nmR L1),.own 1 (nmR L2),.own 1 (nmR L3),.own 1 (nmR L4),.own 1 (nmR L5),.own 1 (nmR L6)]]
theorem aU (L1 L2 L3 L4 L5 L6 : List Nat) : Ib L1 L2 L3 L4 L5 L6=.blk 7 [[.own 1 [],.own 1 (nmR L1),.own 1 (nmR L2),.own 1 (nmR L3),.own 1 (nmR L4),.own 1 (nmR L5),.own 1 (nmR L6)]]:=_root_.id rfl
theorem fo (dec : Nat -> List UInt8) : ∀ (a b : List (List Nat)) (k : Nat),eM dec k (a++b)=eM dec k a++eM dec (k + a.length) b
 | [],b,k=>by simp [eM]
 | x::a,b,k=>by
  have:=fo dec a b (k + 1)
  simp only [List.cons_append,eM,this,List.append_assoc,List.length_cons]
  rw [show k + 1 + a.length=k + (a.length + 1) by omega]
def tkD (dec : Nat -> List UInt8) (k : Int) (L : List Nat) (j : Nat) : List (Int × List UInt8):=(L.take j).map fun i=>(k,dec i)
theorem fY (dec : Nat -> List UInt8) (k : Int) (L : List Nat) : tkD dec k L 0=[]:=by simp [tkD]
theorem gT (dec : Nat -> List UInt8) (k : Int) (L : List Nat) {j : Nat} (h : j < L.length) : tkD dec k L (j + 1)=tkD dec k L j++[(k,dec L[j])]:=by
 unfold tkD
 rw [List.take_add_one,List.getElem?_eq_getElem h,List.map_append]
 rfl
theorem jx (dec : Nat -> List UInt8) (k : Int) (L : List Nat) {j : Nat} (h : j <= L.length) : (tkD dec k L j).length=j:=by simp [tkD];omega
theorem jw (dec : Nat -> List UInt8) (k : Int) (L : List Nat) : tkD dec k L L.length=L.map fun i=>(k,dec i):=by simp [tkD]
def BJ (m : Msh) (i : Nat) : Env:=[(1,.ptr (cI m)),(4,.adr (.r 10064) 0 0),(10064,.blk 7 [[.own 1 [],.own 1 (nmR (fil (fj m) m.s.length)),.own 1 (nmR (fil (dC m) m.s.length)),.own 1 (nmR (fil (fQ m) i)),.own 1 (nmR (fil (dX m) i)),.own 1 (nmR (fil (cY m) i)),.own 1 (nmR (fil (a8 m) i))]]),(5,.adr (.r 10080) 0 0),(10080,.blk 1 [[.own 1 (boR (ft m m.s.length))]]),(10,.mrf 11104),(11104,.mp 3 1 (bW m i) (b6 m i)),(11,.ref (.r 10176) 0 (fil (aC m) i).length),(10176,.blk 6 (trR m (fil (aC m) i))),(71,slx m.fn (m.f.map dc)),(72,.int .i64 m.f.length),(73,.int .i64 i)]
theorem da (m : Msh) (i : Nat) : BJ m i=[(1,.ptr (cI m)),(4,.adr (.r 10064) 0 0),(10064,.blk 7 [[.own 1 [],.own 1 (nmR (fil (fj m) m.s.length)),.own 1 (nmR (fil (dC m) m.s.length)),.own 1 (nmR (fil (fQ m) i)),.own 1 (nmR (fil (dX m) i)),.own 1 (nmR (fil (cY m) i)),.own 1 (nmR (fil (a8 m) i))]]),(5,.adr (.r 10080) 0 0),(10080,.blk 1 [[.own 1 (boR (ft m m.s.length))]]),(10,.mrf 11104),(11104,.mp 3 1 (bW m i) (b6 m i)),(11,.ref (.r 10176) 0 (fil (aC m) i).length),(10176,.blk 6 (trR m (fil (aC m) i))),(71,slx m.fn (m.f.map dc)),(72,.int .i64 m.f.length),(73,.int .i64 i)]:=_root_.id rfl
variable {C : CC} (hC : aj prog C)
include hC
set_option maxHeartbeats 4000000 in
theorem yK (dec : Nat -> List UInt8) (hI : ∀ n : Nat,n < 100 -> C 127 [.int .i64 n] (.str (dec n)) []) (m : Msh) (hs : m.s.length <= 100) (hf : m.f.length <= 100) : C 273 [.agg (cI m)] (.tup [.sl ((eM dec 0 (LL m)).map fnD),.int .i64 0]) []:=by
 have ksm:=qr hC m
 rw [decide_eq_true (show m.s.length <= 2000 by omega),decide_eq_true (show m.f.length <= 4000 by omega)] at ksm
 have kr:=fun s=>xy hC s
 have kp:=fun i h=>kF hC m i h
 refine start hC (nf:=N273) rfl rfl ?_
 simp only [ao] at ksm
 simp [N273,ao]
 refine aa ksm (.inl rfl) ?_
 simp
 refine ⟨by omega,?_⟩
 refine ar Nat (fun i=>BI m i) (fun i=>i <= m.s.length) (fun i=>m.s.length - i) 0 (by simp) (by simp [iF,ao,pR,jE,lz,ww]) ?_
 rintro i hi
 simp [iF,ao]
 refine ac (fun g1=>?_) (fun g1=>?_) <;> simp at g1 <;> simp [g1]
 ·have hw : IntKind.wrap .i64 ((i : Int) + 1)=((i + 1 : Nat) : Int):=ah (by omega) (by omega)
  have kri:=kr (spt m i)
  simp only [jv] at kri
  simp [jv]
  refine aa kri (.inl rfl) ?_
  simp [kh,g1]
  refine ⟨am (by decide +kernel),?_⟩
  rw [t7 m g1]
  rw [oO]
  simp [kh,g1,zK]
  have kpi:=kp i g1
  simp only [ao] at kpi
  have hr:=jW (s:=spt m i)
  cases hr1 : bH (spt m i)
  ·have e1:=jq (p:=fj m) (n:=i) (by simp [fj,hr1])
   have e2:=fw (p:=dC m) (n:=i) (by simp [dC,hr1])
   have e3 : jE m (i + 1)=jE m i:=by simp [jE,hr1]
   have e4 : lz m (i + 1)=lz m i:=by simp [lz,hr1]
   simp [hw]
   refine ⟨by have:=aP (fj m) i;omega,i + 1,by omega,by omega,?_⟩
   simp [iF,ao,e1,<- e2,e3,e4,<- oO]
  ·have hp:=gn (hr hr1)
   have e2:=fw (p:=fj m) (n:=i) (by simp [fj,hr1])
   have e3 : jE m (i + 1)=.agg (ptD (nv m i))::jE m i:=by simp [jE,hr1]
   have e4 : lz m (i + 1)=.bool true::lz m i:=by simp [lz,hr1]
   have kg:=rX m (nv m i) i
   have kl:=qz m i
   have hml : maxLen=9223372036854775807:=rfl
   simp [ao]
   refine aa kpi (.inl rfl) ?_
   simp [ptD,ptS,nv] at kg hp
   simp [ptD,ptS,kg]
   refine ⟨⟨by omega,by omega⟩,?_⟩
   have hsame : ((List.range i).any fun k=>bH (spt m k) && (decide ((spt m k).x=(spt m i).x) && decide ((spt m k).y=(spt m i).y)))=dC m i:=by
    simp [dC,hr1,nv,ptS]
   rw [hsame]
   cases hs1 : dC m i
   ·have e1:=fw (p:=dC m) (n:=i) hs1
    simp [hw]
    refine ⟨by omega,⟨by omega,by omega⟩,i + 1,by omega,by omega,?_⟩
    simp [iF,ao,<- e1,<- e2,e3,e4,<- oO,ptD,nv,ptS]
   ·have e1:=jq (p:=dC m) (n:=i) hs1
    simp [hw]
    refine ⟨by have:=aP (dC m) i;omega,by omega,⟨by omega,by omega⟩,i + 1,by omega,by omega,?_⟩
    simp [iF,ao,e1,<- e2,e3,e4,<- oO,ptD,nv,ptS]
 ·have hi2 : i=m.s.length:=by omega
  subst hi2
  refine ar Nat (fun i=>BJ m i) (fun i=>i <= m.f.length) (fun i=>m.f.length - i) 0 (by simp) (by simp [da,ao,pR,bW,b6]) ?_
  clear hi g1 kr kp ksm
  rintro i hi
  simp [da,ao]
  refine ac (fun g1=>?_) (fun g1=>?_) <;> simp at g1 <;> simp [g1]
  ·have hw : IntKind.wrap .i64 ((i : Int) + 1)=((i + 1 : Nat) : Int):=ah (by omega) (by omega)
   have kc:=mU hC (fce m i)
   have k1:=pX hC (b:=false) (xs:=[(fce m i).a,(fce m i).b,(fce m i).c]) (g:=306) (cs:=[.ptr (cI m),.ptr [.sl (boR (ft m m.s.length))]]) (fun k=>!(gl m.s.length k && bH (spt m k.toNat))) (by simp) (fun x _=>C4 hC m x (by omega))
   simp only [ao,eC] at kc k1
   simp at k1
   simp [eC]
   refine aa kc (.inl rfl) ?_
   simp [ce]
   obtain ⟨v,hv⟩ : ∃ v,v=(!gl m.s.length (fce m i).a || !bH (spt m (fce m i).a.toNat) || (!gl m.s.length (fce m i).b || !bH (spt m (fce m i).b.toNat) || (!gl m.s.length (fce m i).c || !bH (spt m (fce m i).c.toNat)))):=⟨_,rfl⟩
   rw [<- hv] at k1
   refine aa k1 (.inl rfl) ?_
   have E : fQ m i=!(okF m (fce m i)):=rfl
   have E2 : okF m (fce m i)=(okc m (fce m i).a (fce m i).b && okc m (fce m i).b (fce m i).c && okc m (fce m i).c (fce m i).a && decide (0 <= (fce m i).k) && decide ((fce m i).k < 16)):=rfl
   have E3 : ∀ a b : Int,okc m a b=(gl m.s.length a && decide (a ≠ b) && bH (spt m a.toNat)):=fun a b=>rfl
   have bad : fQ m i=true -> nmR (fil (fQ m) i)++[[D.int .i64 i]]=nmR (fil (fQ m) (i + 1)) /\ nmR (fil (dX m) i)=nmR (fil (dX m) (i + 1)) /\ nmR (fil (cY m) i)=nmR (fil (cY m) (i + 1)) /\ nmR (fil (a8 m) i)=nmR (fil (a8 m) (i + 1)) /\ fil (aC m) (i + 1)=fil (aC m) i /\ bW m (i + 1)=bW m i /\ b6 m (i + 1)=b6 m i:=fun h=>by
    have h0 : okF m (fce m i)=false:=by rw [E] at h;simpa using h
    have h1 : aC m i=false:=by simp [aC,h0]
    exact ⟨jq h,fw (by simp [dX,h0]),fw (by simp [cY,h1]),fw (by simp [a8,h1]),rp h1,by simp [bW,h1],by simp [b6,h1]⟩
   cases v
   rotate_left
   ·obtain ⟨e1,e2,e3,e4,e5,e6,e7⟩:=bad (by
     rw [E,E2,E3,E3,E3]
     revert hv
     cases gl m.s.length (fce m i).a <;> cases bH (spt m (fce m i).a.toNat) <;> cases gl m.s.length (fce m i).b <;> cases bH (spt m (fce m i).b.toNat) <;> cases gl m.s.length (fce m i).c <;> cases bH (spt m (fce m i).c.toNat) <;> simp)
    simp [hw]
    refine ⟨by have:=aP (fQ m) i;omega,i + 1,by omega,by omega,?_⟩
    simp [da,ao,e1,<- e2,<- e3,<- e4,e5,e6,e7]
   by_cases c1 : (fce m i).a=(fce m i).b
   ·obtain ⟨e1,e2,e3,e4,e5,e6,e7⟩:=bad (by
     rw [E,E2,E3,E3,E3]
     rw [decide_eq_false (show ¬ (fce m i).a ≠ (fce m i).b by omega)];simp)
    simp [c1,hw]
    refine ⟨by have:=aP (fQ m) i;omega,i + 1,by omega,by omega,?_⟩
    simp [da,ao,e1,<- e2,<- e3,<- e4,e5,e6,e7]
   by_cases c2 : (fce m i).b=(fce m i).c
   ·obtain ⟨e1,e2,e3,e4,e5,e6,e7⟩:=bad (by
     rw [E,E2,E3,E3,E3]
     rw [decide_eq_false (show ¬ (fce m i).b ≠ (fce m i).c by omega)];simp)
    simp [(show ¬ (fce m i).a=(fce m i).c by rw [<- c2];exact c1),c2,hw]
    refine ⟨by have:=aP (fQ m) i;omega,i + 1,by omega,by omega,?_⟩
    simp [da,ao,e1,<- e2,<- e3,<- e4,e5,e6,e7]
   by_cases c3 : (fce m i).c=(fce m i).a
   ·obtain ⟨e1,e2,e3,e4,e5,e6,e7⟩:=bad (by
     rw [E,E2,E3,E3,E3]
     rw [decide_eq_false (show ¬ (fce m i).c ≠ (fce m i).a by omega)];simp)
    simp [c1,c2,hw]
    refine ac (fun _=>?_) (fun h=>by simp [c3] at h)
    simp [hw]
    refine ⟨by have:=aP (fQ m) i;omega,i + 1,by omega,by omega,?_⟩
    simp [da,ao,e1,<- e2,<- e3,<- e4,e5,e6,e7]
   have c3' : ¬ (fce m i).a=(fce m i).c:=fun h=>c3 h.symm
   by_cases c4 : (fce m i).k < 0
   ·obtain ⟨e1,e2,e3,e4,e5,e6,e7⟩:=bad (by
     rw [E,E2,E3,E3,E3]
     rw [decide_eq_false (show ¬ 0 <= (fce m i).k by omega)];simp)
    simp [c1,c2,c3,c3',c4,hw]
    refine ⟨by have:=aP (fQ m) i;omega,i + 1,by omega,by omega,?_⟩
    simp [da,ao,e1,<- e2,<- e3,<- e4,e5,e6,e7]
   by_cases c5 : 16 <= (fce m i).k
   ·obtain ⟨e1,e2,e3,e4,e5,e6,e7⟩:=bad (by
     rw [E,E2,E3,E3,E3]
     rw [decide_eq_false (show ¬ (fce m i).k < 16 by omega)];simp)
    simp [c1,c2,c3,c3',c4,c5,hw]
    refine ⟨by have:=aP (fQ m) i;omega,i + 1,by omega,by omega,?_⟩
    simp [da,ao,e1,<- e2,<- e3,<- e4,e5,e6,e7]
   have ok : okF m (fce m i)=true:=by
    rw [E2,E3,E3,E3]
    simp only [Bool.and_eq_true,decide_eq_true_eq]
    have h:=hv.symm
    simp only [Bool.or_eq_false_iff,Bool.not_eq_false'] at h
    exact ⟨⟨⟨⟨⟨⟨h.1.1,c1⟩,h.1.2⟩,⟨h.2.1.1,c2⟩,h.2.1.2⟩,⟨h.2.2.1,c3⟩,h.2.2.2⟩,by omega⟩,by omega⟩
   have nbad : fQ m i=false:=by rw [E,ok];rfl
   have b1:=fw nbad
   have hT:=dz ok
   have kt:=Ea hC m (fce m i) (pi ok)
   have kn : C 308 [.agg (ptD (aY m (fce m i)).1),.agg (ptD (aY m (fce m i)).2.1),.agg (ptD (aY m (fce m i)).2.2)] (.int .i64 (tw (aY m (fce m i)))) []:=by
    have h:=hT
    simp only [okT,Bool.and_eq_true] at h
    exact s9 hC h.1.1 h.1.2 h.2
   have ks:=fun k h=>Ap hC (fce m i) k h
   have ks0:=ks 0 (by omega)
   have ks1:=ks 1 (by omega)
   have ks2:=ks 2 (by omega)
   have kg:=fun j=>sr m (crn (fce m i) j) (crn (fce m i) (j + 1)) i
   have kg : ∀ j,(cX (bW m i) (b6 m i) (.agg [.int .i64 (crn (fce m i) j),.int .i64 (crn (fce m i) (j + 1))])).getD (.bool false)=.bool (iL m i j):=kg
   have kg0:=kg 0
   have kg1:=kg 1
   have kg2:=kg 2
   simp [c1,c2,c3,c3',c4,c5]
   simp only [ao,eC] at kt
   refine aa kt (.inl rfl) ?_
   simp [cl]
   simp only [ptD] at kn
   refine aa kn (.inl rfl) ?_
   simp
   refine ac (fun d1=>?_) (fun d1=>?_) <;> simp at d1
   ·have hfl : dX m i=true:=by simp [dX,ok,d1]
    have hsn : aC m i=false:=by simp [aC,ok];omega
    have e1:=jq hfl
    have e2:=fw (p:=cY m) (n:=i) (by simp [cY,hsn])
    have e3:=fw (p:=a8 m) (n:=i) (by simp [a8,hsn])
    have e5:=rp hsn
    have e6 : bW m (i + 1)=bW m i:=by simp [bW,hsn]
    have e7 : b6 m (i + 1)=b6 m i:=by simp [b6,hsn]
    simp [d1,hw]
    refine ⟨by have:=aP (dX m) i;omega,i + 1,by omega,by omega,?_⟩
    simp [da,ao,e1,<- e2,<- e3,<- b1,e5,e6,e7]
   ·have hfl : dX m i=false:=by simp [dX,ok];omega
    have hsn : aC m i=true:=by simp [aC,ok,d1]
    have b2:=fw hfl
    have hsd:=x4 hsn
    simp only [eC] at ks ks0 ks1 ks2
    simp at ks0 ks1 ks2 kg0 kg1 kg2
    simp [Int.not_le.2 d1]
    refine aa ks0 (.inl rfl) ?_
    simp [kg0]
    have cb:=fun j=>C9 (pi ok) j
    have cb0:=cb 0
    have cb1:=cb 1
    have cb2:=cb 2
    have cb3:=cb 3
    refine ⟨⟨by omega,by omega⟩,?_⟩
    have yes : cY m i=true -> nmR (fil (cY m) i)++[[D.int .i64 i]]=nmR (fil (cY m) (i + 1)):=jq
    have nos : cY m i=false -> nmR (fil (cY m) i)=nmR (fil (cY m) (i + 1)):=fw
    have lsd:=aP (cY m) i
    have kT:=cP hC (b:=false) (xs:=(fil (aC m) i).map fun k=>aY m (fce m k)) (g:=310) (cs:=[.ptr (cl (aY m (fce m i)))]) (fun o=>ovT (aY m (fce m i)) o) (by have:=aP (aC m) i;simp;omega) (fun x hx=>by
     obtain ⟨k,hk,rfl⟩:=List.mem_map.1 hx
     have hk:=(eT hk).2
     simp only [aC,Bool.and_eq_true] at hk
     exact fq hC hT (dz hk.1))
    rw [<- fB,List.any_map] at kT
    have hov : (fil (aC m) i).any ((fun o=>ovT (aY m (fce m i)) o) ∘ fun k=>aY m (fce m k))=a8 m i:=by
     rw [fil,List.any_filter,a8,hsn]
     rfl
    rw [hov] at kT
    rw [bu] at kT
    have tl:=cG m i
    have hml : maxLen=9223372036854775807:=rfl
    have e5:=dO hsn
    have e6 : bW m (i + 1)=sdK (fce m i) 3++bW m i:=by simp [bW,hsn]
    have e7 : b6 m (i + 1)=.bool true::.bool true::.bool true::b6 m i:=by
     rw [b6,if_pos hsn];rfl
    have e8 : (fil (aC m) (i + 1)).length=(fil (aC m) i).length + 1:=by rw [cW hsn];simp
    have l8:=aP (aC m) i
    have lov:=aP (a8 m) i
    have kT:=cP hC (b:=false) (xs:=(fil (aC m) i).map fun k=>aY m (fce m k)) (g:=310) (cs:=[.ptr (cl (aY m (fce m i)))]) (fun o=>ovT (aY m (fce m i)) o) (by have:=aP (aC m) i;simp;omega) (fun x hx=>by
     obtain ⟨k,hk,rfl⟩:=List.mem_map.1 hx
     have hk:=(eT hk).2
     simp only [aC,Bool.and_eq_true] at hk
     exact fq hC hT (dz hk.1))
    rw [<- fB,List.any_map] at kT
    have hov : (fil (aC m) i).any ((fun o=>ovT (aY m (fce m i)) o) ∘ fun k=>aY m (fce m k))=a8 m i:=by
     rw [fil,List.any_filter,a8,hsn]
     rfl
    rw [hov] at kT
    rw [bu] at kT
    have tl:=cG m i
    have hml : maxLen=9223372036854775807:=rfl
    have e5:=dO hsn
    have e6 : bW m (i + 1)=sdK (fce m i) 3++bW m i:=by simp [bW,hsn]
    have e7 : b6 m (i + 1)=.bool true::.bool true::.bool true::b6 m i:=by
     rw [b6,if_pos hsn];rfl
    have e8 : (fil (aC m) (i + 1)).length=(fil (aC m) i).length + 1:=by rw [cW hsn];simp
    have l8:=aP (aC m) i
    have lov:=aP (a8 m) i
    have kT:=cP hC (b:=false) (xs:=(fil (aC m) i).map fun k=>aY m (fce m k)) (g:=310) (cs:=[.ptr (cl (aY m (fce m i)))]) (fun o=>ovT (aY m (fce m i)) o) (by have:=aP (aC m) i;simp;omega) (fun x hx=>by
     obtain ⟨k,hk,rfl⟩:=List.mem_map.1 hx
     have hk:=(eT hk).2
     simp only [aC,Bool.and_eq_true] at hk
     exact fq hC hT (dz hk.1))
    rw [<- fB,List.any_map] at kT
    have hov : (fil (aC m) i).any ((fun o=>ovT (aY m (fce m i)) o) ∘ fun k=>aY m (fce m k))=a8 m i:=by
     rw [fil,List.any_filter,a8,hsn]
     rfl
    rw [hov] at kT
    rw [bu] at kT
    have tl:=cG m i
    have hml : maxLen=9223372036854775807:=rfl
    have e5:=dO hsn
    have e6 : bW m (i + 1)=sdK (fce m i) 3++bW m i:=by simp [bW,hsn]
    have e7 : b6 m (i + 1)=.bool true::.bool true::.bool true::b6 m i:=by
     rw [b6,if_pos hsn];rfl
    have e8 : (fil (aC m) (i + 1)).length=(fil (aC m) i).length + 1:=by rw [cW hsn];simp
    have l8:=aP (aC m) i
    have lov:=aP (a8 m) i
    have kT:=cP hC (b:=false) (xs:=(fil (aC m) i).map fun k=>aY m (fce m k)) (g:=310) (cs:=[.ptr (cl (aY m (fce m i)))]) (fun o=>ovT (aY m (fce m i)) o) (by have:=aP (aC m) i;simp;omega) (fun x hx=>by
     obtain ⟨k,hk,rfl⟩:=List.mem_map.1 hx
     have hk:=(eT hk).2
     simp only [aC,Bool.and_eq_true] at hk
     exact fq hC hT (dz hk.1))
    rw [<- fB,List.any_map] at kT
    have hov : (fil (aC m) i).any ((fun o=>ovT (aY m (fce m i)) o) ∘ fun k=>aY m (fce m k))=a8 m i:=by
     rw [fil,List.any_filter,a8,hsn]
     rfl
    rw [hov] at kT
    rw [bu] at kT
    have tl:=cG m i
    have hml : maxLen=9223372036854775807:=rfl
    have e5:=dO hsn
    have e6 : bW m (i + 1)=sdK (fce m i) 3++bW m i:=by simp [bW,hsn]
    have e7 : b6 m (i + 1)=.bool true::.bool true::.bool true::b6 m i:=by
     rw [b6,if_pos hsn];rfl
    have e8 : (fil (aC m) (i + 1)).length=(fil (aC m) i).length + 1:=by rw [cW hsn];simp
    have l8:=aP (aC m) i
    have lov:=aP (a8 m) i
    have kT:=cP hC (b:=false) (xs:=(fil (aC m) i).map fun k=>aY m (fce m k)) (g:=310) (cs:=[.ptr (cl (aY m (fce m i)))]) (fun o=>ovT (aY m (fce m i)) o) (by have:=aP (aC m) i;simp;omega) (fun x hx=>by
     obtain ⟨k,hk,rfl⟩:=List.mem_map.1 hx
     have hk:=(eT hk).2
     simp only [aC,Bool.and_eq_true] at hk
     exact fq hC hT (dz hk.1))
    rw [<- fB,List.any_map] at kT
    have hov : (fil (aC m) i).any ((fun o=>ovT (aY m (fce m i)) o) ∘ fun k=>aY m (fce m k))=a8 m i:=by
     rw [fil,List.any_filter,a8,hsn]
     rfl
    rw [hov] at kT
    rw [bu] at kT
    have tl:=cG m i
    have hml : maxLen=9223372036854775807:=rfl
    have e5:=dO hsn
    have e6 : bW m (i + 1)=sdK (fce m i) 3++bW m i:=by simp [bW,hsn]
    have e7 : b6 m (i + 1)=.bool true::.bool true::.bool true::b6 m i:=by
     rw [b6,if_pos hsn];rfl
    have e8 : (fil (aC m) (i + 1)).length=(fil (aC m) i).length + 1:=by rw [cW hsn];simp
    have l8:=aP (aC m) i
    have lov:=aP (a8 m) i
    have kT:=cP hC (b:=false) (xs:=(fil (aC m) i).map fun k=>aY m (fce m k)) (g:=310) (cs:=[.ptr (cl (aY m (fce m i)))]) (fun o=>ovT (aY m (fce m i)) o) (by have:=aP (aC m) i;simp;omega) (fun x hx=>by
     obtain ⟨k,hk,rfl⟩:=List.mem_map.1 hx
     have hk:=(eT hk).2
     simp only [aC,Bool.and_eq_true] at hk
     exact fq hC hT (dz hk.1))
    rw [<- fB,List.any_map] at kT
    have hov : (fil (aC m) i).any ((fun o=>ovT (aY m (fce m i)) o) ∘ fun k=>aY m (fce m k))=a8 m i:=by
     rw [fil,List.any_filter,a8,hsn]
     rfl
    rw [hov] at kT
    rw [bu] at kT
    have tl:=cG m i
    have hml : maxLen=9223372036854775807:=rfl
    have e5:=dO hsn
    have e6 : bW m (i + 1)=sdK (fce m i) 3++bW m i:=by simp [bW,hsn]
    have e7 : b6 m (i + 1)=.bool true::.bool true::.bool true::b6 m i:=by
     rw [b6,if_pos hsn];rfl
    have e8 : (fil (aC m) (i + 1)).length=(fil (aC m) i).length + 1:=by rw [cW hsn];simp
    have l8:=aP (aC m) i
    have lov:=aP (a8 m) i
    have kT:=cP hC (b:=false) (xs:=(fil (aC m) i).map fun k=>aY m (fce m k)) (g:=310) (cs:=[.ptr (cl (aY m (fce m i)))]) (fun o=>ovT (aY m (fce m i)) o) (by have:=aP (aC m) i;simp;omega) (fun x hx=>by
     obtain ⟨k,hk,rfl⟩:=List.mem_map.1 hx
     have hk:=(eT hk).2
     simp only [aC,Bool.and_eq_true] at hk
     exact fq hC hT (dz hk.1))
    rw [<- fB,List.any_map] at kT
    have hov : (fil (aC m) i).any ((fun o=>ovT (aY m (fce m i)) o) ∘ fun k=>aY m (fce m k))=a8 m i:=by
     rw [fil,List.any_filter,a8,hsn]
     rfl
    rw [hov] at kT
    rw [bu] at kT
    have tl:=cG m i
    have hml : maxLen=9223372036854775807:=rfl
    have e5:=dO hsn
    have e6 : bW m (i + 1)=sdK (fce m i) 3++bW m i:=by simp [bW,hsn]
    have e7 : b6 m (i + 1)=.bool true::.bool true::.bool true::b6 m i:=by
     rw [b6,if_pos hsn];rfl
    have e8 : (fil (aC m) (i + 1)).length=(fil (aC m) i).length + 1:=by rw [cW hsn];simp
    have l8:=aP (aC m) i
    have lov:=aP (a8 m) i
    have kT:=cP hC (b:=false) (xs:=(fil (aC m) i).map fun k=>aY m (fce m k)) (g:=310) (cs:=[.ptr (cl (aY m (fce m i)))]) (fun o=>ovT (aY m (fce m i)) o) (by have:=aP (aC m) i;simp;omega) (fun x hx=>by
     obtain ⟨k,hk,rfl⟩:=List.mem_map.1 hx
     have hk:=(eT hk).2
     simp only [aC,Bool.and_eq_true] at hk
     exact fq hC hT (dz hk.1))
    rw [<- fB,List.any_map] at kT
    have hov : (fil (aC m) i).any ((fun o=>ovT (aY m (fce m i)) o) ∘ fun k=>aY m (fce m k))=a8 m i:=by
     rw [fil,List.any_filter,a8,hsn]
     rfl
    rw [hov] at kT
    rw [bu] at kT
    have tl:=cG m i
    have hml : maxLen=9223372036854775807:=rfl
    have e5:=dO hsn
    have e6 : bW m (i + 1)=sdK (fce m i) 3++bW m i:=by simp [bW,hsn]
    have e7 : b6 m (i + 1)=.bool true::.bool true::.bool true::b6 m i:=by
     rw [b6,if_pos hsn];rfl
    have e8 : (fil (aC m) (i + 1)).length=(fil (aC m) i).length + 1:=by rw [cW hsn];simp
    have l8:=aP (aC m) i
    have lov:=aP (a8 m) i
    have kT:=cP hC (b:=false) (xs:=(fil (aC m) i).map fun k=>aY m (fce m k)) (g:=310) (cs:=[.ptr (cl (aY m (fce m i)))]) (fun o=>ovT (aY m (fce m i)) o) (by have:=aP (aC m) i;simp;omega) (fun x hx=>by
     obtain ⟨k,hk,rfl⟩:=List.mem_map.1 hx
     have hk:=(eT hk).2
     simp only [aC,Bool.and_eq_true] at hk
     exact fq hC hT (dz hk.1))
    rw [<- fB,List.any_map] at kT
    have hov : (fil (aC m) i).any ((fun o=>ovT (aY m (fce m i)) o) ∘ fun k=>aY m (fce m k))=a8 m i:=by
     rw [fil,List.any_filter,a8,hsn]
     rfl
    rw [hov] at kT
    rw [bu] at kT
    have tl:=cG m i
    have hml : maxLen=9223372036854775807:=rfl
    have e5:=dO hsn
    have e6 : bW m (i + 1)=sdK (fce m i) 3++bW m i:=by simp [bW,hsn]
    have e7 : b6 m (i + 1)=.bool true::.bool true::.bool true::b6 m i:=by
     rw [b6,if_pos hsn];rfl
    have e8 : (fil (aC m) (i + 1)).length=(fil (aC m) i).length + 1:=by rw [cW hsn];simp
    have l8:=aP (aC m) i
    have lov:=aP (a8 m) i
    have kT:=cP hC (b:=false) (xs:=(fil (aC m) i).map fun k=>aY m (fce m k)) (g:=310) (cs:=[.ptr (cl (aY m (fce m i)))]) (fun o=>ovT (aY m (fce m i)) o) (by have:=aP (aC m) i;simp;omega) (fun x hx=>by
     obtain ⟨k,hk,rfl⟩:=List.mem_map.1 hx
     have hk:=(eT hk).2
     simp only [aC,Bool.and_eq_true] at hk
     exact fq hC hT (dz hk.1))
    rw [<- fB,List.any_map] at kT
    have hov : (fil (aC m) i).any ((fun o=>ovT (aY m (fce m i)) o) ∘ fun k=>aY m (fce m k))=a8 m i:=by
     rw [fil,List.any_filter,a8,hsn]
     rfl
    rw [hov] at kT
    rw [bu] at kT
    have tl:=cG m i
    have hml : maxLen=9223372036854775807:=rfl
    have e5:=dO hsn
    have e6 : bW m (i + 1)=sdK (fce m i) 3++bW m i:=by simp [bW,hsn]
    have e7 : b6 m (i + 1)=.bool true::.bool true::.bool true::b6 m i:=by
     rw [b6,if_pos hsn];rfl
    have e8 : (fil (aC m) (i + 1)).length=(fil (aC m) i).length + 1:=by rw [cW hsn];simp
    have l8:=aP (aC m) i
    have lov:=aP (a8 m) i
    have kT:=cP hC (b:=false) (xs:=(fil (aC m) i).map fun k=>aY m (fce m k)) (g:=310) (cs:=[.ptr (cl (aY m (fce m i)))]) (fun o=>ovT (aY m (fce m i)) o) (by have:=aP (aC m) i;simp;omega) (fun x hx=>by
     obtain ⟨k,hk,rfl⟩:=List.mem_map.1 hx
     have hk:=(eT hk).2
     simp only [aC,Bool.and_eq_true] at hk
     exact fq hC hT (dz hk.1))
    rw [<- fB,List.any_map] at kT
    have hov : (fil (aC m) i).any ((fun o=>ovT (aY m (fce m i)) o) ∘ fun k=>aY m (fce m k))=a8 m i:=by
     rw [fil,List.any_filter,a8,hsn]
     rfl
    rw [hov] at kT
    rw [bu] at kT
    have tl:=cG m i
    have hml : maxLen=9223372036854775807:=rfl
    have e5:=dO hsn
    have e6 : bW m (i + 1)=sdK (fce m i) 3++bW m i:=by simp [bW,hsn]
    have e7 : b6 m (i + 1)=.bool true::.bool true::.bool true::b6 m i:=by
     rw [b6,if_pos hsn];rfl
    have e8 : (fil (aC m) (i + 1)).length=(fil (aC m) i).length + 1:=by rw [cW hsn];simp
    have l8:=aP (aC m) i
    have lov:=aP (a8 m) i
    have kT:=cP hC (b:=false) (xs:=(fil (aC m) i).map fun k=>aY m (fce m k)) (g:=310) (cs:=[.ptr (cl (aY m (fce m i)))]) (fun o=>ovT (aY m (fce m i)) o) (by have:=aP (aC m) i;simp;omega) (fun x hx=>by
     obtain ⟨k,hk,rfl⟩:=List.mem_map.1 hx
     have hk:=(eT hk).2
     simp only [aC,Bool.and_eq_true] at hk
     exact fq hC hT (dz hk.1))
    rw [<- fB,List.any_map] at kT
    have hov : (fil (aC m) i).any ((fun o=>ovT (aY m (fce m i)) o) ∘ fun k=>aY m (fce m k))=a8 m i:=by
     rw [fil,List.any_filter,a8,hsn]
     rfl
    rw [hov] at kT
    rw [bu] at kT
    have tl:=cG m i
    have hml : maxLen=9223372036854775807:=rfl
    have e5:=dO hsn
    have e6 : bW m (i + 1)=sdK (fce m i) 3++bW m i:=by simp [bW,hsn]
    have e7 : b6 m (i + 1)=.bool true::.bool true::.bool true::b6 m i:=by
     rw [b6,if_pos hsn];rfl
    have e8 : (fil (aC m) (i + 1)).length=(fil (aC m) i).length + 1:=by rw [cW hsn];simp
    have l8:=aP (aC m) i
    have lov:=aP (a8 m) i
    rcases (by cases iL m i 0 <;> cases iL m i 1 <;> cases iL m i 2 <;> simp : iL m i 0=true \/ (iL m i 0=false /\ iL m i 1=true) \/ (iL m i 0=false /\ iL m i 1=false /\ iL m i 2=true) \/ (iL m i 0=false /\ iL m i 1=false /\ iL m i 2=false)) with h0 | ⟨h0,h1⟩ | ⟨h0,h1,h2⟩ | ⟨h0,h1,h2⟩
    have y:=yes (by rw [hsd,h0];rfl)
    simp [h0]
    refine ⟨by omega,?_⟩
    rw [y]
    refine ar Nat (fun k=>pK m i k) (fun k=>k <= 3) (fun k=>3 - k) 0 (by simp) (by simp [gB,ao,eC,cl,sdK]) ?_
    rotate_left
    have y:=yes (by rw [hsd,h0,h1];rfl)
    simp [h0]
    refine aa ks1 (.inl rfl) ?_
    simp [kg1,h1]
    refine ⟨⟨by omega,by omega⟩,by omega,?_⟩
    rw [y]
    refine ar Nat (fun k=>pK m i k) (fun k=>k <= 3) (fun k=>3 - k) 0 (by simp) (by simp [gB,ao,eC,cl,sdK]) ?_
    rotate_left
    have y:=yes (by rw [hsd,h0,h1,h2];rfl)
    simp [h0]
    refine aa ks1 (.inl rfl) ?_
    simp [kg1,h1]
    refine ⟨⟨by omega,by omega⟩,?_⟩
    refine aa ks2 (.inl rfl) ?_
    simp [kg2,h2]
    refine ⟨⟨by omega,by omega⟩,by omega,?_⟩
    rw [y]
    refine ar Nat (fun k=>pK m i k) (fun k=>k <= 3) (fun k=>3 - k) 0 (by simp) (by simp [gB,ao,eC,cl,sdK]) ?_
    rotate_left
    have y:=nos (by rw [hsd,h0,h1,h2];rfl)
    simp [h0]
    refine aa ks1 (.inl rfl) ?_
    simp [kg1,h1]
    refine ⟨⟨by omega,by omega⟩,?_⟩
    refine aa ks2 (.inl rfl) ?_
    simp [kg2,h2]
    refine ⟨⟨by omega,by omega⟩,?_⟩
    rw [y]
    refine ar Nat (fun k=>pK m i k) (fun k=>k <= 3) (fun k=>3 - k) 0 (by simp) (by simp [gB,ao,eC,cl,sdK]) ?_
    rotate_left
    all_goals
     clear y
     rintro k hk
     simp [gB,ao,eC,cl]
     refine ac (fun g2=>?_) (fun g2=>?_) <;> simp at g2 <;> simp [g2]
     ·have hw2 : IntKind.wrap .i64 ((k : Int) + 1)=((k + 1 : Nat) : Int):=ah (by omega) (by omega)
      have ck:=cb k
      have ck1:=cb (k + 1)
      refine aa (ks k (by omega)) (.inl rfl) ?_
      simp [hw2,pp]
      refine ⟨by omega,⟨⟨by omega,by omega⟩,by omega,by omega⟩,k + 1,by omega,by omega,?_⟩
      simp [gB,ao,eC,cl,sdK,List.replicate_succ]
     ·have hk3 : k=3:=by omega
      subst hk3
      simp only [cl] at kT
      simp
      refine aa kT (.inl rfl) ?_
      simp
      simp only [cl] at e5
      cases hov2 : a8 m i
      ·have e9:=fw hov2
       simp [hw]
       refine ⟨by omega,i + 1,by omega,by omega,?_⟩
       simp [da,ao,<- b1,<- b2,<- e9,e5,e6,e7,e8]
      ·have e9:=jq hov2
       simp [hw]
       refine ⟨by omega,by omega,i + 1,by omega,by omega,?_⟩
       simp [da,ao,<- b1,<- b2,e9,e5,e6,e7,e8]
  ·have hi2 : i=m.f.length:=by omega
   subst hi2
   have bd : ∀ (p : Nat -> Bool) (n : Nat),n <= 100 -> (fil p n).length <= 100 /\ ∀ x ∈ fil p n,x < 100:=fun p n hn=>⟨by have:=aP p n;omega,fun x hx=>by have:=(eT hx).1;omega⟩
   have q1:=bd (fj m) _ hs
   have q2:=bd (dC m) _ hs
   have q3:=bd (fQ m) _ hf
   have q4:=bd (dX m) _ hf
   have q5:=bd (cY m) _ hf
   have q6:=bd (a8 m) _ hf
   have hLL : LL m=[[],fil (fj m) m.s.length,fil (dC m) m.s.length,fil (fQ m) m.f.length,fil (dX m) m.f.length,fil (cY m) m.f.length,fil (a8 m) m.f.length]:=rfl
   rw [hLL]
   clear hLL bd
   generalize fil (fj m) m.s.length=L1 at *
   generalize fil (dC m) m.s.length=L2 at *
   generalize fil (fQ m) m.f.length=L3 at *
   generalize fil (dX m) m.f.length=L4 at *
   generalize fil (cY m) m.f.length=L5 at *
   generalize fil (a8 m) m.f.length=L6 at *
   obtain ⟨AG,hAG⟩ : ∃ x,x=HP L1 L2 L3 L4 L5 L6:=⟨_,rfl⟩
   obtain ⟨BK,hBK⟩ : ∃ x,x=Ib L1 L2 L3 L4 L5 L6:=⟨_,rfl⟩
   obtain ⟨U,hU⟩ : ∃ U : Nat -> List (Int × List UInt8),U=fun k=>eM dec 0 (([([] : List Nat),L1,L2,L3,L4,L5,L6]).take k):=⟨_,rfl⟩
   have hU7 : U 7=eM dec 0 [[],L1,L2,L3,L4,L5,L6]:=by rw [hU];rfl
   have hU0 : U 0=[]:=by rw [hU];rfl
   have bdU : ∀ k (L : List Nat),L.length <= 100 -> (U k).length <= 100 * k -> (U k++L.map fun i=>((k : Int),dec i)).length <= 100 * (k + 1):=fun k L h1 h2=>by simp;omega
   have hU0s : U 1=U 0++(([] : List Nat)).map fun i=>((0 : Int),dec i):=by
    rw [hU];show eM dec 0 (([([] : List Nat),L1,L2,L3,L4,L5,L6]).take 0++[([] : List Nat)])=_
    rw [fo];simp [eM]
   have hU1s : U 2=U 1++(L1).map fun i=>((1 : Int),dec i):=by
    rw [hU];show eM dec 0 (([([] : List Nat),L1,L2,L3,L4,L5,L6]).take 1++[L1])=_
    rw [fo];simp [eM]
   have hU2s : U 3=U 2++(L2).map fun i=>((2 : Int),dec i):=by
    rw [hU];show eM dec 0 (([([] : List Nat),L1,L2,L3,L4,L5,L6]).take 2++[L2])=_
    rw [fo];simp [eM]
   have hU3s : U 4=U 3++(L3).map fun i=>((3 : Int),dec i):=by
    rw [hU];show eM dec 0 (([([] : List Nat),L1,L2,L3,L4,L5,L6]).take 3++[L3])=_
    rw [fo];simp [eM]
   have hU4s : U 5=U 4++(L4).map fun i=>((4 : Int),dec i):=by
    rw [hU];show eM dec 0 (([([] : List Nat),L1,L2,L3,L4,L5,L6]).take 4++[L4])=_
    rw [fo];simp [eM]
   have hU5s : U 6=U 5++(L5).map fun i=>((5 : Int),dec i):=by
    rw [hU];show eM dec 0 (([([] : List Nat),L1,L2,L3,L4,L5,L6]).take 5++[L5])=_
    rw [fo];simp [eM]
   have hU6s : U 7=U 6++(L6).map fun i=>((6 : Int),dec i):=by
    rw [hU];show eM dec 0 (([([] : List Nat),L1,L2,L3,L4,L5,L6]).take 6++[L6])=_
    rw [fo];simp [eM]
   have lU0 : (U 0).length <= 0:=by rw [hU0];simp
   have lU1 : (U 1).length <= 100:=by rw [hU0s];simp;omega
   have lU2 : (U 2).length <= 200:=by rw [hU1s];simp;omega
   have lU3 : (U 3).length <= 300:=by rw [hU2s];simp;omega
   have lU4 : (U 4).length <= 400:=by rw [hU3s];simp;omega
   have lU5 : (U 5).length <= 500:=by rw [hU4s];simp;omega
   have lU6 : (U 6).length <= 600:=by rw [hU5s];simp;omega
   rw [<- hU7]
   refine ar Nat (fun k=>[(17,.ref (.r 10272) 0 (U k).length),(10272,.blk 2 (fnR (U k))),(181,AG),(182,.int .i64 k),(10064,BK)]) (fun k=>k <= 7) (fun k=>7 - k) 0 (by simp) (by simp [hU0,hAG,hBK,aG,aU]) ?_
   rintro k hk
   rcases (by omega : k=0 \/ k=1 \/ k=2 \/ k=3 \/ k=4 \/ k=5 \/ k=6 \/ k=7) with rfl | rfl | rfl | rfl | rfl | rfl | rfl | rfl
   ·simp [hAG,aG]
    refine ar Nat (fun j=>[(17,.ref (.r 10272) 0 ((U 0).length + j)),(10272,.blk 2 (fnR (U 0++tkD dec 0 ([] : List Nat) j))),(18,.int .i64 0),(181,AG),(182,.int .i64 0),(186,.ref (.n 10064 0 0) 0 (([] : List Nat)).length),(187,.int .i64 (([] : List Nat)).length),(188,.int .i64 j),(10064,BK)]) (fun j=>j <= (([] : List Nat)).length) (fun j=>(([] : List Nat)).length - j) 0 (by simp) (by simp [hAG,hBK,aG,aU,fY]) ?_
    rintro j hj
    simp [hAG,hBK,aG,aU]
    have hj0 : j=0:=by simpa using hj
    subst hj0
    simp [gU,hAG,hBK,aG,aU]
    refine ⟨1,by omega,by omega,?_⟩
    rw [hU0s]
    simp [tkD]
   ·simp [hAG,aG]
    refine ar Nat (fun j=>[(17,.ref (.r 10272) 0 ((U 1).length + j)),(10272,.blk 2 (fnR (U 1++tkD dec 1 L1 j))),(18,.int .i64 1),(181,AG),(182,.int .i64 1),(186,.ref (.n 10064 0 1) 0 (L1).length),(187,.int .i64 (L1).length),(188,.int .i64 j),(10064,BK)]) (fun j=>j <= (L1).length) (fun j=>(L1).length - j) 0 (by simp) (by simp [hAG,hBK,aG,aU,fY]) ?_
    rintro j hj
    simp [hAG,hBK,aG,aU]
    refine ac (fun g3=>?_) (fun g3=>?_) <;> simp at g3 <;> simp [g3,hAG,hBK,aG,aU]
    ·have hj2 : j < L1.length:=by omega
     have hw3 : IntKind.wrap .i64 ((j : Int) + 1)=((j + 1 : Nat) : Int):=ah (by omega) (by omega)
     have hi:=hI (L1[j]) (q1.2 _ (List.getElem_mem hj2))
     have ht:=gT dec 1 L1 hj2
     have hl:=jx dec 1 L1 (Nat.le_of_lt hj2)
     rw [fu L1]
     try simp [hj2]
     refine aa hi (.inl rfl) ?_
     simp
     refine ⟨by omega,by omega,j + 1,by omega,by omega,by omega,?_,?_,hw3,?_⟩
     ·have e : (U 1).length + j=(U 1++tkD dec 1 L1 j).length:=by simp [hl]
      rw [e,gG,jj,ht,List.append_assoc]
     ·rw [hAG,aG]
     ·rw [hBK,aU];simp only [fu]
    ·have hj2 : j=L1.length:=by omega
     subst hj2
     refine ⟨2,by omega,by omega,?_⟩
     rw [hU1s,jw]
     simp [hAG,hBK,aG,aU]
     decide
   ·simp [hAG,aG]
    refine ar Nat (fun j=>[(17,.ref (.r 10272) 0 ((U 2).length + j)),(10272,.blk 2 (fnR (U 2++tkD dec 2 L2 j))),(18,.int .i64 2),(181,AG),(182,.int .i64 2),(186,.ref (.n 10064 0 2) 0 (L2).length),(187,.int .i64 (L2).length),(188,.int .i64 j),(10064,BK)]) (fun j=>j <= (L2).length) (fun j=>(L2).length - j) 0 (by simp) (by simp [hAG,hBK,aG,aU,fY]) ?_
    rintro j hj
    simp [hAG,hBK,aG,aU]
    refine ac (fun g3=>?_) (fun g3=>?_) <;> simp at g3 <;> simp [g3,hAG,hBK,aG,aU]
    ·have hj2 : j < L2.length:=by omega
     have hw3 : IntKind.wrap .i64 ((j : Int) + 1)=((j + 1 : Nat) : Int):=ah (by omega) (by omega)
     have hi:=hI (L2[j]) (q2.2 _ (List.getElem_mem hj2))
     have ht:=gT dec 2 L2 hj2
     have hl:=jx dec 2 L2 (Nat.le_of_lt hj2)
     rw [fu L2]
     try simp [hj2]
     refine aa hi (.inl rfl) ?_
     simp
     refine ⟨by omega,by omega,j + 1,by omega,by omega,by omega,?_,?_,hw3,?_⟩
     ·have e : (U 2).length + j=(U 2++tkD dec 2 L2 j).length:=by simp [hl]
      rw [e,gG,jj,ht,List.append_assoc]
     ·rw [hAG,aG]
     ·rw [hBK,aU];simp only [fu]
    ·have hj2 : j=L2.length:=by omega
     subst hj2
     refine ⟨3,by omega,by omega,?_⟩
     rw [hU2s,jw]
     simp [hAG,hBK,aG,aU]
     decide
   ·simp [hAG,aG]
    refine ar Nat (fun j=>[(17,.ref (.r 10272) 0 ((U 3).length + j)),(10272,.blk 2 (fnR (U 3++tkD dec 3 L3 j))),(18,.int .i64 3),(181,AG),(182,.int .i64 3),(186,.ref (.n 10064 0 3) 0 (L3).length),(187,.int .i64 (L3).length),(188,.int .i64 j),(10064,BK)]) (fun j=>j <= (L3).length) (fun j=>(L3).length - j) 0 (by simp) (by simp [hAG,hBK,aG,aU,fY]) ?_
    rintro j hj
    simp [hAG,hBK,aG,aU]
    refine ac (fun g3=>?_) (fun g3=>?_) <;> simp at g3 <;> simp [g3,hAG,hBK,aG,aU]
    ·have hj2 : j < L3.length:=by omega
     have hw3 : IntKind.wrap .i64 ((j : Int) + 1)=((j + 1 : Nat) : Int):=ah (by omega) (by omega)
     have hi:=hI (L3[j]) (q3.2 _ (List.getElem_mem hj2))
     have ht:=gT dec 3 L3 hj2
     have hl:=jx dec 3 L3 (Nat.le_of_lt hj2)
     rw [fu L3]
     try simp [hj2]
     refine aa hi (.inl rfl) ?_
     simp
     refine ⟨by omega,by omega,j + 1,by omega,by omega,by omega,?_,?_,hw3,?_⟩
     ·have e : (U 3).length + j=(U 3++tkD dec 3 L3 j).length:=by simp [hl]
      rw [e,gG,jj,ht,List.append_assoc]
     ·rw [hAG,aG]
     ·rw [hBK,aU];simp only [fu]
    ·have hj2 : j=L3.length:=by omega
     subst hj2
     refine ⟨4,by omega,by omega,?_⟩
     rw [hU3s,jw]
     simp [hAG,hBK,aG,aU]
     decide
   ·simp [hAG,aG]
    refine ar Nat (fun j=>[(17,.ref (.r 10272) 0 ((U 4).length + j)),(10272,.blk 2 (fnR (U 4++tkD dec 4 L4 j))),(18,.int .i64 4),(181,AG),(182,.int .i64 4),(186,.ref (.n 10064 0 4) 0 (L4).length),(187,.int .i64 (L4).length),(188,.int .i64 j),(10064,BK)]) (fun j=>j <= (L4).length) (fun j=>(L4).length - j) 0 (by simp) (by simp [hAG,hBK,aG,aU,fY]) ?_
    rintro j hj
    simp [hAG,hBK,aG,aU]
    refine ac (fun g3=>?_) (fun g3=>?_) <;> simp at g3 <;> simp [g3,hAG,hBK,aG,aU]
    ·have hj2 : j < L4.length:=by omega
     have hw3 : IntKind.wrap .i64 ((j : Int) + 1)=((j + 1 : Nat) : Int):=ah (by omega) (by omega)
     have hi:=hI (L4[j]) (q4.2 _ (List.getElem_mem hj2))
     have ht:=gT dec 4 L4 hj2
     have hl:=jx dec 4 L4 (Nat.le_of_lt hj2)
     rw [fu L4]
     try simp [hj2]
     refine aa hi (.inl rfl) ?_
     simp
     refine ⟨by omega,by omega,j + 1,by omega,by omega,by omega,?_,?_,hw3,?_⟩
     ·have e : (U 4).length + j=(U 4++tkD dec 4 L4 j).length:=by simp [hl]
      rw [e,gG,jj,ht,List.append_assoc]
     ·rw [hAG,aG]
     ·rw [hBK,aU];simp only [fu]
    ·have hj2 : j=L4.length:=by omega
     subst hj2
     refine ⟨5,by omega,by omega,?_⟩
     rw [hU4s,jw]
     simp [hAG,hBK,aG,aU]
     decide
   ·simp [hAG,aG]
    refine ar Nat (fun j=>[(17,.ref (.r 10272) 0 ((U 5).length + j)),(10272,.blk 2 (fnR (U 5++tkD dec 5 L5 j))),(18,.int .i64 5),(181,AG),(182,.int .i64 5),(186,.ref (.n 10064 0 5) 0 (L5).length),(187,.int .i64 (L5).length),(188,.int .i64 j),(10064,BK)]) (fun j=>j <= (L5).length) (fun j=>(L5).length - j) 0 (by simp) (by simp [hAG,hBK,aG,aU,fY]) ?_
    rintro j hj
    simp [hAG,hBK,aG,aU]
    refine ac (fun g3=>?_) (fun g3=>?_) <;> simp at g3 <;> simp [g3,hAG,hBK,aG,aU]
    ·have hj2 : j < L5.length:=by omega
     have hw3 : IntKind.wrap .i64 ((j : Int) + 1)=((j + 1 : Nat) : Int):=ah (by omega) (by omega)
     have hi:=hI (L5[j]) (q5.2 _ (List.getElem_mem hj2))
     have ht:=gT dec 5 L5 hj2
     have hl:=jx dec 5 L5 (Nat.le_of_lt hj2)
     rw [fu L5]
     try simp [hj2]
     refine aa hi (.inl rfl) ?_
     simp
     refine ⟨by omega,by omega,j + 1,by omega,by omega,by omega,?_,?_,hw3,?_⟩
     ·have e : (U 5).length + j=(U 5++tkD dec 5 L5 j).length:=by simp [hl]
      rw [e,gG,jj,ht,List.append_assoc]
     ·rw [hAG,aG]
     ·rw [hBK,aU];simp only [fu]
    ·have hj2 : j=L5.length:=by omega
     subst hj2
     refine ⟨6,by omega,by omega,?_⟩
     rw [hU5s,jw]
     simp [hAG,hBK,aG,aU]
     decide
   ·simp [hAG,aG]
    refine ar Nat (fun j=>[(17,.ref (.r 10272) 0 ((U 6).length + j)),(10272,.blk 2 (fnR (U 6++tkD dec 6 L6 j))),(18,.int .i64 6),(181,AG),(182,.int .i64 6),(186,.ref (.n 10064 0 6) 0 (L6).length),(187,.int .i64 (L6).length),(188,.int .i64 j),(10064,BK)]) (fun j=>j <= (L6).length) (fun j=>(L6).length - j) 0 (by simp) (by simp [hAG,hBK,aG,aU,fY]) ?_
    rintro j hj
    simp [hAG,hBK,aG,aU]
    refine ac (fun g3=>?_) (fun g3=>?_) <;> simp at g3 <;> simp [g3,hAG,hBK,aG,aU]
    ·have hj2 : j < L6.length:=by omega
     have hw3 : IntKind.wrap .i64 ((j : Int) + 1)=((j + 1 : Nat) : Int):=ah (by omega) (by omega)
     have hi:=hI (L6[j]) (q6.2 _ (List.getElem_mem hj2))
     have ht:=gT dec 6 L6 hj2
     have hl:=jx dec 6 L6 (Nat.le_of_lt hj2)
     rw [fu L6]
     try simp [hj2]
     refine aa hi (.inl rfl) ?_
     simp
     refine ⟨by omega,by omega,j + 1,by omega,by omega,by omega,?_,?_,hw3,?_⟩
     ·have e : (U 6).length + j=(U 6++tkD dec 6 L6 j).length:=by simp [hl]
      rw [e,gG,jj,ht,List.append_assoc]
     ·rw [hAG,aG]
     ·rw [hBK,aU];simp only [fu]
    ·have hj2 : j=L6.length:=by omega
     subst hj2
     refine ⟨7,by omega,by omega,?_⟩
     rw [hU6s,jw]
     simp [hAG,hBK,aG,aU]
     decide
   ·simp [hAG,aG]
    rfl
end Go.Gv

namespace Go.Gv
theorem nE {m : Msh} (h : bK m=true) : ∀ l ∈ LL m,l=[]:=by
 simp only [bK,Bool.and_eq_true,List.all_eq_true,decide_eq_true_eq] at h
 exact h.2
theorem px {m : Msh} (h : bK m=true) {i : Nat} (hi : i < m.s.length) : bH (spt m i)=true:=by
 have:=oX.1 (nE h (fil (fj m) m.s.length) (by simp [LL])) i hi
 simpa [fj] using this
theorem tx {m : Msh} (h : bK m=true) {i : Nat} (hi : i < m.f.length) : okF m (fce m i)=true /\ 0 < tw (aY m (fce m i)):=by
 have h1:=oX.1 (nE h (fil (fQ m) m.f.length) (by simp [LL])) i hi
 have h2:=oX.1 (nE h (fil (dX m) m.f.length) (by simp [LL])) i hi
 have h3 : okF m (fce m i)=true:=by simpa [fQ] using h1
 refine ⟨h3,?_⟩
 simp [dX,h3] at h2
 omega
theorem nF {m : Msh} (h : bK m=true) {i : Nat} (hi : i < m.f.length) : inS m (fce m i)=true:=pi (tx h hi).1
def Jh (f : Fce) (a b : Int) : Bool:=(List.range 3).any fun j=>decide (crn f j=a) && decide (crn f (j + 1)=b)
def tk (m : Msh) (a b : Int) : Int:=bv (fun f=>Jh f a b) m.f
def nbF (m : Msh) (i k : Nat) : Int:=tk m (crn (fce m i) (k + 1)) (crn (fce m i) k)
def KQ (p : Nat -> Bool) : Nat -> Option Nat
 | 0=>none
 | i + 1=>if p i then some i else KQ p i
def xC (m : Msh) : Nat -> List D
 | 0=>[]
 | i + 1=>sdK (fce m i) 3++xC m i
def xD (m : Msh) : Nat -> List D
 | 0=>[]
 | i + 1=>List.replicate 3 (.int .i64 i)++xD m i
def nbC (m : Msh) (i k j c : Nat) : Int:=if j < i \/ (j=i /\ c < k) then nbF m j c else 0
def nbR (m : Msh) (i k : Nat) : List (List D):=(List.range m.f.length).map fun j=>[.int .i64 (nbC m i k j 0),.int .i64 (nbC m i k j 1),.int .i64 (nbC m i k j 2)]
def nbA (m : Msh) : List (List D):=(List.range m.f.length).map fun j=>[.int .i64 (nbF m j 0),.int .i64 (nbF m j 1),.int .i64 (nbF m j 2)]
@[simp] theorem Qf (m : Msh) (i k : Nat) : (nbR m i k).length=m.f.length:=by simp [nbR]
@[simp] theorem Ls (m : Msh) (i k : Nat) : List.take m.f.length (nbR m i k)=nbR m i k:=List.take_of_length_le (by simp)
@[simp] theorem SB (m : Msh) (i k : Nat) : List.map (fun e=>List.map aH e) (nbR m i k)=nbR m i k:=by simp [nbR]
variable {C : CC} (hC : aj prog C)
include hC
theorem vp (m : Msh) (h : gq m=false) : C 273 [.agg (cI m)] (.tup [.nils,.int .i64 4]) []:=by
 have ksm:=qr hC m
 rw [show (decide (m.s.length <= 2000) && decide (m.f.length <= 4000))=false from h] at ksm
 refine start hC (nf:=N273) rfl rfl ?_
 simp only [ao] at ksm
 simp [N273,ao]
 refine aa ksm (.inl rfl) ?_
 simp
theorem qn (dec : Nat -> List UInt8) (hI : ∀ n : Nat,n < 100 -> C 127 [.int .i64 n] (.str (dec n)) []) (m : Msh) (hz : gq m=true -> m.s.length <= 100 /\ m.f.length <= 100) : C 234 [.agg (cI m)] (.bool (bK m)) []:=by
 cases hs : gq m
 ·have k:=vp hC m hs
  refine start hC (nf:=N234) rfl rfl ?_
  simp only [ao] at k
  simp [N234,ao]
  refine aa k (.inr rfl) ?_
  simp [bK,hs]
 ·obtain ⟨h1,h2⟩:=hz hs
  have k:=yK hC dec hI m h1 h2
  have e : bK m=decide ((eM dec 0 (LL m)).length=0):=by
   rw [bK,hs,Bool.true_and,Bool.eq_iff_iff,decide_eq_true_eq,List.length_eq_zero_iff,qx]
  obtain ⟨X,hX⟩ : ∃ X,X=eM dec 0 (LL m):=⟨_,rfl⟩
  rw [e]
  rw [<- hX] at k ⊢
  refine start hC (nf:=N234) rfl rfl ?_
  simp only [ao] at k
  simp [N234,ao]
  refine aa k (.inr rfl) ?_
  simp
end Go.Gv

namespace Go.Gv
def Rt (n : Nat) : List UInt8:=Db n []
def fdL (k : Int) (l : List Nat) : List (Int × List UInt8):=l.map fun i=>(k,Rt i)
@[simp] theorem NB (k : Int) (l : List Nat) : (fdL k l).length=l.length:=by simp [fdL]
def fdR (k : Int) (l : List Nat) : List (List D):=fnR (fdL k l)
@[simp] theorem ND (k : Int) (l : List Nat) : (fdR k l).length=l.length:=by simp [fdR]
@[simp] theorem I8 (k : Int) (l : List Nat) : List.take l.length (fdR k l)=fdR k l:=List.take_of_length_le (by simp)
@[simp] theorem Dm (k : Int) (l : List Nat) : (∀ e ∈ fdR k l,∀ c ∈ e,av c=true)=True:=by simp [fdR,fnR,fnD,fdL]
@[simp] theorem NC (k : Int) (l : List Nat) (x : List D) : (∀ e,e ∈ fdR k l \/ e=x -> ∀ c,c ∈ e -> av c=true)=∀ c,c ∈ x -> av c=true:=by
 apply propext
 constructor
 ·exact fun h=>h x (.inr rfl)
 ·rintro h e (he | rfl)
  ·exact (Dm k l).mpr trivial e he
  ·exact h
@[simp] theorem NE (k : Int) : fdR k []=[]:=rfl
def fcR (m : Msh) (l : List Nat) : List (List D):=l.map fun k=>dc (fce m k)
@[simp] theorem Nz (m : Msh) (l : List Nat) : (fcR m l).length=l.length:=by simp [fcR]
@[simp] theorem I7 (m : Msh) (l : List Nat) : List.take l.length (fcR m l)=fcR m l:=List.take_of_length_le (by simp)
@[simp] theorem NA (m : Msh) : fcR m []=[]:=rfl
def HQ (p : Nat -> Bool) (l : List Nat) (k : Nat) : Bool:=(l.take k).any p
def shP (m : Msh) (i k : Nat) : Bool:=sk (fce m i) (fce m k)
def ovP (m : Msh) (i k : Nat) : Bool:=ovT (aY m (fce m i)) (aY m (fce m k))
def TW (m : Msh) (i k : Nat) : Env:=[(1,.ptr (cI m)),(3,.ref (.r 10048) 0 7),(10048,.blk 1 [[.own 2 []],[.own 2 (fdR 1 (fil (fj m) m.s.length))],[.own 2 (fdR 2 (fil (dC m) m.s.length))],[.own 2 (fdR 3 (fil (fQ m) i))],[.own 2 (fdR 4 (fil (dX m) i))],[.own 2 (fdR 5 (fil (cY m) i))],[.own 2 (fdR 6 (fil (a8 m) i))]]),(7,.ref (.r 10112) 0 (fil (aC m) i).length),(10112,.blk 4 (fcR m (fil (aC m) i))),(8,.int .i64 i),(9,.adr (.r 10144) 0 0),(10144,.blk 4 [dc (fce m i)]),(10,.bool (HQ (shP m i) (fil (aC m) i) k)),(11,.bool (HQ (ovP m i) (fil (aC m) i) k)),(12,.int .i64 k)]
def TT (m : Msh) (i : Nat) : Env:=[(1,.ptr (cI m)),(3,.ref (.r 10048) 0 7),(10048,.blk 1 [[.own 2 []],[.own 2 (fdR 1 (fil (fj m) i))],[.own 2 (fdR 2 (fil (dC m) i))],[.own 2 []],[.own 2 []],[.own 2 []],[.own 2 []]]),(4,.int .i64 i)]
def TU (m : Msh) (i k : Nat) : Env:=[(1,.ptr (cI m)),(3,.ref (.r 10048) 0 7),(10048,.blk 1 [[.own 2 []],[.own 2 (fdR 1 (fil (fj m) i))],[.own 2 (fdR 2 (fil (dC m) i))],[.own 2 []],[.own 2 []],[.own 2 []],[.own 2 []]]),(4,.int .i64 i),(5,.adr (.r 10080) 0 0),(10080,.blk 3 [gr (spt m i)]),(6,.int .i64 k)]
def TV (m : Msh) (i : Nat) : Env:=[(1,.ptr (cI m)),(3,.ref (.r 10048) 0 7),(10048,.blk 1 [[.own 2 []],[.own 2 (fdR 1 (fil (fj m) m.s.length))],[.own 2 (fdR 2 (fil (dC m) m.s.length))],[.own 2 (fdR 3 (fil (fQ m) i))],[.own 2 (fdR 4 (fil (dX m) i))],[.own 2 (fdR 5 (fil (cY m) i))],[.own 2 (fdR 6 (fil (a8 m) i))]]),(7,.ref (.r 10112) 0 (fil (aC m) i).length),(10112,.blk 4 (fcR m (fil (aC m) i))),(8,.int .i64 i)]
variable {C : CC} (hC : aj prog C)
include hC
end Go.Gv

namespace Go.Gv
def TJ (m : Msh) (i : Nat) : Env:=[(1,.ptr (cI m)),(3,.mrf 10224),(10224,.mp 3 2 (xC m i) (xD m i)),(16,slx m.fn (m.f.map dc)),(17,.int .i64 m.f.length),(18,.int .i64 i)]
def TK (m : Msh) (i k : Nat) : Env:=[(1,.ptr (cI m)),(3,.mrf 10224),(10224,.mp 3 2 (sdK (fce m i) k++xC m i) (List.replicate k (.int .i64 i)++xD m i)),(4,.int .i64 i),(5,.adr (.r 10080) 0 0),(10080,.blk 4 [dc (fce m i)]),(16,slx m.fn (m.f.map dc)),(17,.int .i64 m.f.length),(18,.int .i64 i),(23,.int .i64 k)]
def TL (m : Msh) (i : Nat) : Env:=[(3,.mrf 10224),(10224,.mp 3 2 (xC m m.f.length) (xD m m.f.length)),(7,.ref (.r 10112) 0 m.f.length),(10112,.blk 3 (nbR m i 0)),(38,slx m.fn (m.f.map dc)),(39,.int .i64 m.f.length),(40,.int .i64 i)]
def TM (m : Msh) (i k : Nat) : Env:=[(3,.mrf 10224),(10224,.mp 3 2 (xC m m.f.length) (xD m m.f.length)),(7,.ref (.r 10112) 0 m.f.length),(10112,.blk 3 (nbR m i k)),(8,.int .i64 i),(9,.adr (.r 10144) 0 0),(10144,.blk 4 [dc (fce m i)]),(38,slx m.fn (m.f.map dc)),(39,.int .i64 m.f.length),(40,.int .i64 i),(45,.int .i64 k)]
variable {C : CC} (hC : aj prog C)
include hC
end Go.Gv

namespace Go.Gv
theorem lB {s : Spt} (h : bH s=true) : -16777216 <= s.x /\ s.x <= 16777216 /\ -16777216 <= s.y /\ s.y <= 16777216 /\ -4194304 <= s.z /\ s.z <= 4194304:=by
 simp only [bH,Bool.and_eq_true,decide_eq_true_eq] at h
 omega
def spA (m : Msh) (i : Nat) : Spt:=spt m (fce m i).a.toNat
def spB (m : Msh) (i : Nat) : Spt:=spt m (fce m i).b.toNat
def spC (m : Msh) (i : Nat) : Spt:=spt m (fce m i).c.toNat
def qO (m : Msh) (i : Nat) : Int:=(spA m i).z + (spB m i).z + (spC m i).z
def vQ (m : Msh) (i : Nat) : Int:=(spA m i).x + (spB m i).x + (spC m i).x
def vR (m : Msh) (i : Nat) : Int:=(spA m i).y + (spB m i).y + (spC m i).y
theorem Cx {m : Msh} (hv : bK m=true) {i : Nat} (hi : i < m.f.length) : bH (spA m i)=true /\ bH (spB m i)=true /\ bH (spC m i)=true:=by
 obtain ⟨⟨_,h1⟩,⟨_,h2⟩,⟨_,h3⟩⟩:=pc (nF hv hi)
 exact ⟨px hv h1,px hv h2,px hv h3⟩
def smR (m : Msh) (i : Nat) : List (List D):=(List.range i).map fun j=>[.int .i64 (qO m j)]
def ctR (m : Msh) (i : Nat) : List (List D):=(List.range i).map fun j=>[.int .i64 (vQ m j),.int .i64 (vR m j)]
@[simp] theorem QV (m : Msh) (i : Nat) : (smR m i).length=i:=by simp [smR]
@[simp] theorem M8 (m : Msh) (i : Nat) : (ctR m i).length=i:=by simp [ctR]
@[simp] theorem Mv (m : Msh) (i : Nat) : List.take i (smR m i)=smR m i:=List.take_of_length_le (by simp)
@[simp] theorem Iz (m : Msh) (i : Nat) : List.take i (ctR m i)=ctR m i:=List.take_of_length_le (by simp)
@[simp] theorem QU (m : Msh) (i : Nat) (x : List D) : (∀ e,e ∈ smR m i \/ e=x -> ∀ c,c ∈ e -> av c=true)=∀ c,c ∈ x -> av c=true:=by
 apply propext
 constructor
 ·exact fun h=>h x (.inr rfl)
 ·rintro h e (he | rfl)
  ·obtain ⟨j,_,rfl⟩:=List.mem_map.1 he
   simp
  ·exact h
@[simp] theorem M7 (m : Msh) (i : Nat) (x : List D) : (∀ e,e ∈ ctR m i \/ e=x -> ∀ c,c ∈ e -> av c=true)=∀ c,c ∈ x -> av c=true:=by
 apply propext
 constructor
 ·exact fun h=>h x (.inr rfl)
 ·rintro h e (he | rfl)
  ·obtain ⟨j,_,rfl⟩:=List.mem_map.1 he
   simp
  ·exact h
def cN (sz : Nat) (es : List (List D)) : D:=match es with
 | []=>.nils
 | e::r=>.own sz (e::r)
@[simp] theorem Ip (sz : Nat) (es : List (List D)) : aH (cN sz es)=slx true es:=by cases es <;> rfl
def grC (m : Msh) : List D:=[.sl (nbA m),slx true (smR m m.f.length),slx true (ctR m m.f.length)]
def mdE (m : Msh) (i : Nat) : Env:=[(1,.ptr (cI m)),(6,.adr (.r 10352) 0 0),(10352,.blk 3 [[.sl (nbA m),cN 1 (smR m i),cN 2 (ctR m i)]]),(24,slx m.fn (m.f.map dc)),(25,.int .i64 m.f.length),(26,.int .i64 i)]
variable {C : CC} (hC : aj prog C)
include hC
end Go.Gv

namespace Go.Gv
def bsd (m : Msh) (i : Nat) (o : Int) : Bool:=decide (o=nbF m i 0) || (decide (o=nbF m i 1) || decide (o=nbF m i 2))
def v7 (m : Msh) (i j : Nat) : Int:=qO m i - qO m j
def LO (m : Msh) (i j : Nat) : Int:=v7 m i j * (if v7 m i j < -v7 m i j then -v7 m i j else v7 m i j)
def IA (m : Msh) (i j : Nat) : Int:=(vQ m i - vQ m j) * (vQ m i - vQ m j) + (vR m i - vR m j) * (vR m i - vR m j)
def It (m : Msh) (i a b : Nat) : Int:=Rp (LO m i a * IA m i b) (LO m i b * IA m i a)
def SY (m : Msh) (i : Nat) (best n : Int) : Int:=if n < 0 \/ qO m i <= qO m n.toNat then best else if best < 0 then n else if 0 < It m i n.toNat best.toNat \/ (It m i n.toNat best.toNat=0 /\ n < best) then n else best
def upF (m : Msh) (i : Nat) : Nat -> Int
 | 0=>-2
 | k + 1=>SY m i (upF m i k) (nbF m i k)
def AD (m : Msh) (i : Nat) : Int:=if upF m i 3=-2 /\ bsd m i (-1)=true then -1 else upF m i 3
variable {C : CC} (hC : aj prog C)
include hC
end Go.Gv

namespace Go.Gv
def inR (l : List Int) : List (List D):=l.map fun n=>[.int .i64 n]
@[simp] theorem NJ (l : List Int) : (inR l).length=l.length:=by simp [inR]
@[simp] theorem Jw (l : List Int) : List.take l.length (inR l)=inR l:=List.take_of_length_le (by simp)
@[simp] theorem RY (l : List Int) : List.map (fun e=>List.map aH e) (inR l)=inR l:=by simp [inR]
@[simp] theorem NK : inR []=[]:=rfl
def TX (m : Msh) : List Int:=(List.range m.f.length).map fun j=>qO m j
def Td (m : Msh) : List Int:=(List.range m.f.length).map fun j=>AD m j
def flT (m : Msh) (i : Nat) : List Int:=(List.range i).map fun j=>AD m j
def flB (m : Msh) : Nat -> List (List D)
 | 0=>List.replicate m.f.length [.int .i64 0]
 | i + 1=>inR (flT m (i + 1))
def pth (m : Msh) : Nat -> Int -> List Int
 | 0,_=>[]
 | k + 1,f=>if f < 0 then [] else f::pth m k (AD m f.toNat)
def rnk (m : Msh) (i : Nat) : Nat:=((List.range m.f.length).filter fun j=>decide (qO m j < qO m i)).length
def Ti (m : Msh) (f : Int) : List Int:=pth m m.f.length f
def Sq (m : Msh) (i : Nat) : List Int:=((List.range i).filter fun j=>decide (AD m j=-2)).map fun (j : Nat)=>(j : Int)
def TF (m : Msh) : List Int:=Sq m m.f.length
variable {C : CC} (hC : aj prog C)
include hC
end Go.Gv

namespace Go.Gv
def slE (m : Msh) (a b : Int) : Int:=if bK m=false then 1 else if gl m.f.length a=false \/ gl m.f.length b=false then 2 else if bsd m a.toNat b=false then 25 else 0
def stE (m : Msh) (i a b : Int) : Int:=if bK m=false then 1 else if gl m.f.length i=false \/ gl m.f.length a=false \/ gl m.f.length b=false then 2 else if bsd m i.toNat a=false \/ bsd m i.toNat b=false then 25 else 0
variable {C : CC} (hC : aj prog C)
include hC
end Go.Gv

namespace Go.Gv
theorem zX {α : Type} {p : α -> Bool} {xs : List α} {i : Nat} (h : bv p xs=(i : Int)) : ∃ h : i < xs.length,p xs[i]=true:=by
 unfold bv at h
 cases e : xs.findIdx? p with
 | none=>rw [e] at h;simp at h
 | some k =>
  rw [e] at h
  have h : k=i:=by have h : (k : Int)=(i : Int):=h;omega
  subst h
  rw [List.findIdx?_eq_some_iff_getElem] at e
  exact ⟨e.1,e.2.1⟩
def cpt (m : Msh) (f : Fce) (k : Nat) : Pnt:=ptS (spt m (crn f k).toNat)
end Go.Gv

namespace Go.Gv
def tn0 (m : Msh) (i : Nat) (p : Pnt) : Int:=cH (ptS (spA m i)) (ptS (spB m i)) p
def tn1 (m : Msh) (i : Nat) (p : Pnt) : Int:=cH (ptS (spB m i)) (ptS (spC m i)) p
def tn2 (m : Msh) (i : Nat) (p : Pnt) : Int:=cH (ptS (spC m i)) (ptS (spA m i)) p
def osF (m : Msh) (i : Nat) (p : Pnt) : Int:=if tn0 m i p < 0 then 0 else if tn1 m i p < 0 then 1 else if tn2 m i p < 0 then 2 else -1
def eL (m : Msh) (p : Pnt) : Int:=bv (fun i=>decide (osF m i p < 0)) (List.range m.f.length)
theorem oZ {m : Msh} {p : Pnt} (h : 0 <= eL m p) : (eL m p).toNat < m.f.length /\ osF m (eL m p).toNat p < 0:=by
 have e : eL m p=((eL m p).toNat : Int):=by omega
 obtain ⟨h1,h2⟩:=zX (p:=fun i=>decide (osF m i p < 0)) (xs:=List.range m.f.length) e
 simp at h1 h2
 exact ⟨h1,h2⟩
theorem Eg {m : Msh} {i : Nat} {p : Pnt} (h : osF m i p < 0) : 0 <= tn0 m i p /\ 0 <= tn1 m i p /\ 0 <= tn2 m i p:=by
 unfold osF at h
 split at h
 ·omega
 ·split at h
  ·omega
  ·split at h
   ·omega
   ·omega
def tX (m : Msh) (i : Nat) : List D:=[.int .i64 (spA m i).x,.int .i64 (spA m i).y,.int .i64 (spA m i).z,.int .i64 (spB m i).x,.int .i64 (spB m i).y,.int .i64 (spB m i).z,.int .i64 (spC m i).x,.int .i64 (spC m i).y,.int .i64 (spC m i).z]
theorem cr (m : Msh) (i : Nat) : tX m i=[.int .i64 (spA m i).x,.int .i64 (spA m i).y,.int .i64 (spA m i).z,.int .i64 (spB m i).x,.int .i64 (spB m i).y,.int .i64 (spB m i).z,.int .i64 (spC m i).x,.int .i64 (spC m i).y,.int .i64 (spC m i).z]:=_root_.id rfl
theorem so {m : Msh} (hv : bK m=true) {i : Nat} (hi : i < m.f.length) : okP (ptS (spA m i))=true /\ okP (ptS (spB m i))=true /\ okP (ptS (spC m i))=true:=by
 obtain ⟨h1,h2,h3⟩:=Cx hv hi
 exact ⟨jW h1,jW h2,jW h3⟩
@[simp] theorem QR (p : Pnt) : (ptD p).length=2:=_root_.id rfl
@[simp] theorem Md (p : Pnt) : List.take 2 (ptD p)=ptD p:=_root_.id rfl
@[simp] theorem Tk (p : Pnt) : (∀ x,x ∈ ptD p -> isV x=true)=True:=by simp [ptD]
@[simp] theorem Tj (p : Pnt) : (∀ x,x ∈ ptD p -> av x=true)=True:=by simp [ptD]
variable {C : CC} (hC : aj prog C)
include hC
theorem mR (m : Msh) (i : Nat) (hi : i < m.f.length) (h : inS m (fce m i)=true) : C 319 [.agg (cI m),.int .i64 i] (.agg (tX m i)) []:=by
 obtain ⟨⟨a1,a2⟩,⟨b1,b2⟩,⟨c1,c2⟩⟩:=pc h
 refine start hC (nf:=N319) rfl rfl ?_
 simp [N319,ao,hi,eC,a1,a2,b1,b2,c1,c2,jv,tX,spA,spB,spC]
 exact am (by decide +kernel)
theorem om (s : Spt) : C 321 [.agg (gr s)] (.agg (ptD (ptS s))) []:=by
 refine start hC (nf:=N321) rfl rfl ?_
 simp [N321,gr,ptD,ptS]
theorem hJ {a b c : Pnt} (ha : okP a=true) (hb : okP b=true) (hc : okP c=true) : C 320 [.agg (ptD a),.agg (ptD b),.agg (ptD c)] (.int .i64 (cH a b c)) []:=by
 have:=gn ha
 have:=gn hb
 have:=gn hc
 have h4:=pv ha hb hc
 refine start hC (nf:=N320) rfl rfl ?_
 have w1 : IntKind.wrap .i64 (b.1 - a.1)=b.1 - a.1:=ah rfl (by omega)
 have w2 : IntKind.wrap .i64 (c.2 - a.2)=c.2 - a.2:=ah rfl (by omega)
 have w3 : IntKind.wrap .i64 (b.2 - a.2)=b.2 - a.2:=ah rfl (by omega)
 have w4 : IntKind.wrap .i64 (c.1 - a.1)=c.1 - a.1:=ah rfl (by omega)
 have w5 : IntKind.wrap .i64 ((b.1 - a.1) * (c.2 - a.2))=(b.1 - a.1) * (c.2 - a.2):=ah rfl (by omega)
 have w6 : IntKind.wrap .i64 ((b.2 - a.2) * (c.1 - a.1))=(b.2 - a.2) * (c.1 - a.1):=ah rfl (by omega)
 have w7 : IntKind.wrap .i64 ((b.1 - a.1) * (c.2 - a.2) - (b.2 - a.2) * (c.1 - a.1))=cH a b c:=ah rfl (by rw [cH];omega)
 simp [N320,ptD,w1,w2,w3,w4,w5,w6,w7]
set_option maxHeartbeats 2000000 in
theorem xp (m : Msh) (hv : bK m=true) (i : Nat) (hi : i < m.f.length) (p : Pnt) (hp : okP p=true) : C 284 [.agg (cI m),.int .i64 i,.agg (ptD p)] (.int .i64 (osF m i p)) []:=by
 obtain ⟨oa,ob,oc⟩:=so hv hi
 have k0:=mR hC m i hi (nF hv hi)
 have ka:=om hC (spA m i)
 have kb:=om hC (spB m i)
 have kc:=om hC (spC m i)
 have t0 : C 320 [.agg (ptD (ptS (spA m i))),.agg (ptD (ptS (spB m i))),.agg (ptD p)] (.int .i64 (tn0 m i p)) []:=hJ hC oa ob hp
 have t1 : C 320 [.agg (ptD (ptS (spB m i))),.agg (ptD (ptS (spC m i))),.agg (ptD p)] (.int .i64 (tn1 m i p)) []:=hJ hC ob oc hp
 have t2 : C 320 [.agg (ptD (ptS (spC m i))),.agg (ptD (ptS (spA m i))),.agg (ptD p)] (.int .i64 (tn2 m i p)) []:=hJ hC oc oa hp
 have w1 : IntKind.wrap .i64 1=1:=by decide
 have w2 : IntKind.wrap .i64 2=2:=by decide
 have w3 : IntKind.wrap .i64 3=3:=by decide
 have m1 : Int.tmod 1 3=1:=by decide
 have m2 : Int.tmod 2 3=2:=by decide
 have m3 : Int.tmod 3 3=0:=by decide
 simp only [ao,jv,cr] at k0 ka kb kc
 refine start hC (nf:=N284) rfl rfl ?_
 simp [N284,ao]
 refine aa k0 (.inl rfl) ?_
 simp
 refine ar Nat (fun k=>[(5,.ptr (ptD p)),(7,.adr (.r 10112) 0 0),(12,.int .i64 k),(10112,.blk 9 [tX m i])]) (fun k=>k <= 3 /\ (1 <= k -> ¬ tn0 m i p < 0) /\ (2 <= k -> ¬ tn1 m i p < 0) /\ (3 <= k -> ¬ tn2 m i p < 0)) (fun k=>3 - k) 0 (by simp) (by simp [cr]) ?_
 rintro k ⟨hk,h0,h1,h2⟩
 rcases (by omega : k=0 \/ k=1 \/ k=2 \/ k=3) with rfl | rfl | rfl | rfl
 ·simp [cr,w1]
  refine aa ka (.inl rfl) ?_
  simp [w1,m1]
  refine aa kb (.inl rfl) ?_
  simp
  refine aa t0 (.inl rfl) ?_
  simp
  refine ⟨am (by decide +kernel),?_⟩
  refine ac (fun c=>?_) (fun c=>?_) <;> simp at c
  ·simp [c,osF]
  ·simp [c]
   exact ⟨1,by omega,by omega,by simp [cr,w1]⟩
 ·have h0:=h0 (by omega)
  simp [cr,w2]
  refine aa kb (.inl rfl) ?_
  simp [w2,m2]
  refine aa kc (.inl rfl) ?_
  simp
  refine aa t1 (.inl rfl) ?_
  simp
  refine ⟨am (by decide +kernel),?_⟩
  refine ac (fun c=>?_) (fun c=>?_) <;> simp at c
  ·simp [c,osF,h0]
  ·simp [c]
   exact ⟨2,by omega,by omega,by simp [cr,w2]⟩
 ·have h0:=h0 (by omega)
  have h1:=h1 (by omega)
  simp [cr,w3]
  refine aa kc (.inl rfl) ?_
  simp [w3,m3]
  refine aa ka (.inl rfl) ?_
  simp
  refine aa t2 (.inl rfl) ?_
  simp
  refine ⟨am (by decide +kernel),?_⟩
  refine ac (fun c=>?_) (fun c=>?_) <;> simp at c
  ·simp [c,osF,h0,h1]
  ·simp [c]
   exact ⟨3,by omega,by omega,by simp [cr,w3]⟩
 ·have h0:=h0 (by omega)
  have h1:=h1 (by omega)
  have h2:=h2 (by omega)
  simp [osF,h0,h1,h2]
set_option maxHeartbeats 2000000 in
theorem Ag (m : Msh) (hv : bK m=true) (hm : m.f.length <= 100) (p : Pnt) (hp : okP p=true) : C 276 [.agg (cI m),.agg (ptD p)] (.int .i64 (eL m p)) []:=by
 have ko:=fun i hi=>xp hC m hv i hi p hp
 simp only [ao] at ko
 refine start hC (nf:=N276) rfl rfl ?_
 simp [N276,ao]
 refine ar Nat (fun i=>[(2,.ptr (cI m)),(3,.ptr (ptD p)),(8,.int .i64 m.f.length),(9,.int .i64 i)]) (fun i=>i <= m.f.length /\ ∀ j,j < i -> ¬ osF m j p < 0) (fun i=>m.f.length - i) 0 (by simp) (by simp [ao]) ?_
 rintro i ⟨hi,hj⟩
 simp [ao]
 refine ac (fun g1=>?_) (fun g1=>?_) <;> simp at g1 <;> simp [g1]
 ·have hw : IntKind.wrap .i64 ((i : Int) + 1)=((i + 1 : Nat) : Int):=ah (by omega) (by omega)
  refine aa (ko i g1) (.inl rfl) ?_
  simp
  refine ac (fun c=>?_) (fun c=>?_) <;> simp at c
  ·simp [c]
   refine (cq (fun j hl hji=>?_) (by simpa using g1) ?_).symm
   ·have:=hj j hji
    simpa using this
   ·simpa using c
  ·simp [c]
   refine ⟨i + 1,⟨by omega,fun j hji=>?_⟩,by omega,by simp [ao,hw]⟩
   rcases Nat.lt_succ_iff_lt_or_eq.1 hji with h | rfl
   ·exact Int.not_lt.1 (hj j h)
   ·exact c
 ·refine (cE (fun j hl=>?_)).symm
  rw [List.length_range] at hl
  have:=hj j (by omega)
  simpa using this
theorem wW {b : Bool} {xs : List Pnt} {g : Nat} {cs : List D} (p : Pnt -> Bool) (hs : xs.length < 2 ^ 62) (hp : ∀ x ∈ xs,C g (.agg (ptD x)::cs) (.bool (p x)) []) : C 278 [slx b (xs.map fun x=>ptD x),.fn g cs] (.int .i64 (bv p xs)) []:=by
 refine start hC (nf:=N278) rfl rfl ?_
 simp [N278]
 refine ar Nat (fun i=>[(0,slx b (xs.map fun x=>ptD x)),(1,.fn g cs),(7,.int .i64 xs.length),(8,.int .i64 i)]) (fun i=>i <= xs.length /\ ∀ (j : Nat) (h : j < xs.length),j < i -> p xs[j]=false) (fun i=>xs.length - i) 0 (by simp) (by simp) ?_
 rintro i ⟨hi,hj⟩
 simp
 refine ac (fun h=>?_) (fun h=>?_) <;> simp [h] <;> simp at h
 ·have hw : IntKind.wrap .i64 ((i : Int) + 1)=((i + 1 : Nat) : Int):=ah (by omega) (by omega)
  have hc:=hp _ (List.getElem_mem h)
  simp [h,ptD] at hc ⊢
  refine aa hc (.inl rfl) ?_
  simp
  refine ac (fun h1=>?_) (fun h1=>?_) <;> simp [h1,hw]
  ·rw [cq hj h h1]
  ·refine ⟨i + 1,⟨by omega,fun j hl hjj=>?_⟩,by omega,rfl⟩
   rcases Nat.lt_succ_iff_lt_or_eq.1 hjj with h2 | rfl
   ·exact hj j hl h2
   ·exact h1
 ·rw [cE (fun j hl=>hj j hl (by omega))]
theorem wO {b : Bool} {xs : List Pnt} {g : Nat} {cs : List D} (p : Pnt -> Bool) (hs : xs.length < 2 ^ 62) (hp : ∀ x ∈ xs,C g (.agg (ptD x)::cs) (.bool (p x)) []) : C 239 [slx b (xs.map fun x=>ptD x),.fn g cs] (.bool (xs.any p)) []:=by
 refine start hC (nf:=N239) rfl rfl ?_
 simp [N239]
 refine aa (wW hC p hs hp) (.inl rfl) ?_
 simp [dN]
theorem ux (p : Pnt) : C 312 [.agg (ptD p)] (.bool (!okP p)) []:=by
 have k:=qy hC p
 simp only [ptD] at k
 refine start hC (nf:=N312) rfl rfl ?_
 simp [N312,ptD]
 refine aa k (.inl rfl) ?_
 simp
end Go.Gv

namespace Go.Gv
def onE (m : Msh) (p : Pnt) : Int:=if bK m=true /\ okP p=true then (if eL m p < 0 then 12 else 0) else 1
def onV (m : Msh) (p : Pnt) : Int:=if onE m p=0 then eL m p else 0
theorem xF {m : Msh} {p : Pnt} (h : onE m p=0) : bK m=true /\ okP p=true /\ 0 <= eL m p:=by
 unfold onE at h
 split at h
 ·rename_i h1
  refine ⟨h1.1,h1.2,?_⟩
  split at h
  ·omega
  ·omega
 ·omega
def wlk (m : Msh) (p : Pnt) : Nat -> Nat -> Int × Int × Int
 | r,f=>if osF m f p < 0 then ((f : Int),((m.f.length - r : Nat) : Int),0) else if nbF m f (osF m f p).toNat < 0 then (0,0,12) else match r with
  | 0=>(0,0,6)
  | r + 1=>wlk m p r (nbF m f (osF m f p).toNat).toNat
def wkR (m : Msh) (from_ : Int) (p : Pnt) : Int × Int × Int:=if bK m=true /\ okP p=true then (if gl m.f.length from_=true then wlk m p m.f.length from_.toNat else (0,0,2)) else (0,0,1)
def TZ (t : Int × Int × Int) : D:=.tup [.int .i64 t.1,.int .i64 t.2.1,.int .i64 t.2.2]
variable {C : CC} (hC : aj prog C)
include hC
theorem xq (dec : Nat -> List UInt8) (hI : ∀ n : Nat,n < 100 -> C 127 [.int .i64 n] (.str (dec n)) []) (m : Msh) (hz : gq m=true -> m.s.length <= 100 /\ m.f.length <= 100) (b : Bool) (ps : List Pnt) (hp : ps.length < 2 ^ 62) :
  C 275 [.agg (cI m),slx b (ps.map fun x=>ptD x)] (.bool (bK m && ps.all okP)) []:=by
 have k1:=qn hC dec hI m hz
 have k2:=wO hC (b:=b) (xs:=ps) (g:=312) (cs:=[]) (fun x=>!okP x) hp (fun x _=>ux hC x)
 have e : (ps.any fun x=>!okP x)=!ps.all okP:=by rw [List.all_eq_not_any_not,Bool.not_not]
 rw [e] at k2
 refine start hC (nf:=N275) rfl rfl ?_
 simp only [ao] at k1
 simp [N275,ao]
 refine aa k1 (.inl rfl) ?_
 cases bK m
 ·simp
 ·simp
  refine aa k2 (.inl rfl) ?_
  simp
theorem Lj (dec : Nat -> List UInt8) (hI : ∀ n : Nat,n < 100 -> C 127 [.int .i64 n] (.str (dec n)) []) (m : Msh) (hz : gq m=true -> m.s.length <= 100 /\ m.f.length <= 100) (p : Pnt) :
  C 274 [.agg (cI m),.agg (ptD p)] (.tup [.int .i64 (onV m p),.int .i64 (onE m p)]) []:=by
 have k1:=xq hC dec hI m hz false [p] (by simp)
 simp at k1
 refine start hC (nf:=N274) rfl rfl ?_
 simp only [ao] at k1
 simp only [ptD] at k1
 simp [N274,ao,ptD]
 refine aa k1 (.inl rfl) ?_
 by_cases hv : bK m=true /\ okP p=true
 ·have hm:=(hz (by have:=hv.1;simp only [bK,Bool.and_eq_true] at this;exact this.1)).2
  have k2:=Ag hC m hv.1 hm p hv.2
  simp only [ao,ptD] at k2
  simp [hv.1,hv.2]
  refine aa k2 (.inl rfl) ?_
  simp
  refine ac (fun c=>?_) (fun c=>?_) <;> simp at c <;> simp [c,onE,onV,hv.1,hv.2]
 ·have e : (bK m && okP p)=false:=by
   cases h1 : bK m <;> cases h2 : okP p <;> simp [h1,h2] at hv ⊢
  simp [e,onE,onV,hv]
end Go.Gv

namespace Go.Gv
open Go.Lib
def jD (m : Msh) (i : Nat) (p : Pnt) : Int:=(spA m i).z * tn1 m i p + (spB m i).z * tn2 m i p + (spC m i).z * tn0 m i p
def jN (m : Msh) (i : Nat) : Int:=cH (ptS (spA m i)) (ptS (spB m i)) (ptS (spC m i))
theorem EE (m : Msh) (i : Nat) (p : Pnt) : tn0 m i p + tn1 m i p + tn2 m i p=jN m i:=by
 unfold tn0 tn1 tn2 jN cH ptS
 grind
theorem Bh (m : Msh) (i : Nat) (p : Pnt) : cH p (ptS (spB m i)) (ptS (spC m i))=tn1 m i p:=by
 unfold tn1 cH;grind
theorem Bi (m : Msh) (i : Nat) (p : Pnt) : cH p (ptS (spC m i)) (ptS (spA m i))=tn2 m i p:=by
 unfold tn2 cH;grind
theorem Bg (m : Msh) (i : Nat) (p : Pnt) : cH p (ptS (spA m i)) (ptS (spB m i))=tn0 m i p:=by
 unfold tn0 cH;grind
theorem kU {a b c : Pnt} (ha : okP a=true) (hb : okP b=true) (hc : okP c=true) : -2251799813685248 <= cH a b c /\ cH a b c <= 2251799813685248:=by
 have:=pv ha hb hc
 unfold cH
 omega
structure OnF (m : Msh) (i : Nat) (p : Pnt) : Prop where
 z0 : -4194304 <= (spA m i).z /\ (spA m i).z <= 4194304
 z1 : -4194304 <= (spB m i).z /\ (spB m i).z <= 4194304
 z2 : -4194304 <= (spC m i).z /\ (spC m i).z <= 4194304
 t0 : 0 <= tn0 m i p /\ tn0 m i p <= 2251799813685248
 t1 : 0 <= tn1 m i p /\ tn1 m i p <= 2251799813685248
 t2 : 0 <= tn2 m i p /\ tn2 m i p <= 2251799813685248
 d : 0 < jN m i /\ jN m i <= 2251799813685248
theorem rU {m : Msh} (hv : bK m=true) {i : Nat} (hi : i < m.f.length) {p : Pnt} (hp : okP p=true) (h : osF m i p < 0) : OnF m i p:=by
 obtain ⟨oa,ob,oc⟩:=so hv hi
 obtain ⟨r1,r2,r3⟩:=Cx hv hi
 have:=lB r1
 have:=lB r2
 have:=lB r3
 obtain ⟨n0,n1,n2⟩:=Eg h
 have b0 : tn0 m i p <= 2251799813685248:=(kU oa ob hp).2
 have b1 : tn1 m i p <= 2251799813685248:=(kU ob oc hp).2
 have b2 : tn2 m i p <= 2251799813685248:=(kU oc oa hp).2
 have bd : jN m i <= 2251799813685248:=(kU oa ob oc).2
 have hd : 0 < jN m i:=(tx hv hi).2
 exact ⟨by omega,by omega,by omega,by omega,by omega,by omega,by omega⟩
theorem jn {z t : Int} (hz : -4194304 <= z /\ z <= 4194304) (ht : 0 <= t) : -(4194304 * t) <= z * t /\ z * t <= 4194304 * t:=by
 have h1:=Int.mul_nonneg (show 0 <= 4194304 - z by omega) ht
 have h2:=Int.mul_nonneg (show 0 <= 4194304 + z by omega) ht
 rw [Int.sub_mul] at h1
 rw [Int.add_mul] at h2
 omega
theorem OnF.num {m : Msh} {i : Nat} {p : Pnt} (h : OnF m i p) : -(4194304 * jN m i) <= jD m i p /\ jD m i p <= 4194304 * jN m i:=by
 have e:=EE m i p
 have h1:=jn h.z0 h.t1.1
 have h2:=jn h.z1 h.t2.1
 have h3:=jn h.z2 h.t0.1
 unfold jD
 rw [<- e]
 omega
theorem v8 {n d k : Int} (hd : 0 < d) (h : -(k * d) <= n /\ n <= k * d) : -k <= n / d /\ n / d <= k:=by
 constructor
 ·exact (Int.le_ediv_iff_mul_le hd).2 (by rw [Int.neg_mul];exact h.1)
 ·exact Int.le_of_lt_add_one ((Int.ediv_lt_iff_lt_mul hd).2 (by rw [Int.add_mul];omega))
def loF (m : Msh) (i : Nat) (p : Pnt) : Int:=jD m i p / jN m i
def hiF (m : Msh) (i : Nat) (p : Pnt) : Int:=-(-jD m i p / jN m i)
theorem OnF.lo {m : Msh} {i : Nat} {p : Pnt} (h : OnF m i p) : -4194304 <= loF m i p /\ loF m i p <= 4194304:=v8 h.d.1 h.num
theorem OnF.hi {m : Msh} {i : Nat} {p : Pnt} (h : OnF m i p) : -4194304 <= hiF m i p /\ hiF m i p <= 4194304:=by
 have:=v8 (n:=-jD m i p) (k:=4194304) h.d.1 (by have:=h.num;omega)
 unfold hiF
 omega
variable {C : CC} (hC : aj prog C)
include hC
theorem jK (z t : Int) (hz : -4194304 <= z /\ z <= 4194304) (ht : 0 <= t /\ t <= 2251799813685248) : C 99 [.int .i64 z,.int .i64 t] (.tup [wiS (z * t),.int .i64 0]) []:=by
 obtain ⟨n,rfl⟩ : ∃ n : Nat,t=n:=⟨t.toNat,by omega⟩
 have h3 : z.natAbs * n <= 4194304 * 2251799813685248:=Nat.mul_le_mul (by omega) (by omega)
 exact qX hC z n (by omega) (by omega) (by omega)
set_option maxHeartbeats 4000000 in
theorem xi (m : Msh) (hv : bK m=true) (i : Nat) (hi : i < m.f.length) (p : Pnt) (hp : okP p=true) (h : osF m i p < 0) :
  C 300 [.agg (cI m),.int .i64 i,.agg (ptD p)] (.tup [wiS (jD m i p),.int .i64 (jN m i),.int .i64 0]) []:=by
 have H:=rU hv hi hp h
 obtain ⟨oa,ob,oc⟩:=so hv hi
 have k0:=mR hC m i hi (nF hv hi)
 have ka:=om hC (spA m i)
 have kb:=om hC (spB m i)
 have kc:=om hC (spC m i)
 have t1:=hJ hC hp ob oc
 have t2:=hJ hC hp oc oa
 have t0:=hJ hC hp oa ob
 have td : C 320 _ (.int .i64 (jN m i)) []:=hJ hC oa ob oc
 rw [Bh] at t1
 rw [Bi] at t2
 rw [Bg] at t0
 have x1:=jK hC _ _ H.z0 H.t1
 have x2:=jK hC _ _ H.z1 H.t2
 have x0:=jK hC _ _ H.z2 H.t0
 have b1:=jn H.z0 H.t1.1
 have b2:=jn H.z1 H.t2.1
 have b0:=jn H.z2 H.t0.1
 have c0:=H.t0
 have c1:=H.t1
 have c2:=H.t2
 have en : jD m i p=(spA m i).z * tn1 m i p + (spB m i).z * tn2 m i p + (spC m i).z * tn0 m i p:=rfl
 obtain ⟨u1,hu1⟩ : ∃ u,u=(spA m i).z * tn1 m i p:=⟨_,rfl⟩
 obtain ⟨u2,hu2⟩ : ∃ u,u=(spB m i).z * tn2 m i p:=⟨_,rfl⟩
 obtain ⟨u0,hu0⟩ : ∃ u,u=(spC m i).z * tn0 m i p:=⟨_,rfl⟩
 rw [<- hu1] at x1 b1 en
 rw [<- hu2] at x2 b2 en
 rw [<- hu0] at x0 b0 en
 have y1:=qU hC 0 u1 (by omega) (by omega)
 have y2:=qU hC u1 u2 (by omega) (by omega)
 have y3:=qU hC (u1 + u2) u0 (by omega) (by omega)
 rw [Int.zero_add] at y1
 rw [<- en] at y3
 have ez : wiS 0=.agg [.int .i64 0,.int .i64 0]:=by simp [wiS]
 obtain ⟨p1,q1,_,_,e1⟩:=cc u1
 obtain ⟨p2,q2,_,_,e2⟩:=cc u2
 obtain ⟨p3,q3,_,_,e3⟩:=cc u0
 obtain ⟨p4,q4,_,_,e4⟩:=cc (u1 + u2)
 obtain ⟨p5,q5,_,_,e5⟩:=cc (jD m i p)
 rw [e1] at x1
 rw [e2] at x2
 rw [e3] at x0
 rw [ez,e1] at y1
 rw [e1,e2,e4] at y2
 rw [e4,e3,e5] at y3
 rw [e5]
 have w0 : IntKind.wrap .i64 0=0:=by decide
 have w1 : IntKind.wrap .i64 1=1:=by decide
 have w2 : IntKind.wrap .i64 2=2:=by decide
 have w3 : IntKind.wrap .i64 3=3:=by decide
 have w4 : IntKind.wrap .i64 4=4:=by decide
 have m1 : Int.tmod 1 3=1:=by decide
 have m2 : Int.tmod 2 3=2:=by decide
 have m3 : Int.tmod 3 3=0:=by decide
 have m4 : Int.tmod 4 3=1:=by decide
 clear e1 e2 e3 e4 e5 en hu0 hu1 hu2 b0 b1 b2 c0 c1 c2 H
 simp only [ao,jv,cr] at k0 ka kb kc
 refine start hC (nf:=N300) rfl rfl ?_
 simp [N300,ao]
 refine aa k0 (.inl rfl) ?_
 simp
 refine ar Nat (fun k=>[(5,.ptr (ptD p)),(6,.adr (.r 10096) 0 0),(9,.adr (.r 10144) 0 0),(17,.agg (tX m i)),(18,.int .i64 k),(10144,.blk 9 [tX m i]),
  (10096,.blk 2 [if k=0 then [.int .i64 0,.int .i64 0] else if k=1 then [.int .i64 p1,.int .i64 q1] else if k=2 then [.int .i64 p4,.int .i64 q4] else [.int .i64 p5,.int .i64 q5]])]) (fun k=>k <= 3) (fun k=>3 - k) 0 (by simp) (by simp [cr]) ?_
 rintro k hk
 rcases (by omega : k=0 \/ k=1 \/ k=2 \/ k=3) with rfl | rfl | rfl | rfl
 ·simp [cr,w1,m1]
  refine aa kb (.inl rfl) ?_
  simp [w2,m2]
  refine aa kc (.inl rfl) ?_
  simp
  refine aa t1 (.inl rfl) ?_
  simp
  refine aa x1 (.inr rfl) ?_
  simp
  refine ⟨am (by decide +kernel),?_⟩
  refine aa y1 (.inr rfl) ?_
  simp
  exact ⟨1,by omega,by omega,by simp [cr,w1]⟩
 ·simp [cr,w2,m2]
  refine aa kc (.inl rfl) ?_
  simp [w3,m3]
  refine aa ka (.inl rfl) ?_
  simp
  refine aa t2 (.inl rfl) ?_
  simp
  refine aa x2 (.inr rfl) ?_
  simp
  refine ⟨am (by decide +kernel),?_⟩
  refine aa y2 (.inr rfl) ?_
  simp
  exact ⟨2,by omega,by omega,by simp [cr,w2]⟩
 ·simp [cr,w3,m3]
  refine aa ka (.inl rfl) ?_
  simp [w4,m4]
  refine aa kb (.inl rfl) ?_
  simp
  refine aa t0 (.inl rfl) ?_
  simp
  refine aa x0 (.inr rfl) ?_
  simp
  refine ⟨am (by decide +kernel),?_⟩
  refine aa y3 (.inr rfl) ?_
  simp
  exact ⟨3,by omega,by omega,by simp [cr,w3]⟩
 ·simp [cr]
  refine aa ka (.inl rfl) ?_
  simp
  refine aa kb (.inl rfl) ?_
  simp
  refine aa kc (.inl rfl) ?_
  simp
  refine aa td (.inl rfl) ?_
  simp
  exact am (by decide +kernel)
theorem pV (v : Int) (d : Nat) (up : Bool) (hd0 : 0 < d) (hd : d <= 2251799813685248) (hv : v.natAbs <= 4194304 * d) : C 301 [wiS v,.int .i64 d,.bool up] (.tup [.int .i64 (if up then -(-v / d) else v / d),.int .i64 0]) []:=by
 have k1:=lE hC v (by omega)
 have k2:=nG hC v (by omega)
 obtain ⟨Q,hQ⟩ : ∃ Q,Q=(if up then -(-v / (d : Int)) else v / (d : Int)):=⟨_,rfl⟩
 have hdiv : v.natAbs / d <= 4194304:=Nat.div_le_of_le_mul (by rw [Nat.mul_comm];exact hv)
 have k3 : C 104 [gL v,.int .i64 d,.bool up] (.tup [.int .i64 Q,.int .i64 0]) []:=by
  by_cases v0 : v < 0
  ·obtain ⟨n,rfl⟩ : ∃ n : Nat,v=-(n : Int):=⟨v.natAbs,by omega⟩
   rw [Int.natAbs_neg,Int.natAbs_natCast] at hv hdiv
   have k:=qA hC n d up (if up then n / d else if n % d=0 then n / d else n / d + 1) (by omega) (by omega) (by omega) (by split;omega;split <;> omega) rfl (by omega)
   have e1 : gL (-(n : Int))=fx n true:=gd (by omega) (decide_eq_true v0)
   have e2 : Q=-((if up then n / d else if n % d=0 then n / d else n / d + 1 : Nat) : Int):=by
    rw [hQ]
    cases up
    ·simp only [Bool.false_eq_true,if_false]
     exact lP n d hd0
    ·simp
   rw [e1,e2]
   exact k
  ·obtain ⟨n,rfl⟩ : ∃ n : Nat,v=(n : Int):=⟨v.natAbs,by omega⟩
   rw [Int.natAbs_natCast] at hv hdiv
   have hle : (n + d - 1) / d <= n / d + 1:=by
    have : (n + d - 1) / d <= (n + d) / d:=Nat.div_le_div_right (by omega)
    rw [Nat.add_div_right _ hd0] at this
    exact this
   have k:=rY hC n d up (if up then (n + d - 1) / d else n / d) (by omega) (by omega) (by split <;> omega) rfl (by omega)
   have e1 : gL (n : Int)=fx n false:=gd (by omega) (decide_eq_false v0)
   have e2 : Q=((if up then (n + d - 1) / d else n / d : Nat) : Int):=by
    rw [hQ]
    cases up
    ·simp
    ·simp only [if_true]
     rw [lP n d hd0,Int.neg_neg]
     congr 1
     have h1:=Nat.div_add_mod n d
     have h2:=Nat.mod_lt n hd0
     split
     ·rename_i h
      have : n + d - 1=d * (n / d) + (d - 1):=by omega
      rw [this,Nat.mul_add_div hd0,Nat.div_eq_of_lt (show d - 1 < d by omega)]
      rfl
     ·rename_i h
      have : n + d - 1=d * (n / d) + (d + (n % d - 1)):=by omega
      rw [this,Nat.mul_add_div hd0,Nat.add_div_left _ hd0,Nat.div_eq_of_lt (show n % d - 1 < d by omega)]
   rw [e1,e2]
   exact k
 rw [<- hQ]
 obtain ⟨a1,a2,_,_,ea⟩:=cc v
 obtain ⟨f1,f2,f3,ef⟩ : ∃ (a1 a2 : Nat) (a3 : Bool),gL v=.agg [.int .u64 a1,.int .u64 a2,.bool a3]:=⟨_,_,_,rfl⟩
 rw [ea] at k1 k2 ⊢
 rw [ef] at k2 k3
 have h1 : ¬ d=0:=by omega
 clear hQ ea ef
 refine start hC (nf:=N301) rfl rfl ?_
 simp [N301]
 refine aa k1 (.inl rfl) ?_
 simp [h1]
 refine aa k2 (.inl rfl) ?_
 simp
 refine aa k3 (.inr rfl) ?_
 simp
theorem yM (v : Int) (d : Nat) (hd0 : 0 < d) (hd : d <= 2251799813685248) (hv : v.natAbs <= 4194304 * d) : C 271 [wiS v,.int .i64 d] (.tup [.int .i64 (v / d),.int .i64 0]) []:=by
 have k:=pV hC v d false hd0 hd hv
 simp at k
 obtain ⟨Q,hQ⟩ : ∃ Q,Q=v / (d : Int):=⟨_,rfl⟩
 rw [<- hQ] at k ⊢
 obtain ⟨a1,a2,_,_,ea⟩:=cc v
 rw [ea] at k ⊢
 refine start hC (nf:=N271) rfl rfl ?_
 simp [N271]
 refine aa k (.inl rfl) ?_
 simp
theorem CD (v : Int) (d : Nat) (hd0 : 0 < d) (hd : d <= 2251799813685248) (hv : v.natAbs <= 4194304 * d) : C 272 [wiS v,.int .i64 d] (.tup [.int .i64 (-(-v / d)),.int .i64 0]) []:=by
 have k:=pV hC v d true hd0 hd hv
 simp only [if_true] at k
 obtain ⟨Q,hQ⟩ : ∃ Q,Q=-(-v / (d : Int)):=⟨_,rfl⟩
 rw [<- hQ] at k ⊢
 obtain ⟨a1,a2,_,_,ea⟩:=cc v
 rw [ea] at k ⊢
 refine start hC (nf:=N272) rfl rfl ?_
 simp [N272]
 refine aa k (.inl rfl) ?_
 simp
def wz : D:=.agg [.int .i64 0,.int .i64 0]
theorem xe (dec : Nat -> List UInt8) (hI : ∀ n : Nat,n < 100 -> C 127 [.int .i64 n] (.str (dec n)) []) (m : Msh) (hz : gq m=true -> m.s.length <= 100 /\ m.f.length <= 100) (p : Pnt) :
  C 269 [.agg (cI m),.agg (ptD p)] (if onE m p=0 then .tup [wiS (jD m (eL m p).toNat p),.int .i64 (jN m (eL m p).toNat),.int .i64 0] else .tup [wz,.int .i64 0,.int .i64 (onE m p)]) []:=by
 have k1:=Lj hC dec hI m hz p
 by_cases h0 : onE m p=0
 ·obtain ⟨hv,hp,hf⟩:=xF h0
  obtain ⟨hi,ho⟩:=oZ hf
  have k2:=xi hC m hv _ hi p hp ho
  rw [if_pos h0]
  have e : onV m p=eL m p:=by rw [onV,if_pos h0]
  rw [h0,e] at k1
  rw [show (((eL m p).toNat : Nat) : Int)=eL m p by omega] at k2
  obtain ⟨a1,a2,_,_,ea⟩:=cc (jD m (eL m p).toNat p)
  rw [ea] at k2 ⊢
  simp only [ao,ptD] at k1 k2
  refine start hC (nf:=N269) rfl rfl ?_
  simp [N269,ao,ptD]
  refine aa k1 (.inl rfl) ?_
  simp
  refine aa k2 (.inr rfl) ?_
  simp
 ·rw [if_neg h0]
  simp only [ao,ptD] at k1
  refine start hC (nf:=N269) rfl rfl ?_
  simp [N269,ao,ptD]
  refine aa k1 (.inl rfl) ?_
  simp [h0,wz]
theorem xf (dec : Nat -> List UInt8) (hI : ∀ n : Nat,n < 100 -> C 127 [.int .i64 n] (.str (dec n)) []) (m : Msh) (hz : gq m=true -> m.s.length <= 100 /\ m.f.length <= 100) (p : Pnt) :
  C 233 [.agg (cI m),.agg (ptD p)] (if onE m p=0 then .tup [.agg [.int .i64 (loF m (eL m p).toNat p),.int .i64 (hiF m (eL m p).toNat p)],.int .i64 0] else .tup [wz,.int .i64 (onE m p)]) []:=by
 have k1:=xe hC dec hI m hz p
 by_cases h0 : onE m p=0
 ·obtain ⟨hv,hp,hf⟩:=xF h0
  obtain ⟨hi,ho⟩:=oZ hf
  have H:=rU hv hi hp ho
  obtain ⟨i,hi2⟩ : ∃ i,i=(eL m p).toNat:=⟨_,rfl⟩
  rw [if_pos h0] at k1 ⊢
  rw [<- hi2] at k1 H ⊢
  obtain ⟨d,hd⟩ : ∃ d : Nat,jN m i=d:=⟨(jN m i).toNat,by have:=H.d;omega⟩
  have b1:=H.num
  have b2:=H.d
  rw [hd] at b1 b2
  have k2:=yM hC (jD m i p) d (by omega) (by omega) (by omega)
  have k3:=CD hC (jD m i p) d (by omega) (by omega) (by omega)
  rw [show jD m i p / (d : Int)=loF m i p by rw [loF,hd]] at k2
  rw [show -(-jD m i p / (d : Int))=hiF m i p by rw [hiF,hd]] at k3
  rw [hd] at k1
  obtain ⟨a1,a2,_,_,ea⟩:=cc (jD m i p)
  rw [ea] at k1 k2 k3
  simp only [ao,ptD] at k1
  clear b1 b2 H
  refine start hC (nf:=N233) rfl rfl ?_
  simp [N233,ao,ptD]
  refine aa k1 (.inr rfl) ?_
  simp
  refine aa k2 (.inl rfl) ?_
  simp
  refine aa k3 (.inl rfl) ?_
  simp
 ·rw [if_neg h0] at k1 ⊢
  simp only [ao,ptD,wz] at k1
  refine start hC (nf:=N233) rfl rfl ?_
  simp [N233,ao,ptD]
  refine aa k1 (.inr rfl) ?_
  simp [h0,wz]
end Go.Gv

namespace Go.Gv
def SQ (m : Msh) (a b : Int) : Int:=if tk m a b < 0 then 0 else bv (fun j=>decide (crn (fce m (tk m a b).toNat) j=a) && decide (crn (fce m (tk m a b).toNat) (j + 1)=b)) (List.range 3)
def acK (m : Msh) (i k : Nat) : Int:=SQ m (crn (fce m i) (k + 1)) (crn (fce m i) k)
def nbT (m : Msh) (i : Nat) : List (List D):=(List.range i).map fun j=>[.int .i64 (nbF m j 0),.int .i64 (nbF m j 1),.int .i64 (nbF m j 2)]
@[simp] theorem Qg (m : Msh) (i : Nat) : (nbT m i).length=i:=by simp [nbT]
@[simp] theorem Lt (m : Msh) (i : Nat) : List.take i (nbT m i)=nbT m i:=List.take_of_length_le (by simp)
@[simp] theorem SC (m : Msh) (i : Nat) : List.map (fun e=>List.map aH e) (nbT m i)=nbT m i:=by simp [nbT]
variable {C : CC} (hC : aj prog C)
include hC
end Go.Gv

namespace Go.Gv
open Go.Lib
def tr3 (m : Msh) (i : Nat) : List (List D):=[ptD (ptS (spA m i)),ptD (ptS (spB m i)),ptD (ptS (spC m i))]
def sdF (m : Msh) (i : Nat) (p : Pnt) (k : Nat) : Int:=if 0 <= osF m i p /\ osF m i p < k then osF m i p else -1
variable {C : CC} (hC : aj prog C)
include hC
def TA (m : Msh) : Bool:=decide ((m.s.length : Int) <= 60) && decide ((m.f.length : Int) <= 60)
end Go.Gv

namespace Go.Gv
open Go.Lib
def exL : Msh:=⟨false,[⟨0,0,100⟩,⟨1000,0,200⟩,⟨0,1000,400⟩],false,[⟨0,1,2,0⟩]⟩
variable {C : CC} (hC : aj prog C)
include hC
end Go.Gv

set_option maxRecDepth 4000
namespace Go.Gv
open Go.Lib
theorem zM (L : List Fnd) : List.map (fun e=>List.map aH e) (aX L)=aX L:=by
 unfold aX
 rw [List.map_map]
 apply List.map_congr_left
 intro v _
 simp [cS,aH]
variable {C : CC} (hC : aj prog C)
include hC
def TB (l : List Sec) (nm : List UInt8) : Int × Bool:=if 0 <= bv (iu nm) l then ((l[(bv (iu nm) l).toNat]?.map (·.height)).getD 0,true) else (0,false)
end Go.Gv

set_option maxRecDepth 4000
namespace Go.Gv
def iC (n : Nod) : Pnt:=(n.x,n.y)
def grF (m : Msh) (tol : Int) (n : Nod) : List Fnd :=
 if eL m (iC n) < 0 then [(10,n.name)]
 else one (decide (n.ground < IntKind.wrap .i64 (loF m (eL m (iC n)).toNat (iC n) - tol)) || decide (IntKind.wrap .i64 (hiF m (eL m (iC n)).toNat (iC n) + tol) < n.ground)) (9,n.name)
def grA (m : Msh) (tol : Int) (ns : List Nod) (i : Nat) : List Fnd:=(ns[i]?.map (grF m tol)).getD []
theorem o6 (m : Msh) (tol : Int) {ns : List Nod} {i : Nat} (h : i < ns.length) : grA m tol ns i=grF m tol ns[i]:=by simp [grA,h]
theorem zP (m : Msh) (tol : Int) (n : Nod) : (grF m tol n).length <= 1:=by
 unfold grF
 split
 ·simp
 ·exact eG _ _
theorem o7 (m : Msh) (tol : Int) (ns : List Nod) (i : Nat) : (grA m tol ns i).length <= 1:=by
 unfold grA
 cases ns[i]? with
 | none=>simp
 | some n=>exact zP m tol n
def jO (m : Msh) (tol : Int) (ns : List Nod) : List Fnd:=bL (grA m tol ns) ns.length
def ny (m : Msh) : Bool:=decide (40 < m.s.length) || decide (60 < m.f.length)
theorem ta {ns : List Nod} {ls : List Lnk} (hv : bq ns ls=true) {i : Nat} (hi : i < ns.length) : okP (iC ns[i])=true:=by
 have h:=(ov hv hi).1
 simp only [lQ,bg,Bool.and_eq_true,decide_eq_true_eq] at h
 simp [okP,iC]
 refine ⟨⟨⟨decide_eq_true ?_,decide_eq_true ?_⟩,decide_eq_true ?_⟩,decide_eq_true ?_⟩ <;> omega
variable {C : CC} (hC : aj prog C)
include hC
theorem Bf (m : Msh) : C 664 [.agg (cI m)] (.bool (ny m)) []:=by
 refine start hC (nf:=N664) rfl rfl ?_
 simp [N664,cI]
 unfold ny
 by_cases h1 : (40 : Int) < m.s.length
 ·simp [h1,show 40 < m.s.length by omega]
 ·have h1' : decide (40 < m.s.length)=false:=decide_eq_false (by omega)
  rw [h1']
  simp [h1]
  omega
set_option maxHeartbeats 4000000 in
theorem vq (hK : qV C) (dec : Nat -> List UInt8) (hI : ∀ n : Nat,n < 100 -> C 127 [.int .i64 n] (.str (dec n)) []) (b1 b2 : Bool) (ns : List Nod) (ls : List Lnk) (m : Msh) (hz : gq m=true -> m.s.length <= 100 /\ m.f.length <= 100) (tol : Int) (hcv : ∀ l ∈ ls,l.curve.length < 2 ^ 62) : C 665 [.agg [slx b1 (ns.map aQ),slx b2 (ls.map aD)],.agg (cI m),.int .i64 tol] (.tup (if (bq ns ls && bK m)=true then (if 0 <= tol /\ tol <= 4194304 then [.sl (aX (iz eS (jO m tol ns))),.int .i64 0] else [.nils,.int .i64 2]) else [.nils,.int .i64 1])) []:=by
 have k0:=jo hC b1 b2 ns ls hcv
 have k1:=qn hC dec hI m hz
 have k2:=fun p=>xf hC dec hI m hz p
 have k4:=vF hC
 refine start hC (nf:=N665) rfl rfl ?_
 simp only [ao] at k1 k2
 simp [N665,ao]
 refine aa k0 (.inl rfl) ?_
 cases hv : bq ns ls
 ·simp
 simp [ao]
 refine aa k1 (.inl rfl) ?_
 cases hm : bK m
 ·simp
 simp
 by_cases t1 : tol < 0
 ·have : ¬ (0 <= tol /\ tol <= 4194304):=by omega
  simp [t1,this]
 by_cases t2 : 4194304 < tol
 ·have : ¬ (0 <= tol /\ tol <= 4194304):=by omega
  simp [t1,t2,this]
 have t3 : (0 <= tol /\ tol <= 4194304):=by omega
 have hn:=(cF hv).1
 have hgl : (jO m tol ns).length <= 300:=by
  unfold jO
  have:=cC (o7 m tol ns) ns.length
  omega
 have k3:=tr hC hK (jO m tol ns) (by omega)
 simp [t1,t2,t3]
 refine ar Nat (fun j=>[(2,.int .i64 tol),(4,.ptr [slx m.sn (m.s.map gr),slx m.fn (m.f.map dc)]),(8,.adr (.r 10128) 0 0),(28,slx b1 (ns.map aQ)),(29,.int .i64 ns.length),(30,.int .i64 j),(10128,.blk 1 [[.own 2 (aX (bL (grA m tol ns) j))]])]) (fun j=>j <= ns.length) (fun j=>ns.length - j) 0 (by simp) (by simp [fS,aX]) ?_
 intro j hj
 simp
 have hfl:=cC (o7 m tol ns) j
 refine ac (fun h=>?_) (fun h=>?_) <;> simp at h
 ·have hw : IntKind.wrap .i64 ((j : Int) + 1)=((j + 1 : Nat) : Int):=ah (by omega) (by omega)
  have hfs:=eX (grA m tol ns) j
  have hp:=ta hv h
  have k5:=k2 (iC ns[j])
  have hon : onE m (iC ns[j])=if eL m (iC ns[j]) < 0 then 12 else 0:=by
   unfold onE
   rw [if_pos ⟨hm,hp⟩]
  rw [o6 m tol h] at hfs
  unfold grF at hfs
  simp only [ptD,iC] at k5 hon hfs
  simp [h,aQ]
  by_cases q1 : eL m (ns[j].x,ns[j].y) < 0
  ·simp only [q1,↓reduceIte] at hfs
   simp [hon,q1] at k5
   refine aa k5 (.inl rfl) ?_
   simp [wz]
   refine bY (k4 _ 10 _ (by omega)) (by simp) ?_
   simp [hw]
   exact ⟨j + 1,by omega,by omega,by omega,by rw [hfs]⟩
  ·simp only [q1,↓reduceIte] at hfs
   simp [hon,q1] at k5
   refine aa k5 (.inl rfl) ?_
   simp
   by_cases q2 : ns[j].ground < IntKind.wrap .i64 (loF m (eL m (ns[j].x,ns[j].y)).toNat (ns[j].x,ns[j].y) - tol)
   ·simp [q2]
    refine bY (k4 _ 9 _ (by omega)) (by simp) ?_
    simp [hw]
    exact ⟨j + 1,by omega,by omega,by omega,by rw [hfs];simp [one,q2]⟩
   ·by_cases q3 : IntKind.wrap .i64 (hiF m (eL m (ns[j].x,ns[j].y)).toNat (ns[j].x,ns[j].y) + tol) < ns[j].ground
    ·simp [q2,q3]
     refine bY (k4 _ 9 _ (by omega)) (by simp) ?_
     simp [hw]
     exact ⟨j + 1,by omega,by omega,by omega,by rw [hfs];simp [one,q3]⟩
    ·simp [q2,q3,hw]
     exact ⟨j + 1,by omega,by omega,by omega,by rw [hfs];simp [one,q2,q3]⟩
 ·have ej : j=ns.length:=by omega
  subst ej
  have hg : bL (grA m tol ns) ns.length=jO m tol ns:=rfl
  rw [hg] at hfl ⊢
  generalize jO m tol ns=A at *
  simp [h]
  refine ⟨dL _,?_⟩
  refine md k3 (fun e he=>⟨kj _ e he,dL _ e he⟩) ?_
  have e1 : List.take (iz eS A).length (aX (iz eS A))=aX (iz eS A):=List.take_of_length_le (by rw [bf];exact Nat.le_refl _)
  simp [bf,zM,e1]
  exact t3
end Go.Gv

set_option maxRecDepth 4000
namespace Go.Gv
def fc (b : Int) (n : Nod) : Nod:={ n with invert:=IntKind.wrap .i64 (n.invert + b),ground:=IntKind.wrap .i64 (n.ground + b) }
def fz (b : Int) (l : Lnk) : Lnk:={ l with up:=IntKind.wrap .i64 (l.up + b),down:=if l.kind=1 \/ l.kind=4 then IntKind.wrap .i64 (l.down + b) else l.down }
def oA (b : Int) (ns : List Nod) (i : Nat) : List Nod:=(ns.take i).map (fc b)++ns.drop i
def oz (b : Int) (ls : List Lnk) (i : Nat) : List Lnk:=(ls.take i).map (fz b)++ls.drop i
theorem wT {α : Type} {p : α -> Bool} {f : α -> α} (h : ∀ x,p (f x)=p x) : ∀ xs : List α,bv p (xs.map f)=bv p xs:=by
 intro xs
 unfold bv
 have : (xs.map f).findIdx? p=xs.findIdx? p:=by
  induction xs with
  | nil=>rfl
  | cons x r ih=>simp [List.findIdx?_cons,h,ih]
 rw [this]
theorem tf (b : Int) (ns : List Nod) (ls : List Lnk) : cB (ns.map (fc b)) (ls.map (fz b))=cB ns ls:=by
 unfold cB
 rw [List.map_map]
 apply List.map_congr_left
 intro l _
 have h : ∀ nm,bv (dB nm) (ns.map (fc b))=bv (dB nm) ns:=fun nm=>wT (p:=dB nm) (f:=fc b) (fun x=>rfl) ns
 simp only [Function.comp,h]
 rfl
theorem xP (b : Int) (ns : List Nod) (k : Nat) : l3 (ns.map (fc b)) k=l3 ns k:=by
 unfold l3
 rw [List.getElem?_map]
 cases ns[k]? <;> rfl
theorem uW (b : Int) (ns : List Nod) (k : Nat) : ee (ns.map (fc b)) k=ee ns k:=by
 unfold ee
 rw [List.getElem?_map]
 cases ns[k]? <;> rfl
theorem lA (b : Int) (ls : List Lnk) (k : Nat) : gJ (ls.map (fz b)) k=gJ ls k:=by
 unfold gJ
 rw [List.getElem?_map]
 cases ls[k]? <;> rfl
theorem pk (b : Int) (l : List Sec) (k : Lnk) : hgF l (fz b k)=hgF l k:=rfl
theorem Bk {l : List Sec} (h : il l=true) (k : Lnk) : -1 <= hgF l k /\ hgF l k <= 32768:=by
 unfold hgF
 split
 ·split
  ·rename_i s hs
   have hm:=List.mem_of_find?_eq_some hs
   simp only [il,i7,Bool.and_eq_true,decide_eq_true_eq,List.all_eq_true] at h
   have:=h.1.2 s hm
   omega
  ·omega
 ·omega
theorem aR {x : Int} (h : -9223372036854775808 <= x /\ x <= 9223372036854775807) : IntKind.wrap .i64 x=x:=ah rfl (by omega)
structure LvB (k : Lnk) : Prop where
 up : -4194304 <= k.up /\ k.up <= 4194304
 down : -4194304 <= k.down /\ k.down <= 4194304
 hgt : -4194304 <= k.height /\ k.height <= 4194304
structure NvB (n : Nod) : Prop where
 inv : -4194304 <= n.invert /\ n.invert <= 4194304
 gnd : -4194304 <= n.ground /\ n.ground <= 4194304
theorem mj {ns : List Nod} {ls : List Lnk} (hv : bq ns ls=true) {i : Nat} (hi : i < ns.length) : NvB ns[i]:=by
 have h:=(ov hv hi).1
 simp only [lQ,dA,Bool.and_eq_true,decide_eq_true_eq] at h
 exact ⟨by omega,by omega⟩
theorem Aj {ns : List Nod} {ls : List Lnk} (hv : bq ns ls=true) {i : Nat} (hi : i < ls.length) : LvB ls[i]:=by
 have h:=(jp hv hi).1
 simp only [di,fW,iV,jR,dA,bg,Bool.and_eq_true,decide_eq_true_eq] at h
 obtain ⟨⟨⟨_,hu⟩,hs⟩,hk⟩:=h
 have h6 : ls[i].down=if ls[i].kind=1 \/ ls[i].kind=4 then ls[i].down else 0:=of_decide_eq_true hs.1.1.1.1.2
 have h9 : ls[i].height=if ls[i].kind=3 then ls[i].height else 0:=of_decide_eq_true hs.1.2
 refine ⟨by omega,?_,?_⟩
 ·split at hk
  ·simp only [Bool.and_eq_true,decide_eq_true_eq] at hk;omega
  ·rename_i c1
   split at hk
   ·rename_i c2
    rw [if_neg (by omega)] at h6;omega
   ·rename_i c2
    split at hk
    ·rename_i c3
     rw [if_neg (by omega)] at h6;omega
    ·split at hk
     ·simp only [Bool.and_eq_true,decide_eq_true_eq] at hk;omega
     ·cases hk
 ·split at h9
  ·rename_i c3
   rw [if_neg (by omega),if_neg (by omega),if_pos c3] at hk
   simp only [Bool.and_eq_true,decide_eq_true_eq] at hk;omega
  ·omega
theorem Em {b : Int} (hb : -2147483648 <= b /\ b <= 2147483647) {k : Lnk} {x y : Nod} (hk : LvB k) (hx : NvB x) (hy : NvB y) : jT (fz b k) (fc b x) (fc b y)=jT k x y:=by
 have w1:=aR (x:=k.up + b) (by have:=hk.up;omega)
 have w2:=aR (x:=k.down + b) (by have:=hk.down;omega)
 have w3:=aR (x:=x.invert + b) (by have:=hx.inv;omega)
 have w4:=aR (x:=y.invert + b) (by have:=hy.inv;omega)
 simp only [jT,fz,fc,w1,w2,w3,w4]
 by_cases c4 : k.kind=4
 ·simp [c4]
 ·by_cases c1 : k.kind=1
  ·simp [c1]
  ·simp [c1,c4]
theorem El {b : Int} (hb : -2147483648 <= b /\ b <= 2147483647) {k : Lnk} {x y : Nod} (hk : LvB k) (hx : NvB x) (hy : NvB y) {h : Int} (hh : -1 <= h /\ h <= 32768) (kn : Bool) : jS (fz b k) (fc b x) (fc b y) h kn=jS k x y h kn:=by
 obtain ⟨u1,u2⟩:=hk.up
 obtain ⟨d1,d2⟩:=hk.down
 obtain ⟨g1,g2⟩:=hk.hgt
 have w1:=aR (x:=k.up + b) (by omega)
 have w2:=aR (x:=k.down + b) (by omega)
 have w3:=aR (x:=x.ground + b) (by have:=hx.gnd;omega)
 have w4:=aR (x:=y.ground + b) (by have:=hy.gnd;omega)
 have w5:=aR (x:=k.up + b + h) (by omega)
 have w6:=aR (x:=k.down + b + h) (by omega)
 have w7:=aR (x:=k.up + b + k.height) (by omega)
 have w8:=aR (x:=k.up + h) (by omega)
 have w9:=aR (x:=k.down + h) (by omega)
 have wa:=aR (x:=k.up + k.height) (by omega)
 simp only [jS,fz,fc,w1,w2,w3,w4]
 by_cases c1 : k.kind=1
 ·simp only [c1,true_or,↓reduceIte,w5,w6,w8,w9]
  congr 2 <;> (apply decide_eq_decide.2;omega)
 ·by_cases c3 : k.kind=3
  ·simp only [c3,w7,wa]
   simp
   omega
  ·simp only [c1,c3,↓reduceIte]
   apply decide_eq_decide.2;omega
theorem Aw {b : Int} (hb : -2147483648 <= b /\ b <= 2147483647) {ns : List Nod} {ls : List Lnk} {l : List Sec} (hv : bq ns ls=true) (hu : il l=true) : j5 (ns.map (fc b)) (ls.map (fz b)) l=j5 ns ls l:=by
 have hL:=fun (i : Nat) (h : i < ls.length)=>Aj hv h
 have e1 : kP (ns.map (fc b)) (ls.map (fz b))=kP ns ls:=by
  unfold kP
  rw [tf,List.length_map,List.length_map]
  congr 1
  ·congr 1
   funext i
   simp only [stF,uW,mT,xP,List.length_map]
  ·unfold bL
   rw [List.flatMap_def,List.flatMap_def]
   congr 1
   apply List.map_congr_left
   intro i hi
   rw [List.mem_range] at hi
   unfold bkF
   rw [lA,List.getElem?_map,List.getElem?_eq_getElem hi]
   obtain ⟨u1,u2⟩:=(hL i hi).up
   obtain ⟨d1,d2⟩:=(hL i hi).down
   have w1:=aR (x:=ls[i].up + b) (by omega)
   have w2:=aR (x:=ls[i].down + b) (by omega)
   simp only [Option.map_some,Option.getD_some,gz,fz,w1,w2]
   by_cases c1 : ls[i].kind=1
   ·simp [c1]
   ·simp [c1]
 have e2 : lu (ns.map (fc b)) (ls.map (fz b)) l=lu ns ls l:=by
  unfold lu
  rw [tf,List.length_map]
  unfold bL
  rw [List.flatMap_def,List.flatMap_def]
  congr 1
  apply List.map_congr_left
  intro i hi
  rw [List.mem_range] at hi
  have hE : i < (cB ns ls).length:=by rw [fR];exact hi
  have hG : ∀ j,j < ls.length -> lnG (ls.map (fz b)) j=fz b (lnG ls j):=fun j hj=>by
   rw [jm (by simpa using hj),jm hj,List.getElem_map]
  have hN : ∀ j,j < ns.length -> lZ (ns.map (fc b)) j=fc b (lZ ns j):=fun j hj=>by
   rw [gK (by simpa using hj),gK hj,List.getElem_map]
  obtain ⟨n1,n2⟩:=mf hv (cB ns ls)[i] (List.getElem_mem _)
  have eE:=me hE
  have l1:=jm hi
  unfold iB
  rw [hG i hi,eE,hN _ n1,hN _ n2,pk,lA,gK n1,gK n2,l1,List.length_map]
  rw [Em hb (hL i hi) (mj hv n1) (mj hv n2),El hb (hL i hi) (mj hv n1) (mj hv n2) (Bk hu _)]
  congr 2
  unfold bL
  rw [List.flatMap_def,List.flatMap_def]
  congr 1
  apply List.map_congr_left
  intro j hj
  rw [List.mem_range] at hj
  unfold mY
  rw [hG i hi,hG j hj,pk,pk,lA]
 unfold j5
 rw [e1,e2]
theorem zO {m : Msh} (hm : bK m=true) {t u : Int} (ht : 0 <= t /\ t <= 4194304) (hu : t <= u /\ u <= 4194304) {ns : List Nod} {ls : List Lnk} (hv : bq ns ls=true) : ∀ x ∈ iz eS (jO m u ns),x ∈ iz eS (jO m t ns):=by
 intro x hx
 rw [pI] at hx ⊢
 unfold jO at hx ⊢
 rw [uy] at hx ⊢
 obtain ⟨i,hi,h⟩:=hx
 refine ⟨i,hi,?_⟩
 rw [o6 m u hi] at h
 rw [o6 m t hi]
 have hp:=ta hv hi
 unfold grF at h ⊢
 split at h
 ·rename_i c
  rw [if_pos c];exact h
 ·rename_i c
  rw [if_neg c]
  obtain ⟨c1,c2⟩:=oZ (m:=m) (p:=iC ns[i]) (by omega)
  have ho : OnF m (eL m (iC ns[i])).toNat (iC ns[i]):=rU hm c1 hp c2
  have b1:=ho.lo
  have b2:=ho.hi
  rw [Al] at h ⊢
  refine ⟨?_,h.2⟩
  have h1:=h.1
  generalize loF m (eL m (iC ns[i])).toNat (iC ns[i])=lo at *
  generalize hiF m (eL m (iC ns[i])).toNat (iC ns[i])=hi at *
  rw [aR (x:=lo - u) (by omega),aR (x:=hi + u) (by omega)] at h1
  rw [aR (x:=lo - t) (by omega),aR (x:=hi + t) (by omega)]
  simp only [Bool.or_eq_true,decide_eq_true_eq] at h1 ⊢
  omega
theorem uE {α : Type} [DecidableEq α] {l l' : List α} (hn : l.Nodup) (hs : ∀ x ∈ l,x ∈ l') : l.length <= l'.length:=List.Nodup.length_le_of_subset hn hs
end Go.Gv

namespace Go.Gv
section
variable {C : CC} {hs : Option (List Nat)} {K : Env -> Prop} {ns : List aq} {e : Env} {R : List Nat} {acc : List (List Nat × List Nat)}
theorem kN {n m : Nat} {ms : List Nat} {a v : Opd} {v1 : _} {ds : List D} {b i off sz : Nat} {es : List (List D)} {r : List D} (hv : vd (ab e) v=.agg ds) (hc : ∀ c ∈ ds,av c=true) (hl : (m::ms).length=ds.length) (hn : (cT (m::ms) ds).length=n) (ha : vd (ab e) a=.adr (.r b) i off) (hb : ab e b=.blk sz es) (hr : es[i]? = some r) (ho : off + n <= r.length)
  (hk : doW C hs K ns ⟨⟩ e R acc [(b,.blk sz (bE es i off n (cT (m::ms) ds)))] [(b,false)]) : opW C hs K ns none (.st n (m::ms) a v) v1 e R acc:=by
 unfold opW
 simp only [aA]
 refine ⟨trivial,?_⟩
 rw [hv]
 simp only [fF]
 refine ⟨hc,.inr hl,hn,?_⟩
 rw [ha]
 refine ⟨rfl,?_⟩
 rw [hb]
 exact ⟨r,hr,ho,hk⟩
theorem ja {n m : Nat} {ms : List Nat} {a v : Opd} {v1 : _} {ds cs : List D} {bs : List Nat} {b i off sz : Nat} {es : List (List D)} {r : List D} (hv : vd (ab e) v=.agx ds) (hl : (m::ms).length=ds.length) (hab : ∀ Q : List D -> List Nat -> Prop,Q cs bs -> f6 (ab e) ds Q) (hd : bG bs=true) (hbs : bs.contains b=false) (hn : (cT (m::ms) cs).length=n) (ha : vd (ab e) a=.adr (.r b) i off) (hb : ab e b=.blk sz es) (hr : es[i]? = some r) (ho : off + n <= r.length)
  (hk : doW C hs K ns ⟨⟩ e R acc ((b,.blk sz (bE es i off n (cT (m::ms) cs)))::cw bs) [(b,false)]) : opW C hs K ns none (.st n (m::ms) a v) v1 e R acc:=by
 unfold opW
 simp only [aA]
 refine ⟨trivial,?_⟩
 rw [hv]
 simp only [fF]
 refine ⟨.inr hl,hab _ ⟨hd,hn,?_⟩⟩
 rw [ha]
 refine ⟨hbs,?_⟩
 rw [hb]
 exact ⟨r,hr,ho,hk⟩
end
end Go.Gv
