/-
  Texts of the proof: Q3, Q4, Q5, Q6, Q7, Q12, Q22, BL1, BL2, BL3, BL4, S4, S3, Q8, Q9, Q10, K13, M2, Q14, Q15, GvX3, GvX4, BT0, Q16, Q17, Q11, Q13, Q18, Q19, Q23, Q20, Q24, Q26, BT1, BT2, BT3, GvX5, BD1, BT3b, Q28, S0, Q29, Q30, Q25, Q31, Q32, Q33, Q34.
-/
import Derived.Test.YtakhehpeefjcnaaGreatX7
import Derived.Test.YtakhehpeefjcnaaGreatX6
set_option linter.all false
namespace Go.Gv
theorem mN{l l':List Nat}(h1:l.Pairwise (·<·))(h2:l'.Pairwise (·<·))(h:∀x,x∈l↔x∈l'):l=l':=by
 have e:=kF (l:=l.map fun k:Nat=>(k:Int)) (l':=l'.map fun k:Nat=>(k:Int)) (by rw[List.pairwise_map];exact h1.imp fun h=>by omega) (by rw[List.pairwise_map];exact h2.imp fun h=>by omega) (fun x=>by
  simp only[x0v]
  exact⟨fun⟨a,b,c⟩=>⟨a,(h a).1 b,c⟩,fun⟨a,b,c⟩=>⟨a,(h a).2 b,c⟩⟩)
 have e2:=congrArg (List.map Int.toNat) e
 rw[List.map_map,List.map_map]at e2
 have f:(Int.toNat∘fun k:Nat=>(k:Int))=id:=by funext k;simp
 rw[f,List.map_id,List.map_id]at e2
 exact e2
def dL(l:List Nat)(x:Nat):Nat:=l.findIdx fun k=>decide (x<=k)
theorem u6(l:List Nat)(x:Nat):dL l x<=l.length:=List.findIdx_le_length
theorem u7{l:List Nat}{x j:Nat}(h:j<dL l x)(hl:j<l.length):l[j]<x:=by
 have:=List.not_of_lt_findIdx h
 simp at this
 exact this
theorem Cj{l:List Nat}{x:Nat}(h:dL l x<l.length):x<=l[dL l x]:=by
 have h2:=List.findIdx_getElem (w:=h)
 exact of_decide_eq_true h2
theorem ud{l:List Nat}{x j:Nat}(hl:j<l.length)(h:x<=l[j]):dL l x<=j:=by
 apply x1C
 intro hj
 have:=u7 hj hl
 omega
theorem oi{l:List Nat}(hs:l.Pairwise (·<·)){x j:Nat}(hl:j<l.length)(h:l[j]<x):j<dL l x:=by
 apply Nat.lt_of_not_le
 intro hj
 have h1:=Cj (l:=l) (x:=x) (by omega)
 rcases Nat.lt_or_eq_of_le hj with h2|h2
 ·have:=List.pairwise_iff_getElem.1 hs (dL l x) j (by omega) hl h2
  omega
 ·simp only[h2]at h1;omega
theorem tN{l:List Nat}{x:Nat}(hs:l.Pairwise (·<·))(hx:x∉l):(l.take (dL l x)++x::l.drop (dL l x)).Pairwise (·<·):=by
 have hp:=hs
 rw[<- List.take_append_drop (dL l x) l,List.pairwise_append]at hp
 obtain⟨h1,h2,h3⟩:=hp
 have lo:∀a∈l.take (dL l x),a<x:=fun a ha=>by
  obtain⟨i,hi,rfl⟩:=x0C.1 ha
  have h4:i<dL l x/\i<l.length:=by simp at hi;omega
  rw[List.getElem_take]
  exact u7 h4.1 h4.2
 have hi:∀a∈l.drop (dL l x),x<a:=fun a ha=>by
  obtain⟨i,hi,rfl⟩:=x0C.1 ha
  have hlt:dL l x+i<l.length:=by simp at hi;omega
  rw[List.getElem_drop]
  have hne:l[dL l x+i]≠x:=fun e=>hx (e▸x0h hlt)
  have:¬l[dL l x+i]<x:=fun h=>by have:=oi hs hlt h;omega
  omega
 rw[List.pairwise_append,List.pairwise_cons]
 refine⟨h1,⟨hi,h2⟩,fun a ha b hb=>?_⟩
 rcases x0S.1 hb with rfl|hb
 ·exact lo a ha
 ·exact h3 a ha b hb
theorem tM{n:Nat}{p q:Nat->Bool}{x:Nat}(hx:x<n)(hp:p x=false)(hq:∀v,v<n->q v=(p v||v==x)):((List.range n).filter p).take (dL ((List.range n).filter p) x)++x::((List.range n).filter p).drop (dL ((List.range n).filter p) x)=(List.range n).filter q:=by
 have hs:((List.range n).filter p).Pairwise (·<·):=List.Pairwise.filter _ x1J
 refine mN (tN hs (by simp[hp])) (List.Pairwise.filter _ x1J) fun v=>?_
 have:v∈(List.range n).filter p↔v∈((List.range n).filter p).take (dL ((List.range n).filter p) x)\/v∈((List.range n).filter p).drop (dL ((List.range n).filter p) x):=by
  rw[<- x0p,List.take_append_drop]
 simp only[x0p,x0S]
 rw[or_left_comm,<- this]
 simp only[List.mem_filter,x1D]
 constructor
 ·rintro(rfl|⟨h1,h2⟩)
  ·exact⟨hx,by rw[hq _ hx];simp⟩
  ·exact⟨h1,by rw[hq _ h1,h2];rfl⟩
 ·rintro⟨h1,h2⟩
  rw[hq _ h1,x0E,x0q]at h2
  rcases h2 with h2|h2
  ·exact .inr ⟨h1,h2⟩
  ·exact .inl h2
structure mQ (n:Nat) (es:List Edg) (out:List Nat):Prop where
 lt:∀v∈out,v<n
 nd:out.Nodup
 pre:∀v∈out,∀u,(u,v)∈es->u∈out
theorem mQ.nil(n:Nat)(es:List Edg):mQ n es []:=⟨by simp,by simp,by simp⟩
theorem mQ.len{n:Nat}{es:List Edg}{out:List Nat}(h:mQ n es out):out.length<=n:=by
 have:=(List.nodup_range (n:=n)).sublist (List.Sublist.refl _)
 have hsub:out ⊆ List.range n:=fun v hv=>by simpa using h.lt v hv
 have:=List.Nodup.length_le_of_subset h.nd hsub
 simpa using this
theorem mQ.step{n:Nat}{es:List Edg}{out:List Nat}(h:mQ n es out){i:Nat}(hi:i∈cL n es out):mQ n es (out++[i]):=by
 obtain⟨h1,h2,h3⟩:=ic.1 hi
 refine⟨fun v hv=>?_,?_,fun v hv u hu=>?_⟩
 ·rcases x0p.1 hv with hv|hv
  ·exact h.lt v hv
  ·simp at hv;omega
 ·rw[x1n]
  refine⟨h.nd,by simp,fun a ha b hb=>?_⟩
  simp at hb
  subst hb
  rintro rfl
  exact h2 ha
 ·rcases x0p.1 hv with hv|hv
  ·exact x0p.2 (.inl (h.pre v hv u hu))
  ·simp at hv
   subst hv
   exact x0p.2 (.inl (h3 u hu))
theorem gN(n:Nat)(es:List Edg):∀m,mQ n es (aH n es m)
 | 0=>.nil n es
 | m+1=>by
  have ih:=gN n es m
  show mQ n es (jA n es (aH n es m))
  unfold jA
  split
  ·exact ih
  ·rename_i v r e
   exact ih.step (by rw[e];simp)
theorem ii{n:Nat}{es:List Edg}{m i:Nat}{r:List Nat}(h:cL n es (aH n es m)=i::r):aH n es (m+1)=aH n es m++[i]:=by
 show jA n es (aH n es m)=_
 unfold jA
 rw[h]
theorem lf{n:Nat}{es:List Edg}{m:Nat}(h:cL n es (aH n es m)=[]):∀k,aH n es (m+k)=aH n es m
 | 0=>rfl
 | k+1=>by
  show jA n es (aH n es (m+k))=_
  rw[lf h k]
  unfold jA
  rw[h]
theorem u2{n:Nat}{es:List Edg}{m:Nat}(hl:(aH n es m).length=m)(h:cL n es (aH n es m)=[]):bk n es=aH n es m:=by
 have:=(gN n es m).len
 have e:=lf h (n-m)
 rw[show m+(n-m)=n by omega]at e
 exact e
theorem zT{n:Nat}{es:List Edg}{out:List Nat}(h:mQ n es out){i:Nat}{r:List Nat}(hr:cL n es out=i::r):cL n es (out++[i])=(List.range n).filter fun v=>(!out.contains v&&gg es out v&&!(v==i))||((nxt n es i).contains v&&gg es (out++[i]) v):=by
 have hi:i∈cL n es out:=by rw[hr];simp
 obtain⟨h1,h2,h3⟩:=ic.1 hi
 unfold cL
 apply List.filter_congr
 intro v hv
 have hvn:v<n:=by simpa using hv
 rw[x0z]
 simp only[x0a,x0E,x0t,x0L,ll,gy,beq_eq_false_iff_ne,ne_eq]
 simp only[List.contains_eq_mem,x0K,x0p,x1i,not_or]
 constructor
 ·rintro⟨⟨a1,a2⟩,a3⟩
  by_cases c:(i,v)∈es
  ·exact .inr ⟨⟨hvn,c⟩,a3⟩
  ·refine .inl ⟨⟨a1,fun u hu=>?_⟩,a2⟩
   rcases a3 u hu with b|rfl
   ·exact b
   ·exact absurd hu c
 ·rintro(⟨⟨a1,a2⟩,a3⟩|⟨⟨_,a1⟩,a2⟩)
  ·exact⟨⟨a1,a3⟩,fun u hu=>.inl (a2 u hu)⟩
  ·refine⟨⟨fun hv=>h2 (h.pre v hv i a1),?_⟩,a2⟩
   rintro rfl
   exact h2 (h3 _ a1)
variable{C:CC}(hC:ay prog C)
include hC
theorem EA(x:Int):C 299 [.int .i64 x] (.bool false) []:=by
 refine ai hC (nf:=N299) rfl rfl ?_
 simp[N299]
theorem F9(x:Int):C 524 [.int .i64 x] (.bool false) []:=by
 refine ai hC (nf:=N524) rfl rfl ?_
 simp[N524]
theorem Bg(x y:Int):C 411 [.int .i64 x,.int .i64 y] (.bool (decide (x<y))) []:=by
 refine ai hC (nf:=N411) rfl rfl ?_
 simp[N411]
 refine aa (EA hC x) (.inl rfl) ?_
 simp
theorem vT(l:List Nat)(x:Nat)(hs:l.Pairwise (·<·))(hl:l.length<2^40):C 518 [.sl (a8 l),.int .i64 x] (.tup [.int .i64 (dL l x),.bool (decide (dL l x<l.length)&&decide (l[dL l x]! = x))]) []:=by
 have hpl:=u6 l x
 obtain⟨n,hn⟩:∃n,n=dL l x:=⟨_,rfl⟩
 obtain⟨r,hr⟩:∃r,r=(decide (dL l x<l.length)&&decide (l[dL l x]! = x)):=⟨_,rfl⟩
 have hlt:∀j,(hj:j<l.length)->l[j]<x->j<n:=fun j hj h1=>hn▸oi hs hj h1
 have hle:∀j,(hj:j<l.length)->x<=l[j]->n<=j:=fun j hj h1=>hn▸ud hj h1
 rw[<- hn]at hpl ⊢
 rw[<- hn]at hr
 rw[<- hr]
 refine ai hC (nf:=N518) rfl rfl ?_
 simp[N518,a8]
 refine au (Nat×Nat) (fun s=>[(0,.sl (a8 l)),(1,.int .i64 x),(6,.int .i64 l.length),(7,.int .i64 s.1),(8,.int .i64 s.2)]) (fun s=>s.1<=n/\n<=s.2/\s.2<=l.length) (fun s=>s.2-s.1) (0,l.length) (by simp;omega) (by simp[a8]) ?_
 rintro⟨i,j⟩ ⟨h1,h2,h3⟩
 simp only at h1 h2 h3
 simp
 refine ac (fun g=>?_) (fun g=>?_)<;>simp at g<;>simp[g]
 ·obtain⟨m,hm⟩:∃m,m=(i+j)/2:=⟨_,rfl⟩
  have e1:IntKind.wrap .i64 ((i:Int)+(j:Int))=((i+j:Nat):Int):=wrap_i64 (by omega) (by omega)
  obtain⟨s,hsm⟩:∃s,s=i+j:=⟨_,rfl⟩
  rw[<- hsm]at e1 hm
  have e2:Int.fdiv (s:Int) (2^min 1 IntKind.u64.bits)=(m:Int):=by rw[hm];exact mW s 1
  have e3:IntKind.wrap .i64 (m:Int)=(m:Int):=wrap_i64 rfl (by omega)
  have e4:IntKind.wrap .i64 ((m:Int)+1)=((m+1:Nat):Int):=wrap_i64 (by omega) (by omega)
  have hml:m<l.length:=by omega
  simp[e1,bA s (by omega),e2,e3,hml,a8]
  refine aa (Bg hC l[m] x) (.inl rfl) ?_
  by_cases hmx:l[m]<x
  ·have:=hlt m hml hmx
   have hi:(l[m]:Int)<x:=by omega
   simp[hmx,e4]
   exact⟨m+1,j,⟨by omega,h2,h3⟩,by omega,by omega,by omega⟩
  ·have:=hle m hml (by omega)
   simp[hmx]
   exact⟨i,m,⟨h1,by omega,by omega⟩,by omega,by omega,by omega⟩
 ·have e0:i=n:=by omega
  subst e0
  by_cases g2:i<l.length
  ·have eg:l[i]! = l[i]:=x0f l i g2
   rw[eg]at hr
   simp[g2,a8]
   by_cases g3:l[i]=x
   ·simp[g3,g2]at hr ⊢
    exact hr
   ·have g3i:¬(l[i]:Int)=x:=by omega
    simp[g3,g3i,g2]at hr ⊢
    refine aa (F9 hC _) (.inl rfl) ?_
    simp[hr]
  ·simp[g2]at hr ⊢
   exact hr
end Go.Gv

namespace Go.Gv
def wtA(n:Nat)(f:Nat->Nat):List (List D):=(List.range n).map fun v=>[.int .i64 (f v:Int)]
theorem jV{n v:Nat}(f:Nat->Nat)(h:v<n):(wtA n f)[v]? = some [.int .i64 (f v:Int)]:=by simp[wtA,h]
theorem vE{n v:Nat}(f:Nat->Nat)(x:Nat):(wtA n f).set v [.int .i64 (x:Int)]=wtA n fun u=>if u=v then x else f u:=by
 unfold wtA
 rw[iL]
 apply x0i
 intro u _
 by_cases h:u=v<;>simp[h]
theorem tY{l:List Nat}{j v:Nat}(hj:j<l.length):v∈l.take (j+1)↔v∈l.take j\/v=l[j]:=by
 rw[x0u hj,x0p,x1i]
theorem iw{n:Nat}{f g:Nat->Nat}(h:∀v,v<n->f v=g v):wtA n f=wtA n g:=by
 unfold wtA
 apply x0i
 intro u hu
 rw[h u (by simpa using hu)]
def wt1(n:Nat)(es:List Edg)(i j v:Nat):Nat:=lP es i v+(if v∈(nxt n es i).take j then 1 else 0)
theorem Dc{n:Nat}{es:List Edg}{i v:Nat}(hv:v<n):wt1 n es i (nxt n es i).length v=lP es (i+1) v:=by
 unfold wt1
 rw[v8,x08]
 simp[gy,hv]
theorem AS{n:Nat}{es:List Edg}{i j:Nat}(hj:j<(nxt n es i).length)(v:Nat):wt1 n es i (j+1) v=if v=(nxt n es i)[j] then wt1 n es i j v+1 else wt1 n es i j v:=by
 unfold wt1
 simp only[tY hj]
 have hnd:(nxt n es i)[j]∉(nxt n es i).take j:=by
  intro h
  obtain⟨k,hk,e⟩:=x0C.1 h
  have hk2:k<j:=by simp at hk;omega
  rw[List.getElem_take]at e
  have:=(List.getElem_inj (pL n es i)).1 e
  omega
 by_cases e:v=(nxt n es i)[j]
 ·subst e
  rw[if_pos rfl,if_pos (.inr rfl),if_neg hnd]
 ·rw[if_neg e]
  congr 1
  simp only[e,or_false]
def rd0(n:Nat)(es:List Edg)(i:Nat):List Nat:=(List.range i).filter fun v=>decide (fm n es [] v=0)
theorem oq(n:Nat)(es:List Edg)(i:Nat):rd0 n es (i+1)=rd0 n es i++(if fm n es [] i=0 then [i] else []):=by
 unfold rd0
 rw[x1G,List.filter_append]
 congr 1
 by_cases h:fm n es [] i=0<;>simp[h]
theorem Cq{n:Nat}{es:List Edg}(hg:inG n es):rd0 n es n=cL n es []:=by
 unfold rd0 cL
 apply List.filter_congr
 intro v _
 rw[x0z]
 simp[pi hg]
theorem Cr(n:Nat)(es:List Edg)(i:Nat):(rd0 n es i).length<=i:=by
 have:=x1e (fun v=>decide (fm n es [] v=0)) (List.range i)
 simpa[rd0]using this
def wt2(n:Nat)(es:List Edg)(out:List Nat)(i j v:Nat):Nat:=if v∈(nxt n es i).take j then fm n es (out++[i]) v else fm n es out v
def rdp(n:Nat)(es:List Edg)(out:List Nat)(i j v:Nat):Bool:=(!out.contains v&&gg es out v&&!(v==i))||(((nxt n es i).take j).contains v&&gg es (out++[i]) v)
def rd2(n:Nat)(es:List Edg)(out:List Nat)(i j:Nat):List Nat:=(List.range n).filter (rdp n es out i j)
theorem Cv(n:Nat)(es:List Edg)(out:List Nat)(i j:Nat):(rd2 n es out i j).length<=n:=by
 have:=x1e (rdp n es out i j) (List.range n)
 simpa[rd2]using this
theorem u1{n:Nat}{es:List Edg}{i j:Nat}(hj:j<(nxt n es i).length):(nxt n es i)[j]∉(nxt n es i).take j:=by
 intro h
 obtain⟨k,hk,e⟩:=x0C.1 h
 have hk2:k<j:=by simp at hk;omega
 rw[List.getElem_take]at e
 have:=(List.getElem_inj (pL n es i)).1 e
 omega
theorem sG{n:Nat}{es:List Edg}{out:List Nat}{i:Nat}{r:List Nat}(h:cL n es out=i::r):rd2 n es out i 0=r:=by
 have hs:(cL n es out).Pairwise (·<·):=List.Pairwise.filter _ x1J
 have hm:∀v,v∈cL n es out↔v=i\/v∈r:=fun v=>by rw[h];simp
 rw[h,List.pairwise_cons]at hs
 refine mN (List.Pairwise.filter _ x1J) hs.2 fun v=>?_
 have h2:=hm v
 simp only[rd2,rdp,List.mem_filter,x1D,List.take_zero,List.contains_nil,x1q,Bool.or_false,x0a,x0t,beq_eq_false_iff_ne]
 simp only[cL,List.mem_filter,x1D,x0a,x0t]at h2
 constructor
 ·rintro⟨a,b,c⟩
  rcases h2.1 ⟨a,b⟩with e|e
  ·exact absurd e c
  ·exact e
 ·intro hv
  obtain⟨a,b⟩:=h2.2 (.inr hv)
  refine⟨a,b,?_⟩
  rintro rfl
  have:=hs.1 v hv
  omega
theorem Ct{n:Nat}{es:List Edg}{out:List Nat}(h:mQ n es out){i:Nat}{r:List Nat}(hr:cL n es out=i::r):rd2 n es out i (nxt n es i).length=cL n es (out++[i]):=by
 rw[zT h hr]
 unfold rd2 rdp
 rw[x08]
theorem Dd{n:Nat}{es:List Edg}{out:List Nat}{i:Nat}(hi:i<n)(ho:i∉out){v:Nat}(hv:v<n):wt2 n es out i (nxt n es i).length v=fm n es (out++[i]) v:=by
 unfold wt2
 rw[x08]
 split
 ·rfl
 ·rename_i h
  rw[pg hi ho,if_neg (fun e=>h (gy.2 ⟨hv,e⟩)),x0Z]
theorem td{n:Nat}{es:List Edg}{out:List Nat}{i j:Nat}(hj:j<(nxt n es i).length)(v:Nat):wt2 n es out i (j+1) v=if v=(nxt n es i)[j] then fm n es (out++[i]) v else wt2 n es out i j v:=by
 unfold wt2
 simp only[tY hj]
 by_cases e:v=(nxt n es i)[j]
 ·rw[if_pos e,if_pos (.inr e)]
 ·rw[if_neg e]
  simp only[e,or_false]
theorem sH{n:Nat}{es:List Edg}{out:List Nat}{i j:Nat}(hj:j<(nxt n es i).length)(v:Nat):rdp n es out i (j+1) v=(rdp n es out i j v||(v==(nxt n es i)[j]&&gg es (out++[i]) v)):=by
 unfold rdp
 rw[x0u hj]
 rw[x0z]
 simp only[x0E,x0a,x0L,x0p,x1i,x0q]
 constructor
 ·rintro(h|⟨h|h,h'⟩)
  ·exact .inl (.inl h)
  ·exact .inl (.inr ⟨h,h'⟩)
  ·exact .inr ⟨h,h'⟩
 ·rintro((h|⟨h,h'⟩)|⟨h,h'⟩)
  ·exact .inl h
  ·exact .inr ⟨.inl h,h'⟩
  ·exact .inr ⟨.inr h,h'⟩
theorem zQ{n:Nat}{es:List Edg}{out:List Nat}{i j:Nat}(hj:j<(nxt n es i).length)(h:gg es (out++[i]) (nxt n es i)[j]=false):rd2 n es out i (j+1)=rd2 n es out i j:=by
 unfold rd2
 apply List.filter_congr
 intro v _
 rw[sH hj]
 by_cases e:v=(nxt n es i)[j]
 ·subst e;simp[h]
 ·simp[e]
theorem Cu{n:Nat}{es:List Edg}{out:List Nat}(hI:mQ n es out){i:Nat}{r:List Nat}(hr:cL n es out=i::r){j:Nat}(hj:j<(nxt n es i).length)(h:gg es (out++[i]) (nxt n es i)[j]=true) :
  (rd2 n es out i j).take (dL (rd2 n es out i j) (nxt n es i)[j])++(nxt n es i)[j]::(rd2 n es out i j).drop (dL (rd2 n es out i j) (nxt n es i)[j])=rd2 n es out i (j+1):=by
 obtain⟨h1,h2⟩:=gy.1 (x0h hj)
 have hi:i∈cL n es out:=by rw[hr];simp
 obtain⟨i1,i2,i3⟩:=ic.1 hi
 refine tM h1 ?_ (fun v _=>?_)
 ·unfold rdp
  rw[Bool.or_eq_false_iff]
  constructor
  ·have:gg es out (nxt n es i)[j]=false:=by
    rw[<- x0V,ll]
    exact fun h=>i2 (h _ h2)
   simp[this]
  ·have:=u1 hj
   simp[this]
 ·rw[sH hj]
  by_cases e:v=(nxt n es i)[j]
  ·rw[e,h,Bool.and_true]
  ·have e':(v==(nxt n es i)[j])=false:=by simpa using e
   rw[e',x1q]
theorem Cs(n:Nat)(es:List Edg)(out:List Nat)(i j:Nat):(rd2 n es out i j).Pairwise (·<·):=List.Pairwise.filter _ x1J
theorem zS(n:Nat)(es:List Edg)(out:List Nat):(cL n es out).length<=n:=by
 have:=x1e (fun v=>!out.contains v&&gg es out v) (List.range n)
 simpa[cL]using this
end Go.Gv

namespace Go.Gv
def ndR(n:Nat)(es:List Edg):List (List D):=(List.range n).map fun v=>[ndD (nxt n es v)]
theorem uY{n v:Nat}(es:List Edg)(h:v<n):(ndR n es)[v]? = some [ndD (nxt n es v)]:=by simp[ndR,h]
theorem UA(n:Nat)(es:List Edg)(i:Nat):wt1 n es i 0=lP es i:=by funext v;simp[wt1]
theorem UB(n:Nat)(es:List Edg)(out:List Nat)(i:Nat):wt2 n es out i 0=fm n es out:=by funext v;simp[wt2]
theorem BZ(n:Nat)(es:List Edg):(ndR n es).length=n:=by simp[ndR]
theorem nQ{l:List Nat}{j:Nat}(h:j<l.length):(a8 l)[j]? = some [.int .i64 (l[j]:Int)]:=by simp[a8,h]
variable{C:CC}(hC:ay prog C)
include hC
set_option maxHeartbeats 1000000 in
theorem u3(hS:SlC C){b:Bool}{n:Nat}{es:List Edg}(hn:n<=300)(he:es.length<=1000)(hg:inG n es):C 504 [.int .i64 n,slx b (es.map edK)] (ndD (bk n es)) []:=by
 have kn:=FS hC hS (b:=b) hn he hg
 have enx:FX n es=.sl (ndR n es):=rfl
 rw[enx]at kn
 refine ai hC (nf:=N504) rfl rfl ?_
 simp[N504]
 refine aa kn (.inr rfl) ?_
 simp[BZ]
 refine⟨by omega,?_⟩
 refine au Nat (fun i=>[(5,.sl (ndR n es)),(6,.ref (.r 10096) 0 n),(10096,.blk 1 (wtA n (lP es i))),(25,.sl (ndR n es)),(26,.int .i64 n),(27,.int .i64 i)]) (fun i=>i<=n) (fun i=>n-i) 0 (by simp) (by simp[wtA,lP,jN]) ?_
 rintro i hi
 simp
 refine ac (fun h=>?_) (fun h=>?_)<;>simp[h]<;>simp at h
 ·have hw:IntKind.wrap .i64 ((i:Int)+1)=((i+1:Nat):Int):=wrap_i64 (by omega) (by omega)
  have hlen:=uZ n es i
  simp[h,bZ (uY es h),ndD,a7]
  refine au Nat (fun j=>[(5,.sl (ndR n es)),(6,.ref (.r 10096) 0 n),(10096,.blk 1 (wtA n (wt1 n es i j))),(25,.sl (ndR n es)),(26,.int .i64 n),(27,.int .i64 i),(31,.sl (a8 (nxt n es i))),(32,.int .i64 (nxt n es i).length),(33,.int .i64 j)]) (fun j=>j<=(nxt n es i).length) (fun j=>(nxt n es i).length-j) 0 (by simp) (by simp[UA,ndD]) ?_
  rintro j hj
  simp
  refine ac (fun g=>?_) (fun g=>?_)<;>simp[g]<;>simp at g
  ·have hw2:IntKind.wrap .i64 ((j:Int)+1)=((j+1:Nat):Int):=wrap_i64 (by omega) (by omega)
   obtain⟨k1,k2⟩:=gy.1 (x0h g)
   have kle:=Bn es i (nxt n es i)[j]
   have hwv:IntKind.wrap .i64 ((wt1 n es i j (nxt n es i)[j]:Int)+1)=((wt1 n es i j (nxt n es i)[j]+1:Nat):Int):=wrap_i64 (by omega) (by unfold wt1;split<;>omega)
   simp[g,bZ (nQ g),k1,aG (jV _ k1),jV _ k1,hwv]
   refine⟨j+1,by omega,by omega,?_,hw2⟩
   have e1:=vE (n:=n) (v:=(nxt n es i)[j]) (wt1 n es i j) (wt1 n es i j (nxt n es i)[j]+1)
   rw[show((wt1 n es i j (nxt n es i)[j]+1:Nat):Int)=(wt1 n es i j (nxt n es i)[j]:Int)+1 by omega]at e1
   rw[e1]
   refine iw fun v _=>?_
   rw[AS g]
   split
   ·rename_i e;rw[e]
   ·rfl
  ·have ej:j=(nxt n es i).length:=by omega
   subst ej
   simp[hw]
   exact⟨i+1,by omega,by omega,iw fun v hv=>Dc hv,by omega⟩
 ·have ei:n=i:=by omega
  subst ei
  clear h hi
  have e0:wtA n (lP es n)=wtA n (fm n es []):=iw fun v _=>xV n es v
  rw[e0]
  refine au Nat (fun i=>[(5,.sl (ndR n es)),(6,.ref (.r 10096) 0 n),(10096,.blk 1 (wtA n (fm n es []))),(11,.ref (.r 10176) 0 (rd0 n es i).length),(10176,.blk 1 (a8 (rd0 n es i))),(12,.ref (.r 10192) 0 0),(10192,.blk 1 []),(45,.ref (.r 10096) 0 n),(46,.int .i64 n),(47,.int .i64 i)]) (fun i=>i<=n) (fun i=>n-i) 0 (by simp) (by simp[rd0,a8]) ?_
  rintro i hi
  simp
  refine ac (fun h=>?_) (fun h=>?_)<;>simp[h]<;>simp at h
  ·have hw:IntKind.wrap .i64 ((i:Int)+1)=((i+1:Nat):Int):=wrap_i64 (by omega) (by omega)
   have hrl:=Cr n es i
   simp[h,aG (jV _ h),jV _ h]
   refine ac (fun c=>?_) (fun c=>?_)<;>simp at c<;>simp[c,a7]
   ·refine⟨by omega,i+1,by omega,by omega,?_,?_,hw⟩
    ·rw[oq,if_pos c];simp
    ·rw[hJ,gZ,oq,if_pos c]
   ·simp[hw]
    refine⟨i+1,by omega,by omega,?_⟩
    rw[oq,if_neg c,x1R]
    exact⟨rfl,rfl,by omega⟩
  ·have ei:i=n:=by omega
   rw[ei,Cq hg]
   clear ei h hi i
   refine au (Nat×Nat×List (List D)) (fun s=>[(5,.sl (ndR n es)),(6,.ref (.r 10096) 0 n),(10096,.blk 1 (wtA n (fm n es (aH n es s.1)))),(11,.ref (.r 10176) s.2.1 (cL n es (aH n es s.1)).length),(10176,.blk 1 s.2.2),(12,.ref (.r 10192) 0 s.1),(10192,.blk 1 (a8 (aH n es s.1)))])
    (fun s=>(aH n es s.1).length=s.1/\s.2.1+(cL n es (aH n es s.1)).length<=s.2.2.length/\(s.2.2.drop s.2.1).take (cL n es (aH n es s.1)).length=a8 (cL n es (aH n es s.1))) (fun s=>n-s.1) (0,0,a8 (cL n es [])) (by simp[aH,a7,hJ]) (by simp[aH,a8]) ?_
   rintro⟨m,k,B⟩ ⟨hm,hkB,hB⟩
   simp only at hm hkB hB
   simp
   have hI:=gN n es m
   have hmn:=hI.len
   obtain⟨out,hout⟩:∃out,out=aH n es m:=⟨_,rfl⟩
   cases hr:cL n es (aH n es m) with
   | nil =>
    have e1:(a8 (aH n es m)).map (fun e=>e.map aT)=a8 (aH n es m):=by simp[a8,aT]
    have e2:(a8 (aH n es m)).take m=a8 (aH n es m):=x0s (by rw[a7];omega)
    simp[hm]
    rw[e1,e2,u2 hm hr]
    exact⟨by rw[a7];omega,rfl⟩
   | cons i r =>
    have hi:i∈cL n es (aH n es m):=by rw[hr];simp
    obtain⟨i1,i2,i3⟩:=ic.1 hi
    have hrl:=zS n es (aH n es m)
    rw[hr]at hkB hB hrl
    simp only[x1b]at hkB hB hrl
    have hBk:B[k]? = some [.int .i64 (i:Int)]:=by
     have:=congrArg (fun l=>l[0]?) hB
     simpa[a8]using this
    have hBr:(B.drop (k+1)).take r.length=a8 r:=by
     have:=congrArg (fun l=>l.drop 1) hB
     simp only[List.drop_take,List.drop_drop]at this
     simpa[a8]using this
    have hS1:=hI.step hi
    have hsl:=hS1.len
    have eN:=ii hr
    have e2:(a8 (aH n es m)).take m=a8 (aH n es m):=x0s (by rw[a7];omega)
    have hlen:=uZ n es i
    simp only[x0Q,List.length_singleton,hm]at hsl
    simp[aG hBk]
    refine⟨by rw[a7];omega,by omega,?_⟩
    rw[e2,gZ,<- eN]
    simp[bZ (uY es i1),ndD,a7]
    refine au (Nat×Nat×List (List D)) (fun s=>[(5,.sl (ndR n es)),(6,.ref (.r 10096) 0 n),(10096,.blk 1 (wtA n (wt2 n es (aH n es m) i s.1))),(11,.ref (.r 10176) s.2.1 (rd2 n es (aH n es m) i s.1).length),(10176,.blk 1 s.2.2),(12,.ref (.r 10192) 0 (m+1)),(10192,.blk 1 (a8 (aH n es (m+1)))),(74,.sl (a8 (nxt n es i))),(75,.int .i64 (nxt n es i).length),(76,.int .i64 s.1)])
     (fun s=>s.1<=(nxt n es i).length/\s.2.1+(rd2 n es (aH n es m) i s.1).length<=s.2.2.length/\(s.2.2.drop s.2.1).take (rd2 n es (aH n es m) i s.1).length=a8 (rd2 n es (aH n es m) i s.1)) (fun s=>(nxt n es i).length-s.1) (0,k+1,B) (by simp[sG hr];exact⟨by omega,hBr⟩) (by simp[sG hr,ndD,UB]) ?_
    rintro⟨j,k',B'⟩ ⟨hj,hkB',hB'⟩
    simp only at hj hkB' hB'
    simp
    refine ac (fun g=>?_) (fun g=>?_)<;>simp[g]<;>simp at g
    ·have hw2:IntKind.wrap .i64 ((j:Int)+1)=((j+1:Nat):Int):=wrap_i64 (by omega) (by omega)
     obtain⟨k1,k2⟩:=gy.1 (x0h g)
     have hw0:wt2 n es (aH n es m) i j (nxt n es i)[j]=fm n es (aH n es m++[i]) (nxt n es i)[j]+1:=by
      unfold wt2
      rw[if_neg (u1 g),pg i1 i2,if_pos k2]
     have hcl:fm n es (aH n es m++[i]) (nxt n es i)[j]<=n:=by
      have:=x1e (fun u=>es.contains (u,(nxt n es i)[j])&&!(aH n es m++[i]).contains u) (List.range n)
      simpa[fm]using this
     have hwv:IntKind.wrap .i64 ((wt2 n es (aH n es m) i j (nxt n es i)[j]:Int)-1)=(fm n es (aH n es m++[i]) (nxt n es i)[j]:Int):=wrap_i64 (by omega) (by omega)
     have ew:=vE (n:=n) (v:=(nxt n es i)[j]) (wt2 n es (aH n es m) i j) (fm n es (aH n es m++[i]) (nxt n es i)[j])
     have ew2:(wtA n fun u=>if u=(nxt n es i)[j] then fm n es (aH n es m++[i]) (nxt n es i)[j] else wt2 n es (aH n es m) i j u)=wtA n (wt2 n es (aH n es m) i (j+1)):=iw fun v _=>by
      rw[td g]
      by_cases e:v=(nxt n es i)[j]
      ·rw[if_pos e,if_pos e,e]
      ·rw[if_neg e,if_neg e]
     rw[ew2]at ew
     have hwn:wt2 n es (aH n es m) i (j+1) (nxt n es i)[j]=fm n es (aH n es m++[i]) (nxt n es i)[j]:=by rw[td g,if_pos rfl]
     simp[g,bZ (nQ g),k1,aG (jV _ k1),jV _ k1,hwv,ew,hwn]
     have hl2:=Cv n es (aH n es m) i j
     have p0:=pi hg (out:=aH n es m++[i]) (k:=(nxt n es i)[j])
     refine ac (fun c=>?_) (fun c=>?_)<;>simp at c
     ·have pk:=p0.1 c
      have hins:=Cu hI hr g pk
      have kb:=vT hC (rd2 n es (aH n es m) i j) (nxt n es i)[j] (Cs n es _ i j) (by omega)
      have hpl:=u6 (rd2 n es (aH n es m) i j) (nxt n es i)[j]
      have kI:=hS.insert ((rd2 n es (aH n es m) i j).map fun k:Nat=>(k:Int)) (dL (rd2 n es (aH n es m) i j) (nxt n es i)[j]) (nxt n es i)[j] (by simpa using hpl) (by simp;omega)
      have eI:((((rd2 n es (aH n es m) i j).map fun k:Nat=>(k:Int)).take (dL (rd2 n es (aH n es m) i j) (nxt n es i)[j])++((nxt n es i)[j]:Int)::((rd2 n es (aH n es m) i j).map fun k:Nat=>(k:Int)).drop (dL (rd2 n es (aH n es m) i j) (nxt n es i)[j])).map fun n=>[D.int .i64 n])=a8 (rd2 n es (aH n es m) i (j+1)):=by
       rw[<- hins]
       simp[a8]
       rfl
      rw[eI,<- lY]at kI
      have e4:(a8 (rd2 n es (aH n es m) i j)).map (fun e=>e.map aT)=a8 (rd2 n es (aH n es m) i j):=by simp[a8,aT]
      have e5:(((B'.drop k').take (rd2 n es (aH n es m) i j).length).map fun e=>e.map aT)=a8 (rd2 n es (aH n es m) i j):=by rw[hB',e4]
      simp[hkB']
      simp at e5
      rw[e5]
      refine aa kb (.inl rfl) ?_
      simp[hkB',hB']
      refine⟨fun e he=>(qD e he).2,?_⟩
      refine uD kI qD ?_
      simp[hw2,a7]
      exact⟨j+1,0,a8 (rd2 n es (aH n es m) i (j+1)),⟨by omega,by simp[a7],by simp[hJ]⟩,by omega,by simp⟩
     ·have pk:gg es (aH n es m++[i]) (nxt n es i)[j]=false:=by
       rw[<- x0V]
       exact fun e=>c (p0.2 e)
      have hsame:=zQ g pk
      simp[hw2]
      exact⟨j+1,k',B',⟨by omega,by rw[hsame];exact hkB',by rw[hsame];exact hB'⟩,by omega,by simp[hsame]⟩
    ·have ej:j=(nxt n es i).length:=by omega
     subst ej
     have er:=Ct hI hr
     rw[<- eN]at er
     rw[er]at hkB' hB' ⊢
     exact⟨m+1,k',B',⟨by rw[eN];simp[hm],hkB',hB'⟩,by omega,iw fun v hv=>by rw[Dd i1 i2 hv,eN],by simp⟩
end Go.Gv

namespace Go.Gv
def yZ(n:Nat)(es:List Edg):Int:=if (bk n es).length<n then 22 else 0
def y4(n:Nat)(es:List Edg):D:=if (bk n es).length<n then .nils else ndD (bk n es)
def cP(n:Nat)(es:List Edg):Bool:=decide ((es.map (·.1)).Nodup)&&decide ((bk n es).length=n)
def iS(es:List Edg)(j:Nat):List Nat:=(es.take j).map (·.1)
theorem fY{es:List Edg}{j:Nat}(h:j<es.length):iS es (j+1)=iS es j++[es[j].1]:=by
 unfold iS
 rw[x0u h,x1y]
 rfl
@[simp] theorem Uw(es:List Edg):iS es 0=[]:=rfl
theorem sX(es:List Edg):iS es es.length=es.map (·.1):=by simp[iS]
theorem vr{es:List Edg}{j:Nat}(h:¬(iS es j).Nodup):¬(es.map (·.1)).Nodup:=by
 intro h2
 apply h
 unfold iS
 rw[List.map_take]
 exact h2.sublist (List.take_sublist _ _)
def edT(es:List Edg)(j:Nat):List (List D):=(es.take j).map edK
theorem nE{es:List Edg}{j:Nat}(h:j<es.length):edT es (j+1)=edT es j++[edK es[j]]:=by
 unfold edT
 rw[x0u h,x1y]
 rfl
@[simp] theorem UF(es:List Edg):edT es 0=[]:=rfl
theorem jG{es:List Edg}{j:Nat}(h:j<=es.length):(edT es j).length=j:=by simp[edT];omega
theorem qp(es:List Edg):edT es es.length=es.map edK:=by simp[edT]
theorem DG(es:List Edg)(j:Nat):(edT es j).map (fun e=>e.map aT)=edT es j:=by
 unfold edT
 rw[List.map_map]
 apply x0i
 intro e _
 simp[edK,knD,aT]
def oF(n:Nat)(es:List Edg)(j:Nat):List (List D):=(List.range n).map fun v=>[.bool (decide (v∈iS es j))]
theorem mg{n v:Nat}(es:List Edg)(j:Nat)(h:v<n):(oF n es j)[v]? = some [.bool (decide (v∈iS es j))]:=by simp[oF,h]
def av(ns:List Nod)(ls:List Lnk):List Edg:=ls.map fun l=>((bj (bq l.src) ns).toNat,(bj (bq l.dst) ns).toNat)
theorem aM(ns:List Nod)(ls:List Lnk):(av ns ls).length=ls.length:=by simp[av]
theorem bR{ns:List Nod}{ls:List Lnk}(h:bG ns ls=true):ns.length<=300/\ls.length<=400:=by
 simp only[bG,x0a,x0c]at h
 exact⟨h.1.1.1,h.1.1.2⟩
theorem eX{ns:List Nod}{ls:List Lnk}(h:bG ns ls=true){i:Nat}(hi:i<ls.length):cr ls[i]=true/\bj (jj ls[i].name) ls=(i:Int)/\0<=bj (bq ls[i].src) ns/\0<=bj (bq ls[i].dst) ns:=by
 simp only[bG,x0a,x0g,x1D]at h
 have:=h.2 i hi
 simp only[dt,x0f ls i hi,gJ,x0a,x0c]at this
 exact⟨this.1.1.1,this.1.1.2,this.1.2.1,this.2⟩
theorem jJ{ns:List Nod}{ls:List Lnk}(h:bG ns ls=true){i:Nat}(hi:i<ns.length):fF ns[i]=true/\bj (bq ns[i].name) ns=(i:Int):=by
 simp only[bG,x0a,x0g,x1D]at h
 have:=h.1.2 i hi
 simpa only[gz,x0f ns i hi,x0a,x0c]using this
theorem fj{ns:List Nod}{ls:List Lnk}(h:bG ns ls=true):inG ns.length (av ns ls):=by
 intro e he
 simp only[av,x0v]at he
 obtain⟨l,hl,rfl⟩:=he
 obtain⟨i,hi,rfl⟩:=x0C.1 hl
 obtain⟨_,_,h1,h2⟩:=eX h hi
 exact⟨jI h1,jI h2⟩
variable{C:CC}(hC:ay prog C)
include hC
theorem yy(hS:SlC C){b:Bool}{n:Nat}{es:List Edg}(hn:n<=300)(he:es.length<=1000)(hg:inG n es):C 511 [.int .i64 n,slx b (es.map edK)] (.tup [y4 n es,.int .i64 (yZ n es)]) []:=by
 have k1:=rQ hC b n (es.map edI) (by simp;omega)
 rw[<- uE,yx hC hn he hg]at k1
 have k2:=u3 hC hS (b:=b) hn he hg
 refine ai hC (nf:=N511) rfl rfl ?_
 simp[N511]
 refine aa k1 (.inl rfl) ?_
 simp
 refine aa k2 (.inr rfl) ?_
 unfold y4 yZ
 simp[ndD,a7]
 refine ac (fun c=>?_) (fun c=>?_)<;>simp at c<;>simp[c]
theorem BI(hS:SlC C){b:Bool}{n:Nat}{es:List Edg}(hn:n<=300)(he:es.length<=1000)(hg:inG n es):C 472 [.int .i64 n,slx b (es.map edK)] (.bool (cP n es)) []:=by
 have k1:=rQ hC b n (es.map edI) (by simp;omega)
 rw[<- uE,yx hC hn he hg]at k1
 have k2:=u3 hC hS (b:=b) hn he hg
 obtain⟨r,hr⟩:∃r,r=cP n es:=⟨_,rfl⟩
 rw[<- hr]
 unfold cP at hr
 refine ai hC (nf:=N472) rfl rfl ?_
 simp[N472]
 refine aa k1 (.inl rfl) ?_
 simp
 refine⟨by omega,?_⟩
 refine au Nat (fun j=>[(0,.int .i64 n),(1,slx b (es.map edK)),(5,.ref (.r 10080) 0 n),(10080,.blk 1 (oF n es j)),(14,slx b (es.map edK)),(15,.int .i64 es.length),(16,.int .i64 j)]) (fun j=>j<=es.length/\(iS es j).Nodup) (fun j=>es.length-j) 0 (by simp) (by simp[oF,jN]) ?_
 rintro j ⟨hj,hnd⟩
 simp
 refine ac (fun h=>?_) (fun h=>?_)<;>simp[h]<;>simp at h
 ·have hw:IntKind.wrap .i64 ((j:Int)+1)=((j+1:Nat):Int):=wrap_i64 (by omega) (by omega)
  have hin:=hg _ (x0h h)
  simp[h,edK,knD,hin,aG (mg es j hin.1),mg es j hin.1]
  refine ac (fun c=>?_) (fun c=>?_)<;>simp at c
  ·have hbad:¬(iS es (j+1)).Nodup:=by
    rw[fY h,x1n]
    rintro⟨_,_,h3⟩
    exact h3 _ c _ (by simp) rfl
   simp[hr,vr hbad]
  ·have e1:(oF n es j).set es[j].1 [.bool true]=oF n es (j+1):=by
    unfold oF
    rw[iL]
    apply x0i
    intro v _
    rw[fY h]
    by_cases e:v=es[j].1
    ·subst e;simp
    ·simp[e]
   have hnd2:(iS es (j+1)).Nodup:=by
    rw[fY h,x1n]
    refine⟨hnd,by simp,fun a ha b hb=>?_⟩
    simp at hb
    subst hb
    rintro rfl
    exact c ha
   simp[hin,mg es j hin.1,e1,hw]
   exact⟨j+1,⟨by omega,hnd2⟩,by omega,rfl,by omega⟩
 ·have ej:j=es.length:=by omega
  rw[ej,sX]at hnd
  refine aa k2 (.inr rfl) ?_
  simp[ndD,a7,hr,hnd]
  omega
theorem sr(b1 b2:Bool)(ns:List Nod)(ls:List Lnk)(hv:bG ns ls=true):C 499 [.agg [slx b1 (ns.map aO),slx b2 (ls.map aA)]] (.sl ((av ns ls).map edK)) []:=by
 obtain⟨hl1,hl2⟩:=bR hv
 refine ai hC (nf:=N499) rfl rfl ?_
 simp[N499]
 refine au Nat (fun j=>[(1,.ptr [slx b1 (ns.map aO),slx b2 (ls.map aA)]),(3,.ref (.r 10048) 0 j),(10048,.blk 2 (edT (av ns ls) j)),(7,slx b2 (ls.map aA)),(8,.int .i64 ls.length),(9,.int .i64 j)]) (fun j=>j<=ls.length) (fun j=>ls.length-j) 0 (by simp) (by simp) ?_
 rintro j hj
 simp
 refine ac (fun h=>?_) (fun h=>?_)<;>simp[h]<;>simp at h
 ·have hw:IntKind.wrap .i64 ((j:Int)+1)=((j+1:Nat):Int):=wrap_i64 (by omega) (by omega)
  obtain⟨_,_,g1,g2⟩:=eX hv h
  have k1:=nZ hC b1 b2 ns ls ls[j].src (by omega)
  have k2:=nZ hC b1 b2 ns ls ls[j].dst (by omega)
  have hjl:j<(av ns ls).length:=by rw[aM];exact h
  have el:=jG (es:=av ns ls) (j:=j) (by omega)
  simp[h,aA,el]
  refine aa k1 (.inl rfl) ?_
  simp
  refine aa k2 (.inl rfl) ?_
  simp[el]
  refine⟨by omega,ao (by decide +kernel),j+1,by omega,by omega,rfl,?_,hw⟩
  have e2:(edT (av ns ls) j).take j=edT (av ns ls) j:=x0s (by omega)
  rw[e2,nE hjl]
  congr 2
  simp only[av,x1N,edK,knD]
  rw[x1X g1,x1X g2]
 ·have ej:j=ls.length:=by omega
  subst ej
  have e0:=qp (av ns ls)
  have el:=jG (es:=av ns ls) (j:=ls.length) (by rw[aM];exact x0r _)
  rw[aM]at e0
  simp[DG,el]
  rw[<- e0,x0s (by omega)]
theorem nv(b1 b2:Bool)(ns:List Nod)(ls:List Lnk)(hcv:∀l∈ls,l.curve.length<2^62):C 471 [.agg [slx b1 (ns.map aO),slx b2 (ls.map aA)]] (.tup (if bG ns ls then [.sl ((av ns ls).map edK),.int .i64 0] else [.nils,.int .i64 1])) []:=by
 refine ai hC (nf:=N471) rfl rfl ?_
 simp[N471]
 refine aa (m8 hC b1 b2 ns ls hcv) (.inl rfl) ?_
 cases hv:bG ns ls
 ·simp
 ·simp
  refine aa (sr hC b1 b2 ns ls hv) (.inr rfl) ?_
  simp
theorem xw(hS:SlC C)(b1 b2:Bool)(ns:List Nod)(ls:List Lnk)(hcv:∀l∈ls,l.curve.length<2^62):C 495 [.agg [slx b1 (ns.map aO),slx b2 (ls.map aA)]] (.tup (if bG ns ls then [y4 ns.length (av ns ls),.int .i64 (yZ ns.length (av ns ls))] else [.nils,.int .i64 1])) []:=by
 refine ai hC (nf:=N495) rfl rfl ?_
 simp[N495]
 refine aa (m8 hC b1 b2 ns ls hcv) (.inl rfl) ?_
 cases hv:bG ns ls
 ·simp
 ·obtain⟨l1,l2⟩:=bR hv
  have k:=yy hC hS (b:=false) (n:=ns.length) (es:=av ns ls) l1 (by rw[aM];omega) (fj hv)
  simp
  refine aa (sr hC b1 b2 ns ls hv) (.inr rfl) ?_
  simp at k ⊢
  refine aa k (.inr rfl) ?_
  unfold y4 yZ ndD
  split<;>simp
  ·exact⟨ao (by decide +kernel),by omega⟩
  ·exact⟨ao (by decide +kernel),by omega⟩
theorem wB(l:Lnk):C 470 [.agg (aA l)] (.bool (!decide (l.kind=1))) []:=by
 refine ai hC (nf:=N470) rfl rfl ?_
 simp[N470,aA]
theorem nK{b:Bool}{xs:List Lnk}{g:Nat}{cs:List D}(p:Lnk->Bool)(hs:xs.length<2^62)(hp:∀x∈xs,C g (.agg (aA x)::cs) (.bool (p x)) []):C 455 [slx b (xs.map fun x=>aA x),.fn g cs] (.bool (xs.any p)) []:=by
 refine ai hC (nf:=N455) rfl rfl ?_
 simp[N455]
 refine aa (rT hC p hs hp) (.inl rfl) ?_
 simp[gb]
theorem yC{b:Bool}{xs:List Nod}{g:Nat}{cs:List D}(p:Nod->Bool)(hs:xs.length<2^62)(hp:∀x∈xs,C g (.agg (aO x)::cs) (.bool (p x)) []):C 453 [slx b (xs.map fun x=>aO x),.fn g cs] (.bool (xs.any p)) []:=by
 refine ai hC (nf:=N453) rfl rfl ?_
 simp[N453]
 refine aa (nP hC p hs hp) (.inl rfl) ?_
 simp[gb]
def cB(ns:List Nod)(ls:List Lnk):Bool:=bG ns ls&&ls.all (fun l=>decide (l.kind=1))&&cP ns.length (av ns ls)
theorem vi(hS:SlC C)(b1 b2:Bool)(ns:List Nod)(ls:List Lnk)(hl:ls.length<2^62)(hcv:∀l∈ls,l.curve.length<2^62):C 433 [.agg [slx b1 (ns.map aO),slx b2 (ls.map aA)]] (.bool (cB ns ls)) []:=by
 have k1:=nK hC (b:=b2) (xs:=ls) (g:=470) (cs:=[]) (fun l=>!decide (l.kind=1)) hl (fun x _=>wB hC x)
 have k2:=nv hC b1 b2 ns ls hcv
 have e1:(ls.any fun l=>!decide (l.kind=1))=!(ls.all fun l=>decide (l.kind=1)):=by simp[List.any_eq_not_all_not]
 rw[e1]at k1
 refine ai hC (nf:=N433) rfl rfl ?_
 simp[N433]
 refine aa k1 (.inl rfl) ?_
 unfold cB
 cases h1:ls.all (fun l=>decide (l.kind=1))
 ·simp
 simp
 cases hv:bG ns ls
 ·rw[hv]at k2
  refine aa k2 (.inr rfl) ?_
  simp
 ·rw[hv]at k2
  obtain⟨l1,l2⟩:=bR hv
  have k:=BI hC hS (b:=false) (n:=ns.length) (es:=av ns ls) l1 (by rw[aM];omega) (fj hv)
  refine aa k2 (.inr rfl) ?_
  simp at k ⊢
  refine aa k (.inl rfl) ?_
  simp
end Go.Gv

namespace Go.Gv
abbrev Sp:=Int×Int
def wj(n:Int):Bool:=decide (-72057594037927936<=n)&&decide (n<=72057594037927936)
def cl(s:Sp):Bool:=decide (s.1<=s.2)&&wj s.1&&wj s.2
def fP(s:Sp):Bool:=decide (s.1<0)||decide (1099511627776<s.2)
def fC(l:List Sp)(count:Int):Int:=if l.any (fun s=>!cl s) then 1 else if (l.length:Int)=count then(if l.any fP then 2 else 0) else 3
def xe(a b:Sp):Sp:=(IntKind.wrap .i64 (a.1+b.1),IntKind.wrap .i64 (a.2+b.2))
abbrev FSt:=(Nat->Sp)×(Nat->Sp)
def mw(i k:Nat)(e:Edg)(s:FSt):FSt:=if e.1=i then(fun v=>if v=e.2 then xe (s.1 e.2) (s.1 i) else s.1 v,fun q=>if q=k then s.1 i else s.2 q) else s
def flI(es:List Edg)(i:Nat)(s:FSt):Nat->FSt
 | 0=>s
 | k+1=>mw i k es[k]! (flI es i s k)
def flO(es:List Edg)(ord:List Nat)(s:FSt):Nat->FSt
 | 0=>s
 | m+1=>flI es ord[m]! (flO es ord s m) es.length
def flS(l:List Sp):FSt:=(fun v=>l[v]!,fun _=>(0,0))
def aE(n:Nat)(es:List Edg)(l:List Sp):List Sp:=(List.range es.length).map (flO es (bk n es) (flS l) (bk n es).length).2
def iZ(l:List Sp):Bool:=l.any fun s=>decide (1099511627776<s.2)
def bM(n:Nat)(es:List Edg)(l:List Sp):Int:=if iZ (aE n es l) then 5 else 0
def tz(n:Nat)(es:List Edg)(l:List Sp):D:=if iZ (aE n es l) then .nils else .sl ((aE n es l).map knD)
def spR(n:Nat)(f:Nat->Sp):List (List D):=(List.range n).map fun v=>knD (f v)
theorem Gi(n:Nat)(f:Nat->Sp):spR n f=((List.range n).map f).map knD:=by simp[spR]
theorem Ei(n:Nat)(f:Nat->Sp):(spR n f).map (fun e=>e.map aT)=spR n f:=by
 unfold spR
 rw[List.map_map]
 apply x0i
 intro v _
 simp[knD,aT]
theorem lr(n:Nat)(f:Nat->Sp):(spR n f).length=n:=by simp[spR]
theorem nh{n v:Nat}(f:Nat->Sp)(h:v<n):(spR n f)[v]? = some [.int .i64 (f v).1,.int .i64 (f v).2]:=by simp[spR,h,knD]
theorem vq{n v:Nat}(f:Nat->Sp)(x:Sp):(spR n f).set v [.int .i64 x.1,.int .i64 x.2]=spR n fun u=>if u=v then x else f u:=by
 unfold spR
 rw[iL]
 apply x0i
 intro u _
 by_cases h:u=v<;>simp[h,knD]
variable{C:CC}(hC:ay prog C)
include hC
theorem yr(n:Int):C 510 [.int .i64 n] (.bool (wj n)) []:=by
 refine ai hC (nf:=N510) rfl rfl ?_
 simp[N510,wj]
 refine ac (fun h=>?_) (fun h=>?_)<;>simp at h<;>simp[h]
 intro _;omega
theorem qW(s:Sp):C 493 [.agg (knD s)] (.bool (cl s)) []:=by
 refine ai hC (nf:=N493) rfl rfl ?_
 simp[N493,knD]
 refine ac (fun h=>?_) (fun h=>?_)<;>simp at h<;>simp[h]
 ·refine aa (yr hC s.1) (.inl rfl) ?_
  cases h1:wj s.1
  ·simp[cl,h1]
  ·simp
   refine aa (yr hC s.2) (.inl rfl) ?_
   simp[cl,h1,h]
 ·simp[cl,show ¬s.1<=s.2 by omega]
theorem CY(s:Sp):C 492 [.agg (knD s)] (.bool (!cl s)) []:=by
 have k:=qW hC s
 simp only[knD]at k
 refine ai hC (nf:=N492) rfl rfl ?_
 simp[N492,knD]
 refine aa k (.inl rfl) ?_
 simp
theorem Gj(s:Sp):C 494 [.agg (knD s)] (.bool (fP s)) []:=by
 refine ai hC (nf:=N494) rfl rfl ?_
 simp[N494,knD,fP]
 by_cases h:s.1<0<;>simp[h]
theorem CZ(s:Sp):C 497 [.agg (knD s)] (.bool (decide (1099511627776<s.2))) []:=by
 refine ai hC (nf:=N497) rfl rfl ?_
 simp[N497,knD]
theorem BN{b:Bool}{xs:List (Int×Int)}{g:Nat}{cs:List D}(p:(Int×Int)->Bool)(hs:xs.length<2^62)(hp:∀x∈xs,C g (.agg (knD x)::cs) (.bool (p x)) []):C 509 [slx b (xs.map fun x=>knD x),.fn g cs] (.int .i64 (bj p xs)) []:=by
 refine ai hC (nf:=N509) rfl rfl ?_
 simp[N509]
 refine au Nat (fun i=>[(0,slx b (xs.map fun x=>knD x)),(1,.fn g cs),(7,.int .i64 xs.length),(8,.int .i64 i)]) (fun i=>i<=xs.length/\∀(j:Nat) (h:j<xs.length),j<i->p xs[j]=false) (fun i=>xs.length-i) 0 (by simp) (by simp) ?_
 rintro i ⟨hi,hj⟩
 simp
 refine ac (fun h=>?_) (fun h=>?_)<;>simp[h]<;>simp at h
 ·have hw:IntKind.wrap .i64 ((i:Int)+1)=((i+1:Nat):Int):=wrap_i64 (by omega) (by omega)
  have hc:=hp _ (x0h h)
  simp[h,knD]at hc ⊢
  refine aa hc (.inl rfl) ?_
  simp
  refine ac (fun h1=>?_) (fun h1=>?_)<;>simp[h1,hw]
  ·rw[cC hj h h1]
  ·refine⟨i+1,⟨by omega,fun j hl hjj=>?_⟩,by omega,rfl⟩
   rcases x0k.1 hjj with h2|rfl
   ·exact hj j hl h2
   ·exact h1
 ·rw[cJ (fun j hl=>hj j hl (by omega))]
theorem iB{b:Bool}{xs:List (Int×Int)}{g:Nat}{cs:List D}(p:(Int×Int)->Bool)(hs:xs.length<2^62)(hp:∀x∈xs,C g (.agg (knD x)::cs) (.bool (p x)) []):C 491 [slx b (xs.map fun x=>knD x),.fn g cs] (.bool (xs.any p)) []:=by
 refine ai hC (nf:=N491) rfl rfl ?_
 simp[N491]
 refine aa (BN hC p hs hp) (.inl rfl) ?_
 simp[gb]
theorem C3(b:Bool)(l:List Sp)(count:Int)(hl:l.length<2^62):C 460 [slx b (l.map knD),.int .i64 count] (.int .i64 (fC l count)) []:=by
 have k1:=iB hC (b:=b) (xs:=l) (g:=492) (cs:=[]) (fun s=>!cl s) hl (fun x _=>CY hC x)
 have k2:=iB hC (b:=b) (xs:=l) (g:=494) (cs:=[]) fP hl (fun x _=>Gj hC x)
 refine ai hC (nf:=N460) rfl rfl ?_
 simp[N460]
 refine aa k1 (.inl rfl) ?_
 unfold fC
 cases h1:l.any (fun s=>!cl s)
 ·simp
  by_cases h2:(l.length:Int)=count
  ·simp[h2]
   refine aa k2 (.inl rfl) ?_
   cases h3:l.any fP<;>simp[h2]
  ·simp[h2]
 ·simp
theorem vZ(b:Bool)(l:List Sp)(hl:l.length<2^40):C 496 [slx b (l.map knD)] .any [.own 2 (l.map knD)]:=by
 have hf:∀e∈l.map knD,e.length=2/\(∀c∈e,aI c=true)/\∀c∈e,bF c=true:=by
  intro e he
  obtain⟨s,_,rfl⟩:=x0v.1 he
  simp[knD,aI,bF]
 cases l with
 | nil =>
  cases b with
  | true =>
   show C 496 [.nils] .any [.own 2 []]
   refine kE hC (nf:=N496) rfl rfl ?_
   simp[N496]
  | false =>
   show C 496 [.sl []] .any [.own 2 []]
   refine kE hC (nf:=N496) rfl rfl ?_
   simp[N496]
 | cons x xs =>
  have e:slx b ((x::xs).map knD)=.sl ((x::xs).map knD):=by cases b<;>rfl
  rw[e]
  obtain⟨l,hl2⟩:∃l,l=(x::xs).map knD:=⟨_,rfl⟩
  have h:0<l.length:=by rw[hl2];simp
  have h2:l.length<1099511627776:=by rw[hl2];simpa using hl
  rw[<- hl2]at hf ⊢
  clear hl2 e hl
  refine kE hC (nf:=N496) rfl rfl ?_
  simp[N496]
  refine⟨fun _=>⟨fun e he=>⟨(hf e he).1,(hf e he).2.1⟩,by omega,fun e he=>(hf e he).2.2⟩,fun h0=>?_⟩
  subst h0
  simp at h
set_option maxRecDepth 20000 in
set_option maxHeartbeats 2000000 in
theorem Af(hS:SlC C)(b1 b2 b:Bool)(ns:List Nod)(ls:List Lnk)(l:List Sp)(hcv:∀l∈ls,l.curve.length<2^62)(ht:cB ns ls=true)(hl:l.length=ns.length):C 461 [.agg [slx b1 (ns.map aO),slx b2 (ls.map aA)],slx b (l.map knD)] (.tup [tz ns.length (av ns ls) l,.int .i64 (bM ns.length (av ns ls) l)]) []:=by
 simp only[cB,cP,x0a,x0c]at ht
 obtain⟨⟨hv,_⟩,_,hlen⟩:=ht
 obtain⟨l1,l2⟩:=bR hv
 have k1:=xw hC hS b1 b2 ns ls hcv
 have k2:=nv hC b1 b2 ns ls hcv
 have k3:=vZ hC b l (by omega)
 have hg:=fj hv
 have hel:=aM ns ls
 rw[hv]at k1 k2
 rw[y4,yZ,hlen,if_neg (Nat.lt_irrefl _),if_neg (Nat.lt_irrefl _)]at k1
 simp only[if_true]at k1 k2
 refine ai hC (nf:=N461) rfl rfl ?_
 simp[N461]
 refine aa k1 (.inr rfl) ?_
 simp[ndD]
 refine aa k2 (.inr rfl) ?_
 have hfv:aE ns.length (av ns ls) l=(List.range (av ns ls).length).map (flO (av ns ls) (bk ns.length (av ns ls)) (flS l) ns.length).2:=by unfold aE;rw[hlen]
 have hI:=gN ns.length (av ns ls) ns.length
 have hIl:∀v∈bk ns.length (av ns ls),v<ns.length:=hI.lt
 clear hI
 unfold tz bM
 rw[hfv]
 clear hfv
 generalize bk ns.length (av ns ls)=ord at *
 generalize av ns ls=es at *
 generalize ns.length=n at *
 simp[<- hel]
 refine⟨by omega,?_⟩
 refine gU k3 ?_
 simp[hl]
 refine au Nat (fun m=>[(8,.sl (es.map edK)),(9,.ref (.r 10144) 0 es.length),(10144,.blk 2 (spR es.length (flO es ord (flS l) m).2)),(10,.ref (.r 10160) 0 n),(10160,.blk 2 (spR n (flO es ord (flS l) m).1)),(38,.sl (a8 ord)),(39,.int .i64 n),(40,.int .i64 m)]) (fun m=>m<=n) (fun m=>n-m) 0 (by simp) (by
  simp[flO,flS,hl,a7,hlen]
  refine⟨by simp[spR,jN,knD],?_⟩
  apply List.ext_getElem
  ·simp[spR,hl]
  ·intro i h1 h2
   have:i<l.length:=by simpa using h1
   simp[spR,this]) ?_
 rintro m hm
 simp
 refine ac (fun h=>?_) (fun h=>?_)<;>simp[h]<;>simp at h
 ·have hw:IntKind.wrap .i64 ((m:Int)+1)=((m+1:Nat):Int):=wrap_i64 (by omega) (by omega)
  have hmo:m<ord.length:=by omega
  have hin:=hIl _ (x0h hmo)
  simp[bZ (nQ hmo)]
  refine au Nat (fun k=>[(8,.sl (es.map edK)),(9,.ref (.r 10144) 0 es.length),(10144,.blk 2 (spR es.length (flI es ord[m] (flO es ord (flS l) m) k).2)),(10,.ref (.r 10160) 0 n),(10160,.blk 2 (spR n (flI es ord[m] (flO es ord (flS l) m) k).1)),(12,.int .i64 ord[m]),(38,.sl (a8 ord)),(39,.int .i64 n),(40,.int .i64 m),(44,.sl (es.map edK)),(45,.int .i64 es.length),(46,.int .i64 k)]) (fun k=>k<=es.length) (fun k=>es.length-k) 0 (by simp) (by simp[flI]) ?_
  rintro k hk
  simp
  refine ac (fun g=>?_) (fun g=>?_)<;>simp[g]<;>simp at g
  ·have hw2:IntKind.wrap .i64 ((k:Int)+1)=((k+1:Nat):Int):=wrap_i64 (by omega) (by omega)
   have he:=hg _ (x0h g)
   have eg:es[k]! = es[k]:=x0f es k g
   have efl:flI es ord[m] (flO es ord (flS l) m) (k+1)=mw ord[m] k es[k] (flI es ord[m] (flO es ord (flS l) m) k):=by rw[flI,eg]
   generalize flI es ord[m] (flO es ord (flS l) m) k=s at *
   simp[g,edK,knD]
   refine ac (fun c=>?_) (fun c=>?_)<;>simp at c<;>simp[c]
   ·have c':es[k].1≠ord[m]:=by omega
    have e2:flI es ord[m] (flO es ord (flS l) m) (k+1)=s:=by rw[efl,mw,if_neg c']
    refine⟨k+1,by omega,by omega,?_⟩
    simp[e2,hw2]
   ·have eg2:es[k]=es[k]?.getD default:=by simp[g]
    have c':es[k].1=ord[m]:=by omega
    have e2:flI es ord[m] (flO es ord (flS l) m) (k+1)=(fun v=>if v=es[k].2 then xe (s.1 es[k].2) (s.1 ord[m]) else s.1 v,fun q=>if q=k then s.1 ord[m] else s.2 q):=by rw[efl,mw,if_pos c']
    simp[g,edK,knD,hin,he,aG (nh _ hin),nh _ g,aG (nh _ he.2),nh _ he.2]
    have hset:∀x,((spR n s.1).set es[k].2 x)[es[k].2]? = some x:=fun x=>by simp[lr,he.2]
    simp[hset]
    refine⟨ao (by decide +kernel),?_⟩
    simp[hw2]
    refine⟨k+1,by omega,by omega,?_,?_,by omega⟩
    ·rw[e2,vq]
    ·rw[e2]
     have:=vq (n:=n) (v:=es[k].2) s.1 (xe (s.1 es[k].2) (s.1 ord[m]))
     exact this
  ·have ek:k=es.length:=by omega
   subst ek
   have eo:ord[m]! = ord[m]:=x0f ord m hmo
   have e2:flO es ord (flS l) (m+1)=flI es ord[m] (flO es ord (flS l) m) es.length:=by rw[flO,eo]
   exact⟨m+1,by omega,by omega,by rw[e2],by rw[e2],hw⟩
 ·have em:m=n:=by omega
  subst em
  have k4:=iB hC (b:=false) (xs:=(List.range es.length).map (flO es ord (flS l) m).2) (g:=497) (cs:=[]) (fun s=>decide (1099511627776<s.2)) (by simp;omega) (fun x _=>CZ hC x)
  rw[jQ,<- Gi]at k4
  simp only[Ei,lr,x0s (Nat.le_of_eq (lr es.length (flO es ord (flS l) m).2))]
  refine⟨x0r _,?_⟩
  refine aa k4 (.inl rfl) ?_
  show dW _ _ _ _ _ _ _ _ _ (.bool (iZ ((List.range es.length).map (flO es ord (flS l) m).2)))
  cases hb:iZ ((List.range es.length).map (flO es ord (flS l) m).2)
  ·simp[Ei,lr]
   rw[x0s (by rw[lr];exact x0r _)]
   simp[spR]
  ·simp
def ix(ns:List Nod)(ls:List Lnk)(l:List Sp):Int:=if cB ns ls then(if fC l ns.length=0 then bM ns.length (av ns ls) l else fC l ns.length) else 1
def lF(ns:List Nod)(ls:List Lnk)(l:List Sp):D:=if ix ns ls l=0 then .sl ((aE ns.length (av ns ls) l).map knD) else .nils
theorem Ax{l:List Sp}{n:Nat}(h:fC l n=0):l.length=n:=by
 unfold fC at h
 split at h
 ·cases h
 ·split at h
  ·omega
  ·cases h
theorem A7(hS:SlC C)(b1 b2 b:Bool)(ns:List Nod)(ls:List Lnk)(l:List Sp)(hls:ls.length<2^62)(hl:l.length<2^62)(hcv:∀l∈ls,l.curve.length<2^62):C 428 [.agg [slx b1 (ns.map aO),slx b2 (ls.map aA)],slx b (l.map knD)] (.tup [lF ns ls l,.int .i64 (ix ns ls l)]) []:=by
 have k1:=vi hC hS b1 b2 ns ls hls hcv
 have k2:=C3 hC b l ns.length hl
 refine ai hC (nf:=N428) rfl rfl ?_
 simp[N428]
 refine aa k1 (.inl rfl) ?_
 unfold lF ix
 cases ht:cB ns ls
 ·simp
 simp
 refine aa k2 (.inl rfl) ?_
 by_cases h0:fC l ns.length=0
 ·have k3:=Af hC hS b1 b2 b ns ls l hcv ht (Ax hC h0)
  simp[h0]
  unfold tz bM at k3
  unfold bM
  refine aa k3 (.inr rfl) ?_
  cases hb:iZ (aE ns.length (av ns ls) l)<;>simp[h0]
 ·simp[h0]
end Go.Gv

namespace Go.Gv
def wS(s:Sp):Sp:=(IntKind.wrap .i64 s.1,IntKind.wrap .i64 s.2)
def adS(a b:Sp):Sp:=(a.1+b.1,a.2+b.2)
theorem AO(a b:Int):IntKind.wrap .i64 (IntKind.wrap .i64 a+b)=IntKind.wrap .i64 (a+b):=by
 simp only[IntKind.wrap_i64]
 omega
theorem Eh(a b:Sp):xe (wS a) b=wS (adS a b):=by
 simp only[xe,wS,adS,AO]
def dM(P:Nat->Bool)(o:Nat->Sp):Nat->Sp
 | 0=>(0,0)
 | k+1=>if P k then adS (dM P o k) (o k) else dM P o k
theorem ff{P P':Nat->Bool}{o o':Nat->Sp}:∀{K:Nat},(∀k,k<K->P k=P' k/\(P k=true->o k=o' k))->dM P o K=dM P' o' K
 | 0,_=>rfl
 | K+1,h=>by
  obtain⟨h1,h2⟩:=h K (by omega)
  have ih:=ff (K:=K) (fun k hk=>h k (by omega))
  unfold dM
  rw[ih,<- h1]
  cases hP:P K
  ·rfl
  ·simp only[if_true];rw[h2 hP]
theorem gS(a:Sp):adS a (0,0)=a:=by simp[adS]
theorem vK(a b c:Sp):adS (adS a b) c=adS (adS a c) b:=by simp only[adS];congr 1<;>omega
theorem pa(a b c:Sp):adS (adS a b) c=adS a (adS b c):=by simp only[adS];congr 1<;>omega
theorem sZ{P P':Nat->Bool}{o o':Nat->Sp}{k0:Nat}(h:∀k,k≠k0->P' k=P k/\o' k=o k)(h0:P k0=false):∀K,dM P' o' K=adS (dM P o K) (if k0<K/\P' k0=true then o' k0 else(0,0))
 | 0=>by simp[dM,adS]
 | K+1=>by
  have ih:=sZ h h0 K
  unfold dM
  by_cases e:K=k0
  ·subst e
   have e1:¬(K<K/\P' K=true):=fun h=>Nat.lt_irrefl _ h.1
   rw[if_neg e1,gS]at ih
   rw[h0,ih]
   cases hP:P' K
   ·simp[adS]
   ·simp
  ·obtain⟨h1,h2⟩:=h K e
   rw[h1,h2,ih]
   have e2:(k0<K+1/\P' k0=true)↔(k0<K/\P' k0=true):=⟨fun x=>⟨by omega,x.2⟩,fun x=>⟨by omega,x.2⟩⟩
   by_cases c:k0<K/\P' k0=true
   ·rw[if_pos c,if_pos (e2.2 c)]
    cases P K
    ·rfl
    ·simp only[if_true];exact vK _ _ _
   ·rw[if_neg c,if_neg (fun x=>c (e2.1 x)),gS,gS]
theorem nG{es:List Edg}{i:Nat}{s:FSt}:∀{K:Nat},K<=es.length->(∀k,(h:k<es.length)->k<K->es[k].1≠i)->flI es i s K=s
 | 0,_,_=>rfl
 | K+1,hK,h=>by
  have hk:K<es.length:=by omega
  unfold flI
  rw[nG (by omega) (fun k h1 h2=>h k h1 (by omega)),x0f es K hk,mw,if_neg (h K hk (by omega))]
theorem uJ{es:List Edg}{i:Nat}{s:FSt}{k0:Nat}(hk0:k0<es.length)(hi:es[k0].1=i)(hu:∀k,(h:k<es.length)->es[k].1=i->k=k0):∀{K:Nat},K<=es.length->k0<K->flI es i s K=mw i k0 es[k0] s
 | 0,_,h=>by omega
 | K+1,hK,h=>by
  have hk:K<es.length:=by omega
  unfold flI
  rw[x0f es K hk]
  by_cases e:K=k0
  ·subst e
   rw[nG (by omega) (fun k h1 h2 e=>by have:=hu k h1 e;omega)]
  ·rw[uJ hk0 hi hu (by omega) (by omega),mw,if_neg (fun e2=>e (hu K hk e2))]
theorem sw(n:Nat)(es:List Edg)(m:Nat):∀k,aH n es m <+: aH n es (m+k)
 | 0=>List.prefix_refl _
 | k+1=>by
  refine(sw n es m k).trans ?_
  show _ <+: jA n es (aH n es (m+k))
  unfold jA
  split
  ·exact List.prefix_refl _
  ·exact List.prefix_append _ _
theorem mb(n:Nat)(es:List Edg):∀m k,(aH n es (m+k)).length<=(aH n es m).length+k
 | m,0=>by simp
 | m,k+1=>by
  have ih:=mb n es m k
  show(jA n es (aH n es (m+k))).length<=_
  unfold jA
  split
  ·omega
  ·simp;omega
theorem jK{n:Nat}{es:List Edg}(h:(bk n es).length=n){m:Nat}(hm:m<=n):(bk n es).take m=aH n es m/\(aH n es m).length=m:=by
 have h1:=mb n es 0 m
 have h2:=mb n es m (n-m)
 have h3:=sw n es m (n-m)
 rw[show m+(n-m)=n by omega]at h2 h3
 simp only[x09]at h1
 have h4:(aH n es 0).length=0:=rfl
 have hl:(aH n es m).length=m:=by
  have h5:(aH n es n).length=n:=h
  omega
 refine⟨?_,hl⟩
 obtain⟨t,ht⟩:=h3
 show(aH n es n).take m=_
 rw[<- ht,List.take_append_of_le_length (by omega),x0s (by omega)]
theorem oI{es:List Edg}(h:(es.map (·.1)).Nodup){k k':Nat}(hk:k<es.length)(hk':k'<es.length)(e:es[k].1=es[k'].1):k=k':=by
 have h1:k<(es.map (·.1)).length:=by simpa using hk
 have h2:k'<(es.map (·.1)).length:=by simpa using hk'
 have:=(List.getElem_inj (xs:=es.map (·.1)) (i:=k) (j:=k') (h₀:=h1) (h₁:=h2) h).1 (by simpa using e)
 exact this
def inT(es:List Edg)(v:Nat)(done:List Nat)(k:Nat):Bool:=decide (es[k]!.2=v)&&done.contains es[k]!.1
theorem uK{n:Nat}{es:List Edg}(hg:inG n es)(ht:cP n es=true){l:List Sp}(hl:∀v,v<n->wS l[v]! = l[v]!):∀m,m<=n ->
  (∀k,(h:k<es.length)->es[k].1∈(bk n es).take m->(flO es (bk n es) (flS l) m).2 k=(flO es (bk n es) (flS l) m).1 es[k].1) /\
  (∀v,v<n->(flO es (bk n es) (flS l) m).1 v=wS (adS l[v]! (dM (inT es v ((bk n es).take m)) (flO es (bk n es) (flS l) m).2 es.length)))
 | 0,_=>by
  refine⟨fun k h hk=>by simp at hk,fun v hv=>?_⟩
  have:dM (inT es v ((bk n es).take 0)) (flS l).2 es.length=dM (fun _=>false) (flS l).2 es.length:=ff fun k hk=>⟨by simp[inT],fun h=>by simp[inT]at h⟩
  have hz:∀K,dM (fun _=>false) (flS l).2 K=(0,0):=fun K=>by
   induction K with
   | zero=>rfl
   | succ K ih=>unfold dM;simpa using ih
  show l[v]! = wS (adS l[v]! (dM (inT es v ((bk n es).take 0)) (flS l).2 es.length))
  rw[this,hz,gS,hl v hv]
 | m+1,hm=>by
  simp only[cP,x0a,x0c]at ht
  obtain⟨hnd,hlen⟩:=ht
  obtain⟨ih1,ih2⟩:=uK hg (by simp[cP,hnd,hlen]) hl m (by omega)
  obtain⟨t1,t2⟩:=jK hlen (show m<=n by omega)
  obtain⟨t3,t4⟩:=jK hlen hm
  have hml:m<(bk n es).length:=by omega
  have hI:=gN n es m
  have hI':=gN n es (m+1)
  have htk:(bk n es).take (m+1)=(bk n es).take m++[(bk n es)[m]]:=x0u hml
  obtain⟨i,hi⟩:∃i,i=(bk n es)[m]:=⟨_,rfl⟩
  rw[<- hi]at htk
  have hin:i∈aH n es (m+1):=by rw[<- t3,htk];simp
  have hni:i∉(bk n es).take m:=by
   have:=hI'.nd
   rw[<- t3,htk,x1n]at this
   exact fun h=>this.2.2 i h i (by simp) rfl
  have hcl:∀u v,u∈(bk n es).take m->(v,u)∈es->v∈(bk n es).take m:=fun u v hu he=>by rw[t1]at hu ⊢;exact hI.pre u hu v he
  have hself:(i,i)∉es:=by
   intro he
   have:cL n es (aH n es m)≠[]:=by
    intro e
    have:=lf e 1
    rw[this]at t4
    omega
   cases hr:cL n es (aH n es m) with
   | nil=>exact this hr
   | cons j r =>
    have e1:=ii hr
    have e2:j=i:=by
     have h5:aH n es m++[j]=aH n es m++[i]:=by rw[<- e1,<- t3,htk,t1]
     simpa using h5
    have hj:j∈cL n es (aH n es m):=by rw[hr];simp
    rw[e2]at hj
    obtain⟨_,h6,h7⟩:=ic.1 hj
    exact h6 (h7 i he)
  obtain⟨s,hs⟩:∃s,s=flO es (bk n es) (flS l) m:=⟨_,rfl⟩
  have efl:flO es (bk n es) (flS l) (m+1)=flI es i s es.length:=by rw[flO,x0f _ m hml,<- hi,<- hs]
  rw[efl]
  rw[<- hs]at ih1 ih2
  by_cases hx:∃k,∃h:k<es.length,es[k].1=i
  ·obtain⟨k0,hk0,e0⟩:=hx
   have hu:∀k,(h:k<es.length)->es[k].1=i->k=k0:=fun k h e=>oI hnd h hk0 (e.trans e0.symm)
   rw[uJ hk0 e0 hu (x0r _) hk0,mw,if_pos e0]
   have het:(i,es[k0].2)∈es:=by rw[<- e0];exact x0h hk0
   have hti:es[k0].2≠i:=fun e=>hself (by rw[e]at het;exact het)
   have htm:es[k0].2∉(bk n es).take m:=fun h=>hni (hcl _ _ h het)
   refine⟨fun k h hk=>?_,fun v hv=>?_⟩
   ·rw[htk]at hk
    rcases x0p.1 hk with hk|hk
    ·have hne:k≠k0:=by rintro rfl;exact hni (e0▸hk)
     have hnt:es[k].1≠es[k0].2:=fun e=>htm (e▸hk)
     simp only[if_neg hne,if_neg hnt]
     exact ih1 k h hk
    ·simp only[x1i]at hk
     have:k=k0:=hu k h hk
     subst this
     simp only[if_true]
     rw[if_neg (by rw[hk];exact Ne.symm hti),hk]
   ·have hsum:dM (inT es v ((bk n es).take (m+1))) (fun q=>if q=k0 then s.1 i else s.2 q) es.length=adS (dM (inT es v ((bk n es).take m)) s.2 es.length) (if es[k0].2=v then s.1 i else(0,0)):=by
     have eK:dM (fun k=>decide (k<es.length)&&inT es v ((bk n es).take (m+1)) k) (fun q=>if q=k0 then s.1 i else s.2 q) es.length=dM (inT es v ((bk n es).take (m+1))) (fun q=>if q=k0 then s.1 i else s.2 q) es.length:=ff fun k hk=>⟨by simp[hk],fun _=>rfl⟩
     have eK2:dM (fun k=>decide (k<es.length)&&inT es v ((bk n es).take m) k) s.2 es.length=dM (inT es v ((bk n es).take m)) s.2 es.length:=ff fun k hk=>⟨by simp[hk],fun _=>rfl⟩
     rw[<- eK,<- eK2,sZ (P:=fun k=>decide (k<es.length)&&inT es v ((bk n es).take m) k) (o:=s.2) (k0:=k0) (fun k hk=>⟨?_,by simp[hk]⟩) (by simp[inT,x0f es k0 hk0,e0,hni])]
     ·congr 1
      simp only[if_true]
      by_cases c:es[k0].2=v
      ·rw[if_pos c,if_pos ⟨hk0,by simp[hk0,inT,x0f es k0 hk0,e0,c,htk]⟩]
      ·rw[if_neg c,if_neg (fun h=>by simp[inT,x0f es k0 hk0,c]at h)]
     ·by_cases hkl:k<es.length
      ·have hne:es[k].1≠i:=fun e=>hk (hu k hkl e)
       simp[hkl,inT,htk,hne]
      ·simp[hkl]
    rw[hsum]
    by_cases c:v=es[k0].2
    ·simp only[if_pos c,if_pos c.symm]
     rw[<- c,ih2 v hv,Eh,pa]
    ·simp only[if_neg c,if_neg (Ne.symm c),gS]
     exact ih2 v hv
  ·have hno:∀k,(h:k<es.length)->es[k].1≠i:=fun k h e=>hx ⟨k,h,e⟩
   rw[nG (x0r _) (fun k h _=>hno k h)]
   refine⟨fun k h hk=>?_,fun v hv=>?_⟩
   ·rw[htk]at hk
    rcases x0p.1 hk with hk|hk
    ·exact ih1 k h hk
    ·exact absurd (by simpa using hk) (hno k h)
   ·rw[ih2 v hv]
    congr 2
    refine ff fun k hk=>⟨?_,fun _=>rfl⟩
    simp[inT,x0f es k hk,htk,hno k hk]
def vP(es:List Edg)(fl:List Sp)(s0:Sp)(v:Nat):Nat->Sp
 | 0=>s0
 | k+1=>if es[k]!.2=v then xe (vP es fl s0 v k) fl[k]! else vP es fl s0 v k
theorem qg(es:List Edg)(fl:List Sp)(s0:Sp)(h0:wS s0=s0)(v:Nat):∀K,vP es fl s0 v K=wS (adS s0 (dM (fun k=>decide (es[k]!.2=v)) (fun k=>fl[k]!) K))
 | 0=>by simp[vP,dM,gS,h0]
 | K+1=>by
  have ih:=qg es fl s0 h0 v K
  unfold vP dM
  by_cases c:es[K]!.2=v
  ·rw[if_pos c,if_pos (by simpa using c),ih,Eh,pa]
  ·rw[if_neg c,if_neg (by simpa using c),ih]
theorem Bd{n:Nat}{es:List Edg}(hg:inG n es)(ht:cP n es=true){l:List Sp}(hl:∀v,v<n->wS l[v]! = l[v]!){i:Nat}(hi:i<es.length):(aE n es l)[i]! = vP es (aE n es l) l[es[i].1]! es[i].1 es.length:=by
 have ht2:=ht
 simp only[cP,x0a,x0c]at ht2
 obtain⟨h1,h2⟩:=uK hg ht hl n (x0r _)
 have hv:=(hg _ (x0h hi)).1
 have hfull:(bk n es).take n=bk n es:=x0s (by omega)
 have hI:=gN n es n
 have hmem:∀v,v<n->v∈bk n es:=by
  intro v hv
  apply Classical.byContradiction
  intro hn
  have hnd:(v::bk n es).Nodup:=List.nodup_cons.2 ⟨hn,hI.nd⟩
  have hsub:(v::bk n es) ⊆ List.range n:=by
   intro u hu
   rcases x0S.1 hu with rfl|hu
   ·simpa using hv
   ·simpa using hI.lt u hu
  have:=List.Nodup.length_le_of_subset hnd hsub
  simp at this
  omega
 have eF:∀k,k<es.length->(aE n es l)[k]! =(flO es (bk n es) (flS l) n).2 k:=fun k hk=>by
  unfold aE
  rw[ht2.2,x0f _ k (by simpa using hk)]
  simp
 rw[qg _ _ _ (hl _ hv),eF i hi,h1 i hi (by rw[hfull];exact hmem _ hv),h2 _ hv]
 congr 2
 refine ff fun k hk=>⟨?_,fun _=>(eF k hk).symm⟩
 have:=hmem _ (hg _ (x0h hk)).1
 simp[inT,x0f es k hk,hfull,this]
end Go.Gv

namespace Go.Gv
def bx(f:Nat->Int):Nat->Int
 | 0=>0
 | k+1=>bx f k+f k
theorem cz{f g:Nat->Int}:∀{K:Nat},(∀k,k<K->f k=g k)->bx f K=bx g K
 | 0,_=>rfl
 | K+1,h=>by unfold bx;rw[cz (K:=K) (fun k hk=>h k (by omega)),h K (by omega)]
theorem sY(f g:Nat->Int):∀K,bx (fun k=>f k+g k) K=bx f K+bx g K
 | 0=>rfl
 | K+1=>by unfold bx;rw[sY f g K];omega
theorem dU{f:Nat->Int}:∀{K:Nat},(∀k,k<K->f k=0)->bx f K=0
 | 0,_=>rfl
 | K+1,h=>by unfold bx;rw[dU (K:=K) (fun k hk=>h k (by omega)),h K (by omega)];rfl
theorem lz{f:Nat->Int}{k0:Nat}:∀{K:Nat},k0<K->(∀k,k<K->k≠k0->f k=0)->bx f K=f k0
 | 0,h,_=>by omega
 | K+1,h,h2=>by
  unfold bx
  by_cases e:K=k0
  ·subst e
   rw[dU (fun k hk=>h2 k (by omega) (by omega))];omega
  ·rw[lz (by omega) (fun k hk hn=>h2 k (by omega) hn),h2 K (by omega) e];omega
theorem jS(f:Nat->Nat->Int)(A:Nat):∀B,bx (fun b=>bx (fun a=>f a b) A) B=bx (fun a=>bx (fun b=>f a b) B) A
 | 0=>(dU fun _ _=>rfl).symm
 | B+1=>by
  have e:(fun a=>bx (fun b=>f a b) (B+1))=fun a=>bx (fun b=>f a b) B+f a B:=rfl
  rw[e,sY,<- jS f A B]
  rfl
theorem oL(f:Nat->Int):∀M,bx f (M+1)=f 0+bx (fun m=>f (m+1)) M
 | 0=>by simp[bx]
 | M+1=>by
  have ih:=oL f M
  show bx f (M+1)+f (M+1)=f 0+(bx (fun m=>f (m+1)) M+f (M+1))
  omega
theorem vw(c:Prop)[Decidable c](f:Nat->Int)(K:Nat):bx (fun k=>if c then f k else 0) K=if c then bx f K else 0:=by
 by_cases h:c
 ·rw[if_pos h];exact cz fun k _=>if_pos h
 ·rw[if_neg h];exact dU fun k _=>if_neg h
theorem ni{f g:Nat->Int}:∀{K:Nat},(∀k,k<K->f k<=g k)->bx f K<=bx g K
 | 0,_=>x0F _
 | K+1,h=>by
  have:=ni (K:=K) (fun k hk=>h k (by omega))
  have:=h K (by omega)
  unfold bx
  omega
theorem kG(B:Int):∀K:Nat,bx (fun _=>B) K=K*B
 | 0=>by simp[bx]
 | K+1=>by unfold bx;rw[kG B K];push_cast;rw[Int.add_mul];omega
def stp(es:List Edg)(v:Nat):Option Nat:=(es.find? fun e=>e.1==v).map (·.2)
def wat(es:List Edg):Nat->Nat->Option Nat
 | 0,v=>some v
 | m+1,v=>(wat es m v).bind (stp es)
def upB(n:Nat)(es:List Edg)(v x:Nat):Bool:=(List.range n).any fun m=>wat es m v==some x
theorem oJ{es:List Edg}{y z:Nat}(h:stp es y=some z):(y,z)∈es:=by
 unfold stp at h
 cases e:es.find? (fun e=>e.1==y) with
 | none=>rw[e]at h;cases h
 | some p =>
  rw[e]at h
  have h1:=List.find?_some e
  have h2:=List.mem_of_find?_eq_some e
  simp at h1 h
  obtain⟨a,b⟩:=p
  simp only at h1 h
  subst h1 h
  exact h2
theorem Az{es:List Edg}(hnd:(es.map (·.1)).Nodup){y z:Nat}(h:(y,z)∈es):stp es y=some z:=by
 unfold stp
 cases e:es.find? (fun e=>e.1==y) with
 | none =>
  have:=List.find?_eq_none.1 e _ h
  simp at this
 | some p =>
  have h1:=List.find?_some e
  have h2:=List.mem_of_find?_eq_some e
  obtain⟨a,b⟩:=p
  simp at h1
  subst h1
  obtain⟨k,hk,ek⟩:=x0J h
  obtain⟨j,hj,ej⟩:=x0J h2
  have:=oI hnd hk hj (by rw[ek,ej])
  subst this
  rw[ek]at ej
  cases ej
  rfl
theorem lg{n:Nat}{es:List Edg}(hg:inG n es)(hlen:(bk n es).length=n){u v:Nat}(he:(u,v)∈es):(bk n es).idxOf u<(bk n es).idxOf v/\(bk n es).idxOf v<n:=by
 have hI:=gN n es n
 have hmem:∀v,v<n->v∈bk n es:=by
  intro v hv
  apply Classical.byContradiction
  intro hn
  have hnd:(v::bk n es).Nodup:=List.nodup_cons.2 ⟨hn,hI.nd⟩
  have hsub:(v::bk n es) ⊆ List.range n:=by
   intro u hu
   rcases x0S.1 hu with rfl|hu
   ·simpa using hv
   ·simpa using hI.lt u hu
  have:=List.Nodup.length_le_of_subset hnd hsub
  simp at this
  omega
 obtain⟨h1,h2⟩:=hg _ he
 have hv:=hmem v h2
 have hi:=List.idxOf_lt_length_iff.2 hv
 obtain⟨m,hm⟩:∃m,m=(bk n es).idxOf v:=⟨_,rfl⟩
 rw[<- hm]at hi ⊢
 have hget:(bk n es)[m]=v:=by
  subst hm
  exact List.getElem_idxOf hi
 obtain⟨t1,t2⟩:=jK hlen (show m<=n by omega)
 obtain⟨t3,t4⟩:=jK hlen (show m+1<=n by omega)
 have htk:(bk n es).take (m+1)=(bk n es).take m++[(bk n es)[m]]:=x0u hi
 have hu:u∈(bk n es).take m:=by
  rw[t1]
  cases hr:cL n es (aH n es m) with
  | nil =>
   have:=lf hr 1
   rw[this]at t4
   omega
  | cons j r =>
   have e1:=ii hr
   have e2:j=v:=by
    have h5:aH n es m++[j]=aH n es m++[v]:=by rw[<- e1,<- t3,htk,t1,hget]
    simpa using h5
   have hj:j∈cL n es (aH n es m):=by rw[hr];simp
   rw[e2]at hj
   exact(ic.1 hj).2.2 u he
 refine⟨?_,by omega⟩
 obtain⟨a,ha,e⟩:=x0J hu
 have ha2:a<m:=by simp at ha;omega
 have e2:(bk n es)[a]'(by omega)=u:=by rw[<- e];simp
 have e3:(bk n es).idxOf ((bk n es)[a]'(by omega))=a:=hI.nd.idxOf_getElem a (show a<(bk n es).length by omega)
 rw[e2]at e3
 omega
theorem gj{n:Nat}{es:List Edg}(hg:inG n es)(hlen:(bk n es).length=n):∀{m v x:Nat},wat es m v=some x->(bk n es).idxOf v+m<=(bk n es).idxOf x/\(m≠0->(bk n es).idxOf x<n)
 | 0,v,x,h=>by
  simp[wat]at h
  subst h
  exact⟨x0r _,fun h=>absurd rfl h⟩
 | m+1,v,x,h=>by
  unfold wat at h
  cases e:wat es m v with
  | none=>rw[e]at h;cases h
  | some y =>
   rw[e]at h
   obtain⟨i1,_⟩:=gj hg hlen e
   obtain⟨r1,r2⟩:=lg hg hlen (oJ h)
   exact⟨by omega,fun _=>r2⟩
def oO(n:Nat)(es:List Edg)(g:Nat->Int)(m x:Nat):Int:=bx (fun v=>if wat es m v=some x then g v else 0) n
theorem xn{n:Nat}{es:List Edg}(hnd:(es.map (·.1)).Nodup)(g:Nat->Int)(m x:Nat):oO n es g (m+1) x=bx (fun k=>if es[k]!.2=x then oO n es g m es[k]!.1 else 0) es.length:=by
 have h1:∀v,v<n->(if wat es (m+1) v=some x then g v else 0)=bx (fun k=>if es[k]!.2=x then(if wat es m v=some es[k]!.1 then g v else 0) else 0) es.length:=fun v _=>by
  cases e:wat es m v with
  | none =>
   have:wat es (m+1) v=none:=by unfold wat;rw[e];rfl
   rw[this,if_neg (by simp),dU (fun k _=>by simp)]
  | some y =>
   have e1:wat es (m+1) v=stp es y:=by
    show(wat es m v).bind (stp es)=_
    rw[e];rfl
   rw[e1]
   cases e2:stp es y with
   | none =>
    rw[if_neg (by simp),dU fun k hk=>?_]
    by_cases c:es[k]!.2=x
    ·rw[if_pos c]
     by_cases d:y=es[k]!.1
     ·have:=Az (es:=es) hnd (y:=y) (z:=es[k]!.2) (by rw[d,x0f es k hk];exact x0h hk)
      rw[e2]at this;cases this
     ·rw[if_neg (by simpa using d)]
    ·rw[if_neg c]
   | some z =>
    obtain⟨k0,hk0,ek0⟩:=x0J (oJ e2)
    rw[lz (k0:=k0) hk0 fun k hk hne=>?_]
    ·rw[x0f es k0 hk0,ek0]
     simp
    ·by_cases d:y=es[k]!.1
     ·exact absurd (oI hnd hk hk0 (by rw[ek0,<- x0f es k hk,d])) hne
     ·rw[if_neg (show ¬some y=some es[k]!.1 by simpa using d)];simp
 unfold oO
 rw[cz h1,jS]
 exact cz fun k _=>vw _ _ _
theorem xo{n:Nat}{es:List Edg}(g:Nat->Int){x:Nat}(hx:x<n):oO n es g 0 x=g x:=by
 unfold oO
 rw[lz (k0:=x) hx fun k _ hne=>?_]
 ·simp[wat]
 ·simp[wat,hne]
theorem AM{n:Nat}{es:List Edg}(hg:inG n es)(hlen:(bk n es).length=n)(g:Nat->Int){m x:Nat}(hm:n<=m):oO n es g m x=0:=by
 refine dU fun v hv=>if_neg fun h=>?_
 obtain⟨h1,h2⟩:=gj hg hlen h
 have:=h2 (by omega)
 omega
def upS(n:Nat)(es:List Edg)(g:Nat->Int)(x:Nat):Int:=bx (fun v=>if upB n es v x=true then g v else 0) n
theorem vB{n:Nat}{es:List Edg}(hg:inG n es)(hlen:(bk n es).length=n)(g:Nat->Int)(x:Nat):upS n es g x=bx (fun m=>oO n es g m x) n:=by
 unfold oO upS
 rw[jS]
 refine cz fun v _=>?_
 by_cases h:upB n es v x=true
 ·rw[if_pos h]
  obtain⟨m,hm,e⟩:=x0G.1 h
  simp at hm e
  rw[lz (k0:=m) hm fun k _ hne=>if_neg fun h2=>?_,if_pos e]
  have a:=(gj hg hlen e).1
  have b:=(gj hg hlen h2).1
  rcases Nat.lt_or_gt_of_ne hne with h3|h3
  ·have:∀d,wat es (k+d) v=(wat es d x):=fun d=>by
    induction d with
    | zero=>exact h2
    | succ d ih =>
     show(wat es (k+d) v).bind _=_
     rw[ih];rfl
   have h4:=this (m-k)
   rw[show k+(m-k)=m by omega,e]at h4
   have:=(gj hg hlen h4.symm).1
   omega
  ·have:∀d,wat es (m+d) v=(wat es d x):=fun d=>by
    induction d with
    | zero=>exact e
    | succ d ih =>
     show(wat es (m+d) v).bind _=_
     rw[ih];rfl
   have h4:=this (k-m)
   rw[show m+(k-m)=k by omega,h2]at h4
   have:=(gj hg hlen h4.symm).1
   omega
 ·rw[if_neg h,dU fun k hk=>if_neg fun h2=>h (x0G.2 ⟨k,by simpa using hk,by simp[h2]⟩)]
theorem vA{n:Nat}{es:List Edg}(hg:inG n es)(ht:cP n es=true)(g:Nat->Int){x:Nat}(hx:x<n):upS n es g x=g x+bx (fun k=>if es[k]!.2=x then upS n es g es[k]!.1 else 0) es.length:=by
 simp only[cP,x0a,x0c]at ht
 obtain⟨hnd,hlen⟩:=ht
 have e1:bx (fun m=>oO n es g m x) n=bx (fun m=>oO n es g m x) (n+1):=by
  show _=bx _ n+oO n es g n x
  rw[AM hg hlen g (x0r _)];omega
 rw[vB hg hlen,e1,oL,xo g hx]
 congr 1
 rw[cz fun m _=>xn hnd g m x,jS]
 refine cz fun k _=>?_
 rw[vw]
 by_cases c:es[k]!.2=x
 ·rw[if_pos c,if_pos c,vB hg hlen]
 ·rw[if_neg c,if_neg c]
theorem mj{n:Nat}{es:List Edg}{g:Nat->Int}{B:Int}(hB:0<=B)(h:∀v,v<n->0<=g v/\g v<=B)(x:Nat):0<=upS n es g x/\upS n es g x<=n*B:=by
 unfold upS
 constructor
 ·have:=ni (f:=fun _=>0) (g:=fun v=>if upB n es v x=true then g v else 0) (K:=n) fun k hk=>by
   have:=h k hk
   show 0<=if upB n es k x=true then g k else 0
   split<;>omega
  rw[kG]at this
  simpa using this
 ·rw[<- kG]
  exact ni fun k hk=>by
   have:=h k hk
   show(if upB n es k x=true then g k else 0)<=B
   split<;>omega
theorem AA(P:Nat->Bool)(o:Nat->Sp):∀K,(dM P o K).1=bx (fun k=>if P k=true then(o k).1 else 0) K
 | 0=>rfl
 | K+1=>by
  have ih:=AA P o K
  unfold dM bx
  by_cases h:P K=true
  ·rw[if_pos h,if_pos h,<- ih];rfl
  ·rw[if_neg h,if_neg h,<- ih];omega
theorem AB(P:Nat->Bool)(o:Nat->Sp):∀K,(dM P o K).2=bx (fun k=>if P k=true then(o k).2 else 0) K
 | 0=>rfl
 | K+1=>by
  have ih:=AB P o K
  unfold dM bx
  by_cases h:P K=true
  ·rw[if_pos h,if_pos h,<- ih];rfl
  ·rw[if_neg h,if_neg h,<- ih];omega
theorem rO{n:Nat}{es:List Edg}(hn:n<=300)(hg:inG n es)(ht:cP n es=true){l:List Sp}(hl:∀v,v<n->0<=l[v]!.1/\l[v]!.1<=l[v]!.2/\l[v]!.2<=1099511627776) :
  ∀(r i:Nat) (hi:i<es.length),(bk n es).idxOf es[i].1<r->(aE n es l)[i]! =(upS n es (fun v=>l[v]!.1) es[i].1,upS n es (fun v=>l[v]!.2) es[i].1)
 | 0,_,_,h=>by omega
 | r+1,i,hi,hr=>by
  have hw:∀v,v<n->wS l[v]! = l[v]!:=fun v hv=>by
   have:=hl v hv
   unfold wS
   rw[wrap_i64 rfl (by omega),wrap_i64 rfl (by omega)]
  have hb:=Bd hg ht hw hi
  have hv:=(hg _ (x0h hi)).1
  have ht2:=ht
  simp only[cP,x0a,x0c]at ht2
  have ih:∀k,k<es.length->es[k]!.2=es[i].1->(aE n es l)[k]! =(upS n es (fun v=>l[v]!.1) es[k]!.1,upS n es (fun v=>l[v]!.2) es[k]!.1):=fun k hk e=>by
   rw[x0f es k hk]at e ⊢
   have hm:(es[k].1,es[i].1)∈es:=by rw[<- e];exact x0h hk
   have:=(lg hg ht2.2 hm).1
   exact rO hn hg ht hl r k hk (by omega)
  have r1:=mj (n:=n) (es:=es) (g:=fun v=>l[v]!.1) (B:=1099511627776) (by omega) (fun v hv=>by have:=hl v hv;omega) es[i].1
  have r2:=mj (n:=n) (es:=es) (g:=fun v=>l[v]!.2) (B:=1099511627776) (by omega) (fun v hv=>by have:=hl v hv;omega) es[i].1
  rw[hb,qg _ _ _ (hw _ hv)]
  have s1:=vA hg ht (fun v=>l[v]!.1) hv
  have s2:=vA hg ht (fun v=>l[v]!.2) hv
  have e1:(dM (fun k=>decide (es[k]!.2=es[i].1)) (fun k=>(aE n es l)[k]!) es.length).1=bx (fun k=>if es[k]!.2=es[i].1 then upS n es (fun v=>l[v]!.1) es[k]!.1 else 0) es.length:=by
   rw[AA]
   refine cz fun k hk=>?_
   by_cases c:es[k]!.2=es[i].1
   ·rw[if_pos (by simpa using c),if_pos c,ih k hk c]
   ·rw[if_neg (by simpa using c),if_neg c]
  have e2:(dM (fun k=>decide (es[k]!.2=es[i].1)) (fun k=>(aE n es l)[k]!) es.length).2=bx (fun k=>if es[k]!.2=es[i].1 then upS n es (fun v=>l[v]!.2) es[k]!.1 else 0) es.length:=by
   rw[AB]
   refine cz fun k hk=>?_
   by_cases c:es[k]!.2=es[i].1
   ·rw[if_pos (by simpa using c),if_pos c,ih k hk c]
   ·rw[if_neg (by simpa using c),if_neg c]
  have e3:adS l[es[i].1]! (dM (fun k=>decide (es[k]!.2=es[i].1)) (fun k=>(aE n es l)[k]!) es.length)=(upS n es (fun v=>l[v]!.1) es[i].1,upS n es (fun v=>l[v]!.2) es[i].1):=by
   unfold adS
   rw[e1,e2,s1,s2]
  rw[e3]
  unfold wS
  rw[wrap_i64 rfl (by simp only;omega),wrap_i64 rfl (by simp only;omega)]
theorem uL{n:Nat}{es:List Edg}(hn:n<=300)(hg:inG n es)(ht:cP n es=true){l:List Sp}(hl:∀v,v<n->0<=l[v]!.1/\l[v]!.1<=l[v]!.2/\l[v]!.2<=1099511627776){i:Nat}(hi:i<es.length):(aE n es l)[i]! =(upS n es (fun v=>l[v]!.1) es[i].1,upS n es (fun v=>l[v]!.2) es[i].1) :=
 rO hn hg ht hl _ i hi (Nat.lt_succ_self _)
end Go.Gv

namespace Go.Gv
theorem xJ{l:Lnk}{s:Sec}{f v:Int}(hv:aq s=true)(hl:1<=l.len/\l.len<=16777216)(hd:l.down<=l.up)(hf:0<=f/\f<=1099511627776)(hlo:(cf l s f).2=0)(hu:-4194304<=l.up/\l.up<=4194304)(hvl:v<=1098437885952) :
  (bV l s f v).2=0/\v<=(bV l s f v).1/\(bV l s f v).1<=mxI 8388608 (v+1073741824):=by
 have hh:1<=s.height/\s.height<=32768:=by
  simp only[aq,x0a,x0c]at hv
  omega
 have hs:bE (bI l) l.len=true:=by
  simp only[bE,x0a,x0c]
  unfold bI
  split<;>omega
 have hr:=gx (db s.conv).2.toNat f.toNat l.len.toNat
 have hr':0<=(cf l s f).1/\(cf l s f).1<=1073741824:=hr
 by_cases hb:iE l s f v=true
 ·rw[dP hb]
  have hcap:=xQ hv (bI l) l.len
  have hfc:f<=(kL s (bI l) l.len:Int):=by
   simp only[iE,x0a,x0E,x0c]at hb
   obtain⟨_,hb⟩:=hb
   unfold f8 at hb
   rw[if_pos hv,if_pos hs]at hb
   by_cases hc:1099511627776<kL s (bI l) l.len
   ·omega
   ·rw[if_neg hc]at hb
    simp only at hb
    rcases hb with hb|hb
    ·omega
    ·exact hb.2
  have hD:(cF s f (bI l) l.len).2=0:=by
   rw[<- pq]
   unfold dz
   rw[if_pos hv,if_pos ⟨hf.1,hf.2,hs⟩,hcap,if_neg (by omega)]
  have hdr:=kR hv f (bI l) l.len
  unfold oZ
  rw[if_pos hD]
  simp only
  have h1:=yU (l.up+(cF s f (bI l) l.len).1) v
  refine⟨trivial,h1.2,?_⟩
  unfold mxI
  split<;>split<;>omega
 ·rw[eO hb]
  unfold je
  have h1:=yU (l.up+s.height) (v+(cf l s f).1)
  have h2:mxI (l.up+s.height) (v+(cf l s f).1)<=mxI 8388608 (v+1073741824):=eu (by omega) (by omega)
  have h3:mxI 8388608 (v+1073741824)<=1099511627776:=by unfold mxI;split<;>omega
  rw[if_pos hlo,if_neg (by omega)]
  simp only
  exact⟨trivial,by omega,h2⟩
theorem wv{l:Lnk}{s:Sec}{f g:Int}(h0:0<=f)(h:f<=g)(hg:(cf l s g).2=0):(cf l s f).2=0:=by
 unfold cf fw at *
 by_cases f0:f.toNat=0
 ·rw[if_pos f0]
 rw[if_neg f0]
 rw[if_neg (show ¬g.toNat=0 by omega)]at hg
 by_cases k0:(db s.conv).2.toNat=0
 ·rw[if_pos k0]at hg;simp at hg
 rw[if_neg k0]at hg ⊢
 by_cases e:cg (db s.conv).2.toNat g.toNat l.len.toNat 1073741824=true
 ·rw[if_pos (kW (show f.toNat<=g.toNat by omega) e)]
 ·rw[if_neg e]at hg;simp at hg
def j5(es:List Edg)(v:Nat):Option Nat:=es.findIdx? fun e=>e.1==v
theorem fV{es:List Edg}{v k:Nat}(h:j5 es v=some k):∃hk:k<es.length,es[k].1=v:=by
 unfold j5 at h
 obtain⟨hk,h1,_⟩:=x0O.1 h
 exact⟨hk,by simpa using h1⟩
def gL(es:List Edg)(ab:Nat->Int->Int)(base:Nat->Int):Nat->Nat->Int
 | 0,i=>base i
 | f+1,i=>match j5 es i with
  | none=>base i
  | some k=>ab k (gL es ab base f es[k]!.2)
def rkO(n:Nat)(es:List Edg)(i:Nat):Nat:=(bk n es).idxOf i
theorem pA{n:Nat}{es:List Edg}(hg:inG n es)(hlen:(bk n es).length=n)(ab:Nat->Int->Int)(base:Nat->Int):∀(f i:Nat),n<=f+rkO n es i->rkO n es i<n->gL es ab base (f+1) i=gL es ab base f i
 | 0,i,h1,h2=>by omega
 | f+1,i,h1,h2=>by
  rw[gL,gL]
  cases h:j5 es i with
  | none=>rfl
  | some k =>
   obtain⟨hk,e⟩:=fV h
   have hm:(i,es[k].2)∈es:=by
    have:=x0h hk
    rwa[show es[k]=(i,es[k].2)from Prod.ext e rfl]at this
   have hr:=lg hg hlen hm
   simp only
   rw[x0f es k hk,pA hg hlen ab base f es[k].2 (by unfold rkO at *;omega) hr.2]
def tX(n:Nat)(es:List Edg)(ab:Nat->Int->Int)(base:Nat->Int)(i:Nat):Int:=gL es ab base n i
theorem pC(n:Nat){es:List Edg}(ab:Nat->Int->Int)(base:Nat->Int){i:Nat}(h:j5 es i=none):tX n es ab base i=base i:=by
 unfold tX
 cases n with
 | zero=>rfl
 | succ n=>rw[gL,h]
theorem pD{n:Nat}{es:List Edg}(hg:inG n es)(hlen:(bk n es).length=n)(ab:Nat->Int->Int)(base:Nat->Int){i k:Nat}(hi:rkO n es i<n)(h:j5 es i=some k):tX n es ab base i=ab k (tX n es ab base es[k]!.2):=by
 unfold tX
 rw[<- pA hg hlen ab base n i (by omega) hi,gL,h]
theorem so{es:List Edg}{ab:Nat->Int->Int}{base:Nat->Int}{Q:Nat->Nat->Int->Prop}(h0:∀f i,Q f i (base i))(h1:∀f i k (hk:k<es.length),es[k].1=i->∀v,Q f es[k].2 v->Q (f+1) i (ab k v)):∀f i,Q f i (gL es ab base f i)
 | 0,i=>h0 0 i
 | f+1,i=>by
  rw[gL]
  cases h:j5 es i with
  | none=>exact h0 _ i
  | some k =>
   obtain⟨hk,e⟩:=fV h
   simp only
   rw[x0f es k hk]
   exact h1 f i k hk e _ (so h0 h1 f es[k].2)
theorem pB{es:List Edg}{ab ab':Nat->Int->Int}{base base':Nat->Int}{Q:Nat->Nat->Int->Int->Prop}(h0:∀f i,Q f i (base i) (base' i))(h1:∀f i k (hk:k<es.length),es[k].1=i->∀v w,Q f es[k].2 v w->Q (f+1) i (ab k v) (ab' k w)):∀f i,Q f i (gL es ab base f i) (gL es ab' base' f i)
 | 0,i=>h0 0 i
 | f+1,i=>by
  rw[gL,gL]
  cases h:j5 es i with
  | none=>exact h0 _ i
  | some k =>
   obtain⟨hk,e⟩:=fV h
   simp only
   rw[x0f es k hk]
   exact h1 f i k hk e _ _ (pB h0 h1 f es[k].2)
end Go.Gv

namespace Go.Gv
def abL(ls:List Lnk)(ss:List Sec)(q:Nat->Int)(k:Nat)(v:Int):Int:=(bV ls[k]! ss[k]! (q k) v).1
structure TrO (ls:List Lnk) (ss:List Sec) (fh:Nat->Int):Prop where
 sec:∀k,k<ls.length->aq ss[k]! = true
 len:∀k,k<ls.length->1<=ls[k]!.len/\ls[k]!.len<=16777216
 fall:∀k,k<ls.length->ls[k]!.down<=ls[k]!.up
 up:∀k,k<ls.length->-4194304<=ls[k]!.up/\ls[k]!.up<=4194304
 flow:∀k,k<ls.length->fh k<=1099511627776
 loss:∀k,k<ls.length->(cf ls[k]! ss[k]! (fh k)).2=0
def lp(f:Nat)(v:Int):Prop:=-4194304<=v/\v<=8388608+(f:Int)*1073741824
theorem TrO.step{ls:List Lnk}{ss:List Sec}{fh:Nat->Int}(T:TrO ls ss fh){k:Nat}(hk:k<ls.length){q:Int}(h0:0<=q)(h1:q<=fh k){f:Nat}(hf:f<=400){v:Int}(hv:lp f v) :
  (bV ls[k]! ss[k]! q v).2=0/\v<=(bV ls[k]! ss[k]! q v).1/\lp (f+1) (bV ls[k]! ss[k]! q v).1:=by
 have hfl:=T.flow k hk
 obtain⟨v1,v2⟩:=hv
 have hm:(f:Int)*1073741824<=400*1073741824:=by omega
 have h:=xJ (v:=v) (T.sec k hk) (T.len k hk) (T.fall k hk) ⟨h0,by omega⟩ (wv h0 h1 (T.loss k hk)) (T.up k hk) (by omega)
 refine⟨h.1,h.2.1,by omega,?_⟩
 have h3:=h.2.2
 have hm2:((f+1:Nat):Int)*1073741824=(f:Int)*1073741824+1073741824:=by omega
 rw[hm2]
 unfold mxI at h3
 split at h3<;>omega
theorem TrO.rng{ls:List Lnk}{ss:List Sec}{fh:Nat->Int}(T:TrO ls ss fh){es:List Edg}(he:es.length=ls.length){q:Nat->Int}(h0:∀k,k<ls.length->0<=q k/\q k<=fh k){base:Nat->Int}(hb:∀i,-4194304<=base i/\base i<=8388608):∀f i,f<=400->lp f (gL es (abL ls ss q) base f i):=by
 refine so (Q:=fun f _ v=>f<=400->lp f v) (fun f i hf=>?_) (fun f i k hk e v ih hf=>?_)
 ·have:=hb i
  exact⟨this.1,by omega⟩
 ·have hk':k<ls.length:=by omega
  exact(T.step hk' (h0 k hk').1 (h0 k hk').2 (by omega) (ih (by omega))).2.2
theorem TrO.mono{ls:List Lnk}{ss:List Sec}{fh:Nat->Int}(T:TrO ls ss fh){es:List Edg}(he:es.length=ls.length){q q':Nat->Int}(h0:∀k,k<ls.length->0<=q k/\q k<=q' k/\q' k<=fh k){base base':Nat->Int}(hb:∀i,-4194304<=base i/\base i<=base' i/\base' i<=8388608) :
  ∀f i,f<=400->gL es (abL ls ss q) base f i<=gL es (abL ls ss q') base' f i:=by
 have key:∀f i,f<=400->lp f (gL es (abL ls ss q) base f i)/\lp f (gL es (abL ls ss q') base' f i)/\gL es (abL ls ss q) base f i<=gL es (abL ls ss q') base' f i:=by
  refine pB (Q:=fun f _ v w=>f<=400->lp f v/\lp f w/\v<=w) (fun f i hf=>?_) (fun f i k hk e v w ih hf=>?_)
  ·have:=hb i
   exact⟨⟨this.1,by omega⟩,⟨by omega,by omega⟩,this.2.1⟩
  ·have hk':k<ls.length:=by omega
   obtain⟨a1,a2,a3⟩:=h0 k hk'
   obtain⟨i1,i2,i3⟩:=ih (by omega)
   have s1:=T.step hk' a1 (by omega:q k<=fh k) (by omega) i1
   have s2:=T.step hk' (by omega:0<=q' k) a3 (by omega) i2
   have s3:=T.step hk' (by omega:0<=q' k) a3 (by omega) i1
   refine⟨s1.2.2,s2.2.2,?_⟩
   have m1:=ri (l:=ls[k]!) (s:=ss[k]!) (v:=v) a2 s1.1 s3.1
   have m2:=qd (l:=ls[k]!) (s:=ss[k]!) (f:=q' k) i3 s3.1 s2.1
   exact Int.le_trans m1 m2
 exact fun f i hf=>(key f i hf).2.2
end Go.Gv

namespace Go.Gv
structure TrS (n:Nat) (es:List Edg) (ls:List Lnk) (ss:List Sec) (fl:List (Int×Int)):Prop where
 ing:inG n es
 full:(bk n es).length=n
 nd:(es.map (·.1)).Nodup
 cnt:es.length=ls.length
 small:n<=300
 tro:TrO ls ss fun k=>fl[k]!.2
 low:∀k,k<ls.length->0<=fl[k]!.1/\fl[k]!.1<=fl[k]!.2
def ro(ns:List Nod)(h:Int)(i:Nat):Int:=mxI ns[i]!.invert h
def jm(n:Nat)(es:List Edg)(ns:List Nod)(ls:List Lnk)(ss:List Sec)(fl:List (Int×Int))(o:Int×Int)(i:Nat):Int×Int :=
 (tX n es (abL ls ss fun k=>fl[k]!.1) (ro ns o.1) i,tX n es (abL ls ss fun k=>fl[k]!.2) (ro ns o.2) i)
theorem FR{a b c d:Int}(h1:c<=a)(h2:a<=d)(h4:b<=d):c<=mxI a b/\mxI a b<=d:=by
 unfold mxI
 split<;>omega
theorem mZ{ns:List Nod}(hn:∀i:Nat,-4194304<=ns[i]!.invert/\ns[i]!.invert<=4194304){h:Int}(hh:h<=4194304)(i:Nat):-4194304<=ro ns h i/\ro ns h i<=8388608:=FR (hn i).1 (by have:=(hn i).2;omega) (by omega)
section
variable{n:Nat}{es:List Edg}{ns:List Nod}{ls:List Lnk}{ss:List Sec}{fl:List (Int×Int)}{o:Int×Int}
theorem qF(T:TrS n es ls ss fl)(hn:∀i:Nat,-4194304<=ns[i]!.invert/\ns[i]!.invert<=4194304)(ho:o.1<=o.2/\o.2<=4194304)(i:Nat):lp n (jm n es ns ls ss fl o i).1/\lp n (jm n es ns ls ss fl o i).2/\(jm n es ns ls ss fl o i).1<=(jm n es ns ls ss fl o i).2:=by
 have hs:=T.small
 have b1:=mZ hn (h:=o.1) (by omega)
 have b2:=mZ hn (h:=o.2) ho.2
 refine⟨T.tro.rng T.cnt (fun k hk=>⟨(T.low k hk).1,(T.low k hk).2⟩) b1 n i (by omega),T.tro.rng T.cnt (fun k hk=>⟨Int.le_trans (T.low k hk).1 (T.low k hk).2,x0F _⟩) b2 n i (by omega),?_⟩
 exact T.tro.mono T.cnt (fun k hk=>⟨(T.low k hk).1,(T.low k hk).2,x0F _⟩) (fun j=>⟨(b1 j).1,eu (x0F _) ho.1,(b2 j).2⟩) n i (by omega)
theorem pE{i:Nat}(h:j5 es i=none):jm n es ns ls ss fl o i=(ro ns o.1 i,ro ns o.2 i):=by
 unfold jm
 rw[pC n _ _ h,pC n _ _ h]
theorem pF(T:TrS n es ls ss fl)(hn:∀i:Nat,-4194304<=ns[i]!.invert/\ns[i]!.invert<=4194304)(ho:o.1<=o.2/\o.2<=4194304){i k:Nat}(hi:rkO n es i<n)(h:j5 es i=some k) :
  ∃w,w=es[k]!.2/\rkO n es i<rkO n es w/\rkO n es w<n /\
   (bV ls[k]! ss[k]! fl[k]!.1 (jm n es ns ls ss fl o w).1).2=0/\(bV ls[k]! ss[k]! fl[k]!.2 (jm n es ns ls ss fl o w).2).2=0 /\
   jm n es ns ls ss fl o i=((bV ls[k]! ss[k]! fl[k]!.1 (jm n es ns ls ss fl o w).1).1,(bV ls[k]! ss[k]! fl[k]!.2 (jm n es ns ls ss fl o w).2).1):=by
 obtain⟨hk,e⟩:=fV h
 have hk':k<ls.length:=by have:=T.cnt;omega
 have hm:(i,es[k].2)∈es:=by
  have:=x0h hk
  rwa[show es[k]=(i,es[k].2)from Prod.ext e rfl]at this
 have hr:=lg T.ing T.full hm
 have hw:es[k]!.2=es[k].2:=by rw[x0f es k hk]
 obtain⟨r1,r2,_⟩:=qF (ns:=ns) T hn ho es[k]!.2
 have hs:=T.small
 have s1:=T.tro.step hk' (T.low k hk').1 (T.low k hk').2 (by omega:n<=400) r1
 have s2:=T.tro.step hk' (Int.le_trans (T.low k hk').1 (T.low k hk').2) (x0F _) (by omega:n<=400) r2
 refine⟨es[k]!.2,rfl,by rw[hw];exact hr.1,by rw[hw];exact hr.2,s1.1,s2.1,?_⟩
 unfold jm
 rw[pD T.ing T.full _ _ hi h,pD T.ing T.full _ _ hi h]
 rfl
end
end Go.Gv

namespace Go.Gv
section
variable{n:Nat}{es:List Edg}{ns:List Nod}{ls:List Lnk}{ss:List Sec}{fl fl':List (Int×Int)}{o o':Int×Int}
theorem yS(T:TrS n es ls ss fl)(hn:∀i:Nat,-4194304<=ns[i]!.invert/\ns[i]!.invert<=4194304){a b:Int}(h1:a<=b)(h2:b<=4194304)(i:Nat) :
  (jm n es ns ls ss fl (a,a) i).1<=(jm n es ns ls ss fl (b,b) i).1/\(jm n es ns ls ss fl (a,a) i).2<=(jm n es ns ls ss fl (b,b) i).2:=by
 have hs:=T.small
 have b1:=mZ hn (h:=a) (by omega)
 have b2:=mZ hn (h:=b) h2
 exact⟨T.tro.mono T.cnt (fun k hk=>⟨(T.low k hk).1,x0F _,(T.low k hk).2⟩) (fun j=>⟨(b1 j).1,eu (x0F _) h1,(b2 j).2⟩) n i (by omega),
  T.tro.mono T.cnt (fun k hk=>⟨Int.le_trans (T.low k hk).1 (T.low k hk).2,x0F _,x0F _⟩) (fun j=>⟨(b1 j).1,eu (x0F _) h1,(b2 j).2⟩) n i (by omega)⟩
end
end Go.Gv

namespace Go.Gv
def fE(es:List Edg)(v:Nat):Option Nat:=es.findIdx? fun e=>e.1==v
def frI:Option Nat->Int
 | some i=>i
 | none=>-1
theorem BF{es:List Edg}{v i:Nat}(h:fE es v=some i):∃hi:i<es.length,es[i].1=v/\∀j (hj:j<i),¬es[j].1=v:=by
 unfold fE at h
 rw[x0O]at h
 obtain⟨h1,h2,h3⟩:=h
 exact⟨h1,by simpa using h2,fun j hj=>by simpa using h3 j hj⟩
theorem qr{es:List Edg}{v:Nat}:fE es v=none↔v∉es.map (·.1):=by
 unfold fE
 rw[x1Q]
 simp only[beq_eq_false_iff_ne,ne_eq,x0v,not_exists,not_and]
theorem BG{es:List Edg}{j:Nat}(hj:j<es.length)(v:Nat):fE (es.take (j+1)) v=(fE (es.take j) v).or (if es[j].1=v then some j else none):=by
 have hl:(es.take j).length=j:=by simp;omega
 unfold fE
 rw[x0u hj,List.findIdx?_append]
 congr 1
 by_cases h:es[j].1=v
 ·rw[if_pos h];simp[List.findIdx?_cons,h,hl]
 ·rw[if_neg h];simp[List.findIdx?_cons,h]
def frA(n:Nat)(es:List Edg)(j:Nat):List (List D):=(List.range n).map fun v=>[.int .i64 (frI (fE (es.take j) v))]
theorem yw(n:Nat)(es:List Edg):frA n es 0=List.replicate n [.int .i64 (-1)]:=by
 apply List.ext_getElem
 ·simp[frA]
 ·intro i h1 h2
  simp[frA,fE,frI]
theorem m3(n:Nat)(es:List Edg)(j:Nat):(frA n es j).length=n:=by simp[frA]
theorem qy{n v:Nat}(es:List Edg)(j:Nat)(h:v<n):(frA n es j)[v]? = some [.int .i64 (frI (fE (es.take j) v))]:=by simp[frA,h]
theorem BH{n:Nat}{es:List Edg}{j:Nat}(hj:j<es.length)(h:fE (es.take j) es[j].1=none):(frA n es j).set es[j].1 [.int .i64 (j:Int)]=frA n es (j+1):=by
 unfold frA
 rw[iL]
 apply x0i
 intro v _
 rw[BG hj]
 by_cases e:v=es[j].1
 ·subst e
  rw[if_pos rfl,h,if_pos rfl];rfl
 ·rw[if_neg e,if_neg (Ne.symm e),Option.or_none]
theorem Ca{es:List Edg}{j:Nat}(hj:j<es.length)(h:((es.take j).map (·.1)).Nodup):((es.take (j+1)).map (·.1)).Nodup↔fE (es.take j) es[j].1=none:=by
 rw[x0u hj,x1y,x1n,qr]
 simp only[x0I,x02,x0S,x1t,or_false,forall_eq,List.nodup_cons,not_false_eq_true,List.nodup_nil,and_self,true_and,h]
 constructor
 ·intro h1 h2;exact h1 _ h2 rfl
 ·rintro h1 a ha rfl;exact h1 ha
end Go.Gv

set_option maxRecDepth 4000
namespace Go.Gv
def iI(n m:Nat)(v:Int):List (List D):=List.replicate m [.int .i64 v]++List.replicate (n-m) [.int .i64 0]
theorem sK{n m:Nat}{v:Int}(h:m<=n):(iI n m v).length=n:=by simp[iI];omega
theorem ov(n m:Nat)(v:Int):∀e∈iI n m v,e.length=1/\∀c∈e,aI c=true:=by
 intro e he
 rcases x0p.1 he with h|h<;>(rw[(List.mem_replicate.1 h).2];simp[aI])
theorem pX(n m:Nat)(v:Int):∀e∈iI n m v,∀c∈e,aI c=true:=fun e he=>(ov n m v e he).2
theorem pW(n:Nat)(v:Int):iI n n v=List.replicate n [.int .i64 v]:=by simp[iI]
theorem pY{n m:Nat}{v:Int}(h:m<=n):i9 (iI n m v) m (((iI n m v).take m).take (n-m))=iI n (min n (m+m)) v:=by
 have h1:(iI n m v).take m=List.replicate m [.int .i64 v]:=by
  unfold iI
  rw[List.take_append_of_le_length (by simp)]
  simp
 rw[h1,List.take_replicate]
 unfold i9
 rw[h1,List.length_replicate]
 unfold iI
 rw[List.drop_append,List.drop_eq_nil_of_le (by simp),x1S,List.length_replicate,List.drop_replicate]
 have e1:min n (m+m)=m+min (n-m) m:=by omega
 rw[e1,<- List.replicate_append_replicate]
 congr 2
 omega
theorem uh{n:Nat}{v:Int}(h:0<n):i9 (List.replicate n [D.int .i64 0]) 0 ([[D.int .i64 v]].take n)=iI n 1 v:=by
 have:[[D.int .i64 v]].take n=[[.int .i64 v]]:=by
  rw[x0s (by simp;omega)]
 rw[this]
 unfold i9 iI
 simp
variable{C:CC}(hC:ay prog C)
include hC
theorem zU(v:Int)(n:Nat)(hn:n<2^40):C 315 [.sl [[.int .i64 v]],.int .i64 n] .any [.own 1 (List.replicate n [.int .i64 v])]:=by
 have k0:=iy hC 1 n (by omega) (by omega)
 have k1:C 333 [.int .u64 1,.int .u64 n] (.tup [.int .u64 0,.int .u64 n]) []:=by
  have e1:1*n/2^64=0:=by omega
  have e2:1*n%2^64=n:=by omega
  rw[e1,e2]at k0
  refine ai hC (nf:=N333) rfl rfl ?_
  simp[N333]
  simp at k0
  refine aa k0 (.inl rfl) ?_
  simp
 have w1:IntKind.wrap .u64 (n:Int)=n:=by
  have e:(2:Int)^IntKind.bits .u64=18446744073709551616:=by decide
  have e2:IntKind.signed .u64=false:=rfl
  simp only[IntKind.wrap,e,e2,x1q,x0m,if_false]
  omega
 have w2:IntKind.wrap .i64 (n:Int)=n:=wrap_i64 (by omega) (by omega)
 refine kE hC (nf:=N315) rfl rfl ?_
 have hn0:¬(n:Int)<0:=by omega
 have hn1:¬(9223372036854775807:Int)<n:=by omega
 have hn2:(n:Int)*8<=140737488355328:=by omega
 simp[N315,w1,hn0]
 refine aa k1 (.inl rfl) ?_
 simp[w2,hn1,hn2,aI]
 refine⟨fun h0=>?_,fun h0=>?_⟩
 ·refine au Nat (fun m=>[(7,.ref (.r 10112) 0 n),(8,.int .i64 m),(10112,.blk 1 (iI n m v))]) (fun m=>m<=n/\(0<n->0<m)) (fun m=>n-m) 0 ⟨by omega,by omega⟩ (by subst h0;simp[iI]) ?_
  rintro m ⟨hm,hm0⟩
  simp
  refine ac (fun h=>?_) (fun h=>?_)<;>simp at h
  ·have hm1:0<m:=hm0 (by omega)
   have hl:=sK (v:=v) hm
   have hnx:=pY (v:=v) hm
   have hc:=ov n m v
   have hc1:=pX n m v
   have hnm:¬n-m=0:=by omega
   have hpos:0<n-m:=by omega
   have htk:∀e∈(iI n m v).take m,∀c∈e,aI c=true:=fun e he=>hc1 e (x0H he)
   have hw:IntKind.wrap .i64 ((m:Int)+((min m (n-m):Nat):Int))=((min n (m+m):Nat):Int):=wrap_i64 (by omega) (by omega)
   simp[h,hl,hm,o4]
   try refine⟨htk,hm1,fun hz=>absurd hz hnm,fun _=>⟨hc1,htk,ao (by decide +kernel),min n (m+m),⟨by omega,fun _=>by omega⟩,by omega,hw,hnx⟩⟩
  ·have e:m=n:=by omega
   subst e
   simp[pW]
 ·rw[uh h0]
  have h01:min 1 n=1:=by omega
  refine au Nat (fun m=>[(7,.ref (.r 10112) 0 n),(8,.int .i64 m),(10112,.blk 1 (iI n m v))]) (fun m=>m<=n/\(0<n->0<m)) (fun m=>n-m) 1 ⟨by omega,by omega⟩ (by simp[h01]) ?_
  rintro m ⟨hm,hm0⟩
  simp
  refine ac (fun h=>?_) (fun h=>?_)<;>simp at h
  ·have hm1:0<m:=hm0 (by omega)
   have hl:=sK (v:=v) hm
   have hnx:=pY (v:=v) hm
   have hc:=ov n m v
   have hc1:=pX n m v
   have hnm:¬n-m=0:=by omega
   have hpos:0<n-m:=by omega
   have htk:∀e∈(iI n m v).take m,∀c∈e,aI c=true:=fun e he=>hc1 e (x0H he)
   have hw:IntKind.wrap .i64 ((m:Int)+((min m (n-m):Nat):Int))=((min n (m+m):Nat):Int):=wrap_i64 (by omega) (by omega)
   simp[h,hl,hm,o4]
   try refine⟨htk,hm1,fun hz=>absurd hz hnm,fun _=>⟨hc1,htk,ao (by decide +kernel),min n (m+m),⟨by omega,fun _=>by omega⟩,by omega,hw,hnx⟩⟩
  ·have e:m=n:=by omega
   subst e
   simp[pW]
end Go.Gv

namespace Go.Gv
variable{C:CC}(hC:ay prog C)
include hC
theorem zH(n:Int):C 507 [.int .i64 n] (.bool (aF n (-16777216) 16777216)) []:=by
 refine ai hC (nf:=N507) rfl rfl ?_
 simp[N507,aF]
 refine ac (fun h=>?_) (fun h=>?_)<;>simp at h<;>simp[h]<;>omega
theorem zK(b:Bool)(t:List (Int×Int))(hgt:Int):C 508 [slx b (t.map knD),.int .i64 hgt] (.bool (bH t hgt 1125899906842624)) []:=by
 refine ai hC (nf:=N508) rfl rfl ?_
 simp[N508]
 refine aa (oo hC b t) (.inl rfl) ?_
 cases hv:ar t
 ·simp[bH,hv]
 obtain⟨l1,l2⟩:=bu hv
 obtain⟨n,hn⟩:∃n,n+1=t.length:=⟨t.length-1,by omega⟩
 have e1:IntKind.wrap .i64 ((t.length:Int)-1)=(n:Int):=wrap_i64 (by omega) (by omega)
 have hnl:n<t.length:=by omega
 have h0:0<t.length:=by omega
 have e0:t[0]! = t[0]:=x0f t 0 h0
 rw[bH,cd hn,e0,hv]
 simp[e1,hnl,h0,knD]
 refine ac (fun c=>?_) (fun c=>?_)<;>simp at c
 ·simp[c,h0,knD]
  refine ac (fun c2=>?_) (fun c2=>?_)<;>simp at c2
  ·simp[c2]
   refine ac (fun c3=>?_) (fun c3=>?_)<;>simp at c3<;>simp[c3,c,c2]
  ·simp[c2]
 ·simp[c]
theorem FV(n:Nod):C 488 [.agg (aO n)] (.bool (fF n)) []:=by
 have k1:=fW hC n.name
 have k2:=zH hC n.x
 have k3:=zH hC n.y
 have k4:=lm hC n.invert
 have k5:=lm hC n.ground
 obtain⟨q,hq⟩:∃q,q=fF n:=⟨_,rfl⟩
 rw[<- hq]
 unfold fF at hq
 refine ai hC (nf:=N488) rfl rfl ?_
 simp[N488,aO]
 refine aa k1 (.inl rfl) ?_
 cases h1:bD n.name
 ·simp[hq,h1]
 simp
 refine aa k2 (.inl rfl) ?_
 cases h2:aF n.x (-16777216) 16777216
 ·simp[hq,h2]
 simp
 refine aa k3 (.inl rfl) ?_
 cases h3:aF n.y (-16777216) 16777216
 ·simp[hq,h3]
 simp
 refine aa k4 (.inl rfl) ?_
 cases h4:bn n.invert
 ·simp[hq,h4]
 simp
 refine aa k5 (.inl rfl) ?_
 cases h5:bn n.ground
 ·simp[hq,h5]
 simp
 rw[h1,h2,h3,h4,h5]at hq
 simp only[x0T]at hq
 have b1:-4194304<=n.invert/\n.invert<=4194304:=by simpa[bn]using h4
 have b2:-4194304<=n.ground/\n.ground<=4194304:=by simpa[bn]using h5
 have e1:IntKind.wrap .i64 (n.ground-n.invert)=n.ground-n.invert:=wrap_i64 rfl (by omega)
 by_cases hk3:n.kind=3
 ·rw[if_neg (by omega),if_pos hk3,u5]at hq
  simp[hk3]
  refine ac (fun c1=>?_) (fun c1=>?_)<;>simp at c1
  ·simp[c1]
   refine ac (fun c2=>?_) (fun c2=>?_)<;>simp at c2
   ·cases c3:n.prot
    ·simp[hq,c1,c2,c3]
    ·simp[hq,c2,c3]
   ·simp[hq,c2]
  ·have:¬n.invert<=n.ground:=by omega
   simp[hq,this]
 ·by_cases hk:n.kind=1\/n.kind=2
  ·rw[if_pos hk,ly]at hq
   have kb:=zK hC n.shapeN n.shape (n.ground-n.invert)
   rcases hk with hk|hk
   ·simp[hk]
    refine ac (fun c1=>?_) (fun c1=>?_)<;>simp at c1
    ·simp[c1,hq]
    have c1':¬n.ground<=n.invert:=by omega
    simp[c1',e1]
    refine aa kb (.inl rfl) ?_
    cases c2:bH n.shape (n.ground-n.invert) 1125899906842624
    ·simp[hq,c2]
    simp[hk]
    cases c3:n.prot
    ·simp[hq,c1',c2,c3,hk]
    ·simp[hq,c3,hk]
     exact ao (by decide +kernel)
   ·simp[hk]
    refine ac (fun c1=>?_) (fun c1=>?_)<;>simp at c1
    ·simp[c1,hq]
    have c1':¬n.ground<=n.invert:=by omega
    simp[c1',e1]
    refine aa kb (.inl rfl) ?_
    cases c2:bH n.shape (n.ground-n.invert) 1125899906842624
    ·simp[hq,c2]
    simp[hk]
    cases c3:n.prot
    ·simp[hq,c1',c2,c3,hk]
    have hv:ar n.shape=true:=by
     simp only[bH,x0a]at c2
     exact c2.1.1.1
    obtain⟨l1,l2⟩:=bu hv
    obtain⟨m,hm⟩:∃m,m+1=n.shape.length:=⟨n.shape.length-1,by omega⟩
    have e2:IntKind.wrap .i64 ((n.shape.length:Int)-1)=(m:Int):=wrap_i64 (by omega) (by omega)
    have hml:m<n.shape.length:=by omega
    have e3:=cd hm
    by_cases c4:0<=n.reserve
    ·simp[hq,c1',c2,c3,c4,hk,e2,hml,knD,e3,aF]
     exact ao (by decide +kernel)
    ·simp[hq,c1',c2,c3,c4,hk,e2,hml,knD,e3,aF]
     exact ao (by decide +kernel)
  ·rw[if_neg hk,if_neg hk3]at hq
   have a1:¬n.kind=1:=fun e=>hk (.inl e)
   have a2:¬n.kind=2:=fun e=>hk (.inr e)
   simp[hk3,a1,a2,hq]
theorem fk(b1 b2:Bool)(ns:List Nod)(ls:List Lnk)(nm:List UInt8)(hn:ns.length<2^62):C 462 [.agg [slx b1 (ns.map aO),slx b2 (ls.map aA)],.str nm] (.int .i64 (bj (bq nm) ns)) []:=by
 refine ai hC (nf:=N462) rfl rfl ?_
 simp[N462]
 refine au Nat (fun i=>[(1,.str nm),(2,.ptr [slx b1 (ns.map aO),slx b2 (ls.map aA)]),(5,.int .i64 i)]) (fun i=>i<=ns.length/\∀(j:Nat) (h:j<ns.length),j<i->bq nm ns[j]=false) (fun i=>ns.length-i) 0 (by simp) (by simp) ?_
 rintro i ⟨hi,hj⟩
 simp
 refine ac (fun h=>?_) (fun h=>?_)<;>simp[h]<;>simp at h
 ·have hw:IntKind.wrap .i64 ((i:Int)+1)=((i+1:Nat):Int):=wrap_i64 (by omega) (by omega)
  simp[h,aO]
  refine ac (fun h1=>?_) (fun h1=>?_)<;>simp at h1<;>simp[h1,hw]
  ·rw[cC hj h (by simpa[bq]using h1)]
  ·refine⟨i+1,⟨by omega,fun j hl hjj=>?_⟩,by omega,rfl⟩
   rcases x0k.1 hjj with h2|rfl
   ·exact hj j hl h2
   ·simpa[bq]using h1
 ·rw[cJ (fun j hl=>hj j hl (by omega))]
theorem Co(b1 b2:Bool)(ns:List Nod)(ls:List Lnk)(nm:List UInt8)(hn:ls.length<2^62):C 467 [.agg [slx b1 (ns.map aO),slx b2 (ls.map aA)],.str nm] (.int .i64 (bj (jj nm) ls)) []:=by
 refine ai hC (nf:=N467) rfl rfl ?_
 simp[N467]
 refine au Nat (fun i=>[(1,.str nm),(2,.ptr [slx b1 (ns.map aO),slx b2 (ls.map aA)]),(5,.int .i64 i)]) (fun i=>i<=ls.length/\∀(j:Nat) (h:j<ls.length),j<i->jj nm ls[j]=false) (fun i=>ls.length-i) 0 (by simp) (by simp) ?_
 rintro i ⟨hi,hj⟩
 simp
 refine ac (fun h=>?_) (fun h=>?_)<;>simp[h]<;>simp at h
 ·have hw:IntKind.wrap .i64 ((i:Int)+1)=((i+1:Nat):Int):=wrap_i64 (by omega) (by omega)
  simp[h,aA]
  refine ac (fun h1=>?_) (fun h1=>?_)<;>simp at h1<;>simp[h1,hw]
  ·rw[cC hj h (by simpa[jj]using h1)]
  ·refine⟨i+1,⟨by omega,fun j hl hjj=>?_⟩,by omega,rfl⟩
   rcases x0k.1 hjj with h2|rfl
   ·exact hj j hl h2
   ·simpa[jj]using h1
 ·rw[cJ (fun j hl=>hj j hl (by omega))]
theorem zA(b1 b2:Bool)(ns:List Nod)(ls:List Lnk)(hv:bG ns ls=true):C 429 [.agg [slx b1 (ns.map aO),slx b2 (ls.map aA)]] (.sl ((av ns ls).map edK)) []:=by
 obtain⟨hl1,hl2⟩:=bR hv
 refine ai hC (nf:=N429) rfl rfl ?_
 simp[N429]
 refine au Nat (fun j=>[(1,.ptr [slx b1 (ns.map aO),slx b2 (ls.map aA)]),(3,.ref (.r 10048) 0 j),(10048,.blk 2 (edT (av ns ls) j)),(4,.int .i64 j)]) (fun j=>j<=ls.length) (fun j=>ls.length-j) 0 (by simp) (by simp) ?_
 rintro j hj
 simp
 refine ac (fun h=>?_) (fun h=>?_)<;>simp[h]<;>simp at h
 ·have hw:IntKind.wrap .i64 ((j:Int)+1)=((j+1:Nat):Int):=wrap_i64 (by omega) (by omega)
  obtain⟨_,_,g1,g2⟩:=eX hv h
  have k1:=fk hC b1 b2 ns ls ls[j].src (by omega)
  have k2:=fk hC b1 b2 ns ls ls[j].dst (by omega)
  have hjl:j<(av ns ls).length:=by rw[aM];exact h
  have el:=jG (es:=av ns ls) (j:=j) (by omega)
  simp[h,aA,el]
  refine aa k1 (.inl rfl) ?_
  simp[h,aA]
  refine aa k2 (.inl rfl) ?_
  simp[el]
  refine⟨by omega,ao (by decide +kernel),j+1,by omega,by omega,rfl,?_,hw⟩
  have e2:(edT (av ns ls) j).take j=edT (av ns ls) j:=x0s (by omega)
  rw[e2,nE hjl]
  congr 2
  simp only[av,x1N,edK,knD]
  rw[x1X g1,x1X g2]
 ·have ej:j=ls.length:=by omega
  subst ej
  have e0:=qp (av ns ls)
  have el:=jG (es:=av ns ls) (j:=ls.length) (by rw[aM];exact x0r _)
  rw[aM]at e0
  simp[DG,el]
  rw[<- e0,x0s (by omega)]
end Go.Gv

namespace Go.Gv
def eM(n:Nat)(out:List Nat):List (List D):=(List.range n).map fun v=>[.bool (decide (v∈out))]
theorem jR{n v:Nat}(out:List Nat)(h:v<n):(eM n out)[v]? = some [.bool (decide (v∈out))]:=by simp[eM,h]
theorem p7{n:Nat}(out:List Nat)(v:Nat):(eM n out).set v [.bool true]=eM n (out++[v]):=by
 unfold eM
 rw[iL]
 apply x0i
 intro u _
 by_cases e:u=v<;>simp[e]
def dA(es:List Edg)(out:List Nat):Nat->Int
 | 0=>-1
 | v+1=>if dA es out v<0 then(if !out.contains v&&gg es out v then(v:Int) else -1) else dA es out v
theorem nT{es:List Edg}{out:List Nat}:∀{v:Nat},dA es out v<0->cL v es out=[]
 | 0,_=>by simp[cL]
 | v+1,h=>by
  unfold dA at h
  by_cases h1:dA es out v<0
  ·rw[if_pos h1]at h
   have ih:=nT h1
   unfold cL at ih ⊢
   rw[x1G,List.filter_append,ih]
   by_cases h2:(!out.contains v&&gg es out v)=true
   ·rw[if_pos h2]at h;omega
   ·simp only[List.filter_cons,h2,List.filter_nil,x1R];rfl
  ·rw[if_neg h1]at h
   exact absurd h h1
theorem nU{es:List Edg}{out:List Nat}:∀{v:Nat},0<=dA es out v->∃(i:Nat) (r:List Nat),dA es out v=i/\cL v es out=i::r/\i<v
 | 0,h=>by simp[dA]at h
 | v+1,h=>by
  by_cases h1:dA es out v<0
  ·have ih:=nT h1
   unfold dA at h ⊢
   rw[if_pos h1]at h ⊢
   by_cases h2:(!out.contains v&&gg es out v)=true
   ·rw[if_pos h2]
    refine⟨v,[],rfl,?_,by omega⟩
    unfold cL at ih ⊢
    rw[x1G,List.filter_append,ih]
    simp only[List.filter_cons,h2,List.filter_nil,x1S];rfl
   ·rw[if_neg h2]at h;omega
  ·obtain⟨i,r,e1,e2,e3⟩:=nU (v:=v) (es:=es) (out:=out) (by omega)
   unfold dA
   rw[if_neg h1]
   refine⟨i,r++(([v]).filter fun u=>!out.contains u&&gg es out u),e1,?_,by omega⟩
   unfold cL at e2 ⊢
   rw[x1G,List.filter_append,e2]
   rfl
def prT(es:List Edg)(out:List Nat)(v j:Nat):Bool:=gg (es.take j) out v
theorem y9{es:List Edg}{out:List Nat}{v j:Nat}(h:j<es.length):prT es out v (j+1)=(prT es out v j&&!(decide (es[j].2=v)&&!decide (es[j].1∈out))):=by
 unfold prT gg
 rw[x0u h,List.all_append]
 congr 1
 by_cases a:es[j].2=v<;>by_cases b:es[j].1∈out<;>simp[a,b]
theorem Ck(es:List Edg)(out:List Nat)(v:Nat):prT es out v es.length=gg es out v:=by simp[prT]
variable{C:CC}(hC:ay prog C)
include hC
theorem pV(b1 b2:Bool)(ns:List Nod)(ls:List Lnk):C 458 [.agg [slx b1 (ns.map aO),slx b2 (ls.map aA)]] (.bool (bG ns ls)) []:=by
 obtain⟨r,hr⟩:∃r,r=bG ns ls:=⟨_,rfl⟩
 rw[<- hr]
 unfold bG at hr
 refine ai hC (nf:=N458) rfl rfl ?_
 simp[N458]
 by_cases c:(300:Int)<ns.length
 ·simp[c,hr,show ¬ns.length<=300 by omega]
 by_cases c2:(400:Int)<ls.length
 ·simp[c,c2,hr,show ¬ls.length<=400 by omega]
 simp[c,c2]
 rw[decide_eq_true (show ns.length<=300 by omega),decide_eq_true (show ls.length<=400 by omega)]at hr
 simp only[x0T]at hr
 have badN:∀i,i<ns.length->gz ns i=false->r=false:=fun i hi h=>by
  rw[hr,x1f]
  exact .inl (x1F.2 ⟨i,by simpa using hi,by simp[h]⟩)
 have badL:∀i,i<ls.length->dt ns ls i=false->r=false:=fun i hi h=>by
  rw[hr,x1f]
  exact .inr (x1F.2 ⟨i,by simpa using hi,by simp[h]⟩)
 refine au Nat (fun i=>[(1,.ptr [slx b1 (ns.map aO),slx b2 (ls.map aA)]),(3,.int .i64 i)]) (fun i=>i<=ns.length/\∀j<i,gz ns j=true) (fun i=>ns.length-i) 0 (by simp) (by simp) ?_
 rintro i ⟨hi,hj⟩
 simp
 refine ac (fun h=>?_) (fun h=>?_)<;>simp at h<;>simp[h]
 ·have hw:IntKind.wrap .i64 ((i:Int)+1)=((i+1:Nat):Int):=wrap_i64 (by omega) (by omega)
  have bad:=badN i h
  have e1:ns[i]! = ns[i]:=x0f ns i h
  simp only[gz,e1]at bad
  have k1:=FV hC ns[i]
  have k2:=fk hC b1 b2 ns ls ns[i].name (by omega)
  simp only[aO]at k1
  simp[aO,h]
  refine aa k1 (.inl rfl) ?_
  cases g1:fF ns[i]
  ·simp
   refine⟨ao (by decide +kernel),?_⟩
   exact bad (by simp[g1])
  simp[aO,h]
  refine aa k2 (.inl rfl) ?_
  simp
  refine⟨ao (by decide +kernel),?_⟩
  refine ac (fun g2=>?_) (fun g2=>?_)<;>simp at g2<;>simp[g2]
  ·exact bad (by simp[g2])
  ·simp[hw]
   refine⟨i+1,⟨by omega,fun k hk=>?_⟩,by omega,by simp⟩
   rcases x0k.1 hk with h5|rfl
   ·exact hj k h5
   ·simp[gz,e1,g1,g2]
 have hall:(List.range ns.length).all (gz ns)=true:=by
  rw[x0g]
  intro k hk
  exact hj k (by simp at hk;omega)
 rw[hall,x0T]at hr
 clear badN hall hj
 refine au Nat (fun i=>[(1,.ptr [slx b1 (ns.map aO),slx b2 (ls.map aA)]),(4,.int .i64 i)]) (fun i=>i<=ls.length/\∀j<i,dt ns ls j=true) (fun i=>ls.length-i) 0 (by simp) (by simp) ?_
 clear h hi i
 rintro i ⟨hi,hj⟩
 simp
 refine ac (fun h=>?_) (fun h=>?_)<;>simp at h<;>simp[h]
 ·have hw:IntKind.wrap .i64 ((i:Int)+1)=((i+1:Nat):Int):=wrap_i64 (by omega) (by omega)
  have bad:=badL i h
  have e1:ls[i]! = ls[i]:=x0f ls i h
  simp only[dt,e1]at bad
  have k1:=BT hC ls[i]
  rw[yJ]at k1
  have k2:=Co hC b1 b2 ns ls ls[i].name (by omega)
  have k3:=fk hC b1 b2 ns ls ls[i].src (by omega)
  have k4:=fk hC b1 b2 ns ls ls[i].dst (by omega)
  have next:dt ns ls i=true->∃s':Nat,(s'<=ls.length/\∀j<s',dt ns ls j=true)/\ls.length-s'<ls.length-i/\(i:Int)+1=s':=fun hl=>by
   refine⟨i+1,⟨by omega,fun k hk=>?_⟩,by omega,by simp⟩
   rcases x0k.1 hk with h5|rfl
   ·exact hj k h5
   ·exact hl
  simp only[dt,e1]at next
  simp only[aA]at k1
  simp[aA,h]
  refine aa k1 (.inl rfl) ?_
  cases g1:cr ls[i]
  ·simp
   exact bad (by simp[g1])
  simp
  refine aa k2 (.inl rfl) ?_
  simp
  refine ac (fun g2=>?_) (fun g2=>?_)<;>simp at g2<;>simp[g2]
  ·exact bad (by simp[g2])
  refine aa k4 (.inl rfl) ?_
  simp
  refine ac (fun g4=>?_) (fun g4=>?_)<;>simp at g4<;>simp[g4]
  ·exact bad (by simp[show ¬0<=bj (bq ls[i].dst) ns by omega])
  have g4':¬bj (bq ls[i].dst) ns<0:=by omega
  refine aa k3 (.inl rfl) ?_
  simp
  by_cases g3:bj (bq ls[i].src) ns<0
  ·simp[g3]
   exact bad (by simp[gJ,show ¬0<=bj (bq ls[i].src) ns by omega])
  have g3':0<=bj (bq ls[i].src) ns:=by omega
  have hf:=jI g3'
  obtain⟨f,hfe⟩:=x1V g3'
  rw[hfe]at hf ⊢
  simp at hf
  have e2:ns[f]! = ns[f]:=x0f ns f hf
  have hfo:gJ ns ls[i].src=!decide (ns[f].kind=3):=by
   simp[gJ,hfe,e2]
  have g3'':¬(f:Int)<0:=by omega
  simp[hf,aO,g3'']
  refine ac (fun g5=>?_) (fun g5=>?_)<;>simp at g5<;>simp[g5]
  ·exact bad (by simp[hfo,g5])
  ·simp[hw]
   exact next (by simp[hfo,g5,g1,g2,g4])
 ·have hall:(List.range ls.length).all (dt ns ls)=true:=by
   rw[x0g]
   intro k hk
   exact hj k (by simp at hk;omega)
  rw[hr,hall]
end Go.Gv

namespace Go.Gv
theorem pz{es:List Edg}{out:List Nat}{v:Nat}(h:0<=dA es out v):∀k,dA es out (v+k)=dA es out v
 | 0=>rfl
 | k+1=>by
  have ih:=pz h k
  show dA es out (v+k+1)=_
  unfold dA
  rw[ih,if_neg (by omega)]
  cases v with
  | zero=>rfl
  | succ v=>rfl
theorem uW{es:List Edg}{out:List Nat}:∀{v:Nat},dA es out v<0->dA es out v=-1
 | 0,_=>rfl
 | v+1,h=>by
  unfold dA at h ⊢
  by_cases h1:dA es out v<0
  ·rw[if_pos h1]at h ⊢
   split at h
   ·omega
   ·rename_i h2;rw[if_neg h2]
  ·rw[if_neg h1]at h;exact absurd h h1
def va(n:Nat)(es:List Edg):D:=if (bk n es).length=n then ndD (bk n es) else .nils
variable{C:CC}(hC:ay prog C)
include hC
theorem wT{b:Bool}{n:Nat}{es:List Edg}(hn:n<=300)(he:es.length<=1000)(hg:inG n es):C 489 [.int .i64 n,slx b (es.map edK)] (.bool true) []:=by
 refine ai hC (nf:=N489) rfl rfl ?_
 simp[N489]
 have a1:¬(n:Int)<0:=by omega
 have a2:¬(300:Int)<n:=by omega
 have a3:¬(1000:Int)<es.length:=by omega
 simp[a1,a2,a3]
 refine au Nat (fun j=>[(0,.int .i64 n),(1,slx b (es.map edK)),(5,.int .i64 j)]) (fun j=>j<=es.length) (fun j=>es.length-j) 0 (by simp) (by simp) ?_
 rintro j hj
 simp
 refine ac (fun h=>?_) (fun h=>?_)<;>simp[h]<;>simp at h
 ·have hw:IntKind.wrap .i64 ((j:Int)+1)=((j+1:Nat):Int):=wrap_i64 (by omega) (by omega)
  obtain⟨g1,g2⟩:=hg _ (x0h h)
  have b1:¬(es[j].1:Int)<0:=by omega
  have b2:¬(n:Int)<=es[j].1:=by omega
  have b3:¬(es[j].2:Int)<0:=by omega
  have b4:¬(n:Int)<=es[j].2:=by omega
  simp[h,edK,knD,b1,b2,b3,b4,hw,show ¬n<=es[j].1 by omega,show ¬n<=es[j].2 by omega]
  exact⟨j+1,by omega,by omega,by omega⟩
set_option maxHeartbeats 1000000 in
theorem wR{b:Bool}{n:Nat}{es:List Edg}(hn:n<=300)(he:es.length<=1000)(hg:inG n es):C 490 [.int .i64 n,slx b (es.map edK)] (.tup [va n es,.bool (decide ((bk n es).length=n))]) []:=by
 refine ai hC (nf:=N490) rfl rfl ?_
 simp[N490]
 refine⟨by omega,?_⟩
 refine au Nat (fun m=>[(0,.int .i64 n),(1,slx b (es.map edK)),(6,.ref (.r 10096) 0 n),(10096,.blk 1 (eM n (aH n es m))),(7,.ref (.r 10112) 0 m),(10112,.blk 1 (a8 (aH n es m)))]) (fun m=>(aH n es m).length=m) (fun m=>n-m) 0 (by simp[aH]) (by simp[aH,a8,eM,jN]) ?_
 rintro m hm
 have hI:=gN n es m
 have hmn:=hI.len
 simp
 refine ac (fun h=>?_) (fun h=>?_)<;>simp at h
 ·simp[h]
  refine au Nat (fun v=>[(0,.int .i64 n),(1,slx b (es.map edK)),(6,.ref (.r 10096) 0 n),(10096,.blk 1 (eM n (aH n es m))),(7,.ref (.r 10112) 0 m),(10112,.blk 1 (a8 (aH n es m))),(8,.int .i64 (dA es (aH n es m) v)),(9,.int .i64 v)]) (fun v=>v<=n) (fun v=>n-v) 0 (by simp) (by simp[dA]) ?_
  rintro v hv
  simp
  by_cases g1:v<n
  ·by_cases g2:dA es (aH n es m) v<0
   ·have hw:IntKind.wrap .i64 ((v:Int)+1)=((v+1:Nat):Int):=wrap_i64 (by omega) (by omega)
    simp[g1,g2,aG (jR _ g1)]
    refine ac (fun c=>?_) (fun c=>?_)<;>simp at c<;>simp[c]
    ·have e1:dA es (aH n es m) (v+1)=-1:=by rw[dA,if_pos g2,if_neg (by simp[c])]
     exact⟨v+1,by omega,by omega,by rw[e1,uW g2],hw⟩
    ·refine au Nat (fun j=>[(0,.int .i64 n),(1,slx b (es.map edK)),(6,.ref (.r 10096) 0 n),(10096,.blk 1 (eM n (aH n es m))),(7,.ref (.r 10112) 0 m),(10112,.blk 1 (a8 (aH n es m))),(8,.int .i64 (dA es (aH n es m) v)),(9,.int .i64 v),(10,.bool (prT es (aH n es m) v j)),(11,.int .i64 j)]) (fun j=>j<=es.length) (fun j=>es.length-j) 0 (by simp) (by simp[prT,gg]) ?_
     rintro j hj
     simp
     refine ac (fun k=>?_) (fun k=>?_)<;>simp at k<;>simp[k]
     ·have hw2:IntKind.wrap .i64 ((j:Int)+1)=((j+1:Nat):Int):=wrap_i64 (by omega) (by omega)
      obtain⟨i1,i2⟩:=hg _ (x0h k)
      have es1:=y9 (out:=aH n es m) (v:=v) k
      have p1:(eM n (aH n es m))[es[j].1]? = some [.bool (decide (es[j].1∈aH n es m))]:=jR _ i1
      by_cases k1:es[j].2=v
      ·have k1i:(es[j].2:Int)=v:=by omega
       by_cases k2:es[j].1∈aH n es m
       ·have e3:prT es (aH n es m) v (j+1)=prT es (aH n es m) v j:=by rw[es1];simp[k2]
        simp[k,edK,knD,k1,k1i,i1,aG p1,k2,hw2]
        exact⟨j+1,by omega,by omega,e3.symm,by omega⟩
       ·have e3:prT es (aH n es m) v (j+1)=false:=by rw[es1];simp[k1,k2]
        simp[k,edK,knD,k1,k1i,i1,aG p1,k2,hw2]
        exact⟨j+1,by omega,by omega,e3,by omega⟩
      ·have k1i:¬(es[j].2:Int)=v:=by omega
       have e3:prT es (aH n es m) v (j+1)=prT es (aH n es m) v j:=by rw[es1];simp[k1]
       simp[k,edK,knD,k1,k1i,hw2]
       exact⟨j+1,by omega,by omega,by rw[e3],by omega⟩
     ·have ej:j=es.length:=by omega
      subst ej
      rw[Ck]
      cases hp:gg es (aH n es m) v
      ·simp[hw]
       have e1:dA es (aH n es m) (v+1)=-1:=by rw[dA,if_pos g2,if_neg (by simp[hp])]
       exact⟨v+1,by omega,by omega,by rw[e1,uW g2],by omega⟩
      ·simp[hw]
       have e1:dA es (aH n es m) (v+1)=v:=by rw[dA,if_pos g2,if_pos (by simp[hp,c])]
       exact⟨v+1,by omega,by omega,by rw[e1],by omega⟩
   ·have e1:dA es (aH n es m) n=dA es (aH n es m) v:=by
     have:=pz (es:=es) (out:=aH n es m) (v:=v) (by omega) (n-v)
     rwa[show v+(n-v)=n by omega]at this
    obtain⟨i,r,e2,e3,e4⟩:=nU (v:=n) (es:=es) (out:=aH n es m) (by omega)
    have eN:=ii e3
    have e5:(a8 (aH n es m)).take m=a8 (aH n es m):=x0s (by rw[a7];omega)
    rw[e1]at e2
    have hlt:¬(i:Int)<0:=by omega
    have hsl:(eM n (aH n es m)).length=n:=by simp[eM]
    have hst:(eM n (aH n es m)).set i [.bool true]=eM n (aH n es (m+1)):=by rw[p7,eN]
    simp[g1,e2,hlt,e4,jR _ e4,a7,hm]
    refine⟨by omega,m+1,by rw[eN];simp[hm],by omega,?_⟩
    rw[e5,gZ,<- eN,hst]
    simp
  ·have ev:v=n:=by omega
   rw[ev]
   by_cases g2:dA es (aH n es m) n<0
   ·have e3:=nT g2
    have eF:=u2 hm e3
    simp[g2]
    rw[va,eF,hm,if_neg (by omega)]
    simp
    omega
   ·obtain⟨i,r,e2,e3,e4⟩:=nU (v:=n) (es:=es) (out:=aH n es m) (by omega)
    have eN:=ii e3
    have e5:(a8 (aH n es m)).take m=a8 (aH n es m):=x0s (by rw[a7];omega)
    have hlt:¬(i:Int)<0:=by omega
    have hsl:(eM n (aH n es m)).length=n:=by simp[eM]
    have hst:(eM n (aH n es m)).set i [.bool true]=eM n (aH n es (m+1)):=by rw[p7,eN]
    simp[e2,hlt,e4,jR _ e4,a7,hm]
    refine⟨by omega,m+1,by rw[eN];simp[hm],by omega,?_⟩
    rw[e5,gZ,<- eN,hst]
    simp
 ·have em:n=m:=by omega
  subst em
  have e1:(a8 (aH n es n)).map (fun e=>e.map aT)=a8 (aH n es n):=by simp[a8,aT]
  have e2:(a8 (aH n es n)).take n=a8 (aH n es n):=x0s (by rw[a7];omega)
  have e3:(bk n es).length=n:=hm
  simp
  rw[e1,e2,va,if_pos e3,a7]
  exact⟨by omega,rfl,e3⟩
theorem zX{b:Bool}{n:Nat}{es:List Edg}(hn:n<=300)(he:es.length<=1000)(hg:inG n es):C 459 [.int .i64 n,slx b (es.map edK)] (.bool (cP n es)) []:=by
 have k1:=wT hC (b:=b) hn he hg
 have k2:=wR hC (b:=b) hn he hg
 obtain⟨r,hr⟩:∃r,r=cP n es:=⟨_,rfl⟩
 rw[<- hr]
 unfold cP at hr
 refine ai hC (nf:=N459) rfl rfl ?_
 simp[N459]
 refine aa k1 (.inl rfl) ?_
 simp
 refine au Nat (fun j=>[(0,.int .i64 n),(1,slx b (es.map edK)),(5,.int .i64 j)]) (fun j=>j<=es.length/\(iS es j).Nodup) (fun j=>es.length-j) 0 (by simp) (by simp) ?_
 rintro j ⟨hj,hnd⟩
 simp
 refine ac (fun h=>?_) (fun h=>?_)<;>simp[h]<;>simp at h
 ·have hw:IntKind.wrap .i64 ((j:Int)+1)=((j+1:Nat):Int):=wrap_i64 (by omega) (by omega)
  refine au Nat (fun k=>[(0,.int .i64 n),(1,slx b (es.map edK)),(5,.int .i64 j),(6,.int .i64 k)]) (fun k=>k<=j/\es[j].1∉iS es k) (fun k=>j-k) 0 (by simp) (by simp) ?_
  rintro k ⟨hk,hnk⟩
  simp
  refine ac (fun g=>?_) (fun g=>?_)<;>simp[g]<;>simp at g
  ·have hw2:IntKind.wrap .i64 ((k:Int)+1)=((k+1:Nat):Int):=wrap_i64 (by omega) (by omega)
   have hkl:k<es.length:=by omega
   simp[h,hkl,edK,knD]
   refine⟨ao (by decide +kernel),?_⟩
   refine ac (fun c=>?_) (fun c=>?_)<;>simp at c<;>simp[c]
   ·have c':es[j].1=es[k].1:=by omega
    have hbad:¬(iS es (j+1)).Nodup:=by
     rw[fY h,x1n]
     rintro⟨_,_,h3⟩
     refine h3 es[k].1 ?_ _ (by simp) c'.symm
     unfold iS
     rw[x0v]
     exact⟨es[k],by rw[List.mem_take_iff_getElem];exact⟨k,by omega,rfl⟩,rfl⟩
    simp[hr,vr hbad]
   ·have c':¬es[j].1=es[k].1:=by omega
    simp[hw2]
    refine⟨k+1,⟨by omega,?_⟩,by omega,by omega⟩
    rw[fY hkl]
    simp[hnk,c']
  ·have ek:k=j:=by omega
   subst ek
   have hnd2:(iS es (k+1)).Nodup:=by
    rw[fY h,x1n]
    refine⟨hnd,by simp,fun a ha b hb=>?_⟩
    simp at hb
    subst hb
    rintro rfl
    exact hnk ha
   simp[hw]
   exact⟨k+1,⟨by omega,hnd2⟩,by omega,by omega⟩
 ·have ej:j=es.length:=by omega
  rw[ej,sX]at hnd
  refine aa k2 (.inr rfl) ?_
  unfold va ndD
  split<;>simp[hr,hnd]
theorem vb(b1 b2:Bool)(ns:List Nod)(ls:List Lnk):C 427 [.agg [slx b1 (ns.map aO),slx b2 (ls.map aA)]] (.bool (cB ns ls)) []:=by
 have k1:=pV hC b1 b2 ns ls
 obtain⟨r,hr⟩:∃r,r=cB ns ls:=⟨_,rfl⟩
 rw[<- hr]
 unfold cB at hr
 refine ai hC (nf:=N427) rfl rfl ?_
 simp[N427]
 refine aa k1 (.inl rfl) ?_
 cases hv:bG ns ls
 ·simp[hr,hv]
 obtain⟨l1,l2⟩:=bR hv
 have k2:=zA hC b1 b2 ns ls hv
 have k3:=zX hC (b:=false) (n:=ns.length) (es:=av ns ls) l1 (by rw[aM];omega) (fj hv)
 rw[hv,x0T]at hr
 simp
 refine au Nat (fun j=>[(1,.ptr [slx b1 (ns.map aO),slx b2 (ls.map aA)]),(3,.int .i64 j)]) (fun j=>j<=ls.length/\∀k,(h:k<ls.length)->k<j->ls[k].kind=1) (fun j=>ls.length-j) 0 (by simp) (by simp) ?_
 rintro j ⟨hj,hok⟩
 simp
 refine ac (fun h=>?_) (fun h=>?_)<;>simp[h]<;>simp at h
 ·have hw:IntKind.wrap .i64 ((j:Int)+1)=((j+1:Nat):Int):=wrap_i64 (by omega) (by omega)
  simp[h,aA]
  refine ac (fun c=>?_) (fun c=>?_)<;>simp at c<;>simp[c]
  ·have:ls.all (fun l=>decide (l.kind=1))=false:=by
    rw[x1F]
    exact⟨ls[j],x0h h,by simpa using c⟩
   rw[this]at hr
   simpa using hr
  ·simp[hw]
   refine⟨j+1,⟨by omega,fun k hk1 hk2=>?_⟩,by omega,by omega⟩
   rcases x0k.1 hk2 with h2|rfl
   ·exact hok k hk1 h2
   ·exact c
 ·have hall:ls.all (fun l=>decide (l.kind=1))=true:=by
   rw[x0g]
   intro l hl
   obtain⟨k,hk,rfl⟩:=x0C.1 hl
   simpa using hok k hk (by omega)
  rw[hall,x0T]at hr
  refine aa k2 (.inr rfl) ?_
  simp at k3 ⊢
  refine aa k3 (.inl rfl) ?_
  simp
  exact⟨ao (by decide +kernel),hr.symm⟩
end Go.Gv

namespace Go.Gv
structure Job where
 below:SlI
 lengths:SlI
 flows:SlI
 falls:SlI
 room:SlI
 secN:Bool
 secs:List Sec
 deriving Inhabited
@[simp] theorem S7{x:SlI}:slI x=slx x.n (x.l.map fun n=>[.int .i64 n]):=zR
variable{C:CC}(hC:ay prog C)
include hC
end Go.Gv

namespace Go.Gv
def cy(nm:List UInt8)(s:Sec):Bool:=s.name==nm
theorem kN(l:List Sec):bg l=true↔l.length<=40/\(∀(i:Nat) (h:i<l.length),aq l[i]=true/\bj (cy l[i].name) l=i):=by
 simp only[bg,x0a,x0c,x0g]
 constructor
 ·rintro⟨⟨h1,h2⟩,h3⟩
  refine⟨h1,fun i h=>⟨h2 _ (x0h h),?_⟩⟩
  refine cC (fun k hk hki=>?_) h (by simp[cy])
  rw[cy,beq_eq_false_iff_ne]
  intro e
  exact List.pairwise_iff_getElem.1 h3 k i (by simpa using hk) (by simpa using h) hki (by simpa using e)
 ·rintro⟨h1,h2⟩
  refine⟨⟨h1,fun x hx=>?_⟩,?_⟩
  ·obtain⟨i,h,rfl⟩:=x0J hx
   exact(h2 i h).1
  ·refine List.pairwise_iff_getElem.2 fun a b ha hb hab e=>?_
   simp only[x1w]at ha hb
   simp only[x1N]at e
   have h3:=(h2 b hb).2
   have h4:∃k,k<=a/\bj (cy l[b].name) l=(k:Int):=by
    unfold bj
    cases hf:l.findIdx? (cy l[b].name) with
    | none =>
     rw[x1Q]at hf
     have:=hf l[a] (x0h _)
     simp[cy,e]at this
    | some k =>
     refine⟨k,?_,rfl⟩
     rw[x0O]at hf
     obtain⟨q1,q2,q3⟩:=hf
     rcases x1o a k with hak|hak
     ·exact absurd (by simp[cy,e]) (q3 a hak)
     ·exact hak
   obtain⟨k,h5,h6⟩:=h4
   omega
variable{C:CC}(hC:ay prog C)
include hC
theorem qN(b:Bool)(l:List Sec)(nm:List UInt8)(hl:l.length<2^62):C 49 [slx b (l.map aS),.str nm] (.int .i64 (bj (cy nm) l)) []:=by
 refine ai hC (nf:=N49) rfl rfl ?_
 simp[N49]
 refine au Nat (fun i=>[(0,slx b (l.map aS)),(1,.str nm),(5,.int .i64 i)]) (fun i=>i<=l.length/\∀(k:Nat) (h:k<l.length),k<i->cy nm l[k]=false) (fun i=>l.length-i) 0 (by simp) (by simp) ?_
 rintro i ⟨hi,hj⟩
 simp
 refine ac (fun h=>?_) (fun h=>?_)<;>simp at h<;>simp[h]
 ·have hw:IntKind.wrap .i64 ((i:Int)+1)=((i+1:Nat):Int):=wrap_i64 (by omega) (by omega)
  simp[h,aS]
  refine ac (fun h2=>?_) (fun h2=>?_)<;>simp at h2<;>simp[h2,hw]
  ·rw[cC hj h (by simp[cy,h2])]
  ·refine⟨i+1,⟨by omega,fun k hk hki=>?_⟩,by omega,by simp⟩
   rcases x0k.1 hki with h5|rfl
   ·exact hj k hk h5
   ·simp[cy,h2]
 ·rw[cJ (fun k hk=>hj k hk (by omega))]
theorem F5(b:Bool)(l:List Sec):C 33 [slx b (l.map aS)] (.bool (bg l)) []:=by
 refine ai hC (nf:=N33) rfl rfl ?_
 simp[N33]
 refine ac (fun h=>?_) (fun h=>?_)<;>simp at h
 ·simp[bg];omega
 simp
 have hcv:=kN l
 refine au Nat (fun i=>[(0,slx b (l.map aS)),(3,.int .i64 i)]) (fun i=>i<=l.length/\∀(k:Nat) (h:k<l.length),k<i->aq l[k]=true/\bj (cy l[k].name) l=k) (fun i=>l.length-i) 0 (by simp) (by simp) ?_
 rintro i ⟨hi,hj⟩
 simp
 refine ac (fun h3=>?_) (fun h3=>?_)<;>simp at h3<;>simp[h3]
 ·have hw:IntKind.wrap .i64 ((i:Int)+1)=((i+1:Nat):Int):=wrap_i64 (by omega) (by omega)
  have bad:¬(aq l[i]=true/\bj (cy l[i].name) l=i)->bg l=false:=fun e=>by
   rw[<- x0V]
   exact fun e2=>e ((hcv.1 e2).2 i h3)
  have hr:=sD hC l[i]
  have hf:=qN hC b l l[i].name (by omega)
  simp[h3,aS]
  simp[aS]at hr
  refine aa hr (.inl rfl) ?_
  cases hs:aq l[i]
  ·simp
   exact bad (by simp[hs])
  simp[h3,aS]
  refine aa hf (.inl rfl) ?_
  simp
  refine ac (fun h4=>?_) (fun h4=>?_)<;>simp at h4<;>simp[h4]
  ·exact bad (fun e=>h4 e.2)
  ·simp[hw]
   refine⟨i+1,⟨by omega,fun k hk hki=>?_⟩,by omega,by simp⟩
   rcases x0k.1 hki with h5|rfl
   ·exact hj k hk h5
   ·exact⟨hs,h4⟩
 ·rw[hcv.2 ⟨by omega,fun k hk=>hj k hk (by omega)⟩]
end Go.Gv

namespace Go.Gv
def mf(ss:List Sec)(nm:List UInt8):Int:=bj (cy nm) ss
def DI(ss:List Sec)(nm:List UInt8):Int×Int:=if bg ss then(if 0<=mf ss nm then(mf ss nm,0) else(0,9)) else(0,1)
def ig(ss:List Sec)(l:Lnk):Bool:=decide (mf ss l.sect<0)
def eD(l:Lnk):Bool:=decide (l.up<l.down)
def iR(ls:List Lnk)(ss:List Sec):Int:=if ls.any (ig ss) then 9 else if ls.any eD then 23 else 0
def eG(ns:List Nod)(ls:List Lnk)(ss:List Sec)(q:List Sp)(count:Int):Int:=if cB ns ls&&bg ss then(if fC q count=0 then iR ls ss else fC q count) else 1
structure gQ (ss:List Sec) (l:Lnk):Prop where
 idx:∃k,mf ss l.sect=(k:Nat)/\k<ss.length
 le:l.down<=l.up
 up:-4194304<=l.up/\l.up<=4194304
 down:-4194304<=l.down/\l.down<=4194304
 len:1<=l.len/\l.len<=16777216
theorem xi{ns:List Nod}{ls:List Lnk}(h:cB ns ls=true){l:Lnk}(hl:l∈ls):bn l.up=true/\bn l.down=true/\aF l.len 1 16777216=true/\bD l.sect=true:=by
 simp only[cB,x0a,x0g,x0c]at h
 obtain⟨⟨hv,hk⟩,_⟩:=h
 obtain⟨i,hi,rfl⟩:=x0J hl
 have h1:=(eX hv hi).1
 have h2:=hk _ hl
 simp only[cr,ji,h2,if_true,x0a]at h1
 exact⟨h1.1.1.2,h1.2.1.2,h1.2.1.1,h1.2.2⟩
theorem qM{ns:List Nod}{ls:List Lnk}{ss:List Sec}(ht:cB ns ls=true)(h:iR ls ss=0):∀l∈ls,gQ ss l:=by
 intro l hl
 obtain⟨a,b,c,_⟩:=xi ht hl
 simp only[bn,aF,x0a,x0c]at a b c
 unfold iR at h
 split at h
 ·cases h
 rename_i h1
 split at h
 ·cases h
 rename_i h2
 simp only[x0V,x0M,ig,eD,x0c]at h1 h2
 have e1:=h1 l hl
 have e2:=h2 l hl
 have hi:0<=mf ss l.sect:=by omega
 refine⟨⟨(mf ss l.sect).toNat,by omega,jI hi⟩,by omega,a,b,c⟩
theorem gQ.fall{ss:List Sec}{l:Lnk}(h:gQ ss l):bE (bI l) l.len=true:=by
 have:=h.le;have:=h.len;have:=h.up;have:=h.down
 by_cases h:4194304<l.up-l.down<;>simp[bE,bI,h]<;>omega
theorem qz{ns:List Nod}{ls:List Lnk}{ss:List Sec}{q:List Sp}{count:Int}(h:eG ns ls ss q count=0):cB ns ls=true/\bg ss=true/\fC q count=0/\iR ls ss=0:=by
 unfold eG at h
 split at h
 ·rename_i h1
  simp only[x0a]at h1
  split at h
  ·rename_i h2
   exact⟨h1.1,h1.2,h2,h⟩
  ·rename_i h2
   exact absurd h h2
 ·cases h
theorem qk{ss:List Sec}(h:bg ss=true){k:Nat}(hk:k<ss.length):aq ss[k]=true:=((kN ss).1 h).2 k hk |>.1
variable{C:CC}(hC:ay prog C)
include hC
end Go.Gv

namespace Go.Gv
def Bh(s:Sec)(depth fall len:Int):Int×Int:=if aq s then(if 0<=depth/\depth<=s.height/\bE fall len=true then(if 1099511627776<(i7 s depth fall len:Int) then(0,5) else(i7 s depth fall len,0)) else(0,2)) else(0,1)
def cV(ss:List Sec)(l:Lnk):Sec:=ss[(mf ss l.sect).toNat]?.getD ⟨[],0,0,true,[],true,[]⟩
theorem gQ.sec{ss:List Sec}{l:Lnk}(h:gQ ss l):∃k,mf ss l.sect=(k:Nat)/\∃hk:k<ss.length,cV ss l=ss[k]:=by
 obtain⟨k,hk,hl⟩:=h.idx
 refine⟨k,hk,hl,?_⟩
 simp[cV,hk,hl]
theorem gQ.find{ss:List Sec}{l:Lnk}(hv:bg ss=true)(h:gQ ss l):DI ss l.sect=(mf ss l.sect,0):=by
 obtain⟨k,hk,hl⟩:=h.idx
 simp[DI,hv,hk]
theorem gQ.valid{ss:List Sec}{l:Lnk}(hv:bg ss=true)(h:gQ ss l):aq (cV ss l)=true:=by
 obtain⟨k,hk,hl,e⟩:=h.sec
 rw[e]
 exact qk hv hl
theorem gQ.wrap{ss:List Sec}{l:Lnk}(h:gQ ss l):IntKind.wrap .i64 (l.up-l.down)=l.up-l.down:=by
 have:=h.up;have:=h.down
 exact wrap_i64 rfl (by omega)
variable{C:CC}(hC:ay prog C)
include hC
end Go.Gv

namespace Go.Gv
section
variable{C:CC}{hs:Option (List Nat)}{K:Env->Prop}{ns:List az}{e:Env}{R:List Nat}{acc:List (List Nat×List Nat)}
end
end Go.Gv

namespace Go.Gv
section
variable{C:CC}{hs:Option (List Nat)}{K:Env->Prop}{ns:List az}{e:Env}{R:List Nat}{acc:List (List Nat×List Nat)}
theorem vt{x:Opd}{s c:Nat}{v1:_}{sz:Nat}{row:List D}{b i1 o1 i off sz0 sz1:Nat}{es0 es:List (List D)}{row0 r:List D}(hs0:s<10000)(hfs:ae e s=.adr (.r c) 0 0)(hfc:ae e c=.blk sz [row])(hrow:∀d∈row,aI d=true)(hx:vd (ae e) x=.adr (.n b i1 o1) i off)(hbc:b≠c)(hb:ae e b=.blk sz0 es0)
  (h1:es0[i1]? = some row0) (h2:row0[o1]? = some (.own sz1 es)) (h3:es[i]? = some r) (h4:off+1<=r.length)
  (hk:doW C hs K ns ⟨⟩ e R acc [(b,.blk sz0 (br es0 i1 o1 1 [.own sz1 (br es i off 1 [.ptr row])])),(s,.ptr row),(c,.any)] []):opW C hs K ns none (.stP x (.t s)) v1 e R acc:=by
 unfold opW
 simp only[aL]
 refine⟨trivial,hs0,?_⟩
 rw[hfs]
 refine⟨rfl,rfl,?_⟩
 rw[hfc]
 refine⟨hrow,?_⟩
 rw[hx]
 refine⟨hbc,?_⟩
 rw[hb]
 exact⟨row0,h1,sz1,es,h2,r,h3,h4,hk⟩
theorem lw{n:Nat}{y:Opd}{s c:Nat}{v1:_}{sz:Nat}{row ds:List D}(hs0:s<10000)(hfs:ae e s=.adr (.r c) 0 0)(hfc:ae e c=.blk sz [row])(hl:row.length=n)(hp:ij (vd (ae e) y)=some ds)(hd:ds.length=n)(h1:ds.all rW=true)
  (hk:doW C hs K ns ⟨⟩ e R acc [(s,.ptx ds),(c,.any)] []):opW C hs K ns none (.stF n (.t s) y) v1 e R acc:=by
 unfold opW
 simp only[aL]
 refine⟨trivial,hs0,?_⟩
 rw[hfs]
 refine⟨rfl,rfl,?_⟩
 rw[hfc]
 exact⟨hl,ds,hp,hd,h1,hk⟩
end
end Go.Gv

namespace Go.Gv
section
variable{C:CC}{hs:Option (List Nat)}{K:Env->Prop}{ns:List az}{e:Env}{R:List Nat}{acc:List (List Nat×List Nat)}
theorem vS{t m:Nat}{ms:List Nat}{x:Opd}{v1:_}{ds cs:List D}{bs:List Nat}(hv:vd (ae e) x=.agx ds)(hl:(m::ms).length=ds.length)(hab:∀Q:List D->List Nat->Prop,Q cs bs->iX (ae e) ds Q)(hd:bN bs=true)(hbs:bs.contains (rt t 0)=false)
  (hk:doW C hs K ns ⟨⟩ e R acc ((t,.adr (.r (rt t 0)) 0 0)::(rt t 0,.blk (eJ (m::ms) cs).length [eJ (m::ms) cs])::cp bs) [(rt t 0,true)]):opW C hs K ns (some t) (.box (m::ms) x) v1 e R acc:=by
 unfold opW
 simp only[aL]
 rw[hv]
 simp only[fK]
 exact⟨.inr hl,hab _ ⟨hd,hbs,hk⟩⟩
end
def lT(ns:List Nod)(es:List Edg):Bool:=(List.range ns.length).any fun i=>!decide (ns[i]!.kind=3)&&(fE es i).isNone
def fL(ls:List Lnk)(ss:List Sec)(fl:List Sp)(k:Nat):Int:=(cf ls[k]! (cV ss ls[k]!) fl[k]!.2).2
def jl(ls:List Lnk)(ss:List Sec)(fl:List Sp):Int:=if (List.range ls.length).any (fun k=>decide (fL ls ss fl k=16)) then 16 else if (List.range ls.length).any (fun k=>decide (fL ls ss fl k=5)) then 5 else 0
def de(o:Sp):Bool:=decide (o.1 < -4194304)||decide (4194304<o.2)
def cN(ns:List Nod)(ls:List Lnk)(ss:List Sec)(q:List Sp)(o:Sp):Int :=
 if eG ns ls ss q ns.length=1\/cl o=false then 1
 else if eG ns ls ss q ns.length=3 then 3
 else if eG ns ls ss q ns.length=2\/de o=true then 2
 else if eG ns ls ss q ns.length≠0 then eG ns ls ss q ns.length
 else if lT ns (av ns ls) then 24
 else if bM ns.length (av ns ls) q≠0 then bM ns.length (av ns ls) q
 else jl ls ss (aE ns.length (av ns ls) q)
def gl(ns:List Nod)(ls:List Lnk)(ss:List Sec)(q:List Sp)(o:Sp):Bool:=decide (eG ns ls ss q ns.length=0)&&cl o&&!de o&&!lT ns (av ns ls)&&decide (bM ns.length (av ns ls) q=0)&&!decide (jl ls ss (aE ns.length (av ns ls) q)=16)
theorem tT(ls:List Lnk)(ss:List Sec)(fl:List Sp):jl ls ss fl=0\/jl ls ss fl=5\/jl ls ss fl=16:=by
 unfold jl
 split
 ·simp
 ·split<;>simp
theorem AH{ns:List Nod}{ls:List Lnk}{ss:List Sec}{q:List Sp}{o:Sp}(h:gl ns ls ss q o=true):cN ns ls ss q o=jl ls ss (aE ns.length (av ns ls) q)/\(cN ns ls ss q o=0\/cN ns ls ss q o=5):=by
 simp only[gl,x0a,x0t,x0c,x0K]at h
 obtain⟨⟨⟨⟨⟨h1,h2⟩,h3⟩,h4⟩,h5⟩,h6⟩:=h
 have e:cN ns ls ss q o=jl ls ss (aE ns.length (av ns ls) q):=by
  unfold cN
  rw[h1,h3,h4,h5]
  simp[h2]
 refine⟨e,?_⟩
 rw[e]
 rcases tT ls ss (aE ns.length (av ns ls) q)with h|h|h
 ·exact .inl h
 ·exact .inr h
 ·exact absurd h h6
theorem vz{ns:List Nod}{ls:List Lnk}{ss:List Sec}{q:List Sp}{o:Sp}{e:Int}(he:e=cN ns ls ss q o)(h:¬(e=0\/e=5)):gl ns ls ss q o=false:=by
 rw[<- x0V]
 intro h2
 rw[he]at h
 exact h (AH h2).2
def jx(ss:List Sec)(ls:List Lnk)(j:Nat):List (List D):=(ls.take j).map fun l=>aS (cV ss l)
theorem Ga(ss:List Sec)(ls:List Lnk):jx ss ls 0=[]:=rfl
theorem wV{ss:List Sec}{ls:List Lnk}{j:Nat}(h:j<ls.length):jx ss ls (j+1)=jx ss ls j++[aS (cV ss ls[j])]:=by
 unfold jx
 rw[x0u h,x1y]
 rfl
theorem io{ss:List Sec}{ls:List Lnk}{j:Nat}(h:j<=ls.length):(jx ss ls j).length=j:=by simp[jx];omega
theorem CF(ss:List Sec)(ls:List Lnk)(j:Nat):∀e∈jx ss ls j,∀c∈e,aI c=true:=by
 intro e he
 simp only[jx,x0v]at he
 obtain⟨l,_,rfl⟩:=he
 simp[aS]
theorem sQ{ss:List Sec}{ls:List Lnk}{j k:Nat}(hk:k<j)(hj:k<ls.length):(jx ss ls j)[k]? = some (aS (cV ss ls[k])):=by
 simp[jx,hk,hj]
def toT(es:List Edg)(j:Nat):List (List D):=(es.take j).map fun e=>[.int .i64 (e.2:Int)]
theorem Ou(es:List Edg):toT es 0=[]:=rfl
theorem AD{es:List Edg}{j:Nat}(h:j<es.length):toT es (j+1)=toT es j++[[.int .i64 (es[j].2:Int)]]:=by
 unfold toT
 rw[x0u h,x1y]
 rfl
theorem vy{es:List Edg}{j:Nat}(h:j<=es.length):(toT es j).length=j:=by simp[toT];omega
theorem C6{es:List Edg}{j k:Nat}(hk:k<j)(hj:k<es.length):(toT es j)[k]? = some [.int .i64 (es[k].2:Int)]:=by
 simp[toT,hk,hj]
def dV(b1 b2:Bool)(ns:List Nod)(ls:List Lnk)(ss:List Sec)(es:List Edg)(fl:List Sp)(o:Sp)(dn:List (List D)):List D :=
 [slx b1 (ns.map aO),slx b2 (ls.map aA),.sl (fl.map knD),.own 5 (jx ss ls ls.length),.own 1 (frA ns.length es es.length),.own 1 (toT es es.length),.int .i64 o.1,.int .i64 o.2,.own 1 dn]
variable{C:CC}(hC:ay prog C)
include hC
theorem Av(s:Sp):C 641 [.agg (knD s)] (.bool (!cl s)) []:=by
 refine ai hC (nf:=N641) rfl rfl ?_
 simp[N641,knD]
 refine aa (qW hC s) (.inl rfl) ?_
 simp
theorem C0(s:Sp):C 642 [.agg (knD s)] (.bool (fP s)) []:=by
 refine ai hC (nf:=N642) rfl rfl ?_
 simp[N642,knD,fP]
 by_cases h:s.1<0<;>simp[h]
theorem Ai(l:Lnk)(s:Sec):C 643 (.agg (aS s)::[.ptr (aA l)]) (.bool (cy l.sect s)) []:=by
 refine ai hC (nf:=N643) rfl rfl ?_
 simp[N643,aS,aA,cy]
 rw[x0z];simp
theorem xk(l:Lnk):C 644 [.agg (aA l)] (.bool (eD l)) []:=by
 refine ai hC (nf:=N644) rfl rfl ?_
 simp[N644,aA,eD]
theorem sV(v:Int):C 624 [.int .i64 v] (.agg [.int .i64 v,.int .i64 v]) []:=by
 refine ai hC (nf:=N624) rfl rfl ?_
 simp[N624]
end Go.Gv

namespace Go.Gv
variable{C:CC}(hC:ay prog C)
include hC
theorem qS(s:Sp):C 501 [.agg (knD s)] (.bool (cl s)) []:=by
 refine ai hC (nf:=N501) rfl rfl ?_
 simp[N501,knD]
 by_cases h1:s.1<=s.2<;>by_cases h2:-72057594037927936<=s.1<;>by_cases h3:s.2<=72057594037927936<;>simp[cl,wj,h1,h2,h3]
 constructor<;>omega
theorem sE(b:Bool)(l:List Sp)(count:Int)(hl:l.length<2^62):C 465 [slx b (l.map knD),.int .i64 count] (.int .i64 (fC l count)) []:=by
 have k1:=fun s=>qS hC s
 simp only[knD]at k1
 refine ai hC (nf:=N465) rfl rfl ?_
 simp[N465]
 refine au Nat (fun i=>[(0,slx b (l.map knD)),(1,.int .i64 count),(5,.int .i64 i)]) (fun i=>i<=l.length/\∀(j:Nat) (h:j<l.length),j<i->cl l[j]=true) (fun i=>l.length-i) 0 (by simp) (by simp) ?_
 rintro i ⟨hi,hj⟩
 simp
 refine ac (fun h=>?_) (fun h=>?_)<;>simp[h]<;>simp at h
 ·have hw:IntKind.wrap .i64 ((i:Int)+1)=((i+1:Nat):Int):=wrap_i64 (by omega) (by omega)
  simp[h,knD]
  refine aa (k1 _) (.inl rfl) ?_
  cases h1:cl l[i]
  ·simp
   have:l.any (fun s=>!cl s)=true:=x0G.2 ⟨l[i],x0h h,by simp[h1]⟩
   rw[fC,if_pos this]
  ·simp[hw]
   refine⟨i+1,⟨by omega,fun j hl hjj=>?_⟩,by omega,by omega⟩
   rcases x0k.1 hjj with h2|rfl
   ·exact hj j hl h2
   ·exact h1
 ·have hno:l.any (fun s=>!cl s)=false:=by
   rw[x0M]
   intro x hx
   obtain⟨j,hjl,rfl⟩:=x0J hx
   simp[hj j hjl (by omega)]
  clear hj h hi
  unfold fC
  rw[hno]
  by_cases h:(l.length:Int)=count
  rotate_left
  ·simp[h]
  simp[h]
  refine au Nat (fun i=>[(0,slx b (l.map knD)),(6,.int .i64 i)]) (fun i=>i<=l.length/\∀(j:Nat) (h:j<l.length),j<i->fP l[j]=false) (fun i=>l.length-i) 0 (by simp) (by simp) ?_
  rintro i ⟨hi,hj⟩
  simp
  refine ac (fun g=>?_) (fun g=>?_)<;>simp[g]<;>simp at g
  ·have hw:IntKind.wrap .i64 ((i:Int)+1)=((i+1:Nat):Int):=wrap_i64 (by omega) (by omega)
   have yes:fP l[i]=true->l.any fP=true:=fun e=>x0G.2 ⟨l[i],x0h g,e⟩
   have no:fP l[i]=false->∃i':Nat,(i'<=l.length/\∀(j:Nat) (h:j<l.length),j<i'->fP l[j]=false)/\l.length-i'<l.length-i/\(i:Int)+1=i':=fun e=>by
    refine⟨i+1,⟨by omega,fun j hl hjj=>?_⟩,by omega,by omega⟩
    rcases x0k.1 hjj with h2|rfl
    ·exact hj j hl h2
    ·exact e
   simp[g,knD]
   by_cases a1:l[i].1<0
   ·have:=yes (by simp[fP,a1])
    simp[a1,this,h]
   ·by_cases a2:1099511627776<l[i].2
    ·have:=yes (by simp[fP,a2])
     simp[a1,a2,this,h,g,knD]
    ·obtain⟨i',b1,b2,b3⟩:=no (by simp[fP,a1,a2])
     simp[a1,a2,hw,g,knD]
     exact⟨i',b1,b2,by omega⟩
  ·have hno:l.any fP=false:=by
    rw[x0M]
    intro x hx
    obtain⟨j,hjl,rfl⟩:=x0J hx
    simp[hj j hjl (by omega)]
   simp[hno,h]
theorem zF(b1 b2 b:Bool)(ns:List Nod)(ls:List Lnk)(ss:List Sec)(hls:ls.length<2^62)(hss:ss.length<2^62):C 479 [.agg [slx b1 (ns.map aO),slx b2 (ls.map aA)],slx b (ss.map aS)] (.int .i64 (iR ls ss)) []:=by
 have k1:=fun nm=>qN hC b ss nm hss
 refine ai hC (nf:=N479) rfl rfl ?_
 simp[N479]
 refine au Nat (fun i=>[(1,slx b (ss.map aS)),(2,.ptr [slx b1 (ns.map aO),slx b2 (ls.map aA)]),(5,.int .i64 i)]) (fun i=>i<=ls.length/\∀(j:Nat) (h:j<ls.length),j<i->ig ss ls[j]=false) (fun i=>ls.length-i) 0 (by simp) (by simp) ?_
 rintro i ⟨hi,hj⟩
 simp
 refine ac (fun h=>?_) (fun h=>?_)<;>simp[h]<;>simp at h
 ·have hw:IntKind.wrap .i64 ((i:Int)+1)=((i+1:Nat):Int):=wrap_i64 (by omega) (by omega)
  simp[h,aA]
  refine aa (k1 _) (.inl rfl) ?_
  have e:bj (cy ls[i].sect) ss=mf ss ls[i].sect:=rfl
  rw[e]
  simp
  refine ac (fun h1=>?_) (fun h1=>?_)<;>simp[h1]<;>simp at h1
  ·have:ls.any (ig ss)=true:=x0G.2 ⟨ls[i],x0h h,by simp[ig];omega⟩
   rw[iR,if_pos this]
  ·simp[hw]
   refine⟨i+1,⟨by omega,fun j hl hjj=>?_⟩,by omega,by omega⟩
   rcases x0k.1 hjj with h2|rfl
   ·exact hj j hl h2
   ·simp[ig];omega
 ·have hno:ls.any (ig ss)=false:=by
   rw[x0M]
   intro x hx
   obtain⟨j,hjl,rfl⟩:=x0J hx
   simp[hj j hjl (by omega)]
  clear hj h hi
  unfold iR
  rw[hno]
  refine au Nat (fun i=>[(2,.ptr [slx b1 (ns.map aO),slx b2 (ls.map aA)]),(6,.int .i64 i)]) (fun i=>i<=ls.length/\∀(j:Nat) (h:j<ls.length),j<i->eD ls[j]=false) (fun i=>ls.length-i) 0 (by simp) (by simp) ?_
  rintro i ⟨hi,hj⟩
  simp
  refine ac (fun g=>?_) (fun g=>?_)<;>simp[g]<;>simp at g
  ·have hw:IntKind.wrap .i64 ((i:Int)+1)=((i+1:Nat):Int):=wrap_i64 (by omega) (by omega)
   simp[g,aA]
   refine⟨ao (by decide +kernel),?_⟩
   refine ac (fun h1=>?_) (fun h1=>?_)<;>simp[h1]<;>simp at h1
   ·have:ls.any eD=true:=x0G.2 ⟨ls[i],x0h g,by simp[eD];omega⟩
    exact⟨_,x0h g,by simp[eD];omega⟩
   ·simp[hw]
    refine⟨i+1,⟨by omega,fun j hl hjj=>?_⟩,by omega,by omega⟩
    rcases x0k.1 hjj with h2|rfl
    ·exact hj j hl h2
    ·simp[eD];omega
  ·have hno:ls.any eD=false:=by
    rw[x0M]
    intro x hx
    obtain⟨j,hjl,rfl⟩:=x0J hx
    simp[hj j hjl (by omega)]
   simpa using hno
theorem zD(b1 b2 b b' nodes:Bool)(ns:List Nod)(ls:List Lnk)(ss:List Sec)(q:List Sp)(hls:ls.length<2^62)(hss:ss.length<2^62)(hq:q.length<2^62):C 440 [.agg [slx b1 (ns.map aO),slx b2 (ls.map aA)],slx b (ss.map aS),slx b' (q.map knD),.bool nodes] (.int .i64 (eG ns ls ss q (if nodes then(ns.length:Int) else ls.length))) []:=by
 have k1:=vb hC b1 b2 ns ls
 have k2:=F5 hC b ss
 have k3:=fun count=>sE hC b' q count hq
 have k4:=zF hC b1 b2 b ns ls ss hls hss
 refine ai hC (nf:=N440) rfl rfl ?_
 simp[N440]
 refine aa k1 (.inl rfl) ?_
 unfold eG
 cases ht:cB ns ls
 ·simp
 simp
 refine aa k2 (.inl rfl) ?_
 cases hv:bg ss
 ·simp
 simp
 cases nodes
 ·simp
  refine aa (k3 _) (.inl rfl) ?_
  by_cases h0:fC q ls.length=0
  ·simp[h0]
   refine aa k4 (.inl rfl) ?_
   simp[h0]
  ·simp[h0]
 ·simp
  refine aa (k3 _) (.inl rfl) ?_
  by_cases h0:fC q ns.length=0
  ·simp[h0]
   refine aa k4 (.inl rfl) ?_
   simp[h0]
  ·simp[h0]
end Go.Gv

namespace Go.Gv
def spT(l:List Sp)(j:Nat):List (List D):=(l.take j).map knD
theorem Aw{l:List Sp}{j:Nat}(h:j<l.length):spT l (j+1)=spT l j++[knD l[j]]:=by
 rw[spT,x0u h,x1y];rfl
theorem C2{l:List Sp}{j:Nat}(h:j<=l.length):(spT l j).length=j:=by simp[spT];omega
theorem C1(l:List Sp):spT l l.length=l.map knD:=by simp[spT]
theorem Oq(l:List Sp)(j:Nat):(spT l j).map (fun e=>e.map aT)=spT l j:=by
 unfold spT
 rw[List.map_map]
 apply x0i
 intro v _
 simp[knD,aT]
theorem lu{q:List Sp}{n:Nat}(h:fC q n=0):q.length=n/\∀s∈q,0<=s.1/\s.1<=s.2/\s.2<=1099511627776:=by
 unfold fC at h
 split at h
 ·cases h
 rename_i h1
 split at h
 ·rename_i h0
  split at h
  ·cases h
  ·rename_i h2
   refine⟨by omega,fun s hs=>?_⟩
   simp only[x0V,x0M]at h1 h2
   have a:=h1 s hs
   have b:=h2 s hs
   simp only[cl,fP,x0t,Bool.not_eq_false',x0a,x0c,x0E,not_or]at a b
   simp at a b
   omega
 ·cases h
variable{C:CC}(hC:ay prog C)
include hC
end Go.Gv

namespace Go.Gv
variable{C:CC}(hC:ay prog C)
include hC
theorem ym(b b':Bool)(xs ys:List (Int×Int))(hx:xs.length<2^62)(hy:ys.length<2^62):C 434 [slx b (xs.map knD),slx b' (ys.map knD)] (.bool (decide (xs=ys))) []:=by
 obtain⟨r,hr⟩:∃r,r=decide (xs=ys):=⟨_,rfl⟩
 rw[<- hr]
 refine ai hC (nf:=N434) rfl rfl ?_
 simp[N434]
 refine ac (fun h=>?_) (fun h=>?_)<;>simp at h<;>simp[h]
 ·rw[hr,decide_eq_false]
  intro e
  exact h (by rw[e])
 have h':xs.length=ys.length:=by omega
 refine au Nat (fun i=>[(0,slx b (xs.map knD)),(1,slx b' (ys.map knD)),(12,.int .i64 xs.length),(13,.int .i64 i)])
  (fun i=>i<=xs.length/\∀(k:Nat) (h1:k<xs.length) (h2:k<ys.length),k<i->xs[k]=ys[k]) (fun i=>xs.length-i) 0 (by simp) (by simp[h']) ?_
 rintro i ⟨hi,hok⟩
 simp
 refine ac (fun h1=>?_) (fun h1=>?_)<;>simp at h1<;>simp[h1]
 ·have hw:IntKind.wrap .i64 ((i:Int)+1)=((i+1:Nat):Int):=wrap_i64 (by omega) (by omega)
  have hy1:i<ys.length:=by omega
  simp[h1,hy1,knD]
  refine⟨ao (by decide +kernel),?_⟩
  by_cases h2:xs[i]=ys[i]
  ·simp[h2,hw]
   refine⟨i+1,⟨by omega,fun k k1 k2 hk=>?_⟩,by omega,rfl⟩
   rcases x0k.1 hk with h5|rfl
   ·exact hok k k1 k2 h5
   ·exact h2
  ·have h3:¬(xs[i].1=ys[i].1/\xs[i].2=ys[i].2):=fun e=>h2 (Prod.ext e.1 e.2)
   refine ac (fun h4=>?_) (fun h4=>?_)<;>simp at h4<;>simp[h4]
   ·rw[hr,decide_eq_false]
    intro e
    exact h2 (by simp[e])
   ·exact absurd h4 h3
 ·rw[hr,decide_eq_true]
  exact List.ext_getElem h' fun k k1 k2=>hok k k1 k2 (by omega)
end Go.Gv

namespace Go.Gv
theorem iA(n:Nat)(es:List Edg)(l:List Sp):(aE n es l).length=es.length:=by simp[aE]
variable{C:CC}(hC:ay prog C)
include hC
end Go.Gv

namespace Go.Gv
structure uv (s:Sec) (fall len:Int) (y:Sp):Prop where
 lo:0<=y.1
 hi:y.1<=s.height
 fl:y.2<=1099511627776
 yes:y.2<=(i7 s y.1 fall len:Int)
 no:0<y.1->(i7 s (y.1-1) fall len:Int)<y.2
theorem uv.cap{s:Sec}{fall len:Int}{y:Sp}(h:uv s fall len y)(hs:aq s=true)(hf:bE fall len=true):(Bh s y.1 fall len).2=5\/((Bh s y.1 fall len).2=0/\y.2<=(Bh s y.1 fall len).1):=by
 have:=h.yes
 unfold Bh
 rw[if_pos hs,if_pos ⟨h.lo,h.hi,hf⟩]
 split
 ·exact .inl rfl
 ·exact .inr ⟨rfl,this⟩
variable{C:CC}(hC:ay prog C)
include hC
end Go.Gv

namespace Go.Gv
theorem DJ{x:Int}{c:Nat}(hc:0<c){a:Int}(h1:a*c<=x)(h2:x<a*c+c):x/(c:Int)=a:=by
 have hc':(0:Int)<c:=by omega
 apply Int.le_antisymm
 ·have:x/(c:Int)<a+1:=by
   rw[Int.ediv_lt_iff_lt_mul hc',Int.add_mul]
   omega
  omega
 ·rw[Int.le_ediv_iff_mul_le hc']
  exact h1
theorem Le(x:Int){c:Nat}(hc:0<c):x/(c:Int)*c<=x/\x<x/(c:Int)*c+c:=by
 have hc':(0:Int)<c:=by omega
 have h1:=Int.mul_ediv_add_emod x c
 have h2:=Int.emod_nonneg x (show(c:Int)≠0 by omega)
 have h3:=Int.emod_lt_of_pos x hc'
 rw[Int.mul_comm]at h1
 omega
theorem AC{x:Int}{c:Nat}(hc:0<c)(hx:x<0):x/(c:Int)=if x<Int.tdiv x c*c then Int.tdiv x c-1 else Int.tdiv x c:=by
 obtain⟨y,rfl⟩:∃y:Nat,x=-(y:Int):=⟨(-x).toNat,by omega⟩
 have e:Int.tdiv (-(y:Int)) c=-(y/c:Nat):=by
  rw[Int.neg_tdiv];rfl
 have m:=x05 y c
 have l:=x1a y hc
 rw[e,Int.neg_mul]
 have e2:((y/c:Nat):Int)*c=((c*(y/c):Nat):Int):=by rw[x0R];push_cast;rfl
 rw[e2]
 generalize hg:c*(y/c)=g at *
 split
 ·apply DJ hc
  ·rw[Int.sub_mul,Int.neg_mul,e2];omega
  ·rw[Int.sub_mul,Int.neg_mul,e2];omega
 ·apply DJ hc
  ·rw[Int.neg_mul,e2];omega
  ·rw[Int.neg_mul,e2];omega
theorem xf{x:Int}{c:Nat}(hx:0<=x):Int.tdiv x c=x/(c:Int):=Int.tdiv_eq_ediv_of_nonneg hx
theorem EY{x:Int}{c:Nat}(hc:0<c)(hx:-9223372036854775807<=x/\x<=9223372036854775807):-9223372036854775807<=x/(c:Int)/\x/(c:Int)<=9223372036854775807:=by
 have hc':(0:Int)<c:=by omega
 constructor
 ·rw[Int.le_ediv_iff_mul_le hc']
  have:(-9223372036854775807:Int)*c<=-9223372036854775807*1:=Int.mul_le_mul_of_nonpos_left (by omega) (by omega)
  omega
 ·have:x/(c:Int)<9223372036854775807+1:=by
   rw[Int.ediv_lt_iff_lt_mul hc']
   have:(9223372036854775807+1:Int)*1<=(9223372036854775807+1)*c:=Int.mul_le_mul_of_nonneg_left (by omega) (by omega)
   omega
  omega
variable{C:CC}(hC:ay prog C)
include hC
theorem wJ(x:Int)(c:Nat)(hc:0<c)(hc2:c<=1099511627776)(hx:-9223372036854775807<=x/\x<=9223372036854775807):C 477 [.int .i64 x,.int .i64 c] (.int .i64 (x/(c:Int))) []:=by
 have b:=EY hc hx
 have d:=Le x hc
 have hc0:¬c=0:=by omega
 refine ai hC (nf:=N477) rfl rfl ?_
 by_cases h0:0<=x
 ·have e:=xf (c:=c) h0
  have w1:IntKind.wrap .i64 (x/(c:Int))=x/(c:Int):=wrap_i64 rfl (by omega)
  have:0<=x/(c:Int):=Int.ediv_nonneg h0 (by omega)
  have t:0<=x/(c:Int)*c:=Int.mul_nonneg this (by omega)
  have w2:IntKind.wrap .i64 (x/(c:Int)*c)=x/(c:Int)*c:=wrap_i64 rfl (by omega)
  simp[N477,hc0,e,w1,w2]
  simp[show ¬x<x/(c:Int)*c by omega]
 ·have e:=AC hc (show x<0 by omega)
  obtain⟨y,rfl⟩:∃y:Nat,x=-(y:Int):=⟨(-x).toNat,by omega⟩
  have e1:Int.tdiv (-(y:Int)) c=-(y/c:Nat):=by
   rw[Int.neg_tdiv];rfl
  have m:=x05 y c
  have l:=Nat.div_le_self y c
  have l2:=Nat.mul_div_le y c
  rw[e1]at e
  have e2:-((y/c:Nat):Int)*c=-((c*(y/c):Nat):Int):=by rw[Int.neg_mul,x0R];push_cast;rfl
  rw[e2]at e
  rw[e]
  clear e b d m
  generalize (y/c)=z at *
  have w1:IntKind.wrap .i64 (-(z:Int))=-(z:Int):=wrap_i64 rfl (by omega)
  have w2:IntKind.wrap .i64 (-(z:Int)*c)=-((c*z:Nat):Int):=wrap_i64 e2 (by omega)
  have w3:IntKind.wrap .i64 (-(z:Int)-1)=-(z:Int)-1:=wrap_i64 rfl (by omega)
  generalize c*z=g at *
  simp only[N477]
  simp[hc0,e1,w1,w2]
  by_cases h:-(y:Int) < -(g:Int)
  ·have h':g<y:=by omega
   simp[h',w3]
  ·have h':¬g<y:=by omega
   simp[h']
end Go.Gv

namespace Go.Gv
variable{C:CC}(hC:ay prog C)
include hC
end Go.Gv

namespace Go.Gv
variable{C:CC}(hC:ay prog C)
include hC
end Go.Gv

namespace Go.Gv
variable{C:CC}(hC:ay prog C)
include hC
end Go.Gv

namespace Go.Gv
structure JN (a b:List Sp):Prop where
 len:b.length=a.length
 get:∀(i:Nat) (h:i<a.length) (h':i<b.length),0<=a[i].1/\a[i].1<=b[i].1/\b[i].1=b[i].2/\b[i].2<=a[i].2
theorem Gq{n:Nat}{es:List Edg}{g g':Nat->Int}(h:∀v,v<n->g v<=g' v)(x:Nat):upS n es g x<=upS n es g' x:=by
 unfold upS
 refine ni fun v hv=>?_
 have:=h v hv
 show(if upB n es v x=true then g v else 0)<=if upB n es v x=true then g' v else 0
 split<;>omega
theorem oU{l:List Sp}{v:Nat}(h:v<l.length):l[v]! = l[v]:=x0f l v h
theorem JN.rng{a b:List Sp}(h:JN a b)(ha:∀s∈a,0<=s.1/\s.1<=s.2/\s.2<=1099511627776):∀s∈b,0<=s.1/\s.1<=s.2/\s.2<=1099511627776:=by
 intro s hs
 obtain⟨i,hi,rfl⟩:=x0J hs
 have hl:=h.len
 have h1:=h.get i (by omega) hi
 have h2:=ha _ (x0h (show i<a.length by omega))
 omega
theorem Be{fl:List Sp}(h:∀s∈fl,s.2<=1099511627776):iZ fl=false:=by
 unfold iZ
 rw[x0M]
 intro s hs
 have:=h s hs
 simp
 omega
end Go.Gv

set_option maxRecDepth 4000
namespace Go.Gv
theorem AF{ns:List Nod}{ls:List Lnk}{ss:List Sec}{q:List Sp}{o:Sp}(h:¬(cB ns ls=true/\bg ss=true/\cl o=true/\q.any (fun s=>!cl s)=false)):cN ns ls ss q o=1:=by
 unfold cN
 rw[if_pos]
 by_cases h1:cl o=true
 ·left
  unfold eG
  by_cases h2:cB ns ls=true
  ·by_cases h3:bg ss=true
   ·have h4:q.any (fun s=>!cl s)=true:=by
     apply Classical.byContradiction
     intro h5
     exact h ⟨h2,h3,h1,by simpa using h5⟩
    have h5:fC q ns.length=1:=by unfold fC;rw[if_pos h4]
    rw[if_pos (by simp[h2,h3]),h5,if_neg (by decide)]
   ·rw[if_neg (by simp[h3])]
  ·rw[if_neg (by simp[h2])]
 ·right
  simpa using h1
theorem AG{ns:List Nod}{ls:List Lnk}{ss:List Sec}{q:List Sp}(h1:cB ns ls=true)(h2:bg ss=true)(h3:q.any (fun s=>!cl s)=false) :
  eG ns ls ss q ns.length=if q.length=ns.length then(if q.any fP then 2 else iR ls ss) else 3:=by
 have e:fC q ns.length=if q.length=ns.length then(if q.any fP then 2 else 0) else 3:=by
  unfold fC
  rw[if_neg (by simp[h3])]
  by_cases h4:q.length=ns.length
  ·rw[if_pos (by omega),if_pos h4]
  ·rw[if_neg (by omega),if_neg h4]
 unfold eG
 rw[if_pos (by simp[h1,h2]),e]
 by_cases h4:q.length=ns.length
 ·rw[if_pos h4,if_pos h4]
  by_cases h5:q.any fP=true
  ·rw[if_pos h5,if_pos h5,if_neg (by decide)]
  ·rw[if_neg h5,if_neg h5,if_pos rfl]
 ·rw[if_neg h4,if_neg h4,if_neg (by decide)]
theorem wz(d:D):dE 0 d=d:=by cases d<;>rfl
theorem FU:dE 5 .nils=.own 5 []:=rfl
theorem FT:dE 1 .nils=.own 1 []:=rfl
theorem y7{ls:List Lnk}{ss:List Sec}{k:Nat}(hk:k<ls.length)(h:ig ss ls[k]=true):iR ls ss=9:=by
 unfold iR
 rw[if_pos (x0G.2 ⟨_,x0h hk,h⟩)]
theorem qw{n:Nat}{es:List Edg}(hn:n<=300)(hg:inG n es)(ht:cP n es=true){q:List Sp}(hq:q.length=n)(hqr:∀s∈q,0<=s.1/\s.1<=s.2/\s.2<=1099511627776){k:Nat}(hk:k<es.length):0<=(aE n es q)[k]!.1/\(aE n es q)[k]!.1<=(aE n es q)[k]!.2:=by
 have hl1:∀v,v<n->0<=q[v]!.1/\q[v]!.1<=q[v]!.2/\q[v]!.2<=1099511627776:=fun v hv=>by
  rw[oU (by omega)]
  exact hqr _ (x0h _)
 rw[uL hn hg ht hl1 hk]
 have r1:=mj (n:=n) (es:=es) (g:=fun v=>q[v]!.1) (B:=1099511627776) (by omega) (fun v hv=>by have:=hl1 v hv;omega) es[k].1
 exact⟨r1.1,Gq (fun v hv=>(hl1 v hv).2.1) _⟩
theorem qv{n:Nat}{es:List Edg}{q:List Sp}(hb:iZ (aE n es q)=false){k:Nat}(hk:k<es.length):(aE n es q)[k]!.2<=1099511627776:=by
 have hl:k<(aE n es q).length:=by rw[iA];exact hk
 rw[oU hl]
 simp only[iZ,x0M,x0c]at hb
 have:=hb _ (x0h hl)
 omega
def j7(ls:List Lnk)(ss:List Sec)(fl:List Sp)(j:Nat):Int:=if (List.range j).any (fun k=>decide (fL ls ss fl k=5)) then 5 else 0
theorem AQ{ls:List Lnk}{ss:List Sec}{fl:List Sp}{j:Nat}(h:fL ls ss fl j=5):j7 ls ss fl (j+1)=5:=by
 unfold j7
 rw[if_pos]
 rw[x0G]
 exact⟨j,by simp,by simpa using h⟩
theorem AR{ls:List Lnk}{ss:List Sec}{fl:List Sp}{j:Nat}(h:fL ls ss fl j≠5):j7 ls ss fl (j+1)=j7 ls ss fl j:=by
 unfold j7
 rw[x1G,List.any_append]
 simp[h]
theorem uV{ls:List Lnk}{ss:List Sec}{fl:List Sp}{j:Nat}(hj:j<ls.length)(h:fL ls ss fl j=16):jl ls ss fl=16:=by
 unfold jl
 rw[if_pos]
 rw[x0G]
 exact⟨j,by simpa using hj,by simpa using h⟩
theorem yN{ls:List Lnk}{ss:List Sec}{fl:List Sp}(h:∀k,k<ls.length->fL ls ss fl k≠16):jl ls ss fl=j7 ls ss fl ls.length:=by
 unfold jl j7
 rw[if_neg]
 rw[x0G]
 rintro⟨k,h1,h2⟩
 exact h k (by simpa using h1) (by simpa using h2)
theorem vD(ls:List Lnk)(ss:List Sec)(fl:List Sp)(j:Nat):j7 ls ss fl j≠16:=by
 unfold j7
 split<;>decide
theorem m4{ns:List Nod}{es:List Edg}{k:Nat}(hk:k<ns.length)(h1:ns[k].kind≠3)(h2:fE es k=none):lT ns es=true:=by
 unfold lT
 rw[x0G]
 exact⟨k,by simpa using hk,by rw[x0f ns k hk];simp[h1,h2]⟩
theorem uM{ns:List Nod}{es:List Edg}(h:∀k (hk:k<ns.length),ns[k].kind≠3->fE es k≠none):lT ns es=false:=by
 unfold lT
 rw[x0M]
 intro k hk
 have hk':k<ns.length:=by simpa using hk
 rw[x0f ns k hk']
 by_cases h1:ns[k].kind=3
 ·simp[h1]
 ·have:=h k hk' h1
  simp[h1,this]
theorem og{ls:List Lnk}{ss:List Sec}:iR ls ss=0\/iR ls ss=9\/iR ls ss=23:=by
 unfold iR
 split
 ·simp
 ·split<;>simp
variable{C:CC}(hC:ay prog C)
include hC
set_option maxHeartbeats 2000000 in
theorem ta(hS:SlC C)(b1 b2 b b':Bool)(ns:List Nod)(ls:List Lnk)(ss:List Sec)(q:List Sp)(o:Sp)(hls:ls.length<2^62)(hss:ss.length<2^62)(hq:q.length<2^62)(hcv:∀l∈ls,l.curve.length<2^62){Q:cu->Env->Prop}
  (hnot:∀e:Int,e=cN ns ls ss q o->gl ns ls ss q o=false->bL Q ⟨⟩ .ret [(8,.nilp),(9,.int .i64 e)])
  (hok:gl ns ls ss q o=true->bL Q ⟨⟩ .ret [(8,.adr (.r 11200) 0 0),(9,.int .i64 (cN ns ls ss q o)),(11200,.blk 9 [dV b1 b2 ns ls ss (av ns ls) (aE ns.length (av ns ls) q) o (List.replicate ns.length [.nilp])])]) :
  wN C N618.body Q ⟨⟩ (params 0 [.agg [slx b1 (ns.map aO),slx b2 (ls.map aA)],slx b (ss.map aS),slx b' (q.map knD),.agg (knD o)]):=by
 have hbad:∀e:Int,e=cN ns ls ss q o->¬(e=0\/e=5)->bL Q ⟨⟩ .ret [(8,.nilp),(9,.int .i64 e)]:=fun e h1 h2=>hnot e h1 (vz h1 h2)
 have k1:=vi hC hS b1 b2 ns ls hls hcv
 have k2:=nA hC b ss
 have k3:=qW hC o
 have k4:=iB hC (b:=b') (xs:=q) (g:=641) (cs:=[]) (fun s=>!cl s) hq (fun x _=>Av hC x)
 have k5:=iB hC (b:=b') (xs:=q) (g:=642) (cs:=[]) fP hq (fun x _=>C0 hC x)
 have bad1:¬(cB ns ls=true/\bg ss=true/\cl o=true/\q.any (fun s=>!cl s)=false)->bL Q ⟨⟩ .ret [(8,.nilp),(9,.int .i64 1)]:=fun h=>hbad 1 (AF h).symm (by decide)
 simp[N618,knD]
 refine aa k1 (.inl rfl) ?_
 by_cases h1:cB ns ls=true
 case neg =>
  simp[h1]
  exact bad1 (fun h=>h1 h.1)
 simp[h1]
 refine aa k2 (.inl rfl) ?_
 by_cases h2:bg ss=true
 case neg =>
  simp[h2]
  exact bad1 (fun h=>h2 h.2.1)
 simp[h2]
 refine aa (by simpa[knD]using k3) (.inl rfl) ?_
 by_cases h3:cl o=true
 case neg =>
  simp[h3]
  exact bad1 (fun h=>h3 h.2.2.1)
 simp[h3]
 refine aa k4 (.inl rfl) ?_
 by_cases h4:q.any (fun s=>!cl s)=true
 case pos =>
  rw[h4]
  simp
  exact bad1 (fun h=>by rw[h4]at h;exact absurd h.2.2.2 (by decide))
 have h4':q.any (fun s=>!cl s)=false:=by simpa using h4
 rw[h4']
 simp
 clear bad1 k3 k4 k2
 have hg:=AG (ls:=ls) (ss:=ss) h1 h2 h4'
 by_cases h5:q.length=ns.length
 case neg =>
  have h5':¬((q.length:Int)=ns.length):=by omega
  simp[h5,h5']
  refine hbad 3 ?_ (by decide)
  unfold cN
  rw[hg,if_neg h5,if_neg (by simp[h3]),if_pos rfl]
 simp[h5]
 refine aa k5 (.inl rfl) ?_
 rw[if_pos h5]at hg
 have ho2:¬de o=true->¬(o.1 < -4194304)/\¬(4194304<o.2):=fun h=>by
  simp only[de,x0E,x0c]at h
  omega
 have bad2:q.any fP=true\/de o=true->bL Q ⟨⟩ .ret [(8,.nilp),(9,.int .i64 2)]:=fun h=>hbad 2 (by
  unfold cN
  rw[hg]
  rcases og (ls:=ls) (ss:=ss)with e|e|e<;>rw[e]<;>rcases h with h|h<;>simp[h,h3]<;>(try split)<;>simp) (by decide)
 by_cases h6:q.any fP=true
 case pos =>
  rw[h6]
  simp
  exact bad2 (.inl h6)
 rw[if_neg h6]at hg
 have h6':q.any fP=false:=by simpa using h6
 rw[h6']
 simp
 by_cases h7:de o=true
 case pos =>
  have h7':=h7
  simp only[de,x0E,x0c]at h7'
  by_cases h8:o.1 < -4194304
  ·simp[h8]
   exact bad2 (.inr h7)
  ·have h9:4194304<o.2:=by omega
   simp[h8,h9]
   exact bad2 (.inr h7)
 obtain⟨h8,h9⟩:=ho2 h7
 simp[h8,h9]
 clear bad2 ho2 k5
 have htE:cN ns ls ss q o=if iR ls ss≠0 then iR ls ss else if lT ns (av ns ls) then 24 else if bM ns.length (av ns ls) q≠0 then bM ns.length (av ns ls) q else jl ls ss (aE ns.length (av ns ls) q):=by
  unfold cN
  rw[hg]
  rcases og (ls:=ls) (ss:=ss)with e|e|e<;>rw[e]<;>simp[h3,h7]
 have hv:bG ns ls=true:=by
  simp only[cB,x0a]at h1
  exact h1.1.1
 obtain⟨hnl,hll⟩:=bR hv
 have k6:=zU hC (-1) ns.length (by omega)
 refine gU k6 ?_
 simp
 refine⟨by omega,?_⟩
 refine vS (ds:=[slx b1 (ns.map aO),slx b2 (ls.map aA),.nils,.nils,.ref (.r 11104) 0 ns.length,.nils,.int .i64 o.1,.int .i64 o.2,.ref (.r 11168) 0 ns.length]) (cs:=[slx b1 (ns.map aO),slx b2 (ls.map aA),.nils,.nils,.own 1 (List.replicate ns.length [.int .i64 (-1)]),.nils,.int .i64 o.1,.int .i64 o.2,.own 1 (List.replicate ns.length [.nilp])]) (bs:=[11104,11168]) (by simp) rfl ?_ (by decide) (by decide) ?_
 ·intro Q hQ
  simp[iX,dj,aI]
  rcases fe b1 (ns.map aO)with e1|⟨e1,_⟩<;>rcases fe b2 (ls.map aA)with e2|⟨e2,_⟩<;>rw[e1,e2]at hQ ⊢<;>simp[iX,dj,aI]<;>exact hQ
 simp[eJ,wz,FU,FT]
 refine⟨ao (by decide +kernel),?_⟩
 refine au Nat (fun j=>[(1,slx b (ss.map aS)),(2,slx b' (q.map knD)),(4,.ptr [slx b1 (ns.map aO),slx b2 (ls.map aA)]),(10,.adr (.r 11200) 0 0),(77,slx b2 (ls.map aA)),(78,.int .i64 ls.length),(79,.int .i64 j),(11200,.blk 9 [[slx b1 (ns.map aO),slx b2 (ls.map aA),.nils,.own 5 (jx ss ls j),.own 1 (List.replicate ns.length [.int .i64 (-1)]),.own 1 [],.int .i64 o.1,.int .i64 o.2,.own 1 (List.replicate ns.length [.nilp])]])])
  (fun j=>j<=ls.length/\∀k (hk:k<ls.length),k<j->ig ss ls[k]=false) (fun j=>ls.length-j) 0 ⟨by omega,fun k _ h=>absurd h (Nat.not_lt_zero _)⟩ (by simp[Ga]) ?_
 rintro j ⟨hj,hno⟩
 simp
 refine ac (fun h=>?_) (fun h=>?_)<;>simp at h
 ·have hw:IntKind.wrap .i64 ((j:Int)+1)=((j+1:Nat):Int):=wrap_i64 (by omega) (by omega)
  have k7:=rU hC (b:=b) (xs:=ss) (g:=643) (cs:=[.ptr (aA ls[j])]) (cy ls[j].sect) hss (fun x _=>Ai hC ls[j] x)
  simp[h,aA]
  refine aa (by simpa[aA]using k7) (.inl rfl) ?_
  simp
  by_cases hi:bj (cy ls[j].sect) ss<0
  ·simp[hi]
   have h9:=y7 (ss:=ss) h (show ig ss ls[j]=true by simp[ig,mf,hi])
   refine hbad 9 ?_ (by decide)
   rw[htE,h9,if_pos (by decide)]
  ·obtain⟨m,hm⟩:∃m:Nat,bj (cy ls[j].sect) ss=(m:Int):=⟨(bj (cy ls[j].sect) ss).toNat,by omega⟩
   have hml:m<ss.length:=by
    have:=jI (show 0<=bj (cy ls[j].sect) ss by omega)
    omega
   have hsl:cV ss ls[j]=ss[m]:=by
    unfold cV mf
    rw[hm]
    simp[hml]
   have hsn:=wV (ss:=ss) h
   rw[hsl]at hsn
   have hlen:=io (ss:=ss) (Nat.le_of_lt h)
   have hm0:¬((m:Int)<0):=by omega
   simp[hm,hm0,hml,aS,hlen]
   have htk:List.take j (jx ss ls j)=jx ss ls j:=x0s (by omega)
   refine⟨by omega,fun e he=>?_,ao (by decide +kernel),j+1,⟨by omega,fun k hk hkj=>?_⟩,by omega,hw,?_⟩
   ·rcases he with he|rfl
    ·exact CF ss ls j e (x0H he)
    ·simp
   ·rcases x0k.1 hkj with h8|rfl
    ·exact hno k hk h8
    ·simp[ig,mf,hm]
   ·rw[htk,hsn]
    rfl
 ·have ej:j=ls.length:=by omega
  subst ej
  have hn9:ls.any (ig ss)=false:=by
   rw[x0M]
   intro l hl
   obtain⟨k,hk,rfl⟩:=x0J hl
   simp[hno k hk hk]
  have k8:=nK hC (b:=b2) (xs:=ls) (g:=644) (cs:=[]) eD hls (fun x _=>xk hC x)
  simp[h]
  refine aa k8 (.inl rfl) ?_
  have hpE:iR ls ss=if ls.any eD then 23 else 0:=by
   unfold iR
   rw[if_neg (by simp[hn9])]
  by_cases hu:ls.any eD=true
  ·rw[hu]
   simp
   refine hbad 23 ?_ (by decide)
   rw[htE,hpE,if_pos hu,if_pos (by decide)]
  have hu':ls.any eD=false:=by simpa using hu
  rw[if_neg hu]at hpE
  rw[hpE,if_neg (by decide)]at htE
  rw[hu']
  have k9:=nv hC b1 b2 ns ls hcv
  rw[hv,if_pos rfl]at k9
  simp
  refine aa k9 (.inr rfl) ?_
  simp
  clear k9 k8 k6 k1
  have hge:=fj hv
  have hel:=aM ns ls
  have htf:cP ns.length (av ns ls)=true:=by
   simp only[cB,x0a]at h1
   exact h1.2
  have hnd:((av ns ls).map (·.1)).Nodup:=by
   simp only[cP,x0a,x0c]at htf
   exact htf.1
  have k10:=A7 hC hS b1 b2 b' ns ls q hls hq hcv
  have hsp:fC q ns.length=0:=by
   unfold fC
   rw[if_neg (by simp[h4']),if_pos (by omega),if_neg (by simp[h6'])]
  have hFE:ix ns ls q=bM ns.length (av ns ls) q:=by
   unfold ix
   rw[if_pos h1,if_pos hsp]
  unfold lF at k10
  rw[hFE]at k10
  have htM:gl ns ls ss q o=(!lT ns (av ns ls)&&decide (bM ns.length (av ns ls) q=0)&&!decide (jl ls ss (aE ns.length (av ns ls) q)=16)):=by
   have ho:de o=false:=by simpa using h7
   unfold gl
   rw[hg,hpE,h3,ho]
   simp
  generalize av ns ls=es at *
  refine au Nat (fun j=>[(2,slx b' (q.map knD)),(4,.ptr [slx b1 (ns.map aO),slx b2 (ls.map aA)]),(10,.adr (.r 11200) 0 0),(113,.sl (es.map edK)),(114,.int .i64 es.length),(115,.int .i64 j),(11200,.blk 9 [[slx b1 (ns.map aO),slx b2 (ls.map aA),.nils,.own 5 (jx ss ls ls.length),.own 1 (frA ns.length es j),.own 1 (toT es j),.int .i64 o.1,.int .i64 o.2,.own 1 (List.replicate ns.length [.nilp])]])])
   (fun j=>j<=es.length) (fun j=>es.length-j) 0 (by simp) (by simp[Ou,yw]) ?_
  rintro j hj
  simp
  refine ac (fun g=>?_) (fun g=>?_)<;>simp at g
  ·have hw:IntKind.wrap .i64 ((j:Int)+1)=((j+1:Nat):Int):=wrap_i64 (by omega) (by omega)
   have he:=hge _ (x0h g)
   have hfj:fE (es.take j) es[j].1=none:=(Ca g ((((List.take_sublist j es).map _).nodup) hnd)).1 ((((List.take_sublist (j+1) es).map _).nodup) hnd)
   have hset:=BH (n:=ns.length) g hfj
   have hts:=AD g
   have hgt:=qy es j he.1
   have htl:=vy (Nat.le_of_lt g)
   simp[g,edK,knD,he.1,m3,aG hgt,hgt,hset]
   have hA:(frA ns.length es j)[es[j].1]'(by rw[m3];exact he.1)=[.int .i64 (frI (fE (es.take j) es[j].1))]:=(x0b.1 hgt).2
   have hC1:∀e∈toT es j,∀c∈e,aI c=true:=by
    intro e he
    simp only[toT,x0v]at he
    obtain⟨x,_,rfl⟩:=he
    simp[aI]
   rw[hA]
   refine⟨by simp,ao (by decide +kernel),by omega,fun e he=>?_,ao (by decide +kernel),j+1,by omega,by omega,hw,?_,hts.symm⟩
   ·rcases he with he|rfl
    ·exact hC1 e he
    ·simp[aI]
   ·simpa using hset
  ·have ej:j=es.length:=by omega
   subst ej
   simp[g]
   refine au Nat (fun j=>[(2,slx b' (q.map knD)),(4,.ptr [slx b1 (ns.map aO),slx b2 (ls.map aA)]),(10,.adr (.r 11200) 0 0),(141,slx b1 (ns.map aO)),(142,.int .i64 ns.length),(143,.int .i64 j),(11200,.blk 9 [[slx b1 (ns.map aO),slx b2 (ls.map aA),.nils,.own 5 (jx ss ls ls.length),.own 1 (frA ns.length es es.length),.own 1 (toT es es.length),.int .i64 o.1,.int .i64 o.2,.own 1 (List.replicate ns.length [.nilp])]])])
    (fun j=>j<=ns.length/\∀k (hk:k<ns.length),k<j->ns[k].kind≠3->fE es k≠none) (fun j=>ns.length-j) 0 ⟨by omega,fun k _ h=>absurd h (Nat.not_lt_zero _)⟩ (by simp) ?_
   rintro j ⟨hj2,hgp⟩
   simp
   refine ac (fun g2=>?_) (fun g2=>?_)<;>simp at g2
   ·have hw:IntKind.wrap .i64 ((j:Int)+1)=((j+1:Nat):Int):=wrap_i64 (by omega) (by omega)
    have hgt:=qy es es.length g2
    rw[x08]at hgt
    simp[g2,aO]
    by_cases c1:ns[j].kind=3
    ·simp[c1]
     refine⟨j+1,⟨by omega,fun k hk hkj h3=>?_⟩,by omega,hw⟩
     rcases x0k.1 hkj with h8|rfl
     ·exact hgp k hk h8 h3
     ·exact absurd c1 h3
    ·simp[c1,m3,g2,aG hgt]
     cases hf:fE es j with
     | none =>
      simp[frI]
      refine hbad 24 ?_ (by decide)
      rw[htE,m4 g2 c1 hf]
      simp
     | some x =>
      have hx0:¬((x:Int)<0):=by omega
      simp[frI,hx0]
      refine⟨j+1,⟨by omega,fun k hk hkj h3=>?_⟩,by omega,hw⟩
      rcases x0k.1 hkj with h8|rfl
      ·exact hgp k hk h8 h3
      ·rw[hf];simp
   ·have ej:j=ns.length:=by omega
    subst ej
    have hgap:lT ns es=false:=uM fun k hk h3=>hgp k hk hk h3
    rw[hgap]at htE
    simp[g2]
    refine aa k10 (.inr (by simp)) ?_
    have hF5:bM ns.length es q=0\/bM ns.length es q=5:=by
     unfold bM;split<;>simp
    by_cases hf0:bM ns.length es q=0
    case neg =>
     have hf5:bM ns.length es q=5:=by rcases hF5 with h|h;exact absurd h hf0;exact h
     rw[if_neg hf0,hf5]
     simp
     refine hnot 5 ?_ ?_
     ·rw[htE,hf5];simp
     ·rw[htM,hf5];simp
    have hbig:iZ (aE ns.length es q)=false:=by
     unfold bM at hf0
     split at hf0
     ·cases hf0
     ·rename_i h;simpa using h
    obtain⟨hq1,hq2⟩:=lu hsp
    have hfr:∀k,k<es.length->(0<=(aE ns.length es q)[k]!.1/\(aE ns.length es q)[k]!.1<=(aE ns.length es q)[k]!.2)/\(aE ns.length es q)[k]!.2<=1099511627776:=fun k hk=>⟨qw hnl hge htf h5 hq2 hk,qv hbig hk⟩
    have hfl:=iA ns.length es q
    rw[if_pos hf0,hf0]
    rw[hgap,hf0]at htM
    simp at htM
    rw[if_neg (by decide),if_neg (by simp[hf0])]at htE
    clear hF5 hbig k10
    have hpo:=qM h1 hpE
    rw[htE]at hok hnot
    clear hbad
    generalize aE ns.length es q=fl at *
    simp
    refine au Nat (fun j=>[(10,.adr (.r 11200) 0 0),(20,.int .i64 (j7 ls ss fl j)),(175,slx b2 (ls.map aA)),(176,.int .i64 ls.length),(177,.int .i64 j),(11200,.blk 9 [[slx b1 (ns.map aO),slx b2 (ls.map aA),.sl (fl.map knD),.own 5 (jx ss ls ls.length),.own 1 (frA ns.length es es.length),.own 1 (toT es es.length),.int .i64 o.1,.int .i64 o.2,.own 1 (List.replicate ns.length [.nilp])]])])
     (fun j=>j<=ls.length/\∀k,k<j->fL ls ss fl k≠16) (fun j=>ls.length-j) 0 ⟨by omega,fun k h=>absurd h (Nat.not_lt_zero _)⟩ (by simp[j7]) ?_
    rintro j ⟨hj3,h16⟩
    simp
    refine ac (fun g3=>?_) (fun g3=>?_)<;>simp at g3
    ·have hw:IntKind.wrap .i64 ((j:Int)+1)=((j+1:Nat):Int):=wrap_i64 (by omega) (by omega)
     have hP:=hpo _ (x0h g3)
     have hje:j<es.length:=by omega
     have hjf:j<fl.length:=by omega
     obtain⟨⟨f0,f1⟩,f2⟩:=hfr j hje
     have hlK:fL ls ss fl j=(cf ls[j] (cV ss ls[j]) fl[j].2).2:=by
      unfold fL
      rw[x0f ls j g3,oU hjf]
     rw[oU hjf]at f0 f1 f2
     have k11:=tV hC ls[j] (cV ss ls[j]) fl[j].2 (hP.valid h2) hP.len ⟨by omega,f2⟩
     have hsg:=sQ (ss:=ss) (j:=ls.length) g3 g3
     rw[<- hlK]at k11
     generalize hr:(cf ls[j] (cV ss ls[j]) fl[j].2).1=r at *
     generalize hLe:fL ls ss fl j=e at *
     simp[g3,aA,io,bZ hsg,aG hsg,hjf,knD,aS]
     refine aa (by simpa[aA,aS]using k11) (.inr rfl) ?_
     have ext:∀e',e'≠16->fL ls ss fl j=e'->∀k,k<j+1->¬fL ls ss fl k=16:=fun e' h1 h2 k hk=>by
      rcases x0k.1 hk with h8|rfl
      ·exact h16 k h8
      ·rw[h2];exact h1
     by_cases c1:e=16
     ·have h5:=uV g3 (by rw[hLe,c1])
      subst c1
      simp
      refine⟨ao (by decide +kernel),?_⟩
      refine hnot 16 h5.symm ?_
      rw[htM,h5];rfl
     ·by_cases c2:e=5
      ·have hn:=AQ (hLe.trans c2)
       subst c2
       simp
       exact⟨ao (by decide +kernel),j+1,⟨by omega,ext 5 (by decide) hLe⟩,by omega,hn.symm,hw⟩
      ·have hn:=AR (ls:=ls) (ss:=ss) (fl:=fl) (j:=j) (by rw[hLe];exact c2)
       simp[c1,c2]
       exact⟨ao (by decide +kernel),j+1,⟨by omega,ext e c1 hLe⟩,by omega,hn.symm,hw⟩
    ·have ej:j=ls.length:=by omega
     subst ej
     simp[g3]
     have hw:=yN h16
     rw[hw]at hok htM
     have ht:gl ns ls ss q o=true:=by
      rw[htM]
      simp[vD]
     exact hok ht
theorem ur(hS:SlC C)(b1 b2 b b':Bool)(ns:List Nod)(ls:List Lnk)(ss:List Sec)(q:List Sp)(o:Sp)(hls:ls.length<2^62)(hss:ss.length<2^62)(hq:q.length<2^62)(hcv:∀l∈ls,l.curve.length<2^62)(hM:gl ns ls ss q o=false) :
  C 618 [.agg [slx b1 (ns.map aO),slx b2 (ls.map aA)],slx b (ss.map aS),slx b' (q.map knD),.agg (knD o)] (.tup [.nilp,.int .i64 (cN ns ls ss q o)]) []:=by
 refine ai hC (nf:=N618) rfl rfl ?_
 refine ta hC hS b1 b2 b b' ns ls ss q o hls hss hq hcv (fun e he _=>?_) (fun h=>?_)
 ·subst he
  simp[N618]
 ·rw[hM]at h;cases h
theorem xj(hS:SlC C)(b1 b2 b b':Bool)(ns:List Nod)(ls:List Lnk)(ss:List Sec)(q:List Sp)(o:Sp)(hls:ls.length<2^62)(hss:ss.length<2^62)(hq:q.length<2^62)(hcv:∀l∈ls,l.curve.length<2^62)(hM:gl ns ls ss q o=true) :
  C 618 [.agg [slx b1 (ns.map aO),slx b2 (ls.map aA)],slx b (ss.map aS),slx b' (q.map knD),.agg (knD o)] (.tup [.blk 9 [dV b1 b2 ns ls ss (av ns ls) (aE ns.length (av ns ls) q) o (List.replicate ns.length [.nilp])],.int .i64 (cN ns ls ss q o)]) [.nils]:=by
 refine Gk hC (nf:=N618) rfl rfl rfl ?_
 refine ta hC hS b1 b2 b b' ns ls ss q o hls hss hq hcv (fun e he h=>?_) (fun h=>?_)
 ·rw[hM]at h;cases h
 ·simp[N618]
end Go.Gv

set_option maxRecDepth 4000
namespace Go.Gv
theorem vf{n:Nat}{es:List Edg}(hlen:(bk n es).length=n){v:Nat}(hv:v<n):rkO n es v<n:=by
 have hI:=gN n es n
 have hmem:v∈bk n es:=by
  apply Classical.byContradiction
  intro hn
  have hnd:(v::bk n es).Nodup:=List.nodup_cons.2 ⟨hn,hI.nd⟩
  have hsub:(v::bk n es) ⊆ List.range n:=by
   intro u hu
   rcases x0S.1 hu with rfl|hu
   ·simpa using hv
   ·simpa using hI.lt u hu
  have:=List.Nodup.length_le_of_subset hnd hsub
  simp at this
  omega
 have:=List.idxOf_lt_length_iff.2 hmem
 unfold rkO
 omega
structure TrX (ns:List Nod) (ls:List Lnk) (ss:List Sec) (es:List Edg) (fl:List Sp):Prop where
 trs:TrS ns.length es ls (ls.map (cV ss)) fl
 lnk:∀l∈ls,gQ ss l
 cat:bg ss=true
 kind:∀i (h:i<ns.length),ns[i].kind=3↔fE es i=none
 inv:∀i:Nat,-4194304<=ns[i]!.invert/\ns[i]!.invert<=4194304
 fln:fl.length=ls.length
theorem ne{ls:List Lnk}{ss:List Sec}{k:Nat}(hk:k<ls.length):(ls.map (cV ss))[k]! = cV ss ls[k]!:=by
 rw[x0f (ls.map (cV ss)) k (by simpa using hk),x0f ls k hk,x1N]
theorem AI{ns:List Nod}{ls:List Lnk}{ss:List Sec}{q:List Sp}{o:Sp}(hM:gl ns ls ss q o=true)(h0:cN ns ls ss q o=0) :
  TrX ns ls ss (av ns ls) (aE ns.length (av ns ls) q)/\-4194304<=o.1/\o.1<=o.2/\o.2<=4194304:=by
 have hE:=(AH hM).1
 rw[h0]at hE
 simp only[gl,x0a,x0t,x0c,x0K]at hM
 obtain⟨⟨⟨⟨⟨h1,h2⟩,h3⟩,h4⟩,h5⟩,h6⟩:=hM
 obtain⟨ht,hc,hs,hp⟩:=qz h1
 have hv:bG ns ls=true:=by simp only[cB,x0a]at ht;exact ht.1.1
 have htf:cP ns.length (av ns ls)=true:=by simp only[cB,x0a]at ht;exact ht.2
 obtain⟨hnl,hll⟩:=bR hv
 have hg:=fj hv
 have hel:=aM ns ls
 have hpo:=qM ht hp
 obtain⟨hq1,hq2⟩:=lu hs
 have hq1':q.length=ns.length:=by omega
 have hbig:iZ (aE ns.length (av ns ls) q)=false:=by
  unfold bM at h5
  split at h5
  ·cases h5
  ·rename_i h;simpa using h
 have hnd:((av ns ls).map (·.1)).Nodup/\(bk ns.length (av ns ls)).length=ns.length:=by
  simpa only[cP,x0a,x0c]using htf
 have hlos:∀k,k<ls.length->(cf ls[k]! (cV ss ls[k]!) (aE ns.length (av ns ls) q)[k]!.2).2=0:=by
  intro k hk
  have hle:fL ls ss (aE ns.length (av ns ls) q) k=0\/fL ls ss (aE ns.length (av ns ls) q) k=5\/fL ls ss (aE ns.length (av ns ls) q) k=16:=by
   unfold fL cf fw
   split
   ·simp
   ·split
    ·simp
    ·split<;>simp
  unfold jl at hE
  split at hE
  ·cases hE
  ·rename_i n16
   split at hE
   ·cases hE
   ·rename_i n5
    rw[x0V,x0M]at n16 n5
    have a:=n16 k (by simpa using hk)
    have b:=n5 k (by simpa using hk)
    simp only[x0c]at a b
    rcases hle with h|h|h
    ·exact h
    ·exact absurd h b
    ·exact absurd h a
 have ho:cl o=true:=h2
 have ho2:-4194304<=o.1/\o.2<=4194304:=by
  simp only[de,Bool.or_eq_false_iff,x0K]at h3
  omega
 have ho1:o.1<=o.2:=by
  simp only[cl,x0a,x0c]at ho
  exact ho.1.1
 refine⟨⟨⟨hg,hnd.2,hnd.1,hel,hnl,⟨fun k hk=>?_,fun k hk=>?_,fun k hk=>?_,fun k hk=>?_,fun k hk=>?_,fun k hk=>?_⟩,fun k hk=>?_⟩,hpo,hc,fun i hi=>?_,fun i=>?_,by rw[iA,hel]⟩,ho2.1,ho1,ho2.2⟩
 ·rw[ne hk,x0f ls k hk]
  exact(hpo _ (x0h hk)).valid hc
 ·rw[x0f ls k hk]
  exact(hpo _ (x0h hk)).len
 ·rw[x0f ls k hk]
  exact(hpo _ (x0h hk)).le
 ·rw[x0f ls k hk]
  exact(hpo _ (x0h hk)).up
 ·exact qv hbig (by omega)
 ·rw[ne hk]
  exact hlos k hk
 ·exact qw hnl hg htf hq1' hq2 (by omega)
 ·constructor
  ·intro h
   rw[qr]
   intro hm
   obtain⟨e,he,hee⟩:=x0v.1 hm
   obtain⟨k,hk,rfl⟩:=x0J he
   have hk':k<ls.length:=by omega
   have hl:dt ns ls k=true:=by
    simp only[bG,x0a,x0g]at hv
    exact hv.2 k (by simpa using hk')
   simp only[dt,gJ,x0a,x0c,x0t,x0K]at hl
   have h8:=hl.1.2.2
   rw[x0f ls k hk']at h8
   have e1:(bj (bq ls[k].src) ns).toNat=i:=by
    rw[<- hee]
    simp[av]
   rw[e1,x0f ns i hi]at h8
   exact h8 h
  ·intro h
   apply Classical.byContradiction
   intro h9
   rw[m4 hi h9 h]at h4
   cases h4
 ·by_cases hi:i<ns.length
  ·rw[x0f ns i hi]
   have:=(jJ hv hi).1
   simp only[fF,bn,x0a,x0c]at this
   omega
  ·rw[getElem!_neg ns i hi]
   decide
def oV(sp:Nat->Sp)(n:Nat)(dn:List (List D)):Prop:=dn.length=n/\∀j,j<n->dn[j]? = some [.nilp]\/dn[j]? = some [.ptr [.int .i64 (sp j).1,.int .i64 (sp j).2]]
theorem x5(sp:Nat->Sp)(n:Nat):oV sp n (List.replicate n [.nilp]):=⟨by simp,fun j hj=>.inl (by simp[hj])⟩
theorem rG{sp:Nat->Sp}{n:Nat}{dn:List (List D)}(h:oV sp n dn){i:Nat}(hi:i<n):oV sp n (dn.set i [.ptr [.int .i64 (sp i).1,.int .i64 (sp i).2]]):=by
 refine⟨by simp[h.1],fun j hj=>?_⟩
 by_cases e:i=j
 ·subst e
  right
  rw[List.getElem?_set_self (by rw[h.1];exact hj)]
 ·rw[List.getElem?_set_ne e]
  exact h.2 j hj
def lvX(ns:List Nod)(ls:List Lnk)(ss:List Sec)(es:List Edg)(fl:List Sp)(o:Sp)(i:Nat):Sp:=jm ns.length es ns ls (ls.map (cV ss)) fl o i
variable{C:CC}(hC:ay prog C)
include hC
set_option maxHeartbeats 2000000 in
theorem sb(b1 b2:Bool){ns:List Nod}{ls:List Lnk}{ss:List Sec}{es:List Edg}{fl:List Sp}{o:Sp}(T:TrX ns ls ss es fl)(ho:-4194304<=o.1/\o.1<=o.2/\o.2<=4194304):∀(r i:Nat),i<ns.length->ns.length<=r+rkO ns.length es i->∀dn,oV (lvX ns ls ss es fl o) ns.length dn ->
  ∃dn',oV (lvX ns ls ss es fl o) ns.length dn'/\C 619 [.blk 9 [dV b1 b2 ns ls ss es fl o dn],.int .i64 i] (.tup [.agg [.int .i64 (lvX ns ls ss es fl o i).1,.int .i64 (lvX ns ls ss es fl o i).2],.int .i64 0]) [.blk 9 [dV b1 b2 ns ls ss es fl o dn']]
 | 0,i,hi,hr,dn,hd=>by
  have:=vf T.trs.full hi
  omega
 | r+1,i,hi,hr,dn,hd=>by
  obtain⟨sp,hsp⟩:∃sp,sp=lvX ns ls ss es fl o:=⟨_,rfl⟩
  rw[<- hsp]at hd ⊢
  have hdl:=hd.1
  rcases hd.2 i hi with hdi|hdi
  case inr =>
   refine⟨dn,hd,?_⟩
   have hA:dn[i]'(by omega)=[.ptr [.int .i64 (sp i).1,.int .i64 (sp i).2]]:=(x0b.1 hdi).2
   refine uo hC (nf:=N619) rfl rfl ?_
   simp[N619,dV,hdl,hi,aG hdi]
  have hA:dn[i]'(by omega)=[.nilp]:=(x0b.1 hdi).2
  cases hf:fE es i with
  | none =>
   have hk:=(T.kind i hi).2 hf
   refine⟨_,rG hd hi,?_⟩
   have hs:sp i=(mxI ns[i].invert o.1,mxI ns[i].invert o.2):=by
    rw[hsp]
    unfold lvX
    rw[pE (show j5 es i=none from hf)]
    unfold ro
    rw[x0f ns i hi]
   refine uo hC (nf:=N619) rfl rfl ?_
   simp[N619,dV,hdl,hi,aG hdi,aO,hk]
   refine⟨ao (by decide +kernel),?_⟩
   refine vt (s:=6) (c:=10096) (sz:=2) (row:=[.int .i64 (sp i).1,.int .i64 (sp i).2]) (b:=10015) (i1:=0) (o1:=8) (i:=i) (off:=0) (sz0:=9) (sz1:=1) (es0:=[dV b1 b2 ns ls ss es fl o dn]) (row0:=dV b1 b2 ns ls ss es fl o dn) (es:=dn) (r:=[.nilp]) (by decide) (by simp) (by simp[hs,mxI]) (by simp[aI]) (by simp) (by decide) (by simp[dV]) rfl rfl hdi (by simp) ?_
   simp[dV,hA,hdl,hi]
  | some k =>
   obtain⟨hk,hek⟩:=fV (show j5 es i=some k from hf)
   have hkl:k<ls.length:=by have:=T.trs.cnt;omega
   have hfl:=T.fln
   have hkf:k<fl.length:=by omega
   have hnk:¬ns[i].kind=3:=fun h=>by rw[(T.kind i hi).1 h]at hf;cases hf
   obtain⟨w,hw,r1,r2,e1,e2,hS⟩:=pF (ns:=ns) (o:=o) T.trs T.inv ⟨ho.2.1,ho.2.2⟩ (vf T.trs.full hi) (show j5 es i=some k from hf)
   rw[x0f es k hk]at hw
   have hwn:w<ns.length:=by rw[hw];exact(T.trs.ing _ (x0h hk)).2
   obtain⟨b1',b2',b3'⟩:=qF (ns:=ns) (o:=o) T.trs T.inv ⟨ho.2.1,ho.2.2⟩ w
   have hP:=T.lnk _ (x0h hkl)
   obtain⟨f0,f1⟩:=T.trs.low k hkl
   have f2:=T.trs.tro.flow k hkl
   rw[ne hkl,x0f ls k hkl,x0f fl k hkf]at hS e1 e2
   rw[x0f fl k hkf]at f0 f1 f2
   have hsm:=T.trs.small
   obtain⟨dn1,hd1,kc⟩:=sb b1 b2 T ho r w hwn (by omega) dn (by rw[<- hsp];exact hd)
   have hS2:lvX ns ls ss es fl o i=((bV ls[k] (cV ss ls[k]) fl[k].1 (lvX ns ls ss es fl o w).1).1,(bV ls[k] (cV ss ls[k]) fl[k].2 (lvX ns ls ss es fl o w).2).1):=hS
   change lp ns.length (lvX ns ls ss es fl o w).1 at b1'
   change lp ns.length (lvX ns ls ss es fl o w).2 at b2'
   change (bV ls[k] (cV ss ls[k]) fl[k].1 (lvX ns ls ss es fl o w).1).2=0 at e1
   change (bV ls[k] (cV ss ls[k]) fl[k].2 (lvX ns ls ss es fl o w).2).2=0 at e2
   rw[<- hsp]at kc hS2 b1' b2' e1 e2 hd1
   have hb1:-4194304<=(sp w).1/\(sp w).1<=1099511627776:=⟨b1'.1,by have:=b1'.2;omega⟩
   have hb2:-4194304<=(sp w).2/\(sp w).2<=1099511627776:=⟨b2'.1,by have:=b2'.2;omega⟩
   have hu:bn ls[k].up=true:=by
    have:=hP.up
    simp only[bn,x0a,x0c]
    exact this
   have hdw:bn ls[k].down=true:=by
    have:=hP.down
    simp only[bn,x0a,x0c]
    exact this
   have ka:=qe hC ls[k] (cV ss ls[k]) fl[k].1 (sp w).1 (hP.valid T.cat) hP.len hu hdw ⟨f0,by omega⟩ hb1
   have kb:=qe hC ls[k] (cV ss ls[k]) fl[k].2 (sp w).2 (hP.valid T.cat) hP.len hu hdw ⟨by omega,f2⟩ hb2
   rw[e1]at ka
   rw[e2]at kb
   have s1:(sp i).1=(bV ls[k] (cV ss ls[k]) fl[k].1 (sp w).1).1:=by rw[hS2]
   have s2:(sp i).2=(bV ls[k] (cV ss ls[k]) fl[k].2 (sp w).2).1:=by rw[hS2]
   rw[<- s1]at ka
   rw[<- s2]at kb
   refine⟨_,rG hd1 hi,?_⟩
   have hdl1:=hd1.1
   have hgt:=qy es es.length hi
   rw[x08,hf]at hgt
   have hto:=C6 (es:=es) (j:=es.length) hk hk
   rw[<- hw]at hto
   have hsg:=sQ (ss:=ss) (j:=ls.length) hkl hkl
   clear hS hS2 e1 e2 s1 s2 b1' b2' b3'
   refine uo hC (nf:=N619) rfl rfl ?_
   simp[N619,dV,hdl,hi,aG hdi,aO,hnk,m3,aG hgt,frI,hk,vy,aG hto]
   refine uR (by simpa[dV]using kc) (by simp) ?_
   simp[hkf,knD]
   refine⟨ao (by decide +kernel),?_⟩
   refine au Nat (fun j=>[(0,.adr (.r 10015) 0 0),(1,.int .i64 i),(4,.adr (.r 10064) 0 0),(6,.adr (.r 10096) 0 0),(8,.int .i64 k),(105,.rfx 2 3 [.int .i64 fl[k].1,.int .i64 (sp w).1,.adr (.r 10096) 0 0,.int .i64 fl[k].2,.int .i64 (sp w).2,.adr (.r 10096) 0 1]),(106,.int .i64 2),(107,.int .i64 j),
     (10015,.blk 9 [dV b1 b2 ns ls ss es fl o dn1]),(10064,.blk 2 [[.int .i64 0,.int .i64 0]]),(10096,.blk 2 [[.int .i64 (if 0<j then(sp i).1 else 0),.int .i64 (if 1<j then(sp i).2 else 0)]])]) (fun j=>j<=2) (fun j=>2-j) 0 (by simp) (by simp[dV]) ?_
   intro j hj
   simp
   refine ac (fun g=>?_) (fun g=>?_)<;>simp at g
   ·rcases(show j=0\/j=1 by omega)with rfl|rfl
    ·simp[dV,hkl,aA,io,aG hsg]
     refine lw (s:=12) (c:=10192) (sz:=3) (row:=[.int .i64 0,.int .i64 0,.nilp]) (ds:=[.int .i64 fl[k].1,.int .i64 (sp w).1,.adr (.r 10096) 0 0]) (by decide) (by simp) (by simp) rfl (by simp[ij]) rfl (by simp[rW]) ?_
     simp[dV,hkl,aA,aS,io,aG hsg]
     refine aa (by simpa[aA,aS]using ka) (.inr rfl) ?_
     simp
     exact⟨ao (by decide +kernel),1,by omega,by omega,rfl,by simp⟩
    ·simp[dV,hkl,aA,io,aG hsg]
     refine lw (s:=12) (c:=10192) (sz:=3) (row:=[.int .i64 0,.int .i64 0,.nilp]) (ds:=[.int .i64 fl[k].2,.int .i64 (sp w).2,.adr (.r 10096) 0 1]) (by decide) (by simp) (by simp) rfl (by simp[ij]) rfl (by simp[rW]) ?_
     simp[dV,hkl,aA,aS,io,aG hsg]
     refine aa (by simpa[aA,aS]using kb) (.inr rfl) ?_
     simp
     exact⟨ao (by decide +kernel),2,by omega,by omega,rfl,by simp⟩
   ·have ej:j=2:=by omega
    subst ej
    obtain⟨r',hr',hrl⟩:∃r',dn1[i]? = some r'/\r'.length=1:=by
     rcases hd1.2 i hi with h|h
     ·exact⟨_,h,rfl⟩
     ·exact⟨_,h,rfl⟩
    have hA1:dn1[i]'(by omega)=r':=(x0b.1 hr').2
    simp[dV,hdl1,hi]
    refine vt (s:=6) (c:=10096) (sz:=2) (row:=[.int .i64 (sp i).1,.int .i64 (sp i).2]) (b:=10015) (i1:=0) (o1:=8) (i:=i) (off:=0) (sz0:=9) (sz1:=1) (es0:=[dV b1 b2 ns ls ss es fl o dn1]) (row0:=dV b1 b2 ns ls ss es fl o dn1) (es:=dn1) (r:=r') (by decide) (by simp) (by simp) (by simp[aI]) (by simp) (by decide) (by simp[dV]) rfl rfl hr' (by omega) ?_
    have hsg1:br dn1 i 0 1 [.ptr [.int .i64 (sp i).1,.int .i64 (sp i).2]]=dn1.set i [.ptr [.int .i64 (sp i).1,.int .i64 (sp i).2]]:=by
     unfold br
     rw[hr']
     obtain⟨x,rfl⟩:∃x,r'=[x]:=List.length_eq_one_iff.1 hrl
     rfl
    rw[hsg1]
    simp[dV]
end Go.Gv

set_option maxRecDepth 4000
namespace Go.Gv
theorem AE{ns:List Nod}{ls:List Lnk}{ss:List Sec}{q:List Sp}{o:Sp}(h:cN ns ls ss q o=0):gl ns ls ss q o=true:=by
 unfold cN at h
 split at h
 ·cases h
 rename_i h1
 split at h
 ·cases h
 split at h
 ·cases h
 rename_i h2
 split at h
 ·rename_i h3;exact absurd h h3
 rename_i h3
 split at h
 ·cases h
 rename_i h4
 split at h
 ·rename_i h5;exact absurd h h5
 rename_i h5
 have h3':eG ns ls ss q ns.length=0:=Classical.byContradiction h3
 have h5':bM ns.length (av ns ls) q=0:=Classical.byContradiction h5
 have h6:cl o=true:=by
  apply Classical.byContradiction
  intro h7
  exact h1 (.inr (by simpa using h7))
 have h7:de o=false:=by
  rw[<- x0V]
  intro h8
  exact h2 (.inr h8)
 have h8:lT ns (av ns ls)=false:=by simpa using h4
 unfold gl
 rw[h3',h5',h6,h7,h8,h]
 rfl
def lvT(sp:Nat->Sp)(j:Nat):List Sp:=(List.range j).map sp
theorem DN(sp:Nat->Sp):lvT sp 0=[]:=rfl
theorem sn(sp:Nat->Sp)(j:Nat):lvT sp (j+1)=lvT sp j++[sp j]:=by simp[lvT,x1G]
theorem fM(sp:Nat->Sp)(j:Nat):(lvT sp j).length=j:=by simp[lvT]
theorem DO(sp:Nat->Sp)(n:Nat):List.map knD (lvT sp n)=List.take n (List.map ((fun e=>List.map aT e)∘knD) (lvT sp n)):=by
 rw[x0s (by simp[fM])]
 apply x0i
 intro x _
 simp[knD,aT]
def Fh(ns:List Nod)(ls:List Lnk)(ss:List Sec)(q:List Sp)(o:Sp):Nat->Sp:=lvX ns ls ss (av ns ls) (aE ns.length (av ns ls) q) o
variable{C:CC}(hC:ay prog C)
include hC
end Go.Gv

namespace Go.Gv
section
variable{C:CC}{hs:Option (List Nat)}{K:Env->Prop}{ns:List az}{dst:Option Nat}{e:Env}{R:List Nat}{acc:List (List Nat×List Nat)}{u:Tag (hs,K,ns)}
@[simp] theorem Jz:o4 none=[]:=zR
@[simp] theorem JA{x:Opd}:o4 (some x)=[x]:=zR
@[simp] theorem N7{c c' k n:Nat}{q:Pa}:wO c q (.ref (.r c') k n)=if c'=c then .ref q k n else .ref (.r c') k n:=zR
@[simp] theorem JD{c b i o k n:Nat}{q:Pa}:wO c q (.ref (.n b i o) k n)=.ref (.n b i o) k n:=zR
@[simp] theorem S6{c:Nat}{q:Pa}{es}:wO c q (.sl es)=.sl es:=zR
@[simp] theorem JC{c:Nat}{q:Pa}:wO c q .nils=.nils:=zR
@[simp] theorem N6{c:Nat}{q:Pa}{k n}:wO c q (.int k n)=.int k n:=zR
@[simp] theorem N8{c:Nat}{q:Pa}{b es}:wO c q (slx b es)=slx b es:=by cases b<;>cases es<;>rfl
@[simp] theorem E7{b c i o k n:Nat}:pw b (.ref (.n c i o) k n)=(c != b||(i==0&&o==1)):=zR
@[simp] theorem E8{b c k n:Nat}:pw b (.ref (.r c) k n)=true:=zR
@[simp] theorem M8{b:Nat}{es}:pw b (.sl es)=true:=zR
@[simp] theorem E6{b:Nat}:pw b .nils=true:=zR
@[simp] theorem IC{b:Nat}{k n}:pw b (.int k n)=true:=zR
@[simp] theorem ID{b:Nat}{x es}:pw b (slx x es)=true:=by cases x<;>cases es<;>rfl
def Fk(C:CC)(g:Nat)(hs:Option (List Nat))(K:Env->Prop)(ns:List az)(dst:Option Nat)(_:Tag (hs,K,ns))(e:Env)(R:List Nat)(acc:List (List Nat×List Nat))(b sz:Nat)(es:List (List D))(W:List D):Prop :=
 ∃d,∃es':List (List D),0<es'.length/\C g (.blk sz es::W) d [.blk sz es',.nilp]/\doW C hs K ns ⟨⟩ e R acc (fQ dst d++[(b,.blk sz es')]) [(b,false)]
theorem uS{g b sz:Nat}{es es':List (List D)}{W:List D}{d:D}(h:C g (.blk sz es::W) d [.blk sz es',.nilp])(hp:0<es'.length)
  (hk:doW C hs K ns ⟨⟩ e R acc (fQ dst d++[(b,.blk sz es')]) [(b,false)]):Fk C g hs K ns dst u e R acc b sz es W:=⟨d,es',hp,h,hk⟩
def Fr(C:CC)(g:Nat)(hs:Option (List Nat))(K:Env->Prop)(ns:List az)(dst:Option Nat)(_:Tag (hs,K,ns))(e:Env)(R:List Nat)(acc:List (List Nat×List Nat))(xs:List Opd)(d:D):Prop:=match d with
 | .ptx ds=>∃cs,kM (xs.map (vd (ae e)))=some cs/\dW C hs K ns dst ⟨⟩ e R acc (.fny g ds cs)
 | _=>False
@[simp] theorem Nt{g xs ds}:Fr C g hs K ns dst u e R acc xs (.ptx ds)=∃cs,kM (xs.map (vd (ae e)))=some cs/\dW C hs K ns dst ⟨⟩ e R acc (.fny g ds cs):=zR
@[simp] theorem SU{g x xs v1}:opW C hs K ns dst (.mkY g x xs) v1 e R acc=Fr C g hs K ns dst ⟨⟩ e R acc xs (vd (ae e) x):=by
 show res (ae e) _ (.mkY g x xs)=_
 simp only[res,Fr]
 cases vd (ae e) x<;>rfl
def Kr(C:CC)(g:Nat)(hs:Option (List Nat))(K:Env->Prop)(ns:List az)(dst:Option Nat)(_:Tag (hs,K,ns))(e:Env)(R:List Nat)(acc:List (List Nat×List Nat))(xs:List Opd)(d:D):Prop:=match d with
 | .fny g' [.adr (.r b) i off] cs=>g'=g/\i=0/\off=0/\cs.all isV=true/\dC (ae e b) (fun sz es=>0<es.length/\(∀x∈xs,isV (vd (ae e) x)=true)/\Fk C g hs K ns dst ⟨⟩ e R acc b sz es (xs.map (vd (ae e))++.ptx [.adr (.r 10015) 0 0]::cs)) ⟨⟩
 | _=>False
@[simp] theorem Tl{g g' xs b i off cs}:Kr C g hs K ns dst u e R acc xs (.fny g' [.adr (.r b) i off] cs)=(g'=g/\i=0/\off=0/\cs.all isV=true/\dC (ae e b) (fun sz es=>0<es.length/\(∀x∈xs,isV (vd (ae e) x)=true)/\Fk C g hs K ns dst ⟨⟩ e R acc b sz es (xs.map (vd (ae e))++.ptx [.adr (.r 10015) 0 0]::cs)) ⟨⟩):=zR
@[simp] theorem Js{g x xs v1}:opW C hs K ns dst (.callY g x xs) v1 e R acc=Kr C g hs K ns dst ⟨⟩ e R acc xs (vd (ae e) x):=by
 unfold opW
 simp only[aL]
 rcases vd (ae e) x with _|_<;>first|rfl|skip
end
end Go.Gv

set_option maxRecDepth 4000
namespace Go.Gv
variable{C:CC}(hC:ay prog C)
include hC
set_option maxHeartbeats 2000000 in
theorem La(b1 b2:Bool){ns:List Nod}{ls:List Lnk}{ss:List Sec}{es:List Edg}{fl:List Sp}{o:Sp}(T:TrX ns ls ss es fl)(i:Nat)(hi:i<ns.length)(h:Int)(hh:-4194304<=h/\h<=4194304)(dn:List (List D))(hd:oV (lvX ns ls ss es fl o) ns.length dn) :
  ∃dn',oV (lvX ns ls ss es fl (h,h)) ns.length dn'/\C 626 [.blk 9 [dV b1 b2 ns ls ss es fl o dn],.int .i64 h,.ptx [.adr (.r 10015) 0 0],.ptr [.int .i64 i],.ptr [slx b1 (ns.map aO),slx b2 (ls.map aA)]] (.bool (decide ((lvX ns ls ss es fl (h,h) i).2<=ns[i]!.ground))) [.blk 9 [dV b1 b2 ns ls ss es fl (h,h) dn'],.nilp]:=by
 obtain⟨dn',hd',kc⟩:=sb hC b1 b2 T (o:=(h,h)) ⟨hh.1,x0F _,hh.2⟩ ns.length i hi (by omega) (List.replicate ns.length [.nilp]) (x5 _ _)
 have k1:=sV hC h
 refine⟨dn',hd',Gl hC.1 (nf:=N626) rfl rfl ?_⟩
 simp[N626,dV]
 refine aa k1 (.inl rfl) ?_
 have ez:dy dn 0 dn.length [.nilp]=List.replicate ns.length [.nilp]:=by
  rw[<- hd.1]
  simp[dy]
 simp[dV]at kc
 simp[ez]
 refine⟨ao (by decide +kernel),uR kc (by simp) ?_⟩
 generalize hQ:qt [(5,none)] _ _ _=Q
 simp[hi,aO]
 refine⟨ao (by decide +kernel),?_⟩
 rw[<- hQ]
 simp[hi]
end Go.Gv

namespace Go.Gv
def jz(nm:List UInt8)(l:Lnk):Bool:=l.src==nm
theorem su{ns:List Nod}{ls:List Lnk}(hv:bG ns ls=true){nm:List UInt8}{v:Nat}(h:bj (bq nm) ns=(v:Int)):∃hv:v<ns.length,ns[v].name=nm:=by
 unfold bj at h
 split at h
 ·rename_i i hi
  rw[x0O]at hi
  obtain⟨h1,h2,_⟩:=hi
  have e:i=v:=by omega
  subst e
  exact⟨h1,by simpa[bq]using h2⟩
 ·omega
theorem rJ{ns:List Nod}{ls:List Lnk}(hv:bG ns ls=true){i:Nat}(hi:i<ls.length):∃(h1:((av ns ls)[i]'(by rw[aM];exact hi)).1<ns.length) (h2:((av ns ls)[i]'(by rw[aM];exact hi)).2<ns.length),(ns[((av ns ls)[i]'(by rw[aM];exact hi)).1]'h1).name=ls[i].src/\(ns[((av ns ls)[i]'(by rw[aM];exact hi)).2]'h2).name=ls[i].dst/\bj (bq ls[i].src) ns=((((av ns ls)[i]'(by rw[aM];exact hi)).1:Nat):Int)/\bj (bq ls[i].dst) ns=((((av ns ls)[i]'(by rw[aM];exact hi)).2:Nat):Int):=by
 obtain⟨_,_,h1,h2⟩:=eX hv hi
 have e1:((av ns ls)[i]'(by rw[aM];exact hi)).1=(bj (bq ls[i].src) ns).toNat:=by simp[av]
 have e2:((av ns ls)[i]'(by rw[aM];exact hi)).2=(bj (bq ls[i].dst) ns).toNat:=by simp[av]
 have a1:bj (bq ls[i].src) ns=((((av ns ls)[i]'(by rw[aM];exact hi)).1:Nat):Int):=by rw[e1];omega
 have a2:bj (bq ls[i].dst) ns=((((av ns ls)[i]'(by rw[aM];exact hi)).2:Nat):Int):=by rw[e2];omega
 obtain⟨b1,c1⟩:=su hv a1
 obtain⟨b2,c2⟩:=su hv a2
 exact⟨b1,b2,c1,c2,a1,a2⟩
theorem wA{ns:List Nod}{ls:List Lnk}(hv:bG ns ls=true){i j:Nat}(hi:i<ns.length)(hj:j<ns.length)(h:ns[i].name=ns[j].name):i=j:=by
 have h1:=(jJ hv hi).2
 have h2:=(jJ hv hj).2
 rw[h,h2]at h1
 omega
theorem Cd{ns:List Nod}{ls:List Lnk}(hv:bG ns ls=true){v:Nat}(h:v<ns.length):bj (jz ns[v].name) ls=frI (fE (av ns ls) v):=by
 have hel:=aM ns ls
 have key:∀i (hi:i<ls.length),jz ns[v].name ls[i]=(((av ns ls)[i]'(by rw[hel];exact hi)).1==v):=by
  intro i hi
  obtain⟨h1,h2,h3,_⟩:=rJ hv hi
  rw[x0z]
  simp only[jz,x0q]
  rw[<- h3]
  constructor
  ·intro e;exact wA hv h1 h e
  ·intro e;simp only[e]
 have:ls.findIdx? (jz ns[v].name)=fE (av ns ls) v:=by
  cases hx:fE (av ns ls) v with
  | some x =>
   obtain⟨h1,h2,h3⟩:=BF hx
   rw[x0O]
   refine⟨by omega,?_,fun j hj=>?_⟩
   ·rw[key x (by omega)];simpa using h2
   ·have:=h3 j hj
    rw[key j (by omega)];simpa using this
  | none =>
   rw[qr]at hx
   rw[x1Q]
   intro l hl
   obtain⟨i,hi,rfl⟩:=x0J hl
   rw[key i hi]
   simp only[beq_eq_false_iff_ne]
   intro e
   exact hx (x0v.2 ⟨_,x0h (by rw[hel];exact hi),e⟩)
 unfold bj
 rw[this]
 cases fE (av ns ls) v<;>rfl
end Go.Gv

namespace Go.Gv
inductive Pth (es:List Edg):Nat->Nat->Prop
 | refl (v:Nat):Pth es v v
 | step {u v w:Nat}:(u,v)∈es->Pth es v w->Pth es u w
theorem Pth.snoc{es:List Edg}{u v w:Nat}(h:Pth es u v)(e:(v,w)∈es):Pth es u w:=by
 induction h with
 | refl v=>exact .step e (.refl _)
 | step e' _ ih=>exact .step e' (ih e)
theorem Pth.trans{es:List Edg}{u v w:Nat}(h:Pth es u v)(h2:Pth es v w):Pth es u w:=by
 induction h with
 | refl v=>exact h2
 | step e _ ih=>exact .step e (ih h2)
def RR(es:List Edg)(fr:List Nat)(v:Nat):Prop:=∃s∈fr,Pth es s v
noncomputable def rB(es:List Edg)(fr:List Nat)(v:Nat):Bool:=@decide (RR es fr v) (Classical.propDecidable _)
theorem za{es:List Edg}{fr:List Nat}{v:Nat}:rB es fr v=true↔RR es fr v:=by
 unfold rB
 exact @decide_eq_true_iff _ (Classical.propDecidable _)
theorem wH{es:List Edg}{fr:List Nat}{out:Nat->Bool}(h1:∀v,out v=true->RR es fr v)(h2:∀s∈fr,out s=true)(h3:∀u w,(u,w)∈es->out u=true->out w=true)(v:Nat):out v=rB es fr v:=by
 have key:∀{u w:Nat},Pth es u w->out u=true->out w=true:=fun{u w} h=>by
  induction h with
  | refl v=>exact _root_.id
  | step e _ ih=>exact fun hu=>ih (h3 _ _ e hu)
 rw[x0z,za]
 refine⟨h1 v,fun⟨s,hs,hp⟩=>key hp (h2 s hs)⟩
def cj(n:Nat)(f:Nat->Bool):List (List D):=(List.range n).map fun v=>[.bool (f v)]
theorem cc(n:Nat)(f:Nat->Bool):(cj n f).length=n:=by simp[cj]
theorem fR{n v:Nat}(f:Nat->Bool)(h:v<n):(cj n f)[v]? = some [.bool (f v)]:=by simp[cj,h]
theorem lN{n v:Nat}(f:Nat->Bool)(x:Bool):(cj n f).set v [.bool x]=cj n fun u=>if u=v then x else f u:=by
 unfold cj
 rw[iL]
 apply x0i
 intro u _
 by_cases h:u=v<;>simp[h]
theorem mt{n:Nat}{f g:Nat->Bool}(h:∀v,v<n->f v=g v):cj n f=cj n g:=by
 unfold cj
 apply x0i
 intro v hv
 rw[h v (by simpa using hv)]
theorem Bf(n:Nat)(f:Nat->Bool):(cj n f).map (fun e=>e.map aT)=cj n f:=by
 unfold cj
 rw[List.map_map]
 apply x0i
 intro v _
 simp[aT]
def wtS(f:Nat->Nat):Nat->Nat
 | 0=>0
 | k+1=>wtS f k+f k
theorem p9{f g:Nat->Nat}:∀{K:Nat},(∀k,k<K->f k=g k)->wtS f K=wtS g K
 | 0,_=>rfl
 | K+1,h=>by unfold wtS;rw[p9 (K:=K) (fun k hk=>h k (by omega)),h K (by omega)]
theorem vF{f g:Nat->Nat}{i:Nat}:∀{K:Nat},i<K->(∀k,k≠i->g k=f k)->g i=0->wtS f K=wtS g K+f i
 | 0,h,_,_=>by omega
 | K+1,h,h1,h2=>by
  unfold wtS
  by_cases e:K=i
  ·subst e
   rw[p9 (f:=g) (g:=f) (fun k hk=>h1 k (by omega)),h2]
   omega
  ·rw[vF (f:=f) (g:=g) (K:=K) (by omega) h1 h2,h1 K e]
   omega
end Go.Gv

namespace Go.Gv
variable{C:CC}(hC:ay prog C)
include hC
end Go.Gv

namespace Go.Gv
variable{C:CC}(hC:ay prog C)
include hC
end Go.Gv

namespace Go.Gv
variable{C:CC}(hC:ay prog C)
include hC
theorem wI(b1 b2:Bool)(ns:List Nod)(ls:List Lnk)(hv:bG ns ls=true):C 429 [.agg [slx b1 (ns.map aO),slx b2 (ls.map aA)]] .any [.own 2 ((av ns ls).map edK)]:=by
 obtain⟨hl1,hl2⟩:=bR hv
 refine kE hC (nf:=N429) rfl rfl ?_
 simp[N429]
 refine au Nat (fun j=>[(1,.ptr [slx b1 (ns.map aO),slx b2 (ls.map aA)]),(3,.ref (.r 10048) 0 j),(10048,.blk 2 (edT (av ns ls) j)),(4,.int .i64 j)]) (fun j=>j<=ls.length) (fun j=>ls.length-j) 0 (by simp) (by simp) ?_
 rintro j hj
 simp
 refine ac (fun h=>?_) (fun h=>?_)<;>simp[h]<;>simp at h
 ·have hw:IntKind.wrap .i64 ((j:Int)+1)=((j+1:Nat):Int):=wrap_i64 (by omega) (by omega)
  obtain⟨_,_,g1,g2⟩:=eX hv h
  have k1:=fk hC b1 b2 ns ls ls[j].src (by omega)
  have k2:=fk hC b1 b2 ns ls ls[j].dst (by omega)
  have hjl:j<(av ns ls).length:=by rw[aM];exact h
  have el:=jG (es:=av ns ls) (j:=j) (by omega)
  simp[h,aA,el]
  refine aa k1 (.inl rfl) ?_
  simp[h,aA]
  refine aa k2 (.inl rfl) ?_
  simp[el]
  refine⟨by omega,ao (by decide +kernel),j+1,by omega,by omega,rfl,?_,hw⟩
  have e2:(edT (av ns ls) j).take j=edT (av ns ls) j:=x0s (by omega)
  rw[e2,nE hjl]
  congr 2
  simp only[av,x1N,edK,knD]
  rw[x1X g1,x1X g2]
 ·have ej:j=ls.length:=by omega
  subst ej
  have e0:=qp (av ns ls)
  have el:=jG (es:=av ns ls) (j:=ls.length) (by rw[aM];exact x0r _)
  rw[aM]at e0
  simp[el,<- e0]
  exact⟨fun r x y _ e c hc=>by subst e;simp[edK,knD]at hc;rcases hc with rfl|rfl<;>rfl,(aM ns ls).symm⟩
end Go.Gv

namespace Go.Gv
variable{C:CC}(hC:ay prog C)
include hC
end Go.Gv

namespace Go.Gv
def trn(es:List Edg):List Edg:=es.map fun e=>(e.2,e.1)
theorem C9(es:List Edg):(trn es).length=es.length:=by simp[trn]
theorem Gm{n:Nat}{es:List Edg}(h:inG n es):inG n (trn es):=fun e he=>by
 obtain⟨x,hx,rfl⟩:=x0v.1 he
 exact⟨(h x hx).2,(h x hx).1⟩
def trA(es:List Edg)(j:Nat):List (List D):=(List.range es.length).map fun k=>edK (if k<j then(es[k]!.2,es[k]!.1) else es[k]!)
theorem jT(es:List Edg)(j:Nat):(trA es j).length=es.length:=by simp[trA]
theorem Ow(es:List Edg):trA es 0=es.map edK:=by
 apply List.ext_getElem
 ·simp[trA]
 ·intro i h1 h2
  have h3:i<es.length:=by simpa using h2
  simp[trA,h3]
theorem C7(es:List Edg):trA es es.length=(trn es).map edK:=by
 apply List.ext_getElem
 ·simp[trA,trn]
 ·intro i h1 h2
  have h3:i<es.length:=by simpa[trn]using h2
  simp[trA,trn,h3]
theorem qY{es:List Edg}{j:Nat}(h:j<es.length):(trA es j)[j]? = some [.int .i64 es[j].1,.int .i64 es[j].2]:=by
 simp[trA,h,edK,knD]
theorem C8{es:List Edg}{j:Nat}(h:j<es.length):(trA es j).set j [.int .i64 es[j].2,.int .i64 es[j].1]=trA es (j+1):=by
 unfold trA
 rw[iL]
 apply x0i
 intro k hk
 by_cases e:k=j
 ·subst e
  simp[h,edK,knD]
 ·have:(k<j)=(k<j+1):=by apply propext;omega
  simp only[if_neg e,this]
theorem Ox(es:List Edg)(j:Nat):(trA es j).map (fun e=>e.map aT)=trA es j:=by
 unfold trA
 rw[List.map_map]
 apply x0i
 intro v _
 simp[edK,knD,aT]
variable{C:CC}(hC:ay prog C)
include hC
end Go.Gv

namespace Go.Gv
def mF(n:Nat)(out:Nat->Bool):Nat:=wtS (fun v=>if out v=true then 0 else 1) n
theorem t8{n:Nat}{out:Nat->Bool}{i:Nat}(hi:i<n)(ho:out i=false):mF n out=mF n (fun u=>if u=i then true else out u)+1:=by
 unfold mF
 rw[vF (f:=fun v=>if out v=true then 0 else 1) (g:=fun v=>if (if v=i then true else out v)=true then 0 else 1) hi (fun k hk=>by simp only[if_neg hk]) (by simp)]
 simp[ho]
variable{C:CC}(hC:ay prog C)
include hC
set_option maxHeartbeats 4000000 in
theorem wL{b b':Bool}{n:Nat}{es:List Edg}(hn:n<=300)(he:es.length<=1000)(hg:inG n es)(fr:List Nat)(hf:∀s∈fr,s<n)(hl:fr.length<=1000):C 513 [.int .i64 n,slx b (es.map edK),slx b' (a8 fr)] .any [.own 1 (cj n (rB es fr))]:=by
 refine kE hC (nf:=N513) rfl rfl ?_
 simp[N513]
 refine⟨by omega,?_⟩
 refine au Nat (fun j=>[(1,slx b (es.map edK)),(2,slx b' (a8 fr)),(7,.ref (.r 10112) 0 n),(10112,.blk 1 (cj n fun v=>decide (v∈fr.take j))),(8,.int .i64 j)]) (fun j=>j<=fr.length) (fun j=>fr.length-j) 0 (by simp) (by simp[cj,jN]) ?_
 rintro j hj
 simp[a7]
 refine ac (fun h=>?_) (fun h=>?_)<;>simp[h]<;>simp at h
 ·have hw:IntKind.wrap .i64 ((j:Int)+1)=((j+1:Nat):Int):=wrap_i64 (by omega) (by omega)
  have hfj:=hf _ (x0h h)
  have hgj:(a8 fr)[j]? = some [.int .i64 (fr[j]:Int)]:=by simp[a8,h]
  have hb1:1<=((cj n fun v=>decide (v∈fr.take j))[fr[j]]'(by rw[cc];exact hfj)).length:=by simp[cj]
  have hb2:((cj n fun v=>decide (v∈fr.take j))[fr[j]]'(by rw[cc];exact hfj)).tail=[]:=by simp[cj]
  have hset:=lN (n:=n) (v:=fr[j]) (fun v=>decide (v∈fr.take j)) true
  have hnx:(cj n fun u=>if u=fr[j] then true else decide (u∈fr.take j))=cj n fun v=>decide (v∈fr.take (j+1)):=mt fun v _=>by
   have e0:decide (v∈fr.take (j+1))=decide (v∈fr.take j\/v=fr[j]):=decide_eq_decide.2 (tY h)
   rw[e0]
   by_cases e:v=fr[j]
   ·rw[if_pos e];exact(decide_eq_true (.inr e)).symm
   ·rw[if_neg e];exact decide_eq_decide.2 ⟨.inl,fun h=>h.resolve_right e⟩
  simp[bZ hgj,hgj,h,a7,hfj,cc,hb1,hb2,hw]
  exact⟨j+1,by omega,by omega,by rw[<- hnx];exact hset,by omega⟩
 have ej:j=fr.length:=by omega
 subst ej
 clear h hj
 rw[x0s (x0r fr.length)]
 refine au ((Nat->Bool)×Nat) (fun s=>[(1,slx b (es.map edK)),(7,.ref (.r 10112) 0 n),(10112,.blk 1 (cj n s.1)),(9,.bool (decide (s.2=1)))])
  (fun s=>(∀v,s.1 v=true->RR es fr v)/\(∀v∈fr,s.1 v=true)/\(s.2≠1->∀u w,(u,w)∈es->s.1 u=true->s.1 w=true))
  (fun s=>2*mF n s.1+if s.2=1 then 1 else 0) ((fun v=>decide (v∈fr)),1) ⟨fun v hv=>⟨v,by simpa using hv,.refl v⟩,fun v hv=>by simpa using hv,fun h=>absurd rfl h⟩ (by simp) ?_
 rintro⟨out,more⟩ ⟨i1,i2,i3⟩
 simp only at i1 i2 i3
 simp
 by_cases hmo:more=1
 rotate_left
 ·have hcl:=wH i1 i2 (i3 hmo)
  simp[hmo]
  exact⟨fun r hr c hc=>by
   obtain⟨v,_,rfl⟩:=x0v.1 hr
   simp at hc;subst hc;rfl,by rw[cc],mt fun v _=>hcl v⟩
 ·simp[hmo]
  refine au ((Nat->Bool)×Nat×Nat) (fun s=>[(1,slx b (es.map edK)),(7,.ref (.r 10112) 0 n),(10112,.blk 1 (cj n s.1)),(9,.bool (decide (s.2.1=1))),(10,.int .i64 s.2.2)])
   (fun s=>s.2.2<=es.length/\(∀v,s.1 v=true->RR es fr v)/\(∀v∈fr,s.1 v=true)/\(s.2.1≠1->mF n s.1=mF n out/\∀(j:Nat) (h:j<es.length),j<s.2.2->s.1 es[j].1=true->s.1 es[j].2=true)/\(s.2.1=1->mF n s.1<mF n out))
   (fun s=>es.length-s.2.2) (out,0,0) ⟨Nat.zero_le _,i1,i2,fun _=>⟨rfl,fun j h h2=>absurd h2 (Nat.not_lt_zero _)⟩,fun h=>by simp at h⟩ (by simp) ?_
  clear i1 i2 i3
  rintro⟨o2,m,k⟩ ⟨j0,j1,j2,j3,j4⟩
  simp only at j0 j1 j2 j3 j4
  simp
  refine ac (fun h=>?_) (fun h=>?_)<;>simp[h]<;>simp at h
  ·have hw:IntKind.wrap .i64 ((k:Int)+1)=((k+1:Nat):Int):=wrap_i64 (by omega) (by omega)
   obtain⟨g1,g2⟩:=hg _ (x0h h)
   simp[h,edK,knD,g1,g2,cc,aG (fR o2 g1),fR o2 g1]
   have e1:(es[k].1,es[k].2)∈es:=x0h h
   cases c1:o2 es[k].1
   ·simp[hw]
    refine⟨o2,m,k+1,⟨by omega,j1,j2,fun hm=>⟨(j3 hm).1,fun j hj hjk h2=>?_⟩,j4⟩,by omega,rfl,Iff.rfl,by omega⟩
    rcases x0k.1 hjk with h3|rfl
    ·exact(j3 hm).2 j hj h3 h2
    ·rw[c1]at h2;cases h2
   ·simp[h,edK,knD,g1,g2,cc,aG (fR o2 g2),fR o2 g2]
    cases c2:o2 es[k].2
    ·have hb1:1<=((cj n o2)[es[k].2]'(by rw[cc];exact g2)).length:=by simp[cj]
     have hb2:((cj n o2)[es[k].2]'(by rw[cc];exact g2)).tail=[]:=by simp[cj]
     have hset:=lN (n:=n) (v:=es[k].2) o2 true
     have hst:=t8 g2 c2
     simp[h,edK,knD,g2,cc,hb1,hb2,hw]
     refine⟨fun u=>if u=es[k].2 then true else o2 u,1,k+1,⟨by omega,fun v hv=>?_,fun v hv=>?_,fun hm=>absurd rfl hm,fun _=>?_⟩,by omega,hset,rfl,by omega⟩
     ·by_cases e:v=es[k].2
      ·rw[e]
       obtain⟨s0,hs0,hp⟩:=j1 _ c1
       exact⟨s0,hs0,hp.snoc e1⟩
      ·simp only[if_neg e]at hv;exact j1 v hv
     ·simp only;split
      ·rfl
      ·exact j2 v hv
     ·by_cases e:m=1
      ·have:=j4 e;omega
      ·have:=(j3 e).1;omega
    ·simp[hw]
     refine⟨o2,m,k+1,⟨by omega,j1,j2,fun hm=>⟨(j3 hm).1,fun j hj hjk h2=>?_⟩,j4⟩,by omega,rfl,Iff.rfl,by omega⟩
     rcases x0k.1 hjk with h3|rfl
     ·exact(j3 hm).2 j hj h3 h2
     ·exact c2
  ·have ek:k=es.length:=by omega
   subst ek
   refine⟨o2,m,⟨j1,j2,fun hm u w e hu=>?_⟩,?_,rfl,Iff.rfl⟩
   ·obtain⟨j,hj,ej⟩:=x0J e
    have:=(j3 hm).2 j hj hj
    rw[ej]at this
    exact this hu
   ·by_cases e:m=1
    ·have:=j4 e;simp only[if_pos e,if_pos hmo];omega
    ·have:=(j3 e).1;simp only[if_neg e,if_pos hmo];omega
end Go.Gv

namespace Go.Gv
theorem lA{es:List Edg}{j:Nat}(h:j<es.length):(trA es (j+1))[j]? = some [.int .i64 es[j].2,.int .i64 es[j].1]:=by
 simp[trA,h,edK,knD]
theorem E2(l:List Nat):List.map (fun e=>List.map aT e) (a8 l)=a8 l:=by
 unfold a8
 rw[List.map_map]
 apply x0i
 intro v _
 simp[aT]
noncomputable def xm(es:List Edg)(x:Nat):Nat->Bool:=rB (trn es) (tgs (trn es) x)
variable{C:CC}(hC:ay prog C)
include hC
set_option maxHeartbeats 2000000 in
theorem zO(b1 b2:Bool)(ns:List Nod)(ls:List Lnk)(x:Nat)(hv:bG ns ls=true):C 502 [.agg [slx b1 (ns.map aO),slx b2 (ls.map aA)],.int .i64 x,.bool true] .any [.own 1 (cj ns.length (xm (av ns ls) x))]:=by
 have k2:=wI hC b1 b2 ns ls hv
 obtain⟨l1,l2⟩:=bR hv
 have hg:=Gm (fj hv)
 have hel:=aM ns ls
 have hgl:=nj (trn (av ns ls)) x
 have htl:=C9 (av ns ls)
 have k3:=wL hC (b:=false) (b':=false) l1 (es:=trn (av ns ls)) (by omega) hg (tgs (trn (av ns ls)) x) (fun s hs=>(hg _ (m7.1 hs)).2) (by omega)
 simp only[jQ]at k3
 unfold xm
 generalize av ns ls=es at *
 refine kE hC (nf:=N502) rfl rfl ?_
 simp[N502]
 refine gU k2 ?_
 simp
 refine au Nat (fun j=>[(1,.int .i64 x),(2,.bool true),(3,.ptr [slx b1 (ns.map aO),slx b2 (ls.map aA)]),(7,.ref (.r 10112) 0 es.length),(10112,.blk 2 (trA es j)),(8,.ref (.r 10128) 0 (tgs ((trn es).take j) x).length),(10128,.blk 1 (a8 (tgs ((trn es).take j) x))),(9,.int .i64 j)]) (fun j=>j<=es.length) (fun j=>es.length-j) 0 (by simp) (by simp[Ow,tgs,a8]) ?_
 rintro j hj
 simp
 refine ac (fun h=>?_) (fun h=>?_)<;>simp[h]<;>simp at h
 ·have hw:IntKind.wrap .i64 ((j:Int)+1)=((j+1:Nat):Int):=wrap_i64 (by omega) (by omega)
  have hs:=C8 h
  have hgj:(trA es j)[j]'(by rw[jT];exact h)=[.int .i64 es[j].1,.int .i64 es[j].2]:=by
   have:=qY h
   rw[x0e (by rw[jT];exact h)]at this
   exact Option.some.inj this
  have hjt:j<(trn es).length:=by omega
  have ht:=s9 hjt x
  have e0:(trn es)[j]=(es[j].2,es[j].1):=by simp[trn]
  rw[e0]at ht
  have hl1:=nj ((trn es).take j) x
  have hl2:((trn es).take j).length=j:=by simp;omega
  generalize tgs ((trn es).take j) x=T at *
  have hT:(a8 T).take T.length=a8 T:=x0s (by rw[a7];exact x0r _)
  simp[h,jT,aG (qY h),qY h,hgj,hs]
  refine⟨ao (by decide +kernel),?_⟩
  simp[aG (lA h),lA h]
  by_cases c:es[j].2=x
  ·rw[if_pos c]at ht
   simp[c,h,jT,aG (lA h),lA h]
   refine⟨by rw[a7];exact x0r _,by omega,?_⟩
   simp[hw]
   refine⟨j+1,by omega,by omega,?_⟩
   rw[ht,hT]
   simp[a8]
  ·rw[if_neg c,x1R]at ht
   have c':¬(es[j].2:Int)=x:=by omega
   simp[c,c',hw]
   exact⟨j+1,by omega,by omega,by rw[ht];simp⟩
 ·have ej:j=es.length:=by omega
  subst ej
  have e1:(trn es).take es.length=trn es:=by rw[<- htl,x08]
  have hV:List.take es.length (List.map (fun e=>List.map aT e) (trA es es.length))=List.map edK (trn es):=by
   rw[Ox,x0s (by rw[jT];exact x0r _),C7]
  have hV2:List.take (tgs (trn es) x).length (List.map (fun e=>List.map aT e) (a8 (tgs (trn es) x)))=a8 (tgs (trn es) x):=by
   rw[E2,x0s (by rw[a7];exact x0r _)]
  simp[jT,a7,e1,hV,hV2]
  refine gU k3 ?_
  simp[cc]
  exact fun r hr c hc=>by
   obtain⟨v,_,rfl⟩:=x0v.1 hr
   simp at hc;subst hc;rfl
noncomputable def upX(ns:List Nod)(ls:List Lnk)(x v:Nat):Bool:=if v=x then true else xm (av ns ls) x v
theorem ya{ns:List Nod}{ls:List Lnk}(hv:bG ns ls=true){k:Nat}(hk:k<ls.length):bj (bq ls[k].src) ns=(((av ns ls)[k]'(by rw[aM];exact hk)).1:Nat):=by
 obtain⟨_,_,g1,g2⟩:=eX hv hk
 simp only[av,x1N]
 omega
set_option maxHeartbeats 2000000 in
theorem zN(b1 b2:Bool)(ns:List Nod)(ls:List Lnk)(k:Nat)(hv:bG ns ls=true)(hk:k<ls.length):C 468 [.agg [slx b1 (ns.map aO),slx b2 (ls.map aA)],.int .i64 k] (.sl (cj ns.length (upX ns ls ((av ns ls)[k]'(by rw[aM];exact hk)).1))) []:=by
 obtain⟨l1,l2⟩:=bR hv
 have k1:=fk hC b1 b2 ns ls ls[k].src (by omega)
 have hx:=(fj hv _ (x0h (show k<(av ns ls).length by rw[aM];exact hk))).1
 rw[ya hC hv hk]at k1
 have k2:=zO hC b1 b2 ns ls ((av ns ls)[k]'(by rw[aM];exact hk)).1 hv
 unfold upX
 generalize ((av ns ls)[k]'(by rw[aM];exact hk)).1=x at *
 generalize xm (av ns ls) x=f at *
 have hb1:1<=((cj ns.length f)[x]'(by rw[cc];exact hx)).length:=by simp[cj]
 have hb2:((cj ns.length f)[x]'(by rw[cc];exact hx)).tail=[]:=by simp[cj]
 have hset:=lN (n:=ns.length) (v:=x) f true
 refine ai hC (nf:=N468) rfl rfl ?_
 simp[N468,hk,aA]
 refine aa k1 (.inl rfl) ?_
 simp
 refine⟨ao (by decide +kernel),?_⟩
 refine gU k2 ?_
 simp[cc,hx,hb1,hb2,hset]
 rw[Bf,x0s (by rw[cc];exact x0r _)]
end Go.Gv

namespace Go.Gv
theorem Pth.wat{es:List Edg}(hnd:(es.map (·.1)).Nodup){v x:Nat}(h:Pth es v x):∃m,wat es m v=some x:=by
 have cons:∀{u v:Nat},(u,v)∈es->∀m,Go.Gv.wat es (m+1) u=Go.Gv.wat es m v:=fun{u v} e m=>by
  induction m with
  | zero=>show(some u).bind (stp es)=some v;exact Az hnd e
  | succ m ih =>
   show(Go.Gv.wat es (m+1) u).bind (stp es)=(Go.Gv.wat es m v).bind (stp es)
   rw[ih]
 induction h with
 | refl v=>exact⟨0,rfl⟩
 | step e _ ih =>
  obtain⟨m,hm⟩:=ih
  exact⟨m+1,by rw[cons e];exact hm⟩
theorem vC{es:List Edg}{v:Nat}:∀{m x:Nat},wat es m v=some x->Pth es v x
 | 0,x,h=>by simp[wat]at h;subst h;exact .refl v
 | m+1,x,h=>by
  unfold wat at h
  cases e:wat es m v with
  | none=>rw[e]at h;cases h
  | some y =>
   rw[e]at h
   exact(vC e).snoc (oJ h)
theorem Pth.turn{es:List Edg}{v x:Nat}(h:Pth es v x):Pth (trn es) x v:=by
 induction h with
 | refl v=>exact .refl v
 | step e _ ih=>exact ih.snoc (x0v.2 ⟨_,e,rfl⟩)
theorem Pth.turn2{es:List Edg}{v x:Nat}(h:Pth (trn es) x v):Pth es v x:=by
 have:=h.turn
 have e:trn (trn es)=es:=by
  unfold trn
  rw[List.map_map]
  exact List.map_id es
 rwa[e]at this
theorem Gr{n:Nat}{es:List Edg}(hg:inG n es)(ht:cP n es=true){x v:Nat}(hv:v<n):(if v=x then true else xm es x v)=upB n es v x:=by
 simp only[cP,x0a,x0c]at ht
 obtain⟨hnd,hlen⟩:=ht
 have key:upB n es v x=true↔Pth es v x:=by
  unfold upB
  rw[x0G]
  constructor
  ·rintro⟨m,_,e⟩
   exact vC (by simpa using e)
  ·intro h
   obtain⟨m,hm⟩:=h.wat hnd
   refine⟨m,?_,by simp[hm]⟩
   rw[x1D]
   have:=gj hg hlen hm
   by_cases e:m=0
   ·omega
   ·have:=this.2 e;omega
 rw[x0z,key]
 by_cases e:v=x
 ·rw[if_pos e,e]
  exact⟨fun _=>.refl x,fun _=>rfl⟩
 ·rw[if_neg e]
  unfold xm
  rw[za]
  constructor
  ·rintro⟨s,hs,hp⟩
   exact(Pth.step (m7.1 hs) hp).turn2
  ·intro h
   have h2:=h.turn
   cases h2 with
   | refl=>exact absurd rfl e
   | step e2 h3=>exact⟨_,m7.2 e2,h3⟩
def fI(q:List Sp)(f:Nat->Bool)(k:Nat):Sp:=(bx (fun v=>if f v=true then q[v]!.1 else 0) k,bx (fun v=>if f v=true then q[v]!.2 else 0) k)
theorem mi{q:List Sp}{f:Nat->Bool}(hq:∀s∈q,0<=s.1/\s.1<=s.2/\s.2<=1099511627776):∀{k:Nat},k<=q.length->0<=(fI q f k).1/\(fI q f k).1<=k*1099511627776/\0<=(fI q f k).2/\(fI q f k).2<=k*1099511627776
 | 0,_=>by simp[fI,bx]
 | k+1,h=>by
  have ih:=mi hq (k:=k) (f:=f) (by omega)
  have:=hq _ (x0h (show k<q.length by omega))
  simp only[fI,bx]at ih ⊢
  rw[oU (show k<q.length by omega)]
  by_cases c:f k=true
  ·rw[if_pos c,if_pos c];push_cast;omega
  ·rw[if_neg c,if_neg c];push_cast;omega
variable{C:CC}(hC:ay prog C)
include hC
set_option maxHeartbeats 4000000 in
theorem F2(b1 b2 b:Bool)(ns:List Nod)(ls:List Lnk)(q:List Sp)(ht:cB ns ls=true)(hq:q.length=ns.length)(hqr:∀s∈q,0<=s.1/\s.1<=s.2/\s.2<=1099511627776):C 466 [.agg [slx b1 (ns.map aO),slx b2 (ls.map aA)],slx b (q.map knD)] (.tup [if iZ (aE ns.length (av ns ls) q) then .nils else .sl ((aE ns.length (av ns ls) q).map knD),.bool (!iZ (aE ns.length (av ns ls) q))]) []:=by
 have ht2:=ht
 simp only[cB,x0a]at ht2
 obtain⟨⟨hv,_⟩,htf⟩:=ht2
 obtain⟨l1,l2⟩:=bR hv
 have hg:=fj hv
 have hel:=aM ns ls
 have hl1:∀v,v<ns.length->0<=q[v]!.1/\q[v]!.1<=q[v]!.2/\q[v]!.2<=1099511627776:=fun v hv=>by
  rw[oU (by omega)]
  exact hqr _ (x0h _)
 have k1:=fun k (hk:k<ls.length)=>zN hC b1 b2 ns ls k hv hk
 have hfl:∀(k:Nat) (hk:k<ls.length),(aE ns.length (av ns ls) q)[k]? = some (fI q (upX ns ls ((av ns ls)[k]'(by rw[aM];exact hk)).1) ns.length):=fun k hk=>by
  have hke:k<(av ns ls).length:=by rw[aM];exact hk
  have f1:=uL l1 hg htf hl1 hke
  have hkl:k<(aE ns.length (av ns ls) q).length:=by simp[aE,hel,hk]
  rw[oU hkl]at f1
  rw[x0e hkl,f1]
  congr 1
  unfold fI upS
  have e:∀v,v<ns.length->upX ns ls ((av ns ls)[k]'(by rw[aM];exact hk)).1 v=upB ns.length (av ns ls) v (av ns ls)[k].1:=fun v hv=>Gr hg htf hv
  rw[cz (f:=fun v=>if upB ns.length (av ns ls) v (av ns ls)[k].1=true then q[v]!.1 else 0) (g:=fun v=>if upX ns ls ((av ns ls)[k]'(by rw[aM];exact hk)).1 v=true then q[v]!.1 else 0) (fun v hv=>by rw[e v hv])]
  rw[cz (f:=fun v=>if upB ns.length (av ns ls) v (av ns ls)[k].1=true then q[v]!.2 else 0) (g:=fun v=>if upX ns ls ((av ns ls)[k]'(by rw[aM];exact hk)).1 v=true then q[v]!.2 else 0) (fun v hv=>by rw[e v hv])]
 have hfll:(aE ns.length (av ns ls) q).length=ls.length:=by simp[aE,hel]
 generalize aE ns.length (av ns ls) q=fl at *
 refine ai hC (nf:=N466) rfl rfl ?_
 simp[N466]
 refine au Nat (fun i=>[(1,slx b (q.map knD)),(2,.ptr [slx b1 (ns.map aO),slx b2 (ls.map aA)]),(6,.ref (.r 10096) 0 i),(10096,.blk 2 (spT fl i)),(7,.int .i64 i)]) (fun i=>i<=ls.length/\∀(j:Nat) (h:j<fl.length),j<i->fl[j].2<=1099511627776) (fun i=>ls.length-i) 0 (by simp) (by simp[spT]) ?_
 rintro i ⟨hi,hj⟩
 simp
 refine ac (fun h=>?_) (fun h=>?_)<;>simp[h]<;>simp at h
 ·have hw:IntKind.wrap .i64 ((i:Int)+1)=((i+1:Nat):Int):=wrap_i64 (by omega) (by omega)
  have hif:i<fl.length:=by omega
  have k2:=k1 i h
  have hfi:=hfl i h
  rw[x0e hif]at hfi
  have hfi:=Option.some.inj hfi
  refine aa k2 (.inr rfl) ?_
  generalize upX ns ls ((av ns ls)[i]'(by rw[aM];exact h)).1=f at *
  simp
  refine au Nat (fun k=>[(1,slx b (q.map knD)),(2,.ptr [slx b1 (ns.map aO),slx b2 (ls.map aA)]),(6,.ref (.r 10096) 0 i),(10096,.blk 2 (spT fl i)),(7,.int .i64 i),(8,.sl (cj ns.length f)),(9,.adr (.r 10144) 0 0),(10144,.blk 2 [knD (fI q f k)]),(10,.int .i64 k)]) (fun k=>k<=ns.length) (fun k=>ns.length-k) 0 (by simp) (by simp[fI,bx,knD]) ?_
  rintro k hk
  simp
  refine ac (fun g=>?_) (fun g=>?_)<;>simp[g]<;>simp at g
  ·have hwk:IntKind.wrap .i64 ((k:Int)+1)=((k+1:Nat):Int):=wrap_i64 (by omega) (by omega)
   have hkq:k<q.length:=by omega
   have r1:=mi hqr (f:=f) (k:=k) (by omega)
   have r2:=mi hqr (f:=f) (k:=k+1) (by omega)
   have e1:fI q f (k+1)=if f k=true then((fI q f k).1+q[k].1,(fI q f k).2+q[k].2) else fI q f k:=by
    simp only[fI,bx]
    rw[oU hkq]
    by_cases c:f k=true
    ·rw[if_pos c,if_pos c,if_pos c]
    ·rw[if_neg c,if_neg c,if_neg c];congr 1<;>omega
   generalize fI q f k=s at *
   simp[g,cc,bZ (fR f g),fR f g]
   by_cases c:f k=true
   ·rw[if_pos c]at e1
    rw[e1]at r2
    simp only at r2
    have w1:IntKind.wrap .i64 (s.1+q[k].1)=s.1+q[k].1:=wrap_i64 rfl (by omega)
    have w2:IntKind.wrap .i64 (s.2+q[k].2)=s.2+q[k].2:=wrap_i64 rfl (by omega)
    simp[c,hkq,knD,w1,w2]
    refine⟨ao (by decide +kernel),k+1,by omega,by omega,?_,hwk⟩
    rw[e1]
    exact⟨rfl,rfl⟩
   ·rw[if_neg c]at e1
    have c':f k=false:=by simpa using c
    simp[c',hwk]
    exact⟨k+1,by omega,by omega,by rw[e1],by omega⟩
  ·have ek:k=ns.length:=by omega
   subst ek
   rw[<- hfi]
   have hsl:(spT fl i).length=i:=C2 (by omega)
   simp[knD]
   by_cases c:1099511627776<fl[i].2
   ·have hb:iZ fl=true:=x0G.2 ⟨fl[i],x0h hif,by simpa using c⟩
    simp[c,hb]
   ·simp[c,hw]
    refine⟨by omega,by omega,i+1,⟨by omega,fun j hl hjj=>?_⟩,by omega,rfl,?_,by omega⟩
    ·rcases x0k.1 hjj with h2|rfl
     ·exact hj j hl h2
     ·omega
    ·rw[Aw hif,x0s (by omega)]
     rfl
 ·have ek:i=ls.length:=by omega
  subst ek
  have hb:iZ fl=false:=Be fun s hs=>by
   obtain⟨j,hjl,rfl⟩:=x0J hs
   exact hj j hjl (by omega)
  simp[hb]
  rw[Oq,<- hfll,C1,x0s (by simp)]
  exact⟨by simp,rfl⟩
end Go.Gv
