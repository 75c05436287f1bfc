/-
  Texts of the proof: J32, J31.
-/
import Derived.Test.YteaonmajblajnaaGreatDoorX8
set_option linter.all false
set_option maxRecDepth 4000
namespace Go.Gv
theorem DC : fqD (iC (1,1))=[.int .i64 1,.int .i64 1]:=by
 have : (iC (1,1)).1=(1,1):=hJ (by unfold uj;decide)
 simp [fqD,this]
theorem La {x : Frq} (h : li x) : mkE (x.1.2 - x.1.1) x.1.2=0 /\ mkQ (x.1.2 - x.1.1) x.1.2=(x.1.2 - x.1.1,x.1.2):=by
 have e:=kU h
 obtain ⟨h1,h2,h3,h4,h5⟩:=(omF x).2
 rw [e] at h1 h2 h3 h4 h5
 simp only at h1 h2 h3 h4 h5
 have e0 : mkE (x.1.2 - x.1.1) x.1.2=0:=by
  unfold mkE
  rw [h5,if_neg]
  simp
  omega
 refine ⟨e0,?_⟩
 unfold mkQ
 rw [if_pos e0,h5]
 simp
theorem Ab {L : List Frq} {i : Nat} (h : i < L.length) : (fqR (L.reverse.map omF))[L.length - 1 - i]? = some (fqD (omF L[i])):=by
 unfold fqR
 rw [List.getElem?_map,List.getElem?_map,List.getElem?_reverse (by omega)]
 rw [show L.length - 1 - (L.length - 1 - i)=i by omega,List.getElem?_eq_getElem h]
 rfl
theorem AL {L : List Frq} (hs : lp fqC L) {i : Nat} (h0 : 0 < i) (h : i < L.length) : fqC (L[i - 1]'(by omega)) L[i] < 0:=by
 unfold lp at hs
 exact List.pairwise_iff_getElem.1 hs (i - 1) i (by omega) h (by omega)
theorem tQ (M : List Frq) : (rG fqC M).length <= M.length:=by
 unfold rG
 have : ∀ l : List Frq,(ddL l).length <= l.length:=fun l=>by
  induction l with
  | nil=>simp [ddL]
  | cons x l ih =>
   cases l with
   | nil=>simp [ddL]
   | cons y r =>
    rw [gU]
    split
    ·simp only [List.length_cons] at ih ⊢;omega
    ·simp only [List.length_cons] at ih ⊢;omega
 exact Nat.le_trans (this _) (by rw [ji];exact Nat.le_refl _)
variable {C : CC} (hC : aB prog C)
include hC
theorem DY (x : Frq) (hx : li x) : C 721 [.ptr [.int .i64 1,.int .i64 1],.ptr (fqD x)] (.tup [.int .i64 (x.1.2 - x.1.1),.int .i64 x.1.2]) []:=by
 obtain ⟨h1,h2,h3,h4,h5⟩:=x.2
 obtain ⟨u1,u2⟩:=hx
 have w1 : IntKind.wrap .i64 x.1.1=x.1.1:=ac rfl (by omega)
 have w2 : IntKind.wrap .i64 x.1.2=x.1.2:=ac rfl (by omega)
 have w3 : IntKind.wrap .i64 (x.1.2 - x.1.1)=x.1.2 - x.1.1:=ac rfl (by omega)
 refine start hC (nf:=N721) rfl rfl ?_
 simp [N721,fqD,w1,w2,w3]
 exact aj (by decide +kernel)
theorem LW (x : Frq) (hx : li x) : C 689 [.agg [.int .i64 1,.int .i64 1],.agg (fqD x)] (.tup [.agg (fqD (omF x)),.int .i64 0]) []:=by
 have k1:=jC hC (iC (1,1))
 rw [DC] at k1
 have k2:=jC hC x
 have k3:=DY hC x hx
 obtain ⟨h1,h2,h3,h4,h5⟩:=x.2
 have k4:=wU hC (x.1.2 - x.1.1) x.1.2 (by have:=hx.1;have:=hx.2;omega) (by omega)
 obtain ⟨e1,e2⟩:=La hx
 rw [e1,e2] at k4
 have e3:=kU hx
 simp only [fqD] at k2 k3
 have kb : C 720 [.agg [.int .i64 1,.int .i64 1],.agg [.int .i64 x.1.1,.int .i64 x.1.2],.fn 721 [.ptr [.int .i64 1,.int .i64 1],.ptr [.int .i64 x.1.1,.int .i64 x.1.2]]] (.tup [.agg [.int .i64 (x.1.2 - x.1.1),.int .i64 x.1.2],.int .i64 0]) []:=by
  refine start hC (nf:=N720) rfl rfl ?_
  simp [N720]
  refine aa k1 (.inl rfl) ?_
  simp
  refine aa k2 (.inl rfl) ?_
  simp
  refine aa k3 (.inl rfl) ?_
  simp
  refine aa k4 (.inl rfl) ?_
  simp
 unfold fqD
 rw [e3]
 refine start hC (nf:=N689) rfl rfl ?_
 simp [N689]
 refine aa kb (.inl rfl) ?_
 simp
set_option maxHeartbeats 4000000 in
theorem mM (hS : mw C) (dec : Nat -> List UInt8) (hI : ∀ n : Nat,n < 100 -> C 127 [.int .i64 n] (.str (dec n)) []) (m : Msh) (a b : Pnt) : C 671 [.agg (aN m),.agg (ptD a),.agg (ptD b)] (.bool true) []:=by
 have k0:=iR hC hS dec hI
 have kr:=ny hC m a b
 simp only [ab,ptD] at kr
 refine start hC (nf:=N671) rfl rfl ?_
 simp [N671,ab,ptD]
 refine aa k0 (.inl rfl) ?_
 simp [ab,ptD]
 refine aa kr (.inl rfl) ?_
 cases hrd : su m a b
 ·simp
 obtain ⟨z1,z2,h0⟩:=pv hrd
 obtain ⟨hv,hle⟩:=fb h0
 obtain ⟨ha,hb,hne⟩:=ft hle
 have hz : bA m=true -> m.s.length <= 100 /\ m.f.length <= 100:=fun _=>by omega
 have h0' : bC m b a=0:=by
  unfold bC dY
  rw [if_pos hv,if_pos ⟨hb,ha⟩,if_neg (Ne.symm hne)]
 have k1:=lc hC dec hI m hz a b h0
 have k2:=lc hC dec hI m hz b a h0'
 have k3:=pG hC hS dec hI m hz a b h0
 have k4:=pG hC hS dec hI m hz b a h0'
 have ef : gL m b a m.f.length=gL m a b m.f.length:=by
  unfold gL jJ
  simp only [uy m _ a b]
 have eL : gL m a b m.f.length=((jJ m a b m.f.length).map fun (i : Nat)=>(i : Int)).map fun n=>[.int .i64 n]:=by
  unfold gL
  rw [List.map_map]
  rfl
 have hL : ((jJ m a b m.f.length).map fun (i : Nat)=>(i : Int)).length < 2 ^ 62:=by
  have:=mU m a b m.f.length
  simp
  omega
 have q1:=vZ hC false false _ _ hL hL
 rw [<- eL] at q1
 rw [ef] at k2
 simp at q1
 have ee : fX m b a=fX m a b:=by unfold fX;rw [pt]
 rw [ee] at k4
 generalize gL m a b m.f.length=F at *
 simp only [ab,ptD] at k1 k2 k3 k4
 by_cases hok : (cdL m a b m.f.length).all dV=true
 rotate_left
 ·have e1 : fI m a b=.nils:=by unfold fI;rw [if_neg hok]
  have e2 : fI m b a=.nils:=by unfold fI;rw [pt,if_neg hok]
  have e3 : fX m a b=5:=by unfold fX;rw [if_neg hok]
  rw [e1,e3] at k3
  rw [e2,e3] at k4
  simp [ab,ptD]
  refine aa k1 (.inr rfl) ?_
  simp [ab,ptD]
  refine aa k2 (.inr rfl) ?_
  simp [ab,ptD]
  refine aa k3 (.inr rfl) ?_
  simp [ab,ptD]
  refine aa k4 (.inr rfl) ?_
  simp
  refine aa q1 (.inl rfl) ?_
  simp
 have e1 : fI m a b=.sl (fqR (iM m a b)):=by unfold fI;rw [if_pos hok]
 have e2 : fI m b a=.sl (fqR ((iM m a b).reverse.map omF)):=by unfold fI;rw [pt,if_pos hok,tW hok]
 have e3 : fX m a b=0:=by unfold fX;rw [if_pos hok]
 rw [e1,e3] at k3
 rw [e2,e3] at k4
 have hun:=ol hok
 have hsr:=p9 m a b
 have hcl : (iM m a b).length < 2 ^ 40:=by
  have g1:=tQ (fqs (cdL m a b m.f.length))
  have g2:=kB m a b m.f.length
  have g3 : (fqs (cdL m a b m.f.length)).length=(cdL m a b m.f.length).length:=by simp [fqs]
  unfold iM
  omega
 generalize iM m a b=L at *
 have hR1 : (fqR L).length=L.length:=co L
 have hR2 : (fqR (L.reverse.map omF)).length=L.length:=by rw [co];simp
 have hg1 : ∀ (i : Nat) (h : i < L.length),(fqR L)[i]? = some [.int .i64 L[i].1.1,.int .i64 L[i].1.2]:=fun i h=>mE h
 have hg2 : ∀ (i : Nat) (h : i < L.length),(fqR (L.reverse.map omF))[L.length - 1 - i]? = some (fqD (omF L[i])):=fun i h=>Ab h
 generalize fqR (L.reverse.map omF)=R' at *
 generalize hRR : fqR L=R at *
 simp [ab,ptD]
 refine aa k1 (.inr rfl) ?_
 simp [ab,ptD]
 refine aa k2 (.inr rfl) ?_
 simp [ab,ptD]
 refine aa k3 (.inr rfl) ?_
 simp [ab,ptD]
 refine aa k4 (.inr rfl) ?_
 simp
 refine aa q1 (.inl rfl) ?_
 simp [hR1,hR2]
 refine aw Nat (fun i=>[(11,.sl R),(13,.sl R'),(15,.adr (.r 10240) 0 0),(91,.sl R),(92,.int .i64 L.length),(93,.int .i64 i),(10240,.blk 2 [[.int .i64 1,.int .i64 1]])])
  (fun i=>i <= L.length) (fun i=>L.length - i) 0 (by simp) (by simp) ?_
 intro i hi
 simp
 refine ao (fun h3=>?_) (fun h3=>?_) <;> simp at h3
 rotate_left
 ·simp [h3]
 have hw : IntKind.wrap .i64 ((i : Int) + 1)=((i + 1 : Nat) : Int):=ac (by omega) (by omega)
 have hux:=hun L[i] (List.getElem_mem h3)
 have ks:=LW hC L[i] hux
 have hom:=kU hux
 obtain ⟨u1,u2⟩:=hux
 have hgi:=hg1 i h3
 have hgj:=hg2 i h3
 have hiR : i < R.length:=by omega
 have hjR : L.length - 1 - i < R'.length:=by omega
 have gi : R[i]=[.int .i64 L[i].1.1,.int .i64 L[i].1.2]:=(List.getElem?_eq_some_iff.1 hgi).2
 have gj : R'[L.length - 1 - i]=fqD (omF L[i]):=(List.getElem?_eq_some_iff.1 hgj).2
 have w1 : IntKind.wrap .i64 ((L.length : Int) - 1)=(L.length : Int) - 1:=ac rfl (by omega)
 have w2 : IntKind.wrap .i64 ((L.length : Int) - 1 - i)=((L.length - 1 - i : Nat) : Int):=ac (by omega) (by omega)
 simp only [fqD] at ks
 have hpos : 0 < i -> fqC (L[i - 1]'(by omega)) L[i] < 0 /\ C 690 [.agg (fqD (L[i - 1]'(by omega))),.agg (fqD L[i])] (.tup [.int .i64 (fqC (L[i - 1]'(by omega)) L[i]),.int .i64 0]) [] /\ R[i - 1]? = some [.int .i64 (L[i - 1]'(by omega)).1.1,.int .i64 (L[i - 1]'(by omega)).1.2]:=fun h=>⟨AL hsr h h3,tu hC _ _,hg1 (i - 1) (by omega)⟩
 simp [h3,cT hgi]
 refine aa ks (.inl rfl) ?_
 generalize L.length - 1 - i=j at *
 simp only [fqD,hom] at gj
 simp only [fqD,hom] at hgj
 simp [hom,w1,w2,hR2,cT hgj,show ¬ L[i].1.1 < 0 by omega,show ¬ L[i].1.2 < L[i].1.1 by omega]
 refine ⟨aj (by decide +kernel),?_⟩
 by_cases hi0 : 0 < i
 ·obtain ⟨g1,g2,g3⟩:=hpos hi0
  have w3 : IntKind.wrap .i64 ((i : Int) - 1)=((i - 1 : Nat) : Int):=ac (by omega) (by omega)
  have hi1R : i - 1 < R.length:=by omega
  have g4 : R[i - 1]=[.int .i64 (L[i - 1]'(by omega)).1.1,.int .i64 (L[i - 1]'(by omega)).1.2]:=(List.getElem?_eq_some_iff.1 g3).2
  simp only [fqD] at g2
  generalize fqC (L[i - 1]'(by omega)) L[i]=z at *
  simp [hi0,w3,cT g3,hR1]
  refine aa g2 (.inl rfl) ?_
  simp [show ¬ 0 <= z by omega,hw]
  exact ⟨aj (by decide +kernel),i + 1,by omega,by omega,rfl⟩
 ·simp [hi0,hw]
  exact ⟨i + 1,by omega,by omega,rfl⟩
end Go.Gv

set_option maxRecDepth 4000
namespace Go.Gv
theorem yu (a : Pnt) (u v : Int) {k : Nat} (hk : 0 < k) (i : Nat) : atL a (a.1 + k * u,a.2 + k * v) k i=(a.1 + i * u,a.2 + i * v):=by
 have hk' : (k : Int) ≠ 0:=by omega
 have e : ∀ w c : Int,(c + k * w - c) * i / k=i * w:=fun w c=>by
  rw [show c + k * w - c=k * w by omega,show (k : Int) * w * i=i * w * k by rw [Int.mul_comm (k : Int) w,Int.mul_right_comm,Int.mul_comm w (i : Int)],Int.mul_ediv_cancel _ hk']
 unfold atL
 rw [e,e]
theorem wj {m : Msh} {a b : Pnt} {i : Nat} (hi : i < m.f.length) (h : fu m i a b=true) : i ∈ jJ m a b m.f.length:=by
 unfold jJ
 exact List.mem_filter.2 ⟨List.mem_range.2 hi,h⟩
variable {C : CC} (hC : aB prog C)
include hC
set_option maxHeartbeats 4000000 in
theorem lv (hS : mw C) (dec : Nat -> List UInt8) (hI : ∀ n : Nat,n < 100 -> C 127 [.int .i64 n] (.str (dec n)) []) (m : Msh) (a : Pnt) (dx : Int) (hdx : -2147483648 <= dx /\ dx <= 2147483647) (dy : Int) (hdy : -2147483648 <= dy /\ dy <= 2147483647) (n : Int) (hn : 0 <= n /\ n <= 255) :
  C 673 [.agg (aN m),.agg (ptD a),.int .i32 dx,.int .i32 dy,.int .u8 n] (.bool true) []:=by
 have k0:=iR hC hS dec hI
 obtain ⟨u,hu⟩ : ∃ u,u=dx.tmod 1000000:=⟨_,rfl⟩
 obtain ⟨v,hv⟩ : ∃ v,v=dy.tmod 1000000:=⟨_,rfl⟩
 obtain ⟨r,hr⟩ : ∃ r,r=n.tmod 12:=⟨_,rfl⟩
 have bu:=lg dx (c:=1000000) (by omega)
 have bv:=lg dy (c:=1000000) (by omega)
 have br:=oQ hn.1 (c:=12) (by omega)
 rw [<- hu] at bu
 rw [<- hv] at bv
 rw [<- hr] at br
 obtain ⟨k,hk⟩ : ∃ k : Nat,(k : Int)=1 + r:=⟨(1 + r).toNat,by omega⟩
 have wn : IntKind.wrap .i64 n=n:=ac rfl (by omega)
 have wx : IntKind.wrap .i64 dx=dx:=ac rfl (by omega)
 have wy : IntKind.wrap .i64 dy=dy:=ac rfl (by omega)
 have wk : IntKind.wrap .i64 (1 + r)=k:=ac (by omega) (by omega)
 have mb : ∀ (i : Nat) (w : Int),i <= 12 -> -1000000 < w /\ w < 1000000 -> -12000000 <= (i : Int) * w /\ (i : Int) * w <= 12000000:=fun i w hi hw=>gO (a:=(i : Int)) (b:=w) (k:=12) (l:=1000000) (by omega) (by omega) (by omega) (by omega)
 have mku:=mb k u (by omega) bu
 have mkv:=mb k v (by omega) bv
 have wku : IntKind.wrap .i64 ((k : Int) * u)=k * u:=ac rfl (by omega)
 have wkv : IntKind.wrap .i64 ((k : Int) * v)=k * v:=ac rfl (by omega)
 refine start hC (nf:=N673) rfl rfl ?_
 simp [N673,ab,ptD]
 refine aa k0 (.inl rfl) ?_
 simp [wn,wx,wy,<- hr,<- hu,<- hv,wk,wku,wkv]
 by_cases a1 : a.1 < -16777216
 ·simp [a1]
 by_cases a2 : 16777216 < a.1
 ·simp [a1,a2]
 by_cases a3 : a.2 < -16777216
 ·simp [a1,a2,a3]
 by_cases a4 : 16777216 < a.2
 ·simp [a1,a2,a3,a4]
 have wbu : IntKind.wrap .i64 (a.1 + k * u)=a.1 + k * u:=ac rfl (by omega)
 have wbv : IntKind.wrap .i64 (a.2 + k * v)=a.2 + k * v:=ac rfl (by omega)
 obtain ⟨b,hb⟩ : ∃ b : Pnt,b=(a.1 + k * u,a.2 + k * v):=⟨_,rfl⟩
 have b1 : a.1 + k * u=b.1:=by rw [hb]
 have b2 : a.2 + k * v=b.2:=by rw [hb]
 have kr:=ny hC m a b
 simp only [ab,ptD] at kr
 have wb1 : IntKind.wrap .i64 b.1=b.1:=by rw [<- b1];exact wbu
 have wb2 : IntKind.wrap .i64 b.2=b.2:=by rw [<- b2];exact wbv
 simp [a1,a2,a3,a4,b1,b2,wb1,wb2]
 refine aa kr (.inl rfl) ?_
 cases hrd : su m a b
 ·simp
 obtain ⟨z1,z2,h0⟩:=pv hrd
 obtain ⟨hvm,hle⟩:=fb h0
 have hz : bA m=true -> m.s.length <= 100 /\ m.f.length <= 100:=fun _=>by omega
 have k1:=lc hC dec hI m hz a b h0
 have k2:=oP hC a b k
 have hcn : cH (dY a b) k []=0:=by unfold cH;rw [if_pos hle,if_pos ⟨by omega,rfl⟩]
 have eP : uI a b k=.sl ((iN a b k).map fun x=>ptD x):=by unfold uI;rw [if_pos hcn,Int.toNat_natCast]
 rw [eP,hcn] at k2
 have hPl:=nq a b k
 have hPg : ∀ (i : Nat) (h : i < (iN a b k).length),(iN a b k)[i]=(a.1 + i * u,a.2 + i * v):=fun i h=>by
  rw [nl,hb,yu a u v (by omega) i]
 generalize iN a b k=P at *
 have eL : gL m a b m.f.length=((jJ m a b m.f.length).map fun (i : Nat)=>(i : Int)).map fun n=>[.int .i64 n]:=by
  unfold gL
  rw [List.map_map]
  rfl
 have hfl:=mU m a b m.f.length
 have kc:=fun o=>y8 hC (b:=false) (xs:=(jJ m a b m.f.length).map fun (i : Nat)=>(i : Int)) o (by simp;omega)
 rw [cc,<- eL] at kc
 have hon : ∀ i : Nat,i <= k -> onE m (a.1 + i * u,a.2 + i * v)=0 -> (((jJ m a b m.f.length).map fun (i : Nat)=>(i : Int)).any fun x=>decide (onV m (a.1 + i * u,a.2 + i * v)=x))=true:=fun i hi h=>by
  obtain ⟨_,_,hf⟩:=ng h
  obtain ⟨hlt,ho⟩:=iy hf
  have hm:=zF (a:=a) (b:=b) (p:=(a.1 + i * u,a.2 + i * v)) (j:=i) (k:=k) (dx:=u) (dy:=v) hvm hlt (by omega) (by omega) hb rfl ho
  have hmem:=wj hlt hm
  rw [List.any_eq_true]
  refine ⟨_,List.mem_map.2 ⟨_,hmem,rfl⟩,?_⟩
  rw [decide_eq_true_eq]
  unfold onV
  rw [if_pos h]
  omega
 have kf:=fun i : Nat=>zp hC dec hI m hz (a.1 + i * u,a.2 + i * v)
 have w1 : IntKind.wrap .i64 ((k : Int) + 1)=((k + 1 : Nat) : Int):=ac (by omega) (by omega)
 generalize gL m a b m.f.length=R at *
 simp only [ab,ptD] at k1 k2 kf
 simp [ab,ptD]
 refine aa k1 (.inr rfl) ?_
 simp [ab,ptD]
 refine aa k2 (.inr rfl) ?_
 simp [hPl,w1]
 refine aw Nat (fun i=>[(2,.int .i32 dx),(3,.int .i32 dy),(5,.ptr (aN m)),(6,.ptr (ptD a)),(13,.sl R),(96,.sl (P.map fun x=>ptD x)),(97,.int .i64 ((k + 1 : Nat) : Int)),(98,.int .i64 i)])
  (fun i=>i <= k + 1) (fun i=>k + 1 - i) 0 (by simp) (by simp [ab,ptD]) ?_
 intro i hi
 simp
 refine ao (fun h3=>?_) (fun h3=>?_) <;> simp at h3
 rotate_left
 ·simp [h3]
 have hw : IntKind.wrap .i64 ((i : Int) + 1)=((i + 1 : Nat) : Int):=ac (by omega) (by omega)
 have hiP : i < P.length:=by omega
 have hpi:=hPg i hiP
 have miu:=mb i u (by omega) bu
 have miv:=mb i v (by omega) bv
 have wiu : IntKind.wrap .i64 ((i : Int) * u)=i * u:=ac rfl (by omega)
 have wiv : IntKind.wrap .i64 ((i : Int) * v)=i * v:=ac rfl (by omega)
 have wau : IntKind.wrap .i64 (a.1 + i * u)=a.1 + i * u:=ac rfl (by omega)
 have wav : IntKind.wrap .i64 (a.2 + i * v)=a.2 + i * v:=ac rfl (by omega)
 have kfi:=kf i
 have hoi:=hon i (by omega)
 have kci:=kc (onV m (a.1 + i * u,a.2 + i * v))
 generalize onE m (a.1 + i * u,a.2 + i * v)=E at *
 generalize onV m (a.1 + i * u,a.2 + i * v)=V at *
 simp [h3,hiP,hpi,ptD,ab,wx,wy,<- hu,<- hv,wiu,wiv,wau,wav]
 refine aa kfi (.inl rfl) ?_
 by_cases hE : E=0
 ·rw [hoi hE] at kci
  simp [hE]
  refine aa kci (.inl rfl) ?_
  simp [hw]
  exact ⟨i + 1,by omega,by omega,by simp [ab,ptD]⟩
 ·simp [hE,hw]
  exact ⟨i + 1,by omega,by omega,by simp [ab,ptD]⟩
end Go.Gv
