/-
  Texts of the proof: PT3, PT5, PT6, LF1, PL1, SL1.
-/
import Derived.Test.YtelkdhkalifeiaaDoorX8
set_option linter.all false
namespace Go.Gv
def gI (m : Msh) (i : Nat) : Bool:=decide ((bE m).getD i 0 < (aN m).sp.getD i 0)
def jf (m : Msh) (i : Nat) (k : Int) : Bool:=decide (k ≠ -1) && (gI m i && (gI m k.toNat && decide ((aN m).sp.getD i 0=(aN m).sp.getD k.toNat 0)))
def j8 (m : Msh) (i k : Nat) : Prop:=i < m.f.length /\ k < m.f.length /\ gI m i=true /\ gI m k=true /\ (aN m).sp.getD i 0=(aN m).sp.getD k 0 /\ ∃ j,j < 3 /\ nbF m i j=k
theorem qk {m : Msh} (hv : aC m=true) : ∀ a b,j8 m a b -> j8 m b a:=by
 rintro a b ⟨h1,h2,h3,h4,h5,j,hj,e⟩
 obtain ⟨c,hc,e2⟩:=na hv h1 hj (by omega)
 rw [e] at e2
 exact ⟨h2,h1,h4,h3,h5.symm,c,hc,by simpa using e2⟩
theorem rW {m : Msh} {i j : Nat} (hi : i < m.f.length) (hj : j < 3) (h : jf m i (nbF m i j)=true) : ∃ k : Nat,nbF m i j=k /\ k < m.f.length /\ j8 m i k:=by
 simp only [jf,Bool.and_eq_true,decide_eq_true_eq] at h
 obtain ⟨h1,h2,h3,h4⟩:=h
 have hb:=dZ m i j
 refine ⟨(nbF m i j).toNat,by omega,by omega,hi,by omega,h2,h3,h4,j,hj,by omega⟩
theorem rX {m : Msh} {i k : Nat} (h : j8 m i k) : jf m i k=true:=by
 obtain ⟨h1,h2,h3,h4,h5,_⟩:=h
 simp only [jf,Bool.and_eq_true,decide_eq_true_eq,Int.toNat_natCast]
 exact ⟨by omega,h3,h4,h5⟩
def foJ (m : Msh) (i : Nat) (f : List Nat) : Nat -> List Nat
 | 0=>f
 | j + 1=>if jf m i (nbF m i j) then fU (foJ m i f j) i (nbF m i j).toNat else foJ m i f j
def foI (m : Msh) : Nat -> List Nat
 | 0=>List.range m.f.length
 | i + 1=>foJ m i (foI m i) 3
theorem kM {m : Msh} (hv : aC m=true) {i : Nat} (hi : i < m.f.length) {f : List Nat} (h : Fo m.f.length f) (hf : kD m.f.length (j8 m) f) : ∀ j,j <= 3 ->
  Fo m.f.length (foJ m i f j) /\ kD m.f.length (j8 m) (foJ m i f j) /\ (∀ x y,x < m.f.length -> y < m.f.length -> ftF f x=ftF f y -> ftF (foJ m i f j) x=ftF (foJ m i f j) y) /\
  (∀ c k : Nat,c < j -> nbF m i c=k -> j8 m i k -> ftF (foJ m i f j) i=ftF (foJ m i f j) k)
 | 0,_=>⟨h,hf,fun _ _ _ _ e=>e,fun c k hc=>by omega⟩
 | j + 1,hj=>by
  obtain ⟨h1,h2,h3,h4⟩:=kM hv hi h hf j (by omega)
  unfold foJ
  split
  ·rename_i hb
   obtain ⟨k,e,hk,ha⟩:=rW hi (by omega) hb
   have e2 : (nbF m i j).toNat=k:=by omega
   rw [e2]
   refine ⟨(eF h1 hi hk).1,kD.join (qk hv) h1 h2 hi hk ha,fun x y hx hy ex=>mg h1 hi hk hx hy (h3 x y hx hy ex),fun c k' hc ec hak=>?_⟩
   by_cases hcj : c=j
   ·subst hcj
    have : k'=k:=by omega
    subst this
    exact qL h1 hi hk
   ·exact mg h1 hi hk hi hak.2.1 (h4 c k' (by omega) ec hak)
  ·rename_i hb
   refine ⟨h1,h2,h3,fun c k' hc ec hak=>?_⟩
   by_cases hcj : c=j
   ·subst hcj
    have:=rX hak
    rw [<- ec] at this
    exact absurd this hb
   ·exact h4 c k' (by omega) ec hak
theorem gm {m : Msh} (hv : aC m=true) : ∀ i,i <= m.f.length -> Fo m.f.length (foI m i) /\ kD m.f.length (j8 m) (foI m i) /\ (∀ a k : Nat,a < i -> j8 m a k -> ftF (foI m i) a=ftF (foI m i) k)
 | 0,_=>⟨(kD.init (j8 m)).1,(kD.init (j8 m)).2.1,fun a k h=>by omega⟩
 | i + 1,hi=>by
  obtain ⟨h1,h2,h3⟩:=gm hv i (by omega)
  obtain ⟨q1,q2,q3,q4⟩:=kM hv (show i < m.f.length by omega) h1 h2 3 (by omega)
  refine ⟨q1,q2,fun a k ha hak=>?_⟩
  by_cases e : a=i
  ·subst e
   obtain ⟨_,_,_,_,_,j,hj,ej⟩:=id hak
   exact q4 j k hj ej hak
  ·exact q3 a k hak.1 hak.2.1 (h3 a k (by omega) hak)
def rtP (m : Msh) (x : Nat) : Nat:=ftF (foI m m.f.length) x
theorem tC {m : Msh} (hv : aC m=true) {a : Nat} (ha : a < m.f.length) : rtP m a <= a /\ rtP m (rtP m a)=rtP m a:=by
 obtain ⟨h1,_,_⟩:=gm hv m.f.length (Nat.le_refl _)
 exact ⟨(eC h1 a ha).1,sQ h1 ha⟩
theorem Cn.wet {m : Msh} {a b : Nat} (h : Cn (j8 m) a b) : gI m a=gI m b /\ (aN m).sp.getD a 0=(aN m).sp.getD b 0:=by
 induction h with
 | refl=>exact ⟨rfl,rfl⟩
 | step _ r ih =>
  obtain ⟨_,_,h3,h4,h5,_⟩:=r
  exact ⟨ih.1.trans (h3.trans h4.symm),ih.2.trans h5⟩
theorem vr {m : Msh} (hv : aC m=true) {a : Nat} (ha : a < m.f.length) : gI m (rtP m a)=gI m a /\ (aN m).sp.getD (rtP m a) 0=(aN m).sp.getD a 0:=by
 have h:=(gm hv m.f.length (Nat.le_refl _)).2.1 a ha
 exact ⟨h.wet.1.symm,h.wet.2.symm⟩
def stB (m : Msh) (s : Nat) : Bool:=gI m s && decide (rtP m s=s)
def stT (m : Msh) (i : Nat) : List Nat:=(List.range i).filter (stB m)
def inP (m : Msh) (s k : Nat) : Bool:=gI m k && decide (rtP m k=s)
def cQ (m : Msh) (i : Nat) : List (List Nat):=(stT m i).map fun s=>(List.range i).filter (inP m s)
def mw (m : Msh) : List (List Nat):=cQ m m.f.length
def fw (m : Msh) (i : Nat) : List Int:=(List.range m.f.length).map fun s=>if s < i /\ stB m s=true then ((stT m s).length : Int) else 0
theorem fF (m : Msh) (i : Nat) : stT m (i + 1)=if stB m i then stT m i++[i] else stT m i:=by
 unfold stT
 rw [List.range_succ,List.filter_append]
 split <;> simp_all
theorem lH (m : Msh) {r : Nat} (hr : stB m r=true) : ∀ i,r < i -> ∃ h : (stT m r).length < (stT m i).length,(stT m i)[(stT m r).length]=r
 | 0,h=>by omega
 | i + 1,h=>by
  have e:=fF m i
  by_cases hi : r=i
  ·subst hi
   rw [if_pos hr] at e
   refine ⟨by rw [e];simp,?_⟩
   simp [e]
  ·obtain ⟨h1,h2⟩:=lH m hr i (by omega)
   split at e
   ·refine ⟨by rw [e];simp;omega,?_⟩
    simp only [e]
    rw [List.getElem_append_left h1]
    exact h2
   ·refine ⟨by rw [e];exact h1,?_⟩
    simp only [e]
    exact h2
theorem Ai (m : Msh) {r i j : Nat} (hr : stB m r=true) (hj : j < (stT m i).length) (hne : j ≠ (stT m r).length) : (stT m i)[j] ≠ r:=by
 intro e
 have hm : r ∈ stT m i:=by rw [<- e];exact List.getElem_mem _
 have hri : r < i:=by
  have:=(List.mem_filter.1 hm).1
  simpa using this
 obtain ⟨h1,h2⟩:=lH m hr i hri
 have hnd : (stT m i).Nodup:=List.Pairwise.filter _ List.nodup_range
 exact hne ((List.getElem_inj hnd).1 (e.trans h2.symm))
theorem fz (m : Msh) (i : Nat) : (cQ m i).length=(stT m i).length:=by simp [cQ]
theorem Ah (m : Msh) (i : Nat) : (stT m i).length <= i:=by
 have:=List.length_filter_le (stB m) (List.range i)
 simpa [stT] using this
theorem kW (m : Msh) (i : Nat) : (fw m i).length=m.f.length:=by simp [fw]
theorem nY {m : Msh} {i r : Nat} (hr : r < i) (hi : i <= m.f.length) (hs : stB m r=true) : (fw m i).getD r 0=((stT m r).length : Int):=by
 simp [fw,show r < m.f.length by omega,hr,hs]
theorem sY {m : Msh} {i : Nat} (hi : i < m.f.length) (hs : stB m i=true) : (fw m i).set i ((stT m i).length : Int)=fw m (i + 1):=by
 unfold fw
 apply List.ext_getElem (by simp)
 intro j h1 h2
 simp only [List.getElem_set,List.getElem_map,List.getElem_range]
 by_cases e : i=j
 ·subst e
  rw [if_pos rfl,if_pos ⟨by omega,hs⟩]
 ·rw [if_neg e]
  by_cases h : j < i /\ stB m j=true
  ·rw [if_pos h,if_pos ⟨by omega,h.2⟩]
  ·rw [if_neg h,if_neg fun h3=>h ⟨by omega,h3.2⟩]
theorem mf {m : Msh} {i : Nat} (hs : stB m i=false) : fw m i=fw m (i + 1):=by
 unfold fw
 apply List.map_congr_left
 intro j _
 by_cases h : j < i /\ stB m j=true
 ·rw [if_pos h,if_pos ⟨by omega,h.2⟩]
 ·rw [if_neg h,if_neg fun h3=>h ⟨by
   have : j ≠ i:=fun e=>by rw [e,hs] at h3;exact absurd h3.2 (by decide)
   omega,h3.2⟩]
theorem qJ (m : Msh) : fw m 0=List.replicate m.f.length 0:=by
 unfold fw
 apply List.ext_getElem (by simp)
 intro j h1 h2
 simp
theorem lm {m : Msh} {i : Nat} (h : gI m i=false) : cQ m (i + 1)=cQ m i:=by
 unfold cQ
 rw [fF,if_neg (by simp [stB,h])]
 apply List.map_congr_left
 intro s _
 rw [List.range_succ,List.filter_append]
 simp [inP,h]
theorem tj {m : Msh} (hv : aC m=true) {i : Nat} (hi : i < m.f.length) (h : stB m i=true) : cQ m (i + 1)=(cQ m i++[[]]).set (stT m i).length [i]:=by
 have hw : gI m i=true /\ rtP m i=i:=by simpa [stB] using h
 unfold cQ
 rw [fF,if_pos h,List.map_append,<- List.length_map (f:=fun s=>(List.range i).filter (inP m s)),List.set_append_right _ _ (Nat.le_refl _)]
 simp only [Nat.sub_self,List.map_cons,List.map_nil,List.set_cons_zero]
 congr 1
 ·apply List.map_congr_left
  intro s hs
  rw [List.range_succ,List.filter_append]
  have : s < i:=by simpa using (List.mem_filter.1 hs).1
  have hne : ¬ i=s:=by omega
  simp [inP,hw.1,hw.2,hne]
 ·rw [List.range_succ,List.filter_append]
  have h0 : (List.range i).filter (inP m i)=[]:=by
   rw [List.filter_eq_nil_iff]
   intro k hk
   have hk : k < i:=by simpa using hk
   have:=(tC hv (a:=k) (by omega)).1
   simp only [inP,Bool.and_eq_true,decide_eq_true_eq]
   omega
  simp [h0,inP,hw.1,hw.2]
theorem tk {m : Msh} {i r : Nat} (hw : gI m i=true) (hr : rtP m i=r) (hri : r < i) (hs : stB m r=true) : ∃ l,l.length <= i /\ (cQ m i)[(stT m r).length]? = some l /\ cQ m (i + 1)=(cQ m i).set (stT m r).length (l++[i]):=by
 obtain ⟨h1,h2⟩:=lH m hs i hri
 have hn : stB m i=false:=by
  have : ¬ r=i:=by omega
  simp [stB,hr,this]
 refine ⟨(List.range i).filter (inP m r),by have:=List.length_filter_le (inP m r) (List.range i);simpa using this,?_,?_⟩
 ·unfold cQ
  rw [List.getElem?_map,List.getElem?_eq_getElem h1,h2]
  rfl
 ·unfold cQ
  rw [fF,if_neg (by simp [hn])]
  apply List.ext_getElem (by simp)
  intro j g1 g2
  simp only [List.getElem_map,List.getElem_set]
  have g3 : j < (stT m i).length:=by simpa using g1
  have e3 : ∀ s,(List.range (i + 1)).filter (inP m s)=(List.range i).filter (inP m s)++(if inP m s i=true then [i] else []):=fun s=>by
   rw [List.range_succ,List.filter_append]
   congr 1
   rw [List.filter_cons,List.filter_nil]
  simp only [e3]
  by_cases e : (stT m r).length=j
  ·subst e
   rw [if_pos rfl,h2,if_pos (by simp [inP,hw,hr])]
  ·rw [if_neg e]
   have:=Ai m hs g3 (fun h=>e h.symm)
   have h5 : ¬ r=(stT m i)[j]:=fun h=>this h.symm
   rw [if_neg (by simp [inP,hw,hr,h5]),List.append_nil]
end Go.Gv

namespace Go.Gv
def qV (l : List (List Nat)) : List (List D):=l.map fun p=>[.sl (nfR p)]
def eK (l : List (List Nat)) : List (List D):=l.map fun p=>[.own 1 (nfR p)]
theorem vj (l : List (List Nat)) : (eK l).map (fun e=>e.map aU)=qV l:=by simp [eK,qV,aU]
section
variable {C : Nat -> List D -> D -> List D -> Prop} (hC : aE prog C)
include hC
theorem I8 (m : Msh) (i : Nat) (hi : i < m.f.length) : C 330 [.int .i64 i,.ptr [dX m]] (.bool (gI m i)) []:=by
 have W:=fO m
 have h1 : i < (aN m).sp.length:=by rw [W.sp];exact hi
 have h2 : i < (bE m).length:=by simpa using hi
 refine bD hC (nf:=N330) rfl rfl ?_
 simp [N330,dX,ar (b8 h1),ar (b8 h2)]
 exact ⟨aT (by decide +kernel),rfl⟩
set_option maxRecDepth 8000 in
set_option maxHeartbeats 2000000 in
theorem zS (m : Msh) (hv : aC m=true) : C 314 [dX m] (.sl (qV (mw m))) []:=by
 have W:=fO m
 have hsz:=(dS hv).2
 have kf:=oX hC m.f.length (by omega)
 have e0 : dX m=.ptr [.sl (nbA m),slx true (inR (bE m)),.sl (inR (aN m).sp),.sl (inR (aN m).ou)]:=rfl
 have kw:=fun i hi=>I8 hC m i hi
 refine bD hC (nf:=N314) rfl rfl ?_
 simp [N314,e0]
 refine ji kf ?_
 simp
 have hfl : ∀ i,i <= m.f.length -> (foI m i).length=m.f.length:=fun i hi=>(gm hv i hi).1.len
 obtain ⟨fD,hfD⟩ : ∃ fD,fD=dX m:=⟨_,rfl⟩
 rw [<- e0,<- hfD]
 rw [<- hfD] at kw
 refine aF Nat (fun i=>[(1,.ptr [fD]),(3,.ref (.r 10048) 0 m.f.length),(4,.fn 330 [.ptr [fD]]),(23,.sl (nbA m)),(24,.int .i64 m.f.length),(25,.int .i64 i),(10048,.blk 1 (nfR (foI m i)))]) (fun i=>i <= m.f.length) (fun i=>m.f.length - i) 0 (by simp) (by simp [foI]) ?_
 rintro i hi
 have hw : IntKind.wrap .i64 ((i : Int) + 1)=((i + 1 : Nat) : Int):=ao (by omega) (by omega)
 obtain ⟨F1,F2,F3⟩:=gm hv i hi
 simp
 refine av (fun g1=>?_) (fun g1=>?_) <;> simp at g1 <;> simp [g1]
 ·simp [ar (gQ g1)]
  obtain ⟨f0,hf0⟩ : ∃ f0,f0=foI m i:=⟨_,rfl⟩
  have hsp:=fun j hj=>kM hv g1 F1 F2 j hj
  rw [<- hf0] at F1 F2 F3 hsp ⊢
  refine aF Nat (fun j=>[(1,.ptr [fD]),(3,.ref (.r 10048) 0 m.f.length),(4,.fn 330 [.ptr [fD]]),(5,.int .i64 i),(23,.sl (nbA m)),(24,.int .i64 m.f.length),(25,.int .i64 i),(30,.agg [.int .i64 (nbF m i 0),.int .i64 (nbF m i 1),.int .i64 (nbF m i 2)]),(31,.int .i64 j),(10048,.blk 1 (nfR (foJ m i f0 j)))]) (fun j=>j <= 3) (fun j=>3 - j) 0 (by simp) (by simp [foJ]) ?_
  rintro j hj
  have hw2 : IntKind.wrap .i64 ((j : Int) + 1)=((j + 1 : Nat) : Int):=ao (by omega) (by omega)
  obtain ⟨J1,J2,J3,J4⟩:=hsp j hj
  obtain ⟨fj,hfj⟩ : ∃ fj,fj=foJ m i f0 j:=⟨_,rfl⟩
  have hnx : foJ m i f0 (j + 1)=if jf m i (nbF m i j) then fU fj i (nbF m i j).toNat else fj:=by rw [hfj];rfl
  rw [<- hfj] at J1 J2 J3 J4 ⊢
  have hjl:=J1.len
  simp
  refine av (fun g3=>?_) (fun g3=>?_) <;> simp at g3
  ·have hxj : ([.int .i64 (nbF m i 0),.int .i64 (nbF m i 1),.int .i64 (nbF m i 2)] : List D)[j]?.getD .any=.int .i64 (nbF m i j):=by
    rcases (by omega : j=0 \/ j=1 \/ j=2) with rfl | rfl | rfl <;> rfl
   have hbd:=dZ m i j
   obtain ⟨kk,hkk⟩ : ∃ kk,kk=nbF m i j:=⟨_,rfl⟩
   rw [<- hkk] at hxj hbd hnx
   simp [show (j : Int) < 3 by omega,hxj]
   refine ⟨by omega,?_⟩
   have fin : jf m i kk=false -> ∃ x,x <= 3 /\ 3 - x < 3 - j /\ IntKind.wrap .i64 ((j : Int) + 1)=(x : Int) /\ nfR fj=nfR (foJ m i f0 x):=fun hb=>⟨j + 1,by omega,by omega,hw2,by rw [hnx,hb];rfl⟩
   by_cases c1 : kk=-1
   ·simp [c1]
    exact ⟨aT (by decide +kernel),fin (by simp [jf,c1])⟩
   ·obtain ⟨c,hc⟩ : ∃ c : Nat,kk=c:=⟨kk.toNat,by omega⟩
    subst hc
    have hcn : c < m.f.length:=by omega
    simp [c1]
    refine af (kw i g1) (.inl rfl) ?_
    cases w1 : gI m i
    ·simp
     exact ⟨aT (by decide +kernel),fin (by simp [jf,w1])⟩
    ·simp
     refine af (kw c hcn) (.inl rfl) ?_
     cases w2 : gI m c
     ·simp
      exact ⟨aT (by decide +kernel),fin (by simp [jf,w1,w2])⟩
     ·have h1 : i < (aN m).sp.length:=by rw [W.sp];exact g1
      have h2 : c < (aN m).sp.length:=by rw [W.sp];exact hcn
      have hj2:=(eF J1 g1 hcn).1
      rw [hfD,e0]
      simp [ar (b8 h1),ar (b8 h2)]
      refine ⟨aT (by decide +kernel),?_⟩
      refine av (fun g5=>?_) (fun g5=>?_)
      ·have hb : jf m i (c : Int)=true:=by
        simp only [jf,Bool.and_eq_true,decide_eq_true_eq,Int.toNat_natCast]
        exact ⟨c1,w1,w2,by simpa using g5⟩
       rw [hb] at hnx
       simp only [if_true,Int.toNat_natCast] at hnx
       simp [g5]
       refine ⟨by omega,hjl,bU (yD hC.1 m.f.length (by omega) fj J1 i c g1 hcn) (by have:=hj2.len;simp;omega) ?_⟩
       simp
       exact ⟨j + 1,by omega,by omega,hw2,by rw [hnx]⟩
      ·simp [g5]
       exact fin (by simpa [jf,w1,w2] using g5)
  ·have e3 : j=3:=by omega
   subst e3
   simp
   exact ⟨i + 1,by omega,by omega,hw,by rw [hfj,hf0];rfl⟩
 ·have e : i=m.f.length:=by omega
  subst e
  rw [hfD,e0]
  simp
  refine ⟨by omega,?_⟩
  rw [<- e0,<- hfD]
  have hz : List.replicate m.f.length [D.int .i64 0]=inR (fw m 0):=by rw [qJ];simp [inR]
  rw [hz]
  refine aF (Nat × List Nat) (fun s=>[(3,.ref (.r 10048) 0 m.f.length),(4,.fn 330 [.ptr [fD]]),(9,.ref (.r 10144) 0 (cQ m s.1).length),(10,.ref (.r 10160) 0 m.f.length),(79,.int .i64 m.f.length),(80,.int .i64 s.1),(10048,.blk 1 (nfR s.2)),(10144,.blk 1 (eK (cQ m s.1))),(10160,.blk 1 (inR (fw m s.1)))])
   (fun s=>s.1 <= m.f.length /\ Fo m.f.length s.2 /\ ∀ x,x < m.f.length -> ftF s.2 x=rtP m x) (fun s=>m.f.length - s.1) (0,foI m m.f.length) ⟨by simp,F1,fun _ _=>rfl⟩ (by simp [cQ,stT,eK]) ?_
  rintro ⟨i,f⟩ ⟨hi,K1,K2⟩
  simp only at hi K1 K2
  have hw : IntKind.wrap .i64 ((i : Int) + 1)=((i + 1 : Nat) : Int):=ao (by omega) (by omega)
  have kl:=K1.len
  simp
  refine av (fun g1=>?_) (fun g1=>?_) <;> simp at g1 <;> simp [g1]
  ·refine af (kw i g1) (.inl rfl) ?_
   simp
   refine av (fun g2=>?_) (fun g2=>?_)
   ·simp at g2
    simp [g2]
    exact ⟨i + 1,f,⟨by omega,K1,K2⟩,by omega,by rw [lm g2],hw,rfl,by rw [lm g2],by rw [mf (by simp [stB,g2])]⟩
   ·simp at g2
    obtain ⟨r,hr⟩ : ∃ r,r=rtP m i:=⟨_,rfl⟩
    obtain ⟨r1,r2⟩:=tC hv g1
    obtain ⟨r3,r4⟩:=vr hv g1
    have kr:=pz hC.1 m.f.length (by omega) f K1 i g1
    rw [K2 i g1,<- hr] at kr
    obtain ⟨L1,L2⟩:=gr K1 g1
    rw [<- hr] at r1 r2 r3 r4
    have hrs : stB m r=true:=by simp [stB,r3,g2,r2]
    simp [g2,kl]
    refine ⟨by omega,bU kr (by have:=L1.len;simp;omega) ?_⟩
    simp
    refine av (fun g3=>?_) (fun g3=>?_) <;> simp at g3
    ·have g3' : r=i:=by omega
     subst g3'
     clear g3
     have hii : r < (inR (fw m r)).length:=by simp [kW];exact g1
     have hid : r < (fw m r).length:=by simpa using hii
     have hst:=sY g1 hrs
     have hon:=tj hv g1 hrs
     have hol:=fz m r
     have hle:=Ah m r
     have hid2 : r < (fw m (r + 1)).length:=by rw [kW];exact g1
     have hig:=nY (m:=m) (i:=r + 1) (r:=r) (by omega) (by omega) hrs
     have hmt:=lH m hrs (r + 1) (by omega)
     have hw2 : (stT m r).length < (cQ m (r + 1)).length:=by rw [fz];exact hmt.1
     have hpl : (eK (cQ m r)).length=(stT m r).length:=by simp [eK,hol]
     have htk : List.take (stT m r).length (eK (cQ m r))=eK (cQ m r):=List.take_of_length_le (by omega)
     have hig2 : (inR (fw m (r + 1)))[r]? = some [.int .i64 ((stT m r).length : Nat)]:=by rw [b8 hid2,hig]
     have hrow : (eK (cQ m r)++[[D.nils]])[(stT m r).length]? = some [.nils]:=by rw [List.getElem?_append_right (by omega),hpl];simp
     have hset : (eK (cQ m r)++[[D.nils]]).set (stT m r).length [.own 1 [[.int .i64 (r : Int)]]]=eK (cQ m (r + 1)):=by
      rw [hon]
      unfold eK
      rw [List.map_set,List.map_append,List.set_append_right _ _ (by simp [hol]),List.set_append_right _ _ (by simp [hol])]
      simp [nfR,hol]
     simp [g1,b8 hid,pf,hol,hst,htk,hpl,aX hig2]
     refine ⟨by omega,?_⟩
     simp [aX hrow,hrow]
     exact ⟨aT (by decide +kernel),r + 1,hlL f r,⟨by omega,L1,fun x hx=>by rw [L2 x hx,K2 x hx]⟩,by omega,by rw [fz];have:=fF m r;rw [if_pos hrs] at this;rw [this];simp,hw,rfl,hset,rfl⟩
    ·have hri : r < i:=by omega
     obtain ⟨l,hll,ho1,ho2⟩:=tk g2 hr.symm hri hrs
     have hol:=fz m i
     have hmt:=lH m hrs i hri
     have hid : r < (fw m i).length:=by rw [kW];omega
     have hig:=nY (m:=m) (i:=i) (r:=r) hri (by omega) hrs
     have hig2 : (inR (fw m i))[r]? = some [.int .i64 ((stT m r).length : Nat)]:=by rw [b8 hid,hig]
     have hrow : (eK (cQ m i))[(stT m r).length]? = some [.own 1 (nfR l)]:=by unfold eK;rw [List.getElem?_map,ho1];rfl
     have hset : (eK (cQ m i)).set (stT m r).length [.own 1 (nfR (l++[i]))]=eK (cQ m (i + 1)):=by
      rw [ho2]
      unfold eK
      rw [List.map_set]
     have hrn : r < m.f.length:=by omega
     simp [g3,hrn,aX hig2]
     have hrl : (stT m r).length < (eK (cQ m i)).length:=by simp [eK,hol];exact hmt.1
     have hrl2 : (stT m r).length < (cQ m i).length:=by rw [hol];exact hmt.1
     have hgs : ∀ x,((eK (cQ m i)).set (stT m r).length x)[(stT m r).length]? = some x:=fun x=>List.getElem?_set_self hrl
     simp [aX hrow,hrow,hrl2]
     refine ⟨by omega,?_⟩
     simp [hgs]
     have hns : stB m i=false:=by simp [stB,<- hr];exact fun _ h=>g3 (by rw [h])
     have hso : (cQ m i).length=(cQ m (i + 1)).length:=by rw [fz,fz,fF,if_neg (by simp [hns])]
     refine ⟨?_,aT (by decide +kernel),i + 1,hlL f i,⟨by omega,L1,fun x hx=>by rw [L2 x hx,K2 x hx]⟩,by omega,hso,hw,rfl,by rw [pY];exact hset,by rw [mf hns]⟩
     rintro e (he | rfl) c hc
     ·exact tf _ _ he _ hc
     ·simp at hc;subst hc;rfl
  ·have e : i=m.f.length:=by omega
   subst e
   have hpl : (eK (mw m)).length=(mw m).length:=by simp [eK]
   exact ⟨by simp [eK],by rw [show cQ m m.f.length=mw m from rfl,vj];exact List.take_of_length_le (by simp [qV])⟩
end
end Go.Gv

namespace Go.Gv
def exS : Msh:=⟨false,[⟨0,0,1⟩,⟨10,0,2⟩,⟨0,10,4⟩],false,[⟨0,1,2,0⟩]⟩
theorem sH : aC exS=true:=by decide +kernel
theorem wS : (b9 exS).lv=[7] /\ (b9 exS).ou=[-1]:=by decide +kernel
theorem Fc : bE exS=[7]:=by decide +kernel
theorem sG : (aN exS).sp=[7]:=(eq sH).1.trans wS.1
theorem sF : (aN exS).ou=[-1]:=(eq sH).2.trans wS.2
theorem ym : drL exS=[0]:=by
 show [hH exS 0]=[0]
 unfold hH
 rw [sF]
 rfl
theorem yn : mw exS=[]:=by
 show cQ exS 1=[]
 rw [lm (by unfold gI;rw [sG,Fc];rfl)]
 rfl
section
variable {C : Nat -> List D -> D -> List D -> Prop} (hC : aE prog C)
include hC
theorem xL (dec : Nat -> List UInt8) (hI : ∀ n : Nat,n < 100 -> C 127 [.int .i64 n] (.str (dec n)) []) (m : Msh) (hz : cY m=true -> m.s.length <= 100 /\ m.f.length <= 100) :
  C 279 [.agg (cj m)] (if aC m then .tup [.sl (qV (mw m)),.int .i64 0] else .tup [.nils,.int .i64 1]) []:=by
 have k:=gM hC dec hI m hz
 simp only [ai] at k
 refine bD hC (nf:=N279) rfl rfl ?_
 simp [N279,ai]
 refine af k (.inr rfl) ?_
 cases hv : aC m
 ·simp
 ·have kp:=zS hC m hv
  rw [show dX m=.ptr [.sl (nbA m),slx true (inR (bE m)),.sl (inR (aN m).sp),.sl (inR (aN m).ou)] from rfl] at kp ⊢
  simp
  refine af kp (.inr rfl) ?_
  simp
theorem qn (dec : Nat -> List UInt8) (hI : ∀ n : Nat,n < 100 -> C 127 [.int .i64 n] (.str (dec n)) []) : C 241 [] (.bool true) []:=by
 have hz : cY exS=true -> exS.s.length <= 100 /\ exS.f.length <= 100:=fun _=>by simp [exS]
 have k1:=rI hC dec hI exS hz
 have k2:=lV hC dec hI exS hz
 have k3:=lU hC dec hI exS hz
 have k4:=xL hC dec hI exS hz
 have q1:=sD hC false false [7] [7] (by simp) (by simp)
 have q2:=sD hC false false [-1] [-1] (by simp) (by simp)
 have q3:=sD hC false false [0] [0] (by simp) (by simp)
 rw [sH] at k1 k2 k3 k4
 rw [sG] at k1
 rw [sF] at k2
 rw [ym] at k3
 rw [yn] at k4
 simp only [ai] at k1 k2 k3 k4
 simp [exS,s4,qV,kj,cL] at k1 k2 k3 k4 q1 q2 q3
 refine bD hC (nf:=N241) rfl rfl ?_
 simp [N241]
 refine af k1 (.inr rfl) ?_
 simp
 refine af k2 (.inr rfl) ?_
 simp
 refine af k3 (.inr rfl) ?_
 simp
 refine af k4 (.inr rfl) ?_
 simp
 refine af q1 (.inl rfl) ?_
 simp
 refine af q2 (.inl rfl) ?_
 simp
 refine af q3 (.inl rfl) ?_
 simp
end
end Go.Gv

namespace Go.Gv
section
variable {C : Nat -> List D -> D -> List D -> Prop} (hC : aE prog C)
include hC
theorem qM (m : Msh) : C 242 [.agg (cj m)] (.bool (decide (60 < m.s.length) || decide (80 < m.f.length))) []:=by
 refine bD hC (nf:=N242) rfl rfl ?_
 simp [N242,ai]
 refine av (fun g1=>?_) (fun g1=>?_) <;> simp at g1
 ·simp [show (60 : Int) < m.s.length by omega]
  exact .inl (by omega)
 ·simp [show ¬ (60 : Int) < m.s.length by omega]
  rw [decide_eq_false (show ¬ 60 < m.s.length by omega),Bool.false_or]
  by_cases h : 80 < m.f.length
  ·rw [decide_eq_true h,decide_eq_true (by omega)]
  ·rw [decide_eq_false h,decide_eq_false (by omega)]
end
end Go.Gv

namespace Go.Gv
structure LvI (m : Msh) (r : RF) (P : Nat -> Nat -> Prop) : Prop where
 rcl : r.rc.length=m.f.length
 lfl : r.lf.length=m.f.length
 lvl : r.lv.length=m.f.length
 oul : r.ou.length=m.f.length
 l1 : ∀ a,r.lf.getD a false=true -> r.rc.getD a false=true
 l2 : ∀ a b,r.lf.getD a false=true -> r.rc.getD b false=true -> r.lf.getD b false=false -> r.lv.getD a 0 <= r.lv.getD b 0
 bd : ∀ a,a < m.f.length -> bsd m a (-1)=true -> r.rc.getD a false=true
 l3 : ∀ a,a < m.f.length -> r.rc.getD a false=true -> (bsd m a (-1)=true /\ r.ou.getD a 0=-1 /\ r.lv.getD a 0=(bE m).getD a 0) \/
  (bsd m a (-1)=false /\ ∃ z : Nat,z < m.f.length /\ r.ou.getD a 0=z /\ r.lf.getD z false=true /\ (∃ c,c < 3 /\ nbF m a c=z) /\ r.lv.getD a 0=max ((bE m).getD a 0) (r.lv.getD z 0))
 l4 : ∀ y,r.lf.getD y false=true -> ∀ c,c < 3 -> P y c -> ∀ x : Nat,nbF m y c=x -> r.rc.getD x false=true /\ r.lv.getD x 0 <= max ((bE m).getD x 0) (r.lv.getD y 0)
theorem LvI.p1 {m : Msh} (hv : aC m=true) {a j : Nat} {r : RF} (ha : a < m.f.length) (hj : j < 3) (hla : r.lf.getD a false=true) (hat : ∀ z,r.lf.getD z false=true -> r.lv.getD z 0 <= r.lv.getD a 0) {P : Nat -> Nat -> Prop} (h : LvI m r P) :
  LvI m (fA m a r (nbF m a j)) (fun y c=>P y c \/ (y=a /\ c=j)) /\ (fA m a r (nbF m a j)).lf=r.lf /\ ∀ z,r.lf.getD z false=true -> (fA m a r (nbF m a j)).lv.getD z 0=r.lv.getD z 0:=by
 have hb:=dZ m a j
 unfold fA
 split
 ·rename_i hc
  obtain ⟨x0,hx0⟩ : ∃ x0 : Nat,nbF m a j=x0:=⟨(nbF m a j).toNat,by omega⟩
  rw [hx0] at hc hb ⊢
  simp only [Int.toNat_natCast] at hc ⊢
  have hxn : x0 < m.f.length:=by omega
  obtain ⟨v,hvv⟩ : ∃ v,v=(if r.lv.getD a 0 < (bE m).getD x0 0 then (bE m).getD x0 0 else r.lv.getD a 0):=⟨_,rfl⟩
  have hv1 : v=max ((bE m).getD x0 0) (r.lv.getD a 0):=by rw [hvv];split <;> omega
  rw [<- hvv]
  have grc : ∀ i,(r.rc.set x0 true).getD i false=if i=x0 then true else r.rc.getD i false:=fun i=>bR (by rw [h.rcl];exact hxn)
  have glv : ∀ i,(r.lv.set x0 v).getD i 0=if i=x0 then v else r.lv.getD i 0:=fun i=>bR (by rw [h.lvl];exact hxn)
  have gou : ∀ i,(r.ou.set x0 (a : Int)).getD i 0=if i=x0 then (a : Int) else r.ou.getD i 0:=fun i=>bR (by rw [h.oul];exact hxn)
  have hne : ∀ i,r.rc.getD i false=true -> i ≠ x0:=fun i hi e=>by rw [e,hc.2] at hi;cases hi
  have hmono : ∀ i,r.rc.getD i false=true -> (r.rc.set x0 true).getD i false=true:=fun i hi=>by rw [grc,if_neg (hne i hi)];exact hi
  have hkeep : ∀ z,r.lf.getD z false=true -> (r.lv.set x0 v).getD z 0=r.lv.getD z 0:=fun z hz=>by rw [glv,if_neg (hne z (h.l1 z hz))]
  refine ⟨⟨by simp [h.rcl],h.lfl,by simp [h.lvl],by simp [h.oul],fun i hi=>hmono i (h.l1 i hi),fun i k hi hk hk2=>?_,fun i hi hbi=>hmono i (h.bd i hi hbi),fun i hi hir=>?_,fun y hy c hc3 hP x hx=>?_⟩,trivial,hkeep⟩
  ·simp only at hi hk hk2 ⊢
   rw [hkeep i hi,glv]
   split
   ·have:=hat i hi
    omega
   ·rename_i e
    rw [grc,if_neg e] at hk
    exact h.l2 i k hi hk hk2
  ·simp only at hir ⊢
   by_cases e : i=x0
   ·subst e
    right
    have hnb : bsd m i (-1)=false:=by
     cases hh : bsd m i (-1)
     ·rfl
     ·have:=h.bd i hi hh
      rw [hc.2] at this
      cases this
    obtain ⟨c',hc',e'⟩:=na hv ha hj (by omega)
    rw [hx0] at e'
    refine ⟨hnb,a,ha,by rw [gou,if_pos rfl],hla,⟨c',hc',by simpa using e'⟩,?_⟩
    rw [glv,if_pos rfl,hkeep a hla,hv1]
   ·rw [grc,if_neg e] at hir
    rw [gou,if_neg e,glv,if_neg e]
    rcases h.l3 i hi hir with h5 | ⟨h5,z,hz,h6,h7,h8,h9⟩
    ·exact .inl h5
    ·exact .inr ⟨h5,z,hz,h6,h7,h8,by rw [hkeep z h7];exact h9⟩
  ·simp only at hy ⊢
   rw [hkeep y hy]
   rcases hP with hP | ⟨rfl,rfl⟩
   ·obtain ⟨h5,h6⟩:=h.l4 y hy c hc3 hP x hx
    rw [glv,if_neg (hne x h5)]
    exact ⟨hmono x h5,h6⟩
   ·have e : x=x0:=by omega
    subst e
    rw [grc,if_pos rfl,glv,if_pos rfl,hv1]
    exact ⟨by simp,Int.le_refl _⟩
 ·rename_i hc
  refine ⟨⟨h.rcl,h.lfl,h.lvl,h.oul,h.l1,h.l2,h.bd,h.l3,fun y hy c hc3 hP x hx=>?_⟩,rfl,fun _ _=>rfl⟩
  rcases hP with hP | ⟨rfl,rfl⟩
  ·exact h.l4 y hy c hc3 hP x hx
  ·have hxn : x < m.f.length:=by omega
   have hr : r.rc.getD x false=true:=by
    cases hh : r.rc.getD x false
    ·exact absurd ⟨by omega,by rw [hx];simpa using hh⟩ hc
    ·rfl
   refine ⟨hr,?_⟩
   rcases h.l3 x hxn hr with h5 | ⟨h5,z,hz,h6,h7,h8,h9⟩
   ·omega
   ·have:=hat z h7
    omega
theorem LvI.weaken {m : Msh} {r : RF} {P Q : Nat -> Nat -> Prop} (h : LvI m r P) (hPQ : ∀ y c,c < 3 -> r.lf.getD y false=true -> Q y c -> P y c) : LvI m r Q :=
 ⟨h.rcl,h.lfl,h.lvl,h.oul,h.l1,h.l2,h.bd,h.l3,fun y hy c hc hq=>h.l4 y hy c hc (hPQ y c hc hy hq)⟩
theorem LvI.i {m : Msh} (hv : aC m=true) {a : Nat} {r : RF} (ha : a < m.f.length) (hla : r.lf.getD a false=true) (hat : ∀ z,r.lf.getD z false=true -> r.lv.getD z 0 <= r.lv.getD a 0) {P : Nat -> Nat -> Prop} (h : LvI m r P) : ∀ j,j <= 3 ->
  LvI m (rfI m a r j) (fun y c=>P y c \/ (y=a /\ c < j)) /\ (rfI m a r j).lf=r.lf /\ ∀ z,r.lf.getD z false=true -> (rfI m a r j).lv.getD z 0=r.lv.getD z 0
 | 0,_=>⟨h.weaken fun y c _ _ hq=>by rcases hq with h | h;exact h;omega,rfl,fun _ _=>rfl⟩
 | j + 1,hj=>by
  obtain ⟨h1,h2,h3⟩:=LvI.i hv ha hla hat h j (by omega)
  obtain ⟨q1,q2,q3⟩:=h1.p1 hv ha (show j < 3 by omega) (by rw [h2];exact hla) (fun z hz=>by rw [h2] at hz;rw [h3 z hz,h3 a hla];exact hat z hz)
  refine ⟨q1.weaken fun y c hc _ hq=>?_,by show (fA m a (rfI m a r j) (nbF m a j)).lf=_;rw [q2,h2],fun z hz=>by show (fA m a (rfI m a r j) (nbF m a j)).lv.getD z 0=_;rw [q3 z (by rw [h2];exact hz),h3 z hz]⟩
  rcases hq with h | ⟨h4,h5⟩
  ·exact .inl (.inl h)
  ·by_cases e : c=j
   ·exact .inr ⟨h4,e⟩
   ·exact .inl (.inr ⟨h4,by omega⟩)
theorem LvI.step {m : Msh} (hv : aC m=true) {r : RF} (h : LvI m r fun _ _=>True) : LvI m (fd m r) fun _ _=>True:=by
 unfold fd
 split
 ·exact h
 ·rename_i h0
  rcases iX r m.f.length with ⟨h1,_⟩ | ⟨a,h1,h2,h3,h4⟩
  ·omega
  ·rw [h1]
   simp only [Int.toNat_natCast]
   have h3' : r.rc.getD a false=true /\ r.lf.getD a false=false:=by simpa [act] using h3
   have glf : ∀ i,(r.lf.set a true).getD i false=if i=a then true else r.lf.getD i false:=fun i=>bR (by rw [h.lfl];exact h2)
   have hat : ∀ z,(r.lf.set a true).getD z false=true -> r.lv.getD z 0 <= r.lv.getD a 0:=fun z hz=>by
    rw [glf] at hz
    split at hz
    ·rename_i e;rw [e];exact Int.le_refl _
    ·exact h.l2 z a hz h3'.1 h3'.2
   have hI : LvI m { r with lf:=r.lf.set a true } fun y _=>y ≠ a:=by
    refine ⟨h.rcl,by simp [h.lfl],h.lvl,h.oul,fun i hi=>?_,fun i k hi hk hk2=>?_,h.bd,fun i hi hir=>?_,fun y hy c hc hne x hx=>?_⟩
    ·simp only at hi
     rw [glf] at hi
     split at hi
     ·rename_i e;rw [e];exact h3'.1
     ·exact h.l1 i hi
    ·simp only at hi hk hk2 ⊢
     rw [glf] at hk2
     split at hk2
     ·cases hk2
     ·rename_i e
      have hak : act r k=true:=by simp only [act,hk,hk2];rfl
      by_cases hkn : k < m.f.length
      ·have h5:=h4 k hkn hak
       have h6:=hat i hi
       omega
      ·have : r.rc.getD k false=false:=by
        rw [List.getD_eq_getElem?_getD,List.getElem?_eq_none (by rw [h.rcl];omega)];rfl
       rw [this] at hk;cases hk
    ·rcases h.l3 i hi hir with h5 | ⟨h5,z,hz,h6,h7,h8,h9⟩
     ·exact .inl h5
     ·refine .inr ⟨h5,z,hz,h6,?_,h8,h9⟩
      show (r.lf.set a true).getD z false=true
      rw [glf];split
      ·rfl
      ·exact h7
    ·simp only at hy
     rw [glf,if_neg hne] at hy
     exact h.l4 y hy c hc trivial x hx
   have:=(hI.i (a:=a) hv h2 (by show (r.lf.set a true).getD a false=true;rw [glf,if_pos rfl]) hat 3 (Nat.le_refl _)).1
   refine this.weaken fun y c hc _ _=>?_
   by_cases e : y=a
   ·exact .inr ⟨e,hc⟩
   ·exact .inl e
theorem LvI.run {m : Msh} (hv : aC m=true) : ∀ (k : Nat) {r : RF},LvI m r (fun _ _=>True) -> LvI m (rfN m k r) fun _ _=>True
 | 0,_,h=>h
 | k + 1,_,h=>LvI.run hv k (h.step hv)
theorem jB (m : Msh) : ∀ i a,(rf0 m i).1.getD a false=true -> bsd m a (-1)=true
 | 0,a,h=>by
  simp [rf0,List.getElem?_replicate] at h
  split at h <;> cases h
 | i + 1,a,h=>by
  unfold rf0 at h
  split at h
  ·rename_i hb
   rcases kP h with rfl | h
   ·exact hb
   ·exact jB m i a h
  ·exact jB m i a h
theorem LvI.init (m : Msh) : LvI m (d7 m) fun _ _=>True:=by
 have hf : ∀ i,(List.replicate m.f.length false).getD i false=false:=fun i=>by simp [List.getElem?_replicate];split <;> rfl
 refine ⟨(eX m _).1,by simp [d7],(eX m _).2,by simp [d7],fun a ha=>?_,fun a b ha _ _=>?_,fun a ha hb=>px m _ (Nat.le_refl _) a ha hb,fun a ha hr=>.inl ⟨jB m _ a hr,?_,nj m _ (Nat.le_refl _) a hr⟩,fun y hy=>?_⟩
 ·exact absurd ((hf a).symm.trans ha) (by decide)
 ·exact absurd ((hf a).symm.trans ha) (by decide)
 ·show (List.replicate m.f.length (-1 : Int)).getD a 0=-1
  simp [List.getElem?_replicate,ha]
 ·exact absurd ((hf y).symm.trans hy) (by decide)
def spF (m : Msh) (a : Nat) : Int:=(aN m).sp.getD a 0
def suF (m : Msh) (a : Nat) : Int:=(bE m).getD a 0
def ouF (m : Msh) (a : Nat) : Int:=(aN m).ou.getD a 0
theorem jn {m : Msh} (hv : aC m=true) : LvI m (b9 m) fun _ _=>True:=(LvI.init m).run hv _
theorem rC {m : Msh} (hv : aC m=true) {a : Nat} (ha : a < m.f.length) (hb : bsd m a (-1)=true) : spF m a=suF m a /\ ouF m a=-1:=by
 obtain ⟨e1,e2⟩:=eq hv
 unfold spF suF ouF
 rw [e1,e2]
 rcases (jn hv).l3 a ha (dM hv a ha) with h | ⟨h,_⟩
 ·exact ⟨h.2.2,h.2.1⟩
 ·rw [hb] at h;cases h
theorem rD {m : Msh} (hv : aC m=true) {a : Nat} (ha : a < m.f.length) (hb : bsd m a (-1)=false) : ∃ z : Nat,z < m.f.length /\ ouF m a=z /\ (∃ c,c < 3 /\ nbF m a c=z) /\ spF m a=max (suF m a) (spF m z):=by
 obtain ⟨e1,e2⟩:=eq hv
 unfold spF suF ouF
 rw [e1,e2]
 rcases (jn hv).l3 a ha (dM hv a ha) with h | ⟨_,z,h1,h2,_,h4,h5⟩
 ·rw [hb] at h;cases h.1
 ·exact ⟨z,h1,h2,h4,h5⟩
theorem tW {m : Msh} (hv : aC m=true) {a x c : Nat} (ha : a < m.f.length) (hc : c < 3) (hx : nbF m a c=x) : spF m a <= max (suF m a) (spF m x):=by
 obtain ⟨e1,_⟩:=eq hv
 have hb:=dZ m a c
 have hxn : x < m.f.length:=by omega
 obtain ⟨c',hc',e⟩:=na hv ha hc (by omega)
 rw [hx] at e
 unfold spF suF
 rw [e1]
 exact ((jn hv).l4 x (j4 m x (dM hv x hxn)) c' hc' trivial a (by simpa using e)).2
theorem lc {m : Msh} {a : Nat} (h : ouF m a=-1) : hH m a=a:=by
 unfold hH
 rw [og h]
theorem lg {m : Msh} (hv : aC m=true) {a z : Nat} (ha : a < m.f.length) (h : ouF m a=z) : hH m a=hH m z:=by
 obtain ⟨d,hd,he⟩:=il hv ha
 cases d with
 | zero =>
  have e : (aN m).ou.getD a 0=-1:=he
  have e2 : (aN m).ou.getD a 0=z:=h
  omega
 | succ d =>
  obtain ⟨b,hb,e1,_,e3⟩:=he
  have e2 : (aN m).ou.getD a 0=z:=h
  have : b=z:=by omega
  subst this
  unfold hH
  rw [oe e1 e3 hd]
end Go.Gv

namespace Go.Gv
theorem kY {m : Msh} {i : Nat} (h : i < m.f.length) : (inR (aN m).sp)[i]? = some [.int .i64 (spF m i)]:=b8 (by rw [(fO m).sp];exact h)
theorem js {m : Msh} {i : Nat} (h : i < m.f.length) : (inR (aN m).ou)[i]? = some [.int .i64 (ouF m i)]:=b8 (by rw [(fO m).ou];exact h)
theorem pg {m : Msh} {i : Nat} (h : i < m.f.length) : (inR (bE m))[i]? = some [.int .i64 (suF m i)]:=b8 (by simpa using h)
theorem kX {m : Msh} {i : Nat} (h : i < m.f.length) : (inR (drL m))[i]? = some [.int .i64 (hH m i)]:=by
 have : i < (drL m).length:=by simpa [drL] using h
 rw [b8 this]
 simp [drL,h]
section
variable {C : Nat -> List D -> D -> List D -> Prop} (hC : aE prog C)
include hC
theorem rZ (m : Msh) (i : Nat) : C 248 [.agg [.int .i64 (nbF m i 0),.int .i64 (nbF m i 1),.int .i64 (nbF m i 2)]] (.bool (bsd m i (-1))) []:=by
 have kh:=mS hC (b:=false) (xs:=[nbF m i 0,nbF m i 1,nbF m i 2]) (-1) (by simp)
 have kh2 : C 223 [.sl [[.int .i64 (nbF m i 0)],[.int .i64 (nbF m i 1)],[.int .i64 (nbF m i 2)]],.int .i64 (-1)] (.bool (bsd m i (-1))) []:=by simpa [bsd] using kh
 refine bD hC (nf:=N248) rfl rfl ?_
 simp [N248,bK]
 refine af kh2 (.inl rfl) ?_
 simp
set_option maxHeartbeats 2000000 in
set_option maxRecDepth 8000 in
theorem mG (dec : Nat -> List UInt8) (hI : ∀ n : Nat,n < 100 -> C 127 [.int .i64 n] (.str (dec n)) []) (m : Msh) : C 209 [.agg (cj m)] (.bool true) []:=by
 have ka:=qn hC dec hI
 have kl:=qM hC m
 simp only [ai] at kl
 refine bD hC (nf:=N209) rfl rfl ?_
 simp [N209,ai]
 refine af ka (.inl rfl) ?_
 simp
 refine af kl (.inl rfl) ?_
 simp
 refine av (fun g1=>?_) (fun g1=>?_)
 ·simp
 ·simp at g1
  have hz : cY m=true -> m.s.length <= 100 /\ m.f.length <= 100:=fun _=>by omega
  have k1:=rI hC dec hI m hz
  have k2:=lV hC dec hI m hz
  have k3:=lU hC dec hI m hz
  have k4:=oc hC dec hI m hz
  have k5:=fK hC dec hI m hz
  have k6:=rU hC dec hI m hz
  simp only [ai] at k1 k2 k3 k4 k5 k6
  simp
  refine af k1 (.inr rfl) ?_
  cases hv : aC m
  ·simp [hv] at k1 k2 k3 k4 ⊢
   refine af k4 (.inl rfl) ?_
   simp
  ·simp [hv] at k2 k3 k5 k6 ⊢
   refine af k2 (.inr rfl) ?_
   simp
   refine af k3 (.inr rfl) ?_
   simp
   refine af k5 (.inr rfl) ?_
   simp
   refine af k6 (.inr rfl) ?_
   have W:=fO m
   have d1 : (drL m).length=m.f.length:=by simp [drL]
   simp [W.sp,W.ou,d1]
   refine aF Nat (fun k=>[(3,.sl (inR (aN m).sp)),(5,.sl (inR (aN m).ou)),(7,.sl (inR (drL m))),(9,.sl (nbA m)),(11,slx true (inR (bE m))),(13,.int .i64 m.f.length),(93,.int .i64 m.f.length),(94,.int .i64 k)]) (fun k=>k <= m.f.length) (fun k=>m.f.length - k) 0 (by simp) (by simp) ?_
   rintro k hk
   have hw : IntKind.wrap .i64 ((k : Int) + 1)=((k + 1 : Nat) : Int):=ao (by omega) (by omega)
   have kb:=rZ hC m k
   simp
   refine av (fun g2=>?_) (fun g2=>?_) <;> simp at g2 <;> simp [g2]
   ·simp [ar (gQ g2)]
    refine af kb (.inl rfl) ?_
    cases hb : bsd m k (-1)
    ·obtain ⟨z,hz1,hz2,⟨c,hc,hc2⟩,hz3⟩:=rD hv g2 hb
     have hm:=lg hv g2 hz2
     have kh:=mS hC (b:=false) (xs:=[nbF m k 0,nbF m k 1,nbF m k 2]) (z : Int) (by simp)
     have kh2 : C 223 [.sl [[.int .i64 (nbF m k 0)],[.int .i64 (nbF m k 1)],[.int .i64 (nbF m k 2)]],.int .i64 (z : Int)] (.bool true) []:=by
      have e : bsd m k (z : Int)=true:=by
       rcases (by omega : c=0 \/ c=1 \/ c=2) with rfl | rfl | rfl <;> simp [bsd,hc2]
      rw [<- e]
      simpa [bsd] using kh
     simp [ar (js g2),hz2,show ¬ (z : Int) < 0 by omega,ar (gQ g2),bK]
     refine af kh2 (.inl rfl) ?_
     have hmx : (if (suF m k) < (spF m z) then spF m z else suF m k)=spF m k:=by rw [hz3];split <;> omega
     simp [ar (kY g2),ar (pg g2),ar (kY hz1),ar (kX g2),ar (kX hz1),hmx,hm]
     refine ⟨aT (by decide +kernel),?_⟩
     simp [ar (gQ g2)]
     refine aF Nat (fun j=>[(3,.sl (inR (aN m).sp)),(5,.sl (inR (aN m).ou)),(7,.sl (inR (drL m))),(9,.sl (nbA m)),(11,slx true (inR (bE m))),(13,.int .i64 m.f.length),(14,.int .i64 k),(93,.int .i64 m.f.length),(94,.int .i64 k),
      (171,.agg [.int .i64 (nbF m k 0),.int .i64 (nbF m k 1),.int .i64 (nbF m k 2)]),(172,.int .i64 j)]) (fun j=>j <= 3) (fun j=>3 - j) 0 (by simp) (by simp) ?_
     rintro j hj
     have hw2 : IntKind.wrap .i64 ((j : Int) + 1)=((j + 1 : Nat) : Int):=ao (by omega) (by omega)
     simp
     refine av (fun g3=>?_) (fun g3=>?_) <;> simp at g3
     ·have hxj : ([.int .i64 (nbF m k 0),.int .i64 (nbF m k 1),.int .i64 (nbF m k 2)] : List D)[j]?.getD .any=.int .i64 (nbF m k j):=by
       rcases (by omega : j=0 \/ j=1 \/ j=2) with rfl | rfl | rfl <;> rfl
      have hbd:=dZ m k j
      have hnb : nbF m k j ≠ -1:=by
       simp only [bsd,Bool.or_eq_false_iff,decide_eq_false_iff_not] at hb
       rcases (by omega : j=0 \/ j=1 \/ j=2) with rfl | rfl | rfl <;> omega
      obtain ⟨x,hx⟩ : ∃ x : Nat,nbF m k j=x:=⟨(nbF m k j).toNat,by omega⟩
      have hxn : x < m.f.length:=by omega
      have hle:=tW hv g2 (show j < 3 by omega) hx
      rw [hx] at hxj
      have hgt : ¬ (if (suF m k) < (spF m x) then spF m x else suF m k) < spF m k:=by split <;> omega
      simp [show (j : Int) < 3 by omega,hxj,ar (kY g2),ar (pg g2),ar (kY hxn),hgt]
      exact ⟨by omega,aT (by decide +kernel),j + 1,by omega,by omega,hw2⟩
     ·simp [g3]
      obtain ⟨d0,hd0,he0⟩:=il hv g2
      refine aF (Nat × Nat × Nat) (fun s=>[(3,.sl (inR (aN m).sp)),(5,.sl (inR (aN m).ou)),(7,.sl (inR (drL m))),(9,.sl (nbA m)),(11,slx true (inR (bE m))),(13,.int .i64 m.f.length),(14,.int .i64 k),(18,.int .i64 s.2.1),(93,.int .i64 m.f.length),(94,.int .i64 k),
       (191,.int .i64 m.f.length),(192,.int .i64 s.1)]) (fun s=>s.1 <= m.f.length /\ s.2.1 < m.f.length /\ s.2.2 + s.1 <= m.f.length /\ iD m.f.length (aN m).ou (b9 m).rc s.2.2 s.2.1 /\ hH m s.2.1=hH m k) (fun s=>m.f.length - s.1) (0,k,d0) ⟨by simp,g2,by simpa using hd0,he0,rfl⟩ (by simp) ?_
      rintro ⟨i,a,d⟩ ⟨q1,q2,q3,q4,q5⟩
      simp only at q1 q2 q3 q4 q5
      have hw3 : IntKind.wrap .i64 ((i : Int) + 1)=((i + 1 : Nat) : Int):=ao (by omega) (by omega)
      have fin : ouF m a=-1 -> hH m k=a:=fun h=>by rw [<- q5];exact lc h
      simp
      refine av (fun g4=>?_) (fun g4=>?_) <;> simp at g4
      ·simp [g4,ar (js q2)]
       cases d with
       | zero =>
        have e : ouF m a=-1:=q4
        simp [e,ar (js q2),ar (kX g2),fin e]
        exact ⟨k + 1,by omega,by omega,hw⟩
       | succ d =>
        obtain ⟨b,hb1,hb2,hb3,hb4⟩:=q4
        have e : ouF m a=b:=hb2
        simp [e,show ¬ (b : Int) < 0 by omega,ar (js q2)]
        exact ⟨i + 1,b,⟨by omega,hb1,d,by omega,hb4,by rw [<- q5];exact (lg hv q2 e).symm⟩,by omega,rfl,hw3⟩
      ·have e : ouF m a=-1:=by
        have : d=0:=by omega
        subst this
        exact q4
       simp [g4,e,ar (js q2),ar (kX g2),fin e]
       exact ⟨k + 1,by omega,by omega,hw⟩
    ·obtain ⟨e1,e2⟩:=rC hv g2 hb
     have e3:=lc e2
     simp [ar (kY g2),ar (pg g2),e1,ar (js g2),e2,ar (kX g2),e3]
     exact ⟨aT (by decide +kernel),k + 1,by omega,by omega,hw⟩
end
end Go.Gv
