/-
  Texts of the proof: PF3, PF4, PF5, PT3, PT5, I3, I1, I2, I4, H13, H14, H15, I5, I6, L10, L11, J29, L12, L15, L16, L19, RF1, SF1, SF2, PT6, PL1, M3, M4, P3, Z1, Z2, Z3, Z4, Z5, Z6, PV1, RF2, LF1, SL1, PV2, PM1, SM0, SM1.
-/
import Derived.Test.YtelkdhkalifeiaaDoorX8
set_option linter.all false
namespace Go.Gv
theorem qZ {m : Msh} (hv : av m=true) {i k : Nat} (hi : i < m.f.length) (hk : k < 3) (h : 0 <= nbF m i k) : ∃ c,c < 3 /\ nbF m (nbF m i k).toNat c=i:=by
 obtain ⟨c,hc,c1,c2⟩:=r9 h
 refine ⟨c,hc,?_⟩
 unfold nbF at c1 c2 ⊢
 rw [c1,c2]
 have hs : cj (fce m i) (crn (fce m i) k) (crn (fce m i) (k + 1))=true:=by
  simp only [cj,List.any_eq_true,List.mem_range,Bool.and_eq_true,decide_eq_true_eq]
  exact ⟨k,hk,rfl,rfl⟩
 refine gq (fun j hj hji=>?_) hi (by rw [nw];exact hs)
 rw [nw]
 cases e : cj (fce m j) (crn (fce m i) k) (crn (fce m i) (k + 1))
 ·rfl
 ·have:=kz hv hj hi e hs
  omega
def crs (a b : Pnt) : Int:=a.1 * b.2 - a.2 * b.1
theorem xb (a b : Pnt) : crs b a=-crs a b:=by
 unfold crs
 rw [Int.mul_comm b.1,Int.mul_comm b.2]
 omega
theorem wv (a b c : Pnt) : dw a b c=crs a b + crs b c + crs c a:=by
 obtain ⟨a1,a2⟩:=a
 obtain ⟨b1,b2⟩:=b
 obtain ⟨c1,c2⟩:=c
 simp only [dw,crs,Int.sub_mul,Int.mul_sub]
 have e1:=Int.mul_comm a1 a2
 have e2:=Int.mul_comm b2 a1
 have e5:=Int.mul_comm a2 b1
 have e3:=Int.mul_comm c1 a2
 have e4:=Int.mul_comm c2 a1
 omega
def gE (m : Msh) (e : Int × Int) : Int:=crs (ptS (spt m e.1.toNat)) (ptS (spt m e.2.toNat))
theorem tp {l l' : List Int} (h : l.Perm l') : l.sum=l'.sum:=by
 induction h with
 | nil=>rfl
 | cons x _ ih=>simp [ih]
 | swap x y l=>simp;omega
 | trans _ _ ih1 ih2=>exact ih1.trans ih2
theorem uj (m : Msh) : ∀ (n : Nat) (E : List (Int × Int)),E.length <= n -> E.Nodup -> (∀ e ∈ E,e.1 ≠ e.2) -> (∀ e ∈ E,(e.2,e.1) ∈ E) -> (E.map (gE m)).sum=0
 | _,[],_,_,_,_=>rfl
 | 0,e::T,h,_,_,_=>by simp at h
 | n + 1,e::T,h,hn,hd,hs=>by
  have hne : (e.2,e.1) ≠ e:=fun he=>hd e (by simp) (by rw [<- he];simp at he ⊢;have:=congrArg Prod.fst he;have:=congrArg Prod.snd he;simp_all)
  have hmem : (e.2,e.1) ∈ T:=by
   rcases List.mem_cons.1 (hs e (by simp)) with h1 | h1
   ·exact absurd h1 hne
   ·exact h1
  rw [List.nodup_cons] at hn
  have hp:=List.perm_cons_erase hmem
  have h1:=tp (hp.map (gE m))
  have hel : (T.erase (e.2,e.1)).length + 1=T.length:=by
   have:=hp.length_eq
   simpa using this.symm
  have h2:=uj m n (T.erase (e.2,e.1)) (by simp at h;omega) (hn.2.erase _) (fun x hx=>hd x (List.mem_cons_of_mem _ (List.mem_of_mem_erase hx))) (fun x hx=>by
   rw [hn.2.mem_erase_iff] at hx ⊢
   have h3:=hs x (List.mem_cons_of_mem _ hx.2)
   refine ⟨fun h4=>?_,?_⟩
   ·have : x=e:=by
     have a1:=congrArg Prod.fst h4
     have a2:=congrArg Prod.snd h4
     simp at a1 a2
     exact Prod.ext a2 a1
    exact hn.1 (this ▸ hx.2)
   ·rcases List.mem_cons.1 h3 with h4 | h4
    ·exfalso
     refine hx.1 ?_
     rw [<- h4]
    ·exact h4)
  have h3 : gE m (e.2,e.1)=-gE m e:=xb _ _
  simp only [List.map_cons,List.sum_cons] at h1 ⊢
  omega
def sdE (m : Msh) (i : Nat) : List (Int × Int):=[(crn (fce m i) 0,crn (fce m i) 1),(crn (fce m i) 1,crn (fce m i) 2),(crn (fce m i) 2,crn (fce m i) 3)]
theorem lJ {m : Msh} {i : Nat} {e : Int × Int} : e ∈ sdE m i ↔ cj (fce m i) e.1 e.2=true:=by
 simp only [sdE,List.mem_cons,List.not_mem_nil,or_false,cj,List.any_eq_true,List.mem_range,Bool.and_eq_true,decide_eq_true_eq]
 constructor
 ·rintro (rfl | rfl | rfl)
  ·exact ⟨0,by omega,rfl,rfl⟩
  ·exact ⟨1,by omega,rfl,rfl⟩
  ·exact ⟨2,by omega,rfl,rfl⟩
 ·rintro ⟨c,hc,c1,c2⟩
  rcases (by omega : c=0 \/ c=1 \/ c=2) with rfl | rfl | rfl
  ·exact .inl (Prod.ext c1.symm c2.symm)
  ·exact .inr (.inl (Prod.ext c1.symm c2.symm))
  ·exact .inr (.inr (Prod.ext c1.symm c2.symm))
theorem pe {α β : Type} (F : α -> List β) (g : β -> Int) : ∀ l : List α,((l.flatMap F).map g).sum=(l.map fun x=>((F x).map g).sum).sum
 | []=>rfl
 | x::l=>by simp [pe F g l]
theorem sq {α : Type} (g : α -> Int) : ∀ l : List α,(∀ x ∈ l,0 < g x) -> l ≠ [] -> 0 < (l.map g).sum
 | [],_,h=>absurd rfl h
 | [x],h,_=>by have:=h x (by simp);simpa using this
 | x::y::l,h,_=>by
  have h1:=h x (by simp)
  have h2:=sq g (y::l) (fun z hz=>h z (by simp [hz])) (by simp)
  simp only [List.map_cons,List.sum_cons] at h2 ⊢
  omega
theorem tg {m : Msh} (hv : av m=true) (u : Nat -> Bool) (hcl : ∀ i k,i < m.f.length -> k < 3 -> u i=true -> 0 <= nbF m i k /\ u (nbF m i k).toNat=true) : ∀ i,i < m.f.length -> u i=false:=by
 intro i hi
 cases hu : u i
 ·rfl
 exfalso
 obtain ⟨U,hU⟩ : ∃ U,U=(List.range m.f.length).filter u:=⟨_,rfl⟩
 have hmU : ∀ x,x ∈ U ↔ x < m.f.length /\ u x=true:=fun x=>by rw [hU,List.mem_filter,List.mem_range]
 have hnU : U.Pairwise (· ≠ ·):=by rw [hU];exact List.Pairwise.filter _ List.nodup_range
 have hcor : ∀ x,x < m.f.length -> (fce m x).a ≠ (fce m x).b /\ (fce m x).b ≠ (fce m x).c /\ (fce m x).c ≠ (fce m x).a:=fun x hx=>by
  have:=(fY hv hx).1
  simp only [okF,okc,Bool.and_eq_true,decide_eq_true_eq] at this
  exact ⟨this.1.1.1.1.1.2,this.1.1.1.2.1.2,this.1.1.2.1.2⟩
 have hE:=uj m _ (U.flatMap (sdE m)) (Nat.le_refl _) (by
  rw [List.Nodup,List.pairwise_flatMap]
  refine ⟨fun x hx=>?_,hnU.imp_of_mem fun {x y} hx hy hxy e he e' he' h=>?_⟩
  ·obtain ⟨k1,k2,k3⟩:=hcor x ((hmU x).1 hx).1
   simp only [sdE,crn,List.pairwise_cons,List.mem_cons,List.not_mem_nil,or_false,forall_eq_or_imp,forall_eq,List.Pairwise.nil,and_true,ne_eq,Prod.mk.injEq,not_and,false_imp_iff,implies_true]
   exact ⟨⟨fun h=>absurd h k1,fun h=>absurd h.symm k3⟩,fun h=>absurd h k2⟩
  ·subst h
   exact hxy (kz hv ((hmU x).1 hx).1 ((hmU y).1 hy).1 (lJ.1 he) (lJ.1 he'))) (fun e he=>by
  obtain ⟨x,hx,hex⟩:=List.mem_flatMap.1 he
  obtain ⟨k1,k2,k3⟩:=hcor x ((hmU x).1 hx).1
  simp only [sdE,crn,List.mem_cons,List.not_mem_nil,or_false] at hex
  rcases hex with rfl | rfl | rfl
  ·exact k1
  ·exact k2
  ·exact k3) (fun e he=>by
  obtain ⟨x,hx,hex⟩:=List.mem_flatMap.1 he
  have hxl:=(hmU x).1 hx
  have hh:=lJ.1 hex
  simp only [cj,List.any_eq_true,List.mem_range,Bool.and_eq_true,decide_eq_true_eq] at hh
  obtain ⟨k,hk,k1,k2⟩:=hh
  obtain ⟨h1,h2⟩:=hcl x k hxl.1 hk hxl.2
  obtain ⟨c,hc,c1,c2⟩:=r9 h1
  have hb:=eM m x k
  refine List.mem_flatMap.2 ⟨(nbF m x k).toNat,(hmU _).2 ⟨by omega,h2⟩,lJ.2 ?_⟩
  simp only [cj,List.any_eq_true,List.mem_range,Bool.and_eq_true,decide_eq_true_eq]
  exact ⟨c,hc,by rw [c1,k2],by rw [c2,k1]⟩)
 rw [pe] at hE
 have hpos:=sq (fun x=>((sdE m x).map (gE m)).sum) U (fun x hx=>by
  have:=(fY hv ((hmU x).1 hx).1).2
  have e : jc (aY m (fce m x))=((sdE m x).map (gE m)).sum:=by
   unfold jc
   rw [wv]
   simp only [sdE,List.map_cons,List.map_nil,List.sum_cons,List.sum_nil,gE,aY,crn]
   omega
  rw [<- e];exact this) (by
  intro h
  have:=(hmU i).2 ⟨hi,hu⟩
  rw [h] at this;cases this)
 omega
end Go.Gv

namespace Go.Gv
theorem vN {m : Msh} {i : Nat} {r : RF} {k : Int} : (eT m i r k).rc.length=r.rc.length /\ (eT m i r k).lf=r.lf:=by
 unfold eT
 split
 ·simp
 ·exact ⟨rfl,rfl⟩
theorem jW {m : Msh} {i : Nat} {r : RF} : ∀ j,(rfI m i r j).rc.length=r.rc.length /\ (rfI m i r j).lf=r.lf
 | 0=>⟨rfl,rfl⟩
 | j + 1=>by
  obtain ⟨h1,h2⟩:=jW (m:=m) (i:=i) (r:=r) j
  obtain ⟨h3,h4⟩:=vN (m:=m) (i:=i) (r:=rfI m i r j) (k:=nbF m i j)
  exact ⟨h3.trans h1,h4.trans h2⟩
theorem mL {m : Msh} {i a : Nat} {r : RF} (h : r.rc.getD a false=true) : ∀ j,(rfI m i r j).rc.getD a false=true
 | 0=>h
 | j + 1=>oH (mL h j)
theorem nU {m : Msh} {i : Nat} {r : RF} (hl : r.rc.length=m.f.length) : ∀ j c,c < j -> 0 <= nbF m i c -> (rfI m i r j).rc.getD (nbF m i c).toNat false=true
 | 0,c,h,_=>by omega
 | j + 1,c,h,h0=>by
  by_cases e : c=j
  ·subst e
   show (eT m i (rfI m i r c) (nbF m i c)).rc.getD _ false=true
   have hb:=eM m i c
   unfold eT
   cases e2 : (rfI m i r c).rc.getD (nbF m i c).toNat false
   ·rw [if_pos ⟨h0,rfl⟩]
    rw [bk (by rw [(jW c).1];omega),if_pos rfl]
   ·rw [if_neg (by simp)]
    exact e2
  ·exact oH (nU hl j c (by omega) h0)
structure RCl (m : Msh) (r : RF) : Prop where
 len : r.rc.length=m.f.length
 cl : ∀ a,r.lf.getD a false=true -> ∀ c,c < 3 -> 0 <= nbF m a c -> r.rc.getD (nbF m a c).toNat false=true
 bd : ∀ a,a < m.f.length -> bsd m a (-1)=true -> r.rc.getD a false=true
theorem ma {l : List Bool} {i j : Nat} (h : (l.set i true).getD j false=true) : j=i \/ l.getD j false=true:=by
 by_cases e : i < l.length
 ·rw [bk e] at h
  split at h
  ·exact .inl (by assumption)
  ·exact .inr h
 ·rw [List.set_eq_of_length_le (by omega)] at h
  exact .inr h
theorem RCl.step {m : Msh} {r : RF} (h : RCl m r) : RCl m (dB m r):=by
 unfold dB
 split
 ·exact h
 ·obtain ⟨h1,h2⟩:=jW (m:=m) (i:=(rat r m.f.length).toNat) (r:={ r with lf:=r.lf.set (rat r m.f.length).toNat true }) 3
  refine ⟨h1.trans h.len,fun a ha c hc h0=>?_,fun a ha hb=>mL (r:={ r with lf:=r.lf.set (rat r m.f.length).toNat true }) (h.bd a ha hb) 3⟩
  rw [h2] at ha
  rcases ma ha with rfl | ha
  ·exact nU (r:={ r with lf:=r.lf.set (rat r m.f.length).toNat true }) h.len 3 c hc h0
  ·exact mL (r:={ r with lf:=r.lf.set (rat r m.f.length).toNat true }) (h.cl a ha c hc h0) 3
theorem RCl.run {m : Msh} : ∀ (k : Nat) {r : RF},RCl m r -> RCl m (rfN m k r)
 | 0,_,h=>h
 | k + 1,_,h=>RCl.run k h.step
theorem rn (m : Msh) : ∀ i,i <= m.f.length -> ∀ a,a < i -> bsd m a (-1)=true -> (rf0 m i).1.getD a false=true
 | 0,_,a,h,_=>by omega
 | i + 1,hi,a,h,hb=>by
  have hl:=(dT m i).1
  unfold rf0
  by_cases e : a=i
  ·subst e
   rw [if_pos hb]
   simp only
   rw [bk (by omega),if_pos rfl]
  ·have ih:=rn m i (by omega) a (by omega) hb
   split
   ·simp only
    rw [bk (by omega),if_neg e]
    exact ih
   ·exact ih
theorem RCl.init (m : Msh) : RCl m (dU m):=by
 refine ⟨(dT m _).1,fun a ha=>?_,fun a ha hb=>rn m _ (Nat.le_refl _) a ha hb⟩
 have hf : (List.replicate m.f.length false).getD a false=false:=by
  simp [List.getElem?_replicate]
  split <;> rfl
 simp only [dU] at ha
 rw [hf] at ha;cases ha
theorem ez {m : Msh} (hv : av m=true) : ∀ a,a < m.f.length -> (b6 m).rc.getD a false=true:=by
 have hc : RCl m (b6 m):=(RCl.init m).run _
 intro a ha
 have:=tg hv (fun i=>!(b6 m).rc.getD i false) (fun i k hi hk hu=>?_) a ha
 ·simpa using this
 ·simp only [Bool.not_eq_true'] at hu ⊢
  have hb:=eM m i k
  have h0 : 0 <= nbF m i k:=by
   by_cases e : nbF m i k=-1
   ·exfalso
    have h1 : bsd m i (-1)=true:=by
     rcases (by omega : k=0 \/ k=1 \/ k=2) with rfl | rfl | rfl <;> simp [bsd,e]
    rw [hc.bd i hi h1] at hu;cases hu
   ·omega
  refine ⟨h0,?_⟩
  cases e : (b6 m).rc.getD (nbF m i k).toNat false
  ·rfl
  ·exfalso
   have h1:=pU m _ e
   obtain ⟨c,hc1,hc2⟩:=qZ hv hi hk h0
   have h2:=hc.cl _ h1 c hc1 (by omega)
   rw [hc2] at h2
   simp only [Int.toNat_natCast] at h2
   rw [h2] at hu;cases hu
theorem cY {m : Msh} (hv : av m=true) : (aQ m).sp=(b6 m).lv /\ (aQ m).ou=(b6 m).ou:=uX m (ez hv)
end Go.Gv

namespace Go.Gv
def jy (n : Nat) (ou : List Int) (rc : List Bool) : Nat -> Nat -> Prop
 | 0,a=>ou.getD a 0=-1
 | d + 1,a=>∃ b : Nat,b < n /\ ou.getD a 0=b /\ rc.getD b false=true /\ jy n ou rc d b
structure OuI (m : Msh) (r : RF) : Prop where
 rc : r.rc.length=m.f.length
 ou : r.ou.length=m.f.length
 e : ∀ a,a < m.f.length -> r.rc.getD a false=true -> ∃ d,d <= r.rc.count true /\ jy m.f.length r.ou r.rc d a
theorem jy.mono {n : Nat} {ou ou' : List Int} {rc rc' : List Bool} (h1 : ∀ a,rc.getD a false=true -> rc'.getD a false=true /\ ou'.getD a 0=ou.getD a 0) : ∀ {d a : Nat},rc.getD a false=true -> jy n ou rc d a -> jy n ou' rc' d a
 | 0,a,ha,h=>by
  show ou'.getD a 0=-1
  rw [(h1 a ha).2];exact h
 | d + 1,a,ha,⟨b,hb,e1,e2,e3⟩=>⟨b,hb,by rw [(h1 a ha).2];exact e1,(h1 b e2).1,jy.mono h1 e2 e3⟩
theorem o6 {l : List Bool} {i : Nat} (h : i < l.length) (hf : l.getD i false=false) : (l.set i true).count true=l.count true + 1:=by
 have h1 : l[i]=false:=by simpa [h] using hf
 rw [List.count_set h,h1]
 simp
theorem OuI.p1 {m : Msh} {i : Nat} {r : RF} {k : Int} (h : OuI m r) (hi : i < m.f.length) (hr : r.rc.getD i false=true) (hk : k < m.f.length) : OuI m (eT m i r k):=by
 unfold eT
 split
 ·rename_i hc
  have hkl : k.toNat < m.f.length:=by omega
  have hrc:=fun j=>bk (l:=r.rc) (i:=k.toNat) (j:=j) (x:=true) (d:=false) (by rw [h.rc];omega)
  have hou:=fun j (x : Int)=>bk (l:=r.ou) (i:=k.toNat) (j:=j) (x:=x) (d:=(0 : Int)) (by rw [h.ou];omega)
  have hm : ∀ a,r.rc.getD a false=true -> (r.rc.set k.toNat true).getD a false=true /\ (r.ou.set k.toNat (i : Int)).getD a 0=r.ou.getD a 0:=fun a ha=>by
   have hne : a ≠ k.toNat:=fun e=>by rw [e,hc.2] at ha;cases ha
   rw [hrc,hou,if_neg hne,if_neg hne]
   exact ⟨ha,rfl⟩
  have hct:=o6 (l:=r.rc) (i:=k.toNat) (by rw [h.rc];omega) hc.2
  refine ⟨by simp [h.rc],by simp [h.ou],fun a ha har=>?_⟩
  simp only at har ⊢
  rw [hct]
  by_cases e : a=k.toNat
  ·obtain ⟨d,hd,he⟩:=h.e i hi hr
   refine ⟨d + 1,by omega,i,hi,?_,(hm i hr).1,jy.mono hm hr he⟩
   rw [hou,if_pos e]
  ·rw [hrc,if_neg e] at har
   obtain ⟨d,hd,he⟩:=h.e a ha har
   exact ⟨d,by omega,jy.mono hm har he⟩
 ·exact h
theorem OuI.i {m : Msh} {i : Nat} {r : RF} (h : OuI m r) (hi : i < m.f.length) (hr : r.rc.getD i false=true) : ∀ j,OuI m (rfI m i r j)
 | 0=>h
 | j + 1=>(OuI.i h hi hr j).p1 hi (mL hr j) (eM m i j).2
theorem OuI.step {m : Msh} {r : RF} (h : OuI m r) : OuI m (dB m r):=by
 unfold dB
 split
 ·exact h
 ·rename_i h0
  rcases gw r m.f.length with ⟨h1,_⟩ | ⟨a,h1,h2,h3,_⟩
  ·omega
  ·rw [h1]
   simp only [act,Bool.and_eq_true] at h3
   exact OuI.i (r:={ r with lf:=r.lf.set a true }) ⟨h.rc,h.ou,h.e⟩ h2 h3.1 3
theorem OuI.run {m : Msh} : ∀ (k : Nat) {r : RF},OuI m r -> OuI m (rfN m k r)
 | 0,_,h=>h
 | k + 1,_,h=>OuI.run k h.step
theorem OuI.init (m : Msh) : OuI m (dU m):=by
 refine ⟨(dT m _).1,by simp [dU],fun a ha _=>⟨0,by omega,?_⟩⟩
 show (List.replicate m.f.length (-1 : Int)).getD a 0=-1
 simp [List.getElem?_replicate,ha]
def mth (ou : List Int) : Nat -> Nat -> Nat
 | 0,a=>a
 | k + 1,a=>if ou.getD a 0=-1 then a else mth ou k (ou.getD a 0).toNat
theorem oo {n : Nat} {ou : List Int} {rc : List Bool} : ∀ {d a : Nat},jy n ou rc d a -> ∀ k,d <= k -> mth ou k a=mth ou d a
 | 0,a,h,k,_=>by
  cases k with
  | zero=>rfl
  | succ k =>
   have h : ou.getD a 0=-1:=h
   simp only [mth,h,if_true]
 | d + 1,a,⟨b,_,e1,_,e3⟩,k,hk=>by
  cases k with
  | zero=>omega
  | succ k =>
   simp only [mth,e1]
   rw [if_neg (by omega),if_neg (by omega)]
   exact oo e3 k (by omega)
theorem l5 {m : Msh} (hv : av m=true) {a : Nat} (ha : a < m.f.length) : ∃ d,d <= m.f.length /\ jy m.f.length (aQ m).ou (b6 m).rc d a:=by
 have h : OuI m (b6 m):=(OuI.init m).run _
 obtain ⟨d,hd,he⟩:=h.e a ha (ez hv a ha)
 refine ⟨d,?_,by rw [(cY hv).2];exact he⟩
 have:=List.count_le_length (a:=true) (l:=(b6 m).rc)
 have:=h.rc
 omega
end Go.Gv

namespace Go.Gv
def f9 (m : Msh) (i : Nat) : Bool:=decide ((bA m).getD i 0 < (aQ m).sp.getD i 0)
def i6 (m : Msh) (i : Nat) (k : Int) : Bool:=decide (k ≠ -1) && (f9 m i && (f9 m k.toNat && decide ((aQ m).sp.getD i 0=(aQ m).sp.getD k.toNat 0)))
def ly (m : Msh) (i k : Nat) : Prop:=i < m.f.length /\ k < m.f.length /\ f9 m i=true /\ f9 m k=true /\ (aQ m).sp.getD i 0=(aQ m).sp.getD k 0 /\ ∃ j,j < 3 /\ nbF m i j=k
theorem sD {m : Msh} (hv : av m=true) : ∀ a b,ly m a b -> ly m b a:=by
 rintro a b ⟨h1,h2,h3,h4,h5,j,hj,e⟩
 obtain ⟨c,hc,e2⟩:=qZ hv h1 hj (by omega)
 rw [e] at e2
 exact ⟨h2,h1,h4,h3,h5.symm,c,hc,by simpa using e2⟩
theorem uc {m : Msh} {i j : Nat} (hi : i < m.f.length) (hj : j < 3) (h : i6 m i (nbF m i j)=true) : ∃ k : Nat,nbF m i j=k /\ k < m.f.length /\ ly m i k:=by
 simp only [i6,Bool.and_eq_true,decide_eq_true_eq] at h
 obtain ⟨h1,h2,h3,h4⟩:=h
 have hb:=eM m i j
 refine ⟨(nbF m i j).toNat,by omega,by omega,hi,by omega,h2,h3,h4,j,hj,by omega⟩
theorem ud {m : Msh} {i k : Nat} (h : ly m i k) : i6 m i k=true:=by
 obtain ⟨h1,h2,h3,h4,h5,_⟩:=h
 simp only [i6,Bool.and_eq_true,decide_eq_true_eq,Int.toNat_natCast]
 exact ⟨by omega,h3,h4,h5⟩
def foJ (m : Msh) (i : Nat) (f : List Nat) : Nat -> List Nat
 | 0=>f
 | j + 1=>if i6 m i (nbF m i j) then gW (foJ m i f j) i (nbF m i j).toNat else foJ m i f j
def foI (m : Msh) : Nat -> List Nat
 | 0=>List.range m.f.length
 | i + 1=>foJ m i (foI m i) 3
theorem l6 {m : Msh} (hv : av m=true) {i : Nat} (hi : i < m.f.length) {f : List Nat} (h : Fo m.f.length f) (hf : lQ m.f.length (ly m) f) : ∀ j,j <= 3 ->
  Fo m.f.length (foJ m i f j) /\ lQ m.f.length (ly m) (foJ m i f j) /\ (∀ x y,x < m.f.length -> y < m.f.length -> ftF f x=ftF f y -> ftF (foJ m i f j) x=ftF (foJ m i f j) y) /\
  (∀ c k : Nat,c < j -> nbF m i c=k -> ly m i k -> ftF (foJ m i f j) i=ftF (foJ m i f j) k)
 | 0,_=>⟨h,hf,fun _ _ _ _ e=>e,fun c k hc=>by omega⟩
 | j + 1,hj=>by
  obtain ⟨h1,h2,h3,h4⟩:=l6 hv hi h hf j (by omega)
  unfold foJ
  split
  ·rename_i hb
   obtain ⟨k,e,hk,ha⟩:=uc hi (by omega) hb
   have e2 : (nbF m i j).toNat=k:=by omega
   rw [e2]
   refine ⟨(fA h1 hi hk).1,lQ.join (sD hv) h1 h2 hi hk ha,fun x y hx hy ex=>nF h1 hi hk hx hy (h3 x y hx hy ex),fun c k' hc ec hak=>?_⟩
   by_cases hcj : c=j
   ·subst hcj
    have : k'=k:=by omega
    subst this
    exact ta h1 hi hk
   ·exact nF h1 hi hk hi hak.2.1 (h4 c k' (by omega) ec hak)
  ·rename_i hb
   refine ⟨h1,h2,h3,fun c k' hc ec hak=>?_⟩
   by_cases hcj : c=j
   ·subst hcj
    have:=ud hak
    rw [<- ec] at this
    exact absurd this hb
   ·exact h4 c k' (by omega) ec hak
theorem iv {m : Msh} (hv : av m=true) : ∀ i,i <= m.f.length -> Fo m.f.length (foI m i) /\ lQ m.f.length (ly m) (foI m i) /\ (∀ a k : Nat,a < i -> ly m a k -> ftF (foI m i) a=ftF (foI m i) k)
 | 0,_=>⟨(lQ.init (ly m)).1,(lQ.init (ly m)).2.1,fun a k h=>by omega⟩
 | i + 1,hi=>by
  obtain ⟨h1,h2,h3⟩:=iv hv i (by omega)
  obtain ⟨q1,q2,q3,q4⟩:=l6 hv (show i < m.f.length by omega) h1 h2 3 (by omega)
  refine ⟨q1,q2,fun a k ha hak=>?_⟩
  by_cases e : a=i
  ·subst e
   obtain ⟨_,_,_,_,_,j,hj,ej⟩:=id hak
   exact q4 j k hj ej hak
  ·exact q3 a k hak.1 hak.2.1 (h3 a k (by omega) hak)
def rtP (m : Msh) (x : Nat) : Nat:=ftF (foI m m.f.length) x
theorem vU {m : Msh} (hv : av m=true) {a : Nat} (ha : a < m.f.length) : rtP m a <= a /\ rtP m (rtP m a)=rtP m a:=by
 obtain ⟨h1,_,_⟩:=iv hv m.f.length (Nat.le_refl _)
 exact ⟨(fv h1 a ha).1,uY h1 ha⟩
theorem Cn.wet {m : Msh} {a b : Nat} (h : Cn (ly m) a b) : f9 m a=f9 m b /\ (aQ m).sp.getD a 0=(aQ m).sp.getD b 0:=by
 induction h with
 | refl=>exact ⟨rfl,rfl⟩
 | step _ r ih =>
  obtain ⟨_,_,h3,h4,h5,_⟩:=r
  exact ⟨ih.1.trans (h3.trans h4.symm),ih.2.trans h5⟩
theorem yg {m : Msh} (hv : av m=true) {a : Nat} (ha : a < m.f.length) : f9 m (rtP m a)=f9 m a /\ (aQ m).sp.getD (rtP m a) 0=(aQ m).sp.getD a 0:=by
 have h:=(iv hv m.f.length (Nat.le_refl _)).2.1 a ha
 exact ⟨h.wet.1.symm,h.wet.2.symm⟩
def stB (m : Msh) (s : Nat) : Bool:=f9 m s && decide (rtP m s=s)
def stT (m : Msh) (i : Nat) : List Nat:=(List.range i).filter (stB m)
def inP (m : Msh) (s k : Nat) : Bool:=f9 m k && decide (rtP m k=s)
def cK (m : Msh) (i : Nat) : List (List Nat):=(stT m i).map fun s=>(List.range i).filter (inP m s)
def cm (m : Msh) : List (List Nat):=cK m m.f.length
def gr (m : Msh) (i : Nat) : List Int:=(List.range m.f.length).map fun s=>if s < i /\ stB m s=true then ((stT m s).length : Int) else 0
theorem gB (m : Msh) (i : Nat) : stT m (i + 1)=if stB m i then stT m i++[i] else stT m i:=by
 unfold stT
 rw [List.range_succ,List.filter_append]
 split <;> simp_all
theorem mV (m : Msh) {r : Nat} (hr : stB m r=true) : ∀ i,r < i -> ∃ h : (stT m r).length < (stT m i).length,(stT m i)[(stT m r).length]=r
 | 0,h=>by omega
 | i + 1,h=>by
  have e:=gB m i
  by_cases hi : r=i
  ·subst hi
   rw [if_pos hr] at e
   refine ⟨by rw [e];simp,?_⟩
   simp [e]
  ·obtain ⟨h1,h2⟩:=mV m hr i (by omega)
   split at e
   ·refine ⟨by rw [e];simp;omega,?_⟩
    simp only [e]
    rw [List.getElem_append_left h1]
    exact h2
   ·refine ⟨by rw [e];exact h1,?_⟩
    simp only [e]
    exact h2
theorem CU (m : Msh) {r i j : Nat} (hr : stB m r=true) (hj : j < (stT m i).length) (hne : j ≠ (stT m r).length) : (stT m i)[j] ≠ r:=by
 intro e
 have hm : r ∈ stT m i:=by rw [<- e];exact List.getElem_mem _
 have hri : r < i:=by
  have:=(List.mem_filter.1 hm).1
  simpa using this
 obtain ⟨h1,h2⟩:=mV m hr i hri
 have hnd : (stT m i).Nodup:=List.Pairwise.filter _ List.nodup_range
 exact hne ((List.getElem_inj hnd).1 (e.trans h2.symm))
theorem fG (m : Msh) (i : Nat) : (cK m i).length=(stT m i).length:=by simp [cK]
theorem wr (m : Msh) (i : Nat) : (stT m i).length <= i:=by
 have:=List.length_filter_le (stB m) (List.range i)
 simpa [stT] using this
theorem mg (m : Msh) (i : Nat) : (gr m i).length=m.f.length:=by simp [gr]
theorem pm {m : Msh} {i r : Nat} (hr : r < i) (hi : i <= m.f.length) (hs : stB m r=true) : (gr m i).getD r 0=((stT m r).length : Int):=by
 simp [gr,show r < m.f.length by omega,hr,hs]
theorem va {m : Msh} {i : Nat} (hi : i < m.f.length) (hs : stB m i=true) : (gr m i).set i ((stT m i).length : Int)=gr m (i + 1):=by
 unfold gr
 apply List.ext_getElem (by simp)
 intro j h1 h2
 simp only [List.getElem_set,List.getElem_map,List.getElem_range]
 by_cases e : i=j
 ·subst e
  rw [if_pos rfl,if_pos ⟨by omega,hs⟩]
 ·rw [if_neg e]
  by_cases h : j < i /\ stB m j=true
  ·rw [if_pos h,if_pos ⟨by omega,h.2⟩]
  ·rw [if_neg h,if_neg fun h3=>h ⟨by omega,h3.2⟩]
theorem nE {m : Msh} {i : Nat} (hs : stB m i=false) : gr m i=gr m (i + 1):=by
 unfold gr
 apply List.map_congr_left
 intro j _
 by_cases h : j < i /\ stB m j=true
 ·rw [if_pos h,if_pos ⟨by omega,h.2⟩]
 ·rw [if_neg h,if_neg fun h3=>h ⟨by
   have : j ≠ i:=fun e=>by rw [e,hs] at h3;exact absurd h3.2 (by decide)
   omega,h3.2⟩]
theorem s8 (m : Msh) : gr m 0=List.replicate m.f.length 0:=by
 unfold gr
 apply List.ext_getElem (by simp)
 intro j h1 h2
 simp
theorem mB {m : Msh} {i : Nat} (h : f9 m i=false) : cK m (i + 1)=cK m i:=by
 unfold cK
 rw [gB,if_neg (by simp [stB,h])]
 apply List.map_congr_left
 intro s _
 rw [List.range_succ,List.filter_append]
 simp [inP,h]
theorem vD {m : Msh} (hv : av m=true) {i : Nat} (hi : i < m.f.length) (h : stB m i=true) : cK m (i + 1)=(cK m i++[[]]).set (stT m i).length [i]:=by
 have hw : f9 m i=true /\ rtP m i=i:=by simpa [stB] using h
 unfold cK
 rw [gB,if_pos h,List.map_append,<- List.length_map (f:=fun s=>(List.range i).filter (inP m s)),List.set_append_right _ _ (Nat.le_refl _)]
 simp only [Nat.sub_self,List.map_cons,List.map_nil,List.set_cons_zero]
 congr 1
 ·apply List.map_congr_left
  intro s hs
  rw [List.range_succ,List.filter_append]
  have : s < i:=by simpa using (List.mem_filter.1 hs).1
  have hne : ¬ i=s:=by omega
  simp [inP,hw.1,hw.2,hne]
 ·rw [List.range_succ,List.filter_append]
  have h0 : (List.range i).filter (inP m i)=[]:=by
   rw [List.filter_eq_nil_iff]
   intro k hk
   have hk : k < i:=by simpa using hk
   have:=(vU hv (a:=k) (by omega)).1
   simp only [inP,Bool.and_eq_true,decide_eq_true_eq]
   omega
  simp [h0,inP,hw.1,hw.2]
theorem vE {m : Msh} {i r : Nat} (hw : f9 m i=true) (hr : rtP m i=r) (hri : r < i) (hs : stB m r=true) : ∃ l,l.length <= i /\ (cK m i)[(stT m r).length]? = some l /\ cK m (i + 1)=(cK m i).set (stT m r).length (l++[i]):=by
 obtain ⟨h1,h2⟩:=mV m hs i hri
 have hn : stB m i=false:=by
  have : ¬ r=i:=by omega
  simp [stB,hr,this]
 refine ⟨(List.range i).filter (inP m r),by have:=List.length_filter_le (inP m r) (List.range i);simpa using this,?_,?_⟩
 ·unfold cK
  rw [List.getElem?_map,List.getElem?_eq_getElem h1,h2]
  rfl
 ·unfold cK
  rw [gB,if_neg (by simp [hn])]
  apply List.ext_getElem (by simp)
  intro j g1 g2
  simp only [List.getElem_map,List.getElem_set]
  have g3 : j < (stT m i).length:=by simpa using g1
  have e3 : ∀ s,(List.range (i + 1)).filter (inP m s)=(List.range i).filter (inP m s)++(if inP m s i=true then [i] else []):=fun s=>by
   rw [List.range_succ,List.filter_append]
   congr 1
   rw [List.filter_cons,List.filter_nil]
  simp only [e3]
  by_cases e : (stT m r).length=j
  ·subst e
   rw [if_pos rfl,h2,if_pos (by simp [inP,hw,hr])]
  ·rw [if_neg e]
   have:=CU m hs g3 (fun h=>e h.symm)
   have h5 : ¬ r=(stT m i)[j]:=fun h=>this h.symm
   rw [if_neg (by simp [inP,hw,hr,h5]),List.append_nil]
end Go.Gv

namespace Go.Gv
def hJ (l : List (List Nat)) : List (List D):=l.map fun p=>[.sl (nfR p)]
def fH (l : List (List Nat)) : List (List D):=l.map fun p=>[.own 1 (nfR p)]
theorem x8 (l : List (List Nat)) : (fH l).map (fun e=>e.map aR)=hJ l:=by simp [fH,hJ,aR]
section
variable {C : Nat -> List D -> D -> List D -> Prop} (hC : az prog C)
include hC
theorem Mf (m : Msh) (i : Nat) (hi : i < m.f.length) : C 330 [.int .i64 i,.ptr [ee m]] (.bool (f9 m i)) []:=by
 have W:=fP m
 have h1 : i < (aQ m).sp.length:=by rw [W.sp];exact hi
 have h2 : i < (bA m).length:=by simpa using hi
 refine aF hC (nf:=N330) rfl rfl ?_
 simp [N330,ee,aG (cu h1),aG (cu h2)]
 exact ⟨aL (by decide +kernel),rfl⟩
set_option maxRecDepth 8000 in
set_option maxHeartbeats 2000000 in
theorem vG (m : Msh) (hv : av m=true) : C 314 [ee m] (.sl (hJ (cm m))) []:=by
 have W:=fP m
 have hsz:=(cW hv).2
 have kf:=qz hC m.f.length (by omega)
 have e0 : ee m=.ptr [.sl (nbA m),slx true (inR (bA m)),.sl (inR (aQ m).sp),.sl (inR (aQ m).ou)]:=rfl
 have kw:=fun i hi=>Mf hC m i hi
 refine aF hC (nf:=N314) rfl rfl ?_
 simp [N314,e0]
 refine gf kf ?_
 simp
 have hfl : ∀ i,i <= m.f.length -> (foI m i).length=m.f.length:=fun i hi=>(iv hv i hi).1.len
 obtain ⟨fD,hfD⟩ : ∃ fD,fD=ee m:=⟨_,rfl⟩
 rw [<- e0,<- hfD]
 rw [<- hfD] at kw
 refine aD Nat (fun i=>[(1,.ptr [fD]),(3,.ref (.r 10048) 0 m.f.length),(4,.fn 330 [.ptr [fD]]),(23,.sl (nbA m)),(24,.int .i64 m.f.length),(25,.int .i64 i),(10048,.blk 1 (nfR (foI m i)))]) (fun i=>i <= m.f.length) (fun i=>m.f.length - i) 0 (by simp) (by simp [foI]) ?_
 rintro i hi
 have hw : IntKind.wrap .i64 ((i : Int) + 1)=((i + 1 : Nat) : Int):=ah (by omega) (by omega)
 obtain ⟨F1,F2,F3⟩:=iv hv i hi
 simp
 refine al (fun g1=>?_) (fun g1=>?_) <;> simp at g1 <;> simp [g1]
 ·simp [aG (ox g1)]
  obtain ⟨f0,hf0⟩ : ∃ f0,f0=foI m i:=⟨_,rfl⟩
  have hsp:=fun j hj=>l6 hv g1 F1 F2 j hj
  rw [<- hf0] at F1 F2 F3 hsp ⊢
  refine aD Nat (fun j=>[(1,.ptr [fD]),(3,.ref (.r 10048) 0 m.f.length),(4,.fn 330 [.ptr [fD]]),(5,.int .i64 i),(23,.sl (nbA m)),(24,.int .i64 m.f.length),(25,.int .i64 i),(30,.agg [.int .i64 (nbF m i 0),.int .i64 (nbF m i 1),.int .i64 (nbF m i 2)]),(31,.int .i64 j),(10048,.blk 1 (nfR (foJ m i f0 j)))]) (fun j=>j <= 3) (fun j=>3 - j) 0 (by simp) (by simp [foJ]) ?_
  rintro j hj
  have hw2 : IntKind.wrap .i64 ((j : Int) + 1)=((j + 1 : Nat) : Int):=ah (by omega) (by omega)
  obtain ⟨J1,J2,J3,J4⟩:=hsp j hj
  obtain ⟨fj,hfj⟩ : ∃ fj,fj=foJ m i f0 j:=⟨_,rfl⟩
  have hnx : foJ m i f0 (j + 1)=if i6 m i (nbF m i j) then gW fj i (nbF m i j).toNat else fj:=by rw [hfj];rfl
  rw [<- hfj] at J1 J2 J3 J4 ⊢
  have hjl:=J1.len
  simp
  refine al (fun g3=>?_) (fun g3=>?_) <;> simp at g3
  ·have hxj : ([.int .i64 (nbF m i 0),.int .i64 (nbF m i 1),.int .i64 (nbF m i 2)] : List D)[j]?.getD .any=.int .i64 (nbF m i j):=by
    rcases (by omega : j=0 \/ j=1 \/ j=2) with rfl | rfl | rfl <;> rfl
   have hbd:=eM m i j
   obtain ⟨kk,hkk⟩ : ∃ kk,kk=nbF m i j:=⟨_,rfl⟩
   rw [<- hkk] at hxj hbd hnx
   simp [show (j : Int) < 3 by omega,hxj]
   refine ⟨by omega,?_⟩
   have fin : i6 m i kk=false -> ∃ x,x <= 3 /\ 3 - x < 3 - j /\ IntKind.wrap .i64 ((j : Int) + 1)=(x : Int) /\ nfR fj=nfR (foJ m i f0 x):=fun hb=>⟨j + 1,by omega,by omega,hw2,by rw [hnx,hb];rfl⟩
   by_cases c1 : kk=-1
   ·simp [c1]
    exact ⟨aL (by decide +kernel),fin (by simp [i6,c1])⟩
   ·obtain ⟨c,hc⟩ : ∃ c : Nat,kk=c:=⟨kk.toNat,by omega⟩
    subst hc
    have hcn : c < m.f.length:=by omega
    simp [c1]
    refine aa (kw i g1) (.inl rfl) ?_
    cases w1 : f9 m i
    ·simp
     exact ⟨aL (by decide +kernel),fin (by simp [i6,w1])⟩
    ·simp
     refine aa (kw c hcn) (.inl rfl) ?_
     cases w2 : f9 m c
     ·simp
      exact ⟨aL (by decide +kernel),fin (by simp [i6,w1,w2])⟩
     ·have h1 : i < (aQ m).sp.length:=by rw [W.sp];exact g1
      have h2 : c < (aQ m).sp.length:=by rw [W.sp];exact hcn
      have hj2:=(fA J1 g1 hcn).1
      rw [hfD,e0]
      simp [aG (cu h1),aG (cu h2)]
      refine ⟨aL (by decide +kernel),?_⟩
      refine al (fun g5=>?_) (fun g5=>?_)
      ·have hb : i6 m i (c : Int)=true:=by
        simp only [i6,Bool.and_eq_true,decide_eq_true_eq,Int.toNat_natCast]
        exact ⟨c1,w1,w2,by simpa using g5⟩
       rw [hb] at hnx
       simp only [if_true,Int.toNat_natCast] at hnx
       simp [g5]
       refine ⟨by omega,hjl,bX (BI hC.1 m.f.length (by omega) fj J1 i c g1 hcn) (by have:=hj2.len;simp;omega) ?_⟩
       simp
       exact ⟨j + 1,by omega,by omega,hw2,by rw [hnx]⟩
      ·simp [g5]
       exact fin (by simpa [i6,w1,w2] using g5)
  ·have e3 : j=3:=by omega
   subst e3
   simp
   exact ⟨i + 1,by omega,by omega,hw,by rw [hfj,hf0];rfl⟩
 ·have e : i=m.f.length:=by omega
  subst e
  rw [hfD,e0]
  simp
  refine ⟨by omega,?_⟩
  rw [<- e0,<- hfD]
  have hz : List.replicate m.f.length [D.int .i64 0]=inR (gr m 0):=by rw [s8];simp [inR]
  rw [hz]
  refine aD (Nat × List Nat) (fun s=>[(3,.ref (.r 10048) 0 m.f.length),(4,.fn 330 [.ptr [fD]]),(9,.ref (.r 10144) 0 (cK m s.1).length),(10,.ref (.r 10160) 0 m.f.length),(79,.int .i64 m.f.length),(80,.int .i64 s.1),(10048,.blk 1 (nfR s.2)),(10144,.blk 1 (fH (cK m s.1))),(10160,.blk 1 (inR (gr m s.1)))])
   (fun s=>s.1 <= m.f.length /\ Fo m.f.length s.2 /\ ∀ x,x < m.f.length -> ftF s.2 x=rtP m x) (fun s=>m.f.length - s.1) (0,foI m m.f.length) ⟨by simp,F1,fun _ _=>rfl⟩ (by simp [cK,stT,fH]) ?_
  rintro ⟨i,f⟩ ⟨hi,K1,K2⟩
  simp only at hi K1 K2
  have hw : IntKind.wrap .i64 ((i : Int) + 1)=((i + 1 : Nat) : Int):=ah (by omega) (by omega)
  have kl:=K1.len
  simp
  refine al (fun g1=>?_) (fun g1=>?_) <;> simp at g1 <;> simp [g1]
  ·refine aa (kw i g1) (.inl rfl) ?_
   simp
   refine al (fun g2=>?_) (fun g2=>?_)
   ·simp at g2
    simp [g2]
    exact ⟨i + 1,f,⟨by omega,K1,K2⟩,by omega,by rw [mB g2],hw,rfl,by rw [mB g2],by rw [nE (by simp [stB,g2])]⟩
   ·simp at g2
    obtain ⟨r,hr⟩ : ∃ r,r=rtP m i:=⟨_,rfl⟩
    obtain ⟨r1,r2⟩:=vU hv g1
    obtain ⟨r3,r4⟩:=yg hv g1
    have kr:=ro hC.1 m.f.length (by omega) f K1 i g1
    rw [K2 i g1,<- hr] at kr
    obtain ⟨L1,L2⟩:=iy K1 g1
    rw [<- hr] at r1 r2 r3 r4
    have hrs : stB m r=true:=by simp [stB,r3,g2,r2]
    simp [g2,kl]
    refine ⟨by omega,bX kr (by have:=L1.len;simp;omega) ?_⟩
    simp
    refine al (fun g3=>?_) (fun g3=>?_) <;> simp at g3
    ·have g3' : r=i:=by omega
     subst g3'
     clear g3
     have hii : r < (inR (gr m r)).length:=by simp [mg];exact g1
     have hid : r < (gr m r).length:=by simpa using hii
     have hst:=va g1 hrs
     have hon:=vD hv g1 hrs
     have hol:=fG m r
     have hle:=wr m r
     have hid2 : r < (gr m (r + 1)).length:=by rw [mg];exact g1
     have hig:=pm (m:=m) (i:=r + 1) (r:=r) (by omega) (by omega) hrs
     have hmt:=mV m hrs (r + 1) (by omega)
     have hw2 : (stT m r).length < (cK m (r + 1)).length:=by rw [fG];exact hmt.1
     have hpl : (fH (cK m r)).length=(stT m r).length:=by simp [fH,hol]
     have htk : List.take (stT m r).length (fH (cK m r))=fH (cK m r):=List.take_of_length_le (by omega)
     have hig2 : (inR (gr m (r + 1)))[r]? = some [.int .i64 ((stT m r).length : Nat)]:=by rw [cu hid2,hig]
     have hrow : (fH (cK m r)++[[D.nils]])[(stT m r).length]? = some [.nils]:=by rw [List.getElem?_append_right (by omega),hpl];simp
     have hset : (fH (cK m r)++[[D.nils]]).set (stT m r).length [.own 1 [[.int .i64 (r : Int)]]]=fH (cK m (r + 1)):=by
      rw [hon]
      unfold fH
      rw [List.map_set,List.map_append,List.set_append_right _ _ (by simp [hol]),List.set_append_right _ _ (by simp [hol])]
      simp [nfR,hol]
     simp [g1,cu hid,qP,hol,hst,htk,hpl,aU hig2]
     refine ⟨by omega,?_⟩
     simp [aU hrow,hrow]
     exact ⟨aL (by decide +kernel),r + 1,hlL f r,⟨by omega,L1,fun x hx=>by rw [L2 x hx,K2 x hx]⟩,by omega,by rw [fG];have:=gB m r;rw [if_pos hrs] at this;rw [this];simp,hw,rfl,hset,rfl⟩
    ·have hri : r < i:=by omega
     obtain ⟨l,hll,ho1,ho2⟩:=vE g2 hr.symm hri hrs
     have hol:=fG m i
     have hmt:=mV m hrs i hri
     have hid : r < (gr m i).length:=by rw [mg];omega
     have hig:=pm (m:=m) (i:=i) (r:=r) hri (by omega) hrs
     have hig2 : (inR (gr m i))[r]? = some [.int .i64 ((stT m r).length : Nat)]:=by rw [cu hid,hig]
     have hrow : (fH (cK m i))[(stT m r).length]? = some [.own 1 (nfR l)]:=by unfold fH;rw [List.getElem?_map,ho1];rfl
     have hset : (fH (cK m i)).set (stT m r).length [.own 1 (nfR (l++[i]))]=fH (cK m (i + 1)):=by
      rw [ho2]
      unfold fH
      rw [List.map_set]
     have hrn : r < m.f.length:=by omega
     simp [g3,hrn,aU hig2]
     have hrl : (stT m r).length < (fH (cK m i)).length:=by simp [fH,hol];exact hmt.1
     have hrl2 : (stT m r).length < (cK m i).length:=by rw [hol];exact hmt.1
     have hgs : ∀ x,((fH (cK m i)).set (stT m r).length x)[(stT m r).length]? = some x:=fun x=>List.getElem?_set_self hrl
     simp [aU hrow,hrow,hrl2]
     refine ⟨by omega,?_⟩
     simp [hgs]
     have hns : stB m i=false:=by simp [stB,<- hr];exact fun _ h=>g3 (by rw [h])
     have hso : (cK m i).length=(cK m (i + 1)).length:=by rw [fG,fG,gB,if_neg (by simp [hns])]
     refine ⟨?_,aL (by decide +kernel),i + 1,hlL f i,⟨by omega,L1,fun x hx=>by rw [L2 x hx,K2 x hx]⟩,by omega,hso,hw,rfl,by rw [sa];exact hset,by rw [nE hns]⟩
     rintro e (he | rfl) c hc
     ·exact vz _ _ he _ hc
     ·simp at hc;subst hc;rfl
  ·have e : i=m.f.length:=by omega
   subst e
   have hpl : (fH (cm m)).length=(cm m).length:=by simp [fH]
   exact ⟨by simp [fH],by rw [show cK m m.f.length=cm m from rfl,x8];exact List.take_of_length_le (by simp [hJ])⟩
end
end Go.Gv

namespace Go.Gv
def SK (m : Msh) (a b : Int) : Int:=if pY m a b < 0 then 0 else hD (fun j=>decide (crn (fce m (pY m a b).toNat) j=a) && decide (crn (fce m (pY m a b).toNat) (j + 1)=b)) (List.range 3)
def acK (m : Msh) (i k : Nat) : Int:=SK m (crn (fce m i) (k + 1)) (crn (fce m i) k)
def nbT (m : Msh) (i : Nat) : List (List D):=(List.range i).map fun j=>[.int .i64 (nbF m j 0),.int .i64 (nbF m j 1),.int .i64 (nbF m j 2)]
@[simp] theorem Qm (m : Msh) (i : Nat) : (nbT m i).length=i:=by simp [nbT]
@[simp] theorem KM (m : Msh) (i : Nat) : List.take i (nbT m i)=nbT m i:=List.take_of_length_le (by simp)
@[simp] theorem Sz (m : Msh) (i : Nat) : List.map (fun e=>List.map aR e) (nbT m i)=nbT m i:=by simp [nbT]
variable {C : CC} (hC : az prog C)
include hC
end Go.Gv

namespace Go.Gv
open Go.Lib
variable {C : CC} (hC : az prog C)
include hC
def nmD (x : Nat) : D:=.agg [.int .u64 ((x / 18446744073709551616 : Nat) : Int),.int .u64 ((x % 18446744073709551616 : Nat) : Int),.bool false]
end Go.Gv

namespace Go.Gv
variable {C : CC} (hC : az prog C)
include hC
end Go.Gv

namespace Go.Gv
def bdB (m : Msh) (i k : Nat) : Bool:=(List.range k).any fun c=>decide (nbF m i c < 0)
def ini (m : Msh) (i k : Nat) : Int:=if bdB m i k then -1 else -2
def qup (m : Msh) (i k : Nat) : Int:=if upF m i k < 0 then ini m i 3 else upF m i k
variable {C : CC} (hC : az prog C)
include hC
end Go.Gv

namespace Go.Gv
def exM (z : Int) : Msh:=⟨false,[⟨0,0,0⟩,⟨30,0,z⟩,⟨30,30,9⟩,⟨0,30,0⟩],false,[⟨0,1,2,0⟩,⟨0,2,3,0⟩]⟩
variable {C : CC} (hC : az prog C)
include hC
theorem o9 (b b' : Bool) (xs ys : List Int) (hx : xs.length < 2 ^ 62) (hy : ys.length < 2 ^ 62) : C 19 [slx b (xs.map fun n=>[.int .i64 n]),slx b' (ys.map fun n=>[.int .i64 n])] (.bool (decide (xs=ys))) []:=by
 refine aF hC (nf:=N19) rfl rfl ?_
 simp [N19]
 refine al (fun h=>?_) (fun h=>?_) <;> simp at h <;> simp [h]
 ·rintro rfl;exact h rfl
 have h' : xs.length=ys.length:=by omega
 refine aD Nat (fun i=>[(0,slx b (xs.map fun n=>[.int .i64 n])),(1,slx b' (ys.map fun n=>[.int .i64 n])),(12,.int .i64 ys.length),(13,.int .i64 i)])
  (fun i=>i <= ys.length /\ ∀ k,k < i -> xs[k]? = ys[k]?) (fun i=>ys.length - i) 0 (by simp) (by simp) ?_
 rintro i ⟨hi,hok⟩
 simp
 refine al (fun h1=>?_) (fun h1=>?_) <;> simp at h1 <;> simp [h1]
 ·have hw : IntKind.wrap .i64 ((i : Int) + 1)=((i + 1 : Nat) : Int):=ah (by omega) (by omega)
  have hx1 : i < xs.length:=by omega
  simp [h1,hx1]
  refine ⟨aL (by decide +kernel),?_⟩
  refine al (fun h2=>?_) (fun h2=>?_) <;> simp [h1,hx1] at h2 <;> simp [h1,hx1,h2,hw]
  ·rintro rfl
   exact h2 rfl
  ·refine ⟨i + 1,⟨by omega,fun k hk=>?_⟩,by omega,rfl⟩
   rcases Nat.lt_succ_iff_lt_or_eq.1 hk with h5 | rfl
   ·exact hok k h5
   ·rw [List.getElem?_eq_getElem h1,List.getElem?_eq_getElem hx1,h2]
 ·refine List.ext_getElem? fun k=>?_
  rcases Nat.lt_or_ge k i with h2 | h2
  ·exact hok k h2
  ·rw [List.getElem?_eq_none (by omega),List.getElem?_eq_none (by omega)]
end Go.Gv

namespace Go.Gv
variable {C : CC} (hC : az prog C)
include hC
end Go.Gv

namespace Go.Gv
variable {C : CC} (hC : az prog C)
include hC
end Go.Gv

namespace Go.Gv
def qfl (m : Msh) (i : Nat) : List Int:=(List.range i).map fun j=>tu m j
@[simp] theorem LD (m : Msh) (i : Nat) : List.take i (inR (qfl m i))=inR (qfl m i):=List.take_of_length_le (by simp [qfl])
@[simp] theorem Q3 (m : Msh) (i : Nat) : (qfl m i).length=i:=by simp [qfl]
variable {C : CC} (hC : az prog C)
include hC
end Go.Gv

namespace Go.Gv
def Sr (m : Msh) : Bool:=(decide ((80 : Int) < (m.s.length : Int)) && decide ((m.s.length : Int) <= 2000)) || (decide ((80 : Int) < (m.f.length : Int)) && decide ((m.f.length : Int) <= 4000)) || decide ((2010 : Int) < (m.s.length : Int)) || decide ((4010 : Int) < (m.f.length : Int))
variable {C : CC} (hC : az prog C)
include hC
end Go.Gv

namespace Go.Gv
def yS (f : Nat -> Int) : Nat -> Int
 | 0=>0
 | n + 1=>yS f n + f n
def Bh (l : List Int) (x : Nat) : Int:=((l.filter fun y=>decide (y=(x : Int))).length : Int)
def twF (m : Msh) (i : Nat) : Int:=jc (aY m (fce m i))
def Ic (m : Msh) (x : Nat) : Int:=yS (fun j=>twF m j * Bh (AE m (j : Int)) x) m.f.length
def Tj (m : Msh) : Int:=yS (twF m) m.f.length
theorem ww {m : Msh} (hv : av m=true) {i : Nat} (hi : i < m.f.length) : 0 <= twF m i /\ twF m i <= 2251799813685248:=by
 have h:=(fY hv hi).2
 have ht:=yW hv hi
 unfold okT at ht
 simp only [Bool.and_eq_true] at ht
 have:=sr ht.1.1 ht.1.2 ht.2
 unfold twF
 unfold jc dw at *
 omega
end Go.Gv

namespace Go.Gv
def Kx (f : Nat -> Int) : List Nat -> Int
 | []=>0
 | x::r=>f x + Kx f r
def giv (m : Msh) (x y : Nat) : Int:=if tu m y=(x : Int) then Ic m y else 0
def Rg (m : Msh) (P : List Nat) (x : Nat) : Int:=twF m x + Kx (giv m x) P
structure Ord (m : Msh) (P : List Nat) : Prop where
 perm : P.Perm (List.range m.f.length)
 srt : P.Pairwise fun a b=>fk m b <= fk m a
theorem Ord.len {m : Msh} {P : List Nat} (h : Ord m P) : P.length=m.f.length:=by
 have:=h.perm.length_eq
 simpa using this
theorem Ord.lt {m : Msh} {P : List Nat} (h : Ord m P) {p : Nat} (hp : p < P.length) : P[p] < m.f.length:=by
 have:=h.perm.mem_iff.1 (List.getElem_mem hp)
 simpa using this
def KF (l : List Nat) : List (List D):=l.map fun (i : Nat)=>[D.int .i64 ((i : Nat) : Int)]
def acR (m : Msh) (P : List Nat) : List Int:=(List.range m.f.length).map (Rg m P)
def Tb (m : Msh) : List Int:=(List.range m.f.length).map (Ic m)
def SH (m : Msh) (i : Nat) (l : List Int) (x : Nat) : Int:=yS (fun j=>twF m j * Bh (AE m (j : Int)) x) i + twF m i * Bh l x
def Th (m : Msh) (i : Nat) (l : List Int) : List Int:=(List.range m.f.length).map (SH m i l)
end Go.Gv

set_option maxRecDepth 4000
namespace Go.Gv
def mvS (x y z : Int) (s : Spt) : Spt:=⟨s.x + x,s.y + y,s.z + z⟩
def mvM (m : Msh) (x y z : Int) : Msh:=⟨false,m.s.map (mvS x y z),false,m.f⟩
def ti (n : Int) : Bool:=decide (n < -67108864) || decide (67108864 < n)
def mvE (m : Msh) (x y z : Int) : Int:=if av m=true then (if ([x,y,z].any ti)=true then 5 else if (m.s.all fun s=>aV (mvS x y z s))=true then 0 else 5) else 1
def pE (x y z : Int) (ss : List Spt) (i : Nat) : List Spt:=(ss.take i).map (mvS x y z)++ss.drop i
def mvR (x y z : Int) (ss : List Spt) (i : Nat) : List (List D):=(pE x y z ss i).map dt
theorem rX (x y z : Int) (ss : List Spt) (i : Nat) : (mvR x y z ss i).length=ss.length:=by simp [mvR,pE];omega
theorem vn (x y z : Int) (ss : List Spt) : mvR x y z ss 0=ss.map dt:=by simp [mvR,pE]
theorem xR (x y z : Int) (ss : List Spt) : mvR x y z ss ss.length=(ss.map (mvS x y z)).map dt:=by simp [mvR,pE]
theorem xS (x y z : Int) {ss : List Spt} {i : Nat} (h : i < ss.length) : (mvR x y z ss i)[i]? = some (dt ss[i]):=by
 unfold mvR pE
 rw [List.getElem?_map,List.getElem?_append_right (by simp;omega)]
 simp [Nat.min_eq_left (Nat.le_of_lt h),h]
theorem vo (x y z : Int) {ss : List Spt} {i : Nat} (h : i < ss.length) : (pE x y z ss i).set i (mvS x y z ss[i])=pE x y z ss (i + 1):=by
 unfold pE
 rw [List.set_append_right _ _ (by simp;omega)]
 have e1 : i - ((ss.take i).map (mvS x y z)).length=0:=by simp;omega
 rw [e1,List.drop_eq_getElem_cons h,List.set_cons_zero,List.take_succ_eq_append_getElem h,List.map_append,List.append_assoc]
 rfl
theorem xU (x y z : Int) {ss : List Spt} {i : Nat} (h : i < ss.length) : (mvR x y z ss i).set i (dt (mvS x y z ss[i]))=mvR x y z ss (i + 1):=by
 unfold mvR
 rw [<- List.map_set,vo x y z h]
theorem CS (l : List Spt) : (l.map dt).map (fun e=>e.map aR)=l.map dt:=by
 rw [List.map_map]
 exact List.map_congr_left fun s _=>by simp [dt]
theorem Bt (l : List Fce) : (l.map bU).map (fun e=>e.map aR)=l.map bU:=by
 rw [List.map_map]
 exact List.map_congr_left fun s _=>by simp [bU]
theorem mU (l : List Spt) : ∀ e ∈ l.map dt,e.length=3 /\ ∀ c ∈ e,au c=true:=by
 intro e he
 obtain ⟨s,_,rfl⟩:=List.mem_map.1 he
 simp [dt]
theorem wq (l : List Spt) : ∀ e ∈ l.map dt,∀ c ∈ e,aT c=true:=by
 intro e he c hc
 obtain ⟨s,_,rfl⟩:=List.mem_map.1 he
 simp [dt] at hc
 rcases hc with rfl | rfl | rfl <;> rfl
theorem lW (l : List Fce) : ∀ e ∈ l.map bU,e.length=4 /\ ∀ c ∈ e,au c=true:=by
 intro e he
 obtain ⟨s,_,rfl⟩:=List.mem_map.1 he
 simp [bU]
theorem uS (l : List Fce) : ∀ e ∈ l.map bU,∀ c ∈ e,aT c=true:=by
 intro e he c hc
 obtain ⟨s,_,rfl⟩:=List.mem_map.1 he
 simp [bU] at hc
 rcases hc with rfl | rfl | rfl | rfl <;> rfl
variable {C : CC} (hC : az prog C)
include hC
theorem sL (l : List Spt) (h2 : l.length <= 2000) (b : Bool) : C 403 [slx b (l.map dt)] .any [.own 3 (l.map dt)]:=by
 have hb : l.length * 24 <= 140737488355328:=by omega
 have hu:=wq l
 have hc:=mU l
 have hRl : (l.map dt).length=l.length:=List.length_map _
 obtain ⟨R,hR⟩ : ∃ R,R=l.map dt:=⟨_,rfl⟩
 rw [<- hR] at hu hc hRl ⊢
 refine jw hC (nf:=N403) rfl rfl ?_
 cases hbv : (b && decide (l=[]))
 ·have e : slx b R=.sl R:=by
   unfold slx
   cases b with
   | false=>simp
   | true =>
    simp at hbv
    cases l with
    | nil=>exact absurd rfl hbv
    | cons s r=>rw [hR];simp
  rw [e]
  simp [N403,hRl,hb]
  exact ⟨fun _=>⟨hc,hu⟩,fun e=>⟨⟨hu,by rw [hR,e];rfl⟩,hc,hu⟩⟩
 ·simp only [Bool.and_eq_true,decide_eq_true_eq] at hbv
  obtain ⟨rfl,rfl⟩:=hbv
  have e : slx true R=.nils:=by rw [hR];rfl
  have e2 : R=[]:=hR
  rw [e,e2]
  simp [N403]
theorem sK (l : List Fce) (h2 : l.length <= 4000) (b : Bool) : C 404 [slx b (l.map bU)] .any [.own 4 (l.map bU)]:=by
 have hb : l.length * 32 <= 140737488355328:=by omega
 have hu:=uS l
 have hc:=lW l
 have hRl : (l.map bU).length=l.length:=List.length_map _
 obtain ⟨R,hR⟩ : ∃ R,R=l.map bU:=⟨_,rfl⟩
 rw [<- hR] at hu hc hRl ⊢
 refine jw hC (nf:=N404) rfl rfl ?_
 cases hbv : (b && decide (l=[]))
 ·have e : slx b R=.sl R:=by
   unfold slx
   cases b with
   | false=>simp
   | true =>
    simp at hbv
    cases l with
    | nil=>exact absurd rfl hbv
    | cons s r=>rw [hR];simp
  rw [e]
  simp [N404,hRl,hb]
  exact ⟨fun _=>⟨hc,hu⟩,fun e=>⟨⟨hu,by rw [hR,e];rfl⟩,hc,hu⟩⟩
 ·simp only [Bool.and_eq_true,decide_eq_true_eq] at hbv
  obtain ⟨rfl,rfl⟩:=hbv
  have e : slx true R=.nils:=by rw [hR];rfl
  have e2 : R=[]:=hR
  rw [e,e2]
  simp [N404]
theorem um (m : Msh) (h1 : m.s.length <= 2000) (h2 : m.f.length <= 4000) : C 401 [.agg (b7 m)] (.agg [.own 3 (m.s.map dt),.own 4 (m.f.map bU)]) [.nils]:=by
 have k1:=sL hC m.s h1 m.sn
 have k2:=sK hC m.f h2 m.fn
 refine CV hC (nf:=N401) rfl rfl rfl ?_
 simp [N401,ai]
 refine gf k1 ?_
 simp
 refine gf k2 ?_
 simp
 exact ⟨fun a ha=>(mU m.s _ (List.mem_map_of_mem ha)).2,fun a ha=>(lW m.f _ (List.mem_map_of_mem ha)).2,aL (by decide +kernel)⟩
theorem xN (n : Int) : C 400 [.int .i64 n] (.bool (ti n)) []:=by
 refine aF hC (nf:=N400) rfl rfl ?_
 unfold ti
 simp [N400]
 by_cases h : n < -67108864
 ·simp [h]
 ·simp [h]
set_option maxHeartbeats 2000000 in
theorem AU (dec : Nat -> List UInt8) (hI : ∀ n : Nat,n < 100 -> C 127 [.int .i64 n] (.str (dec n)) []) (m : Msh) (hz : cg m=true -> m.s.length <= 100 /\ m.f.length <= 100) (x y z : Int) : C 399 [.agg (b7 m),.int .i64 x,.int .i64 y,.int .i64 z] (.tup [if mvE m x y z=0 then .agg (b7 (mvM m x y z)) else .agg [.nils,.nils],.int .i64 (mvE m x y z)]) []:=by
 have k1:=pA hC dec hI m hz
 have k2:=pi hC (b:=false) (xs:=[x,y,z]) (g:=400) (cs:=[]) ti (by simp) (fun n _=>xN hC n)
 simp only [ai] at k1
 unfold mvE
 by_cases hv : av m=true
 rotate_left
 ·rw [Bool.not_eq_true] at hv
  rw [hv] at k1
  simp only [hv,Bool.false_eq_true,if_false]
  refine aF hC (nf:=N399) rfl rfl ?_
  simp [N399,ai]
  refine aa k1 (.inl rfl) ?_
  simp
 rw [hv] at k1
 simp only [hv,if_true]
 cases ho : ([x,y,z].any ti)
 rotate_left
 ·rw [ho] at k2
  simp at k2
  simp only [if_true]
  refine aF hC (nf:=N399) rfl rfl ?_
  simp [N399,ai]
  refine aa k1 (.inl rfl) ?_
  simp
  refine aa k2 (.inl rfl) ?_
  simp
 rw [ho] at k2
 simp at k2
 simp only [Bool.false_eq_true,if_false]
 have hb:=ho
 simp only [List.any_cons,List.any_nil,ti,Bool.or_false,Bool.or_eq_false_iff,decide_eq_false_iff_not] at hb
 have hsl:=cW hv
 have k3:=um hC m hsl.1 hsl.2
 simp only [ai] at k3
 obtain ⟨E,hE⟩ : ∃ E : Int,E=if (m.s.all fun s=>aV (mvS x y z s))=true then 0 else 5:=⟨_,rfl⟩
 rw [<- hE]
 have hgood : (∀ (j : Nat) (h : j < m.s.length),aV (mvS x y z m.s[j])=true) -> E=0:=fun h=>by
  rw [hE,if_pos]
  rw [List.all_eq_true]
  intro s hs
  obtain ⟨j,hj,rfl⟩:=List.getElem_of_mem hs
  exact h j hj
 have hbad : ∀ (j : Nat) (h : j < m.s.length),aV (mvS x y z m.s[j])=false -> E=5:=fun j h hr=>by
  rw [hE,if_neg]
  intro h2
  have:=List.all_eq_true.1 h2 _ (List.getElem_mem h)
  rw [hr] at this
  cases this
 clear hE
 refine aF hC (nf:=N399) rfl rfl ?_
 simp [N399,ai]
 refine aa k1 (.inl rfl) ?_
 simp
 refine aa k2 (.inl rfl) ?_
 simp
 refine sI k3 rfl ?_
 simp
 refine ⟨fun a ha=>(mU m.s _ (List.mem_map_of_mem ha)).2,fun a ha=>(lW m.f _ (List.mem_map_of_mem ha)).2,?_⟩
 refine aD Nat (fun i=>[(1,.int .i64 x),(2,.int .i64 y),(3,.int .i64 z),(8,.adr (.r 10128) 0 0),(10,.adr (.r 10160) 0 0),(27,.int .i64 m.s.length),(28,.int .i64 i),(10128,.blk 2 [[.own 3 [],.own 4 []]]),(10160,.blk 2 [[.own 3 (mvR x y z m.s i),.own 4 (m.f.map bU)]])])
  (fun i=>i <= m.s.length /\ ∀ (j : Nat) (h : j < m.s.length),j < i -> aV (mvS x y z m.s[j])=true) (fun i=>m.s.length - i) 0 ⟨by omega,fun j h hj=>by omega⟩ (by simp [vn]) ?_
 rintro i ⟨hi,hall⟩
 simp
 refine al (fun h=>?_) (fun h=>?_) <;> simp at h
 ·have hw : IntKind.wrap .i64 ((i : Int) + 1)=((i + 1 : Nat) : Int):=ah (by omega) (by omega)
  have hg:=xS x y z h
  have hln:=rX x y z m.s i
  have hset:=xU x y z h
  have hrs:=gU hv h
  have esp : m.s[i]=spt m i:=(getElem!_pos m.s i h).symm
  have hgr : aV (mvS x y z m.s[i])=true -> ∀ (j : Nat) (h : j < m.s.length),j < i + 1 -> aV (mvS x y z m.s[j])=true:=fun h1 j hj hji=>by
   rcases Nat.lt_succ_iff_lt_or_eq.1 hji with h2 | rfl
   ·exact hall j hj h2
   ·exact h1
  have hbd:=hbad i h
  rw [esp] at hg hset hgr hbd
  have hrb : (-16777216 <= (spt m i).x /\ (spt m i).x <= 16777216) /\ (-16777216 <= (spt m i).y /\ (spt m i).y <= 16777216) /\ -4194304 <= (spt m i).z /\ (spt m i).z <= 4194304:=by
   simp only [aV,Bool.and_eq_true,decide_eq_true_eq] at hrs
   omega
  have k4:=pC hC (mvS x y z (spt m i))
  generalize spt m i=s at *
  have w1 : IntKind.wrap .i64 (s.x + x)=s.x + x:=ah rfl (by omega)
  have w2 : IntKind.wrap .i64 (s.y + y)=s.y + y:=ah rfl (by omega)
  have w3 : IntKind.wrap .i64 (s.z + z)=s.z + z:=ah rfl (by omega)
  generalize hRs : aV (mvS x y z s)=ok at *
  simp only [dt,mvS] at hg hset k4
  have hR : i < (mvR x y z m.s i).length:=by omega
  obtain ⟨_,hgi⟩:=List.getElem?_eq_some_iff.1 hg
  generalize mvR x y z m.s i=R at *
  simp [h,hln,aU hg,w1,w2,w3,hgi]
  have hg2 : (mvR x y z m.s (i + 1))[i]? = some [.int .i64 (s.x + x),.int .i64 (s.y + y),.int .i64 (s.z + z)]:=by
   rw [<- hset]
   exact List.getElem?_set_self hR
  rw [hset]
  refine ⟨aL (by decide +kernel),?_⟩
  simp [aU hg2]
  refine aa k4 (.inl rfl) ?_
  cases ok
  ·simp [hbd rfl]
  ·simp [hw]
   refine ⟨i + 1,⟨by omega,fun j hj hji=>?_⟩,by omega,by omega,rfl⟩
   have h1:=hgr rfl j hj hji
   have e : m.s[j]=spt m j:=(getElem!_pos m.s j hj).symm
   rw [e] at h1
   exact h1
 ·have ei : i=m.s.length:=by omega
  subst ei
  have e0 : E=0:=hgood (fun j hj=>hall j hj hj)
  have e2:=xR x y z m.s
  have hl:=rX x y z m.s m.s.length
  have hV : (mvR x y z m.s m.s.length).map (fun e=>e.map aR)=mvR x y z m.s m.s.length:=by rw [e2];exact CS _
  have hfV:=Bt m.f
  have em : b7 (mvM m x y z)=[.sl (mvR x y z m.s m.s.length),.sl (m.f.map bU)]:=by rw [e2];rfl
  rw [em]
  generalize mvR x y z m.s m.s.length=R at *
  generalize m.f.map bU=FF at *
  simp [h,e0,hV,hfV]
end Go.Gv

namespace Go.Gv
def trP (x y : Int) (p : Pnt) : Pnt:=(p.1 + x,p.2 + y)
def trT (x y : Int) (t : Tri) : Tri:=(trP x y t.1,trP x y t.2.1,trP x y t.2.2)
theorem su (x y : Int) (a b c : Pnt) : dw (trP x y a) (trP x y b) (trP x y c)=dw a b c:=by
 unfold dw trP
 simp only
 rw [show b.1 + x - (a.1 + x)=b.1 - a.1 by omega,show c.2 + y - (a.2 + y)=c.2 - a.2 by omega,show b.2 + y - (a.2 + y)=b.2 - a.2 by omega,show c.1 + x - (a.1 + x)=c.1 - a.1 by omega]
theorem mX (x y : Int) (t : Tri) : jc (trT x y t)=jc t:=su x y _ _ _
theorem CB (x y : Int) (t u : Tri) : ovT (trT x y t) (trT x y u)=ovT t u:=by
 unfold ovT tw mR trT
 simp only [su]
theorem yT {x y : Int} {p q : Pnt} : (trP x y p=trP x y q) ↔ p=q:=by
 unfold trP
 constructor
 ·intro h
  have h1:=congrArg Prod.fst h
  have h2:=congrArg Prod.snd h
  simp only at h1 h2
  exact Prod.ext (by omega) (by omega)
 ·rintro rfl;rfl
section
variable {m : Msh} {x y z : Int} (hv : av m=true) (hr : ∀ i,i < m.s.length -> aV (mvS x y z (spt m i))=true)
theorem iD (m : Msh) (x y z : Int) {i : Nat} (h : i < m.s.length) : spt (mvM m x y z) i=mvS x y z (spt m i):=by
 unfold spt mvM
 simp only
 rw [getElem!_pos _ i (by simpa using h),getElem!_pos _ i h,List.getElem_map]
theorem ot (m : Msh) (x y z : Int) : (mvM m x y z).s.length=m.s.length:=by simp [mvM]
theorem xW (m : Msh) (x y z : Int) : (mvM m x y z).f=m.f:=rfl
theorem jn (m : Msh) (x y z : Int) (i : Nat) : fce (mvM m x y z) i=fce m i:=rfl
theorem pF (m : Msh) (x y z : Int) {i : Nat} (h : i < m.s.length) : ptS (spt (mvM m x y z) i)=trP x y (ptS (spt m i)):=by rw [iD m x y z h];rfl
theorem mr (m : Msh) (x y z : Int) {f : Fce} (h : inS m f=true) : aY (mvM m x y z) f=trT x y (aY m f):=by
 obtain ⟨⟨_,h1⟩,⟨_,h2⟩,⟨_,h3⟩⟩:=jj h
 unfold aY trT
 rw [pF m x y z h1,pF m x y z h2,pF m x y z h3]
include hv hr
theorem qX (a b : Int) : okc (mvM m x y z) a b=okc m a b:=by
 unfold okc
 rw [ot]
 cases h : fz m.s.length a
 ·rfl
 ·have h' : a.toNat < m.s.length:=by
   simp only [fz,Bool.and_eq_true,decide_eq_true_eq] at h
   omega
  rw [iD m x y z h',hr _ h',gU hv h']
theorem vr (f : Fce) : okF (mvM m x y z) f=okF m f:=by
 unfold okF
 rw [qX hv hr,qX hv hr,qX hv hr]
theorem qY (i : Nat) : aB (mvM m x y z) i=aB m i:=by
 unfold aB
 rw [jn,vr hv hr]
 cases h : okF m (fce m i)
 ·rfl
 ·rw [mr m x y z (lG h),mX]
theorem mt : av (mvM m x y z)=true:=by
 have e1 : fil (dX (mvM m x y z)) m.s.length=[]:=cX.2 fun i hi=>by unfold dX;rw [iD m x y z hi,hr i hi];rfl
 have e2 : fil (cE (mvM m x y z)) m.s.length=[]:=cX.2 fun i hi=>by
  have h:=cX.1 (fL hv (fil (cE m) m.s.length) (by simp [LL])) i hi
  unfold cE at h ⊢
  rw [gU hv hi,Bool.true_and,List.any_eq_false] at h
  rw [iD m x y z hi,hr i hi,Bool.true_and,List.any_eq_false]
  intro k hk
  have hki:=List.mem_range.1 hk
  have h2:=h k hk
  rw [gU hv (show k < m.s.length by omega),Bool.true_and] at h2
  rw [iD m x y z (show k < m.s.length by omega),hr k (by omega),Bool.true_and]
  unfold lD at h2 ⊢
  rw [pF m x y z (show k < m.s.length by omega),pF m x y z hi]
  simp only [decide_eq_true_eq] at h2 ⊢
  rwa [yT]
 have e3 : fil (eI (mvM m x y z)) m.f.length=[]:=cX.2 fun i hi=>by
  unfold eI;rw [jn,vr hv hr,(fY hv hi).1];rfl
 have e4 : fil (db (mvM m x y z)) m.f.length=[]:=cX.2 fun i hi=>by
  have h:=(fY hv hi)
  unfold db
  rw [jn,vr hv hr,h.1,mr m x y z (dx hv hi),mX,Bool.true_and,decide_eq_false_iff_not]
  omega
 have e5 : fil (co (mvM m x y z)) m.f.length=[]:=cX.2 fun i hi=>by
  have h:=cX.1 (fL hv (fil (co m) m.f.length) (by simp [LL])) i hi
  unfold co at h ⊢
  simp only [qY hv hr,jn]
  exact h
 have e6 : fil (a8 (mvM m x y z)) m.f.length=[]:=cX.2 fun i hi=>by
  have h:=cX.1 (fL hv (fil (a8 m) m.f.length) (by simp [LL])) i hi
  unfold a8 at h ⊢
  rw [fq hv hi,Bool.true_and,List.any_eq_false] at h
  rw [qY hv hr,fq hv hi,Bool.true_and,List.any_eq_false]
  intro k hk
  have h2:=h k hk
  have hki:=List.mem_range.1 hk
  rw [fq hv (show k < m.f.length by omega),Bool.true_and] at h2
  rw [qY hv hr,fq hv (show k < m.f.length by omega),Bool.true_and,jn,jn,mr m x y z (dx hv hi),mr m x y z (dx hv (show k < m.f.length by omega)),CB]
  exact h2
 have hs : cg (mvM m x y z)=cg m:=by unfold cg;rw [ot,xW]
 have hs2 : cg m=true:=by simp only [av,Bool.and_eq_true] at hv;exact hv.1
 unfold av
 rw [hs,hs2,Bool.true_and,List.all_eq_true]
 intro l hl
 rw [decide_eq_true_eq]
 unfold LL at hl
 rw [ot,xW,e1,e2,e3,e4,e5,e6] at hl
 simp only [List.mem_cons,List.not_mem_nil,or_false,or_self] at hl
 exact hl
omit hr
theorem KD {i : Nat} (hi : i < m.f.length) : spA (mvM m x y z) i=mvS x y z (spA m i) /\ spB (mvM m x y z) i=mvS x y z (spB m i) /\ spC (mvM m x y z) i=mvS x y z (spC m i):=by
 obtain ⟨⟨_,h1⟩,⟨_,h2⟩,⟨_,h3⟩⟩:=jj (dx hv hi)
 exact ⟨iD m x y z h1,iD m x y z h2,iD m x y z h3⟩
theorem Cu {i : Nat} (hi : i < m.f.length) : fk (mvM m x y z) i=fk m i + 3 * z:=by
 obtain ⟨h1,h2,h3⟩:=KD (x:=x) (y:=y) (z:=z) hv hi
 unfold fk
 rw [h1,h2,h3]
 simp only [mvS]
 omega
theorem KE {i : Nat} (hi : i < m.f.length) : twF (mvM m x y z) i=twF m i:=by
 unfold twF
 rw [jn,mr m x y z (dx hv hi),mX]
omit hv in
end
end Go.Gv

set_option maxRecDepth 4000
namespace Go.Gv
def upT (f : Nat -> Int) (n i : Nat) : List Int:=(List.range n).map fun j=>if j < i then f j else 0
def S8 (C : CC) : Prop:=∀ (m : Msh) (cs : List D),m.f.length < 2 ^ 62 -> (∀ a b : Nat,a < m.f.length -> b < m.f.length -> C 375 (.int .i64 a::.int .i64 b::cs) (.int .i64 (fk m b - fk m a)) []) -> ∃ Q,Ord m Q /\ C 374 [.own 1 (KF (List.range m.f.length)),.fn 375 cs] .any [.own 1 (KF Q),.nilp]
variable {C : CC} (hC : az prog C)
include hC
end Go.Gv

set_option maxRecDepth 4000
namespace Go.Gv
variable {C : CC} (hC : az prog C)
include hC
end Go.Gv

set_option maxRecDepth 4000
namespace Go.Gv
variable {C : CC} (hC : az prog C)
include hC
end Go.Gv

namespace Go.Gv
structure RFW (m : Msh) (r : RF) : Prop where
 rc : r.rc.length=m.f.length
 lf : r.lf.length=m.f.length
 lv : r.lv.length=m.f.length
 ou : r.ou.length=m.f.length
theorem RFW.p1 {m : Msh} {i : Nat} {r : RF} {k : Int} (h : RFW m r) : RFW m (eT m i r k):=by
 unfold eT
 split
 ·exact ⟨by simp [h.rc],h.lf,by simp [h.lv],by simp [h.ou]⟩
 ·exact h
theorem RFW.i {m : Msh} {i : Nat} {r : RF} (h : RFW m r) : ∀ j,RFW m (rfI m i r j)
 | 0=>h
 | j + 1=>(RFW.i h j).p1
section
variable {C : Nat -> List D -> D -> List D -> Prop} (hC : az prog C)
include hC
end
end Go.Gv

namespace Go.Gv
section
variable {C : Nat -> List D -> D -> List D -> Prop} (hC : az prog C)
include hC
theorem qe (dec : Nat -> List UInt8) (hI : ∀ n : Nat,n < 100 -> C 127 [.int .i64 n] (.str (dec n)) []) (m : Msh) (hz : cg m=true -> m.s.length <= 100 /\ m.f.length <= 100) :
  C 243 [.agg (b7 m)] (if av m then .tup [.sl (inR (aQ m).sp),.int .i64 0] else .tup [.nils,.int .i64 1]) []:=by
 have k:=gj hC dec hI m hz
 simp only [ai] at k
 refine aF hC (nf:=N243) rfl rfl ?_
 simp [N243,ai]
 refine aa k (.inr rfl) ?_
 cases hv : av m
 ·simp
 ·simp [ee]
theorem ke (dec : Nat -> List UInt8) (hI : ∀ n : Nat,n < 100 -> C 127 [.int .i64 n] (.str (dec n)) []) (m : Msh) (hz : cg m=true -> m.s.length <= 100 /\ m.f.length <= 100) :
  C 244 [.agg (b7 m)] (if av m then .tup [.sl (inR (aQ m).ou),.int .i64 0] else .tup [.nils,.int .i64 1]) []:=by
 have k:=gj hC dec hI m hz
 simp only [ai] at k
 refine aF hC (nf:=N244) rfl rfl ?_
 simp [N244,ai]
 refine aa k (.inr rfl) ?_
 cases hv : av m
 ·simp
 ·simp [ee]
end
end Go.Gv

namespace Go.Gv
theorem vj {ou : List Int} {a : Nat} (h : ou.getD a 0=-1) : ∀ k,mth ou k a=a
 | 0=>rfl
 | k + 1=>by simp only [mth,h,if_true]
theorem vi {n : Nat} {ou : List Int} {rc : List Bool} {d a b : Nat} (e1 : ou.getD a 0=b) (e3 : jy n ou rc d b) {k : Nat} (hk : d + 1 <= k) : mth ou k a=mth ou k b:=by
 cases k with
 | zero=>omega
 | succ k =>
  rw [oo e3 (k + 1) (by omega),<- oo e3 k (by omega)]
  simp only [mth,e1]
  rw [if_neg (by omega)]
  simp
def qW (m : Msh) (a : Nat) : Int:=(mth (aQ m).ou m.f.length a : Nat)
def drT (m : Msh) (i : Nat) : List Int:=(List.range i).map (qW m)++List.replicate (m.f.length - i) 0
def drL (m : Msh) : List Int:=(List.range m.f.length).map (qW m)
theorem xf {m : Msh} {i : Nat} (h : i <= m.f.length) : (drT m i).length=m.f.length:=by simp [drT];omega
theorem xg {m : Msh} {i : Nat} (h : i < m.f.length) : (drT m i).set i (qW m i)=drT m (i + 1):=by
 unfold drT
 apply List.ext_getElem (by simp;omega)
 intro j h1 h2
 simp only [List.getElem_set,List.getElem_append,List.length_map,List.length_range,List.getElem_map,List.getElem_range,List.getElem_replicate]
 split <;> split <;> (try split) <;> first | rfl | omega | (simp_all;done)
theorem xe (m : Msh) : drT m m.f.length=drL m:=by simp [drT,drL]
section
variable {C : Nat -> List D -> D -> List D -> Prop} (hC : az prog C)
include hC
set_option maxHeartbeats 1000000 in
theorem sw (dec : Nat -> List UInt8) (hI : ∀ n : Nat,n < 100 -> C 127 [.int .i64 n] (.str (dec n)) []) (m : Msh) (hz : cg m=true -> m.s.length <= 100 /\ m.f.length <= 100) :
  C 245 [.agg (b7 m)] (if av m then .tup [.sl (inR (drL m)),.int .i64 0] else .tup [.nils,.int .i64 1]) []:=by
 have k:=gj hC dec hI m hz
 simp only [ai] at k
 refine aF hC (nf:=N245) rfl rfl ?_
 simp [N245,ai]
 refine aa k (.inr rfl) ?_
 cases hv : av m
 ·simp
 ·have hsz:=(cW hv).2
  have W:=fP m
  obtain ⟨ou,hou⟩ : ∃ ou,ou=(aQ m).ou:=⟨_,rfl⟩
  have hol : ou.length=m.f.length:=by rw [hou];exact W.ou
  have hen : ∀ a,a < m.f.length -> ∃ d,d <= m.f.length /\ jy m.f.length ou (b6 m).rc d a:=fun a ha=>by rw [hou];exact l5 hv ha
  have hmo : ∀ a,qW m a=(mth ou m.f.length a : Nat):=fun a=>by rw [hou];rfl
  simp [ee,<- hou,hol]
  refine ⟨by omega,?_⟩
  refine aD Nat (fun i=>[(4,.ptr [.sl (nbA m),slx true (inR (bA m)),.sl (inR (aQ m).sp),.sl (inR ou)]),(6,.ref (.r 10096) 0 m.f.length),(24,.int .i64 m.f.length),(25,.int .i64 i),(10096,.blk 1 (inR (drT m i)))]) (fun i=>i <= m.f.length) (fun i=>m.f.length - i) 0 (by simp) (by simp [drT,inR]) ?_
  rintro i hi
  have hw : IntKind.wrap .i64 ((i : Int) + 1)=((i + 1 : Nat) : Int):=ah (by omega) (by omega)
  have hdl:=xf hi
  simp
  refine al (fun g1=>?_) (fun g1=>?_) <;> simp at g1 <;> simp [g1]
  ·obtain ⟨d0,hd0,he0⟩:=hen i g1
   refine aD (Nat × Nat) (fun s=>[(4,.ptr [.sl (nbA m),slx true (inR (bA m)),.sl (inR (aQ m).sp),.sl (inR ou)]),(6,.ref (.r 10096) 0 m.f.length),(7,.int .i64 i),(8,.int .i64 s.1),(24,.int .i64 m.f.length),(25,.int .i64 i),(10096,.blk 1 (inR (drT m i)))]) (fun s=>s.1 < m.f.length /\ s.2 <= m.f.length /\ jy m.f.length ou (b6 m).rc s.2 s.1 /\ mth ou m.f.length s.1=mth ou m.f.length i) (fun s=>s.2) (i,d0) ⟨g1,hd0,he0,rfl⟩ (by simp) ?_
   rintro ⟨a,d⟩ ⟨q1,q2,q3,q4⟩
   simp only at q1 q2 q3 q4
   have hao : a < ou.length:=by omega
   simp [aG (cu hao)]
   refine al (fun g2=>?_) (fun g2=>?_) <;> simp at g2
   ·cases d with
    | zero =>
     have : ou.getD a 0=-1:=q3
     simp at this
     exact absurd this g2
    | succ d =>
     obtain ⟨b,hb,e1,e2,e3⟩:=q3
     have e1' : ou[a]?.getD 0=(b : Int):=by simpa using e1
     simp [g2,aG (cu hao),e1']
     exact ⟨b,d,⟨hb,by omega,e3,by rw [<- q4,vi e1 e3 q2]⟩,by omega,rfl⟩
   ·have h1 : ou.getD a 0=-1:=by simpa using g2
    rw [vj h1] at q4
    have hmi : qW m i=(a : Int):=by rw [hmo,<- q4]
    have hst:=xg g1
    rw [hmi] at hst
    have hil : i < (drT m i).length:=by omega
    simp [g2,g1,cu hil,qP,hst]
    exact ⟨i + 1,by omega,by omega,hw,rfl⟩
  ·have hin : i=m.f.length:=by omega
   subst hin
   rw [xe] at hdl ⊢
   have:=mh (drL m)
   rw [hdl] at this
   simp [this]
   omega
end
end Go.Gv

namespace Go.Gv
def exS : Msh:=⟨false,[⟨0,0,1⟩,⟨10,0,2⟩,⟨0,10,4⟩],false,[⟨0,1,2,0⟩]⟩
theorem uO : av exS=true:=by decide +kernel
theorem z6 : (b6 exS).lv=[7] /\ (b6 exS).ou=[-1]:=by decide +kernel
theorem HV : bA exS=[7]:=by decide +kernel
theorem uN : (aQ exS).sp=[7]:=(cY uO).1.trans z6.1
theorem uM : (aQ exS).ou=[-1]:=(cY uO).2.trans z6.2
theorem Bq : drL exS=[0]:=by
 show [qW exS 0]=[0]
 unfold qW
 rw [uM]
 rfl
theorem Br : cm exS=[]:=by
 show cK exS 1=[]
 rw [mB (by unfold f9;rw [uN,HV];rfl)]
 rfl
section
variable {C : Nat -> List D -> D -> List D -> Prop} (hC : az prog C)
include hC
theorem qf (dec : Nat -> List UInt8) (hI : ∀ n : Nat,n < 100 -> C 127 [.int .i64 n] (.str (dec n)) []) (m : Msh) (hz : cg m=true -> m.s.length <= 100 /\ m.f.length <= 100) :
  C 279 [.agg (b7 m)] (if av m then .tup [.sl (hJ (cm m)),.int .i64 0] else .tup [.nils,.int .i64 1]) []:=by
 have k:=gj hC dec hI m hz
 simp only [ai] at k
 refine aF hC (nf:=N279) rfl rfl ?_
 simp [N279,ai]
 refine aa k (.inr rfl) ?_
 cases hv : av m
 ·simp
 ·have kp:=vG hC m hv
  rw [show ee m=.ptr [.sl (nbA m),slx true (inR (bA m)),.sl (inR (aQ m).sp),.sl (inR (aQ m).ou)] from rfl] at kp ⊢
  simp
  refine aa kp (.inr rfl) ?_
  simp
theorem sG (dec : Nat -> List UInt8) (hI : ∀ n : Nat,n < 100 -> C 127 [.int .i64 n] (.str (dec n)) []) : C 241 [] (.bool true) []:=by
 have hz : cg exS=true -> exS.s.length <= 100 /\ exS.f.length <= 100:=fun _=>by simp [exS]
 have k1:=qe hC dec hI exS hz
 have k2:=ke hC dec hI exS hz
 have k3:=sw hC dec hI exS hz
 have k4:=qf hC dec hI exS hz
 have q1:=o9 hC false false [7] [7] (by simp) (by simp)
 have q2:=o9 hC false false [-1] [-1] (by simp) (by simp)
 have q3:=o9 hC false false [0] [0] (by simp) (by simp)
 rw [uO] at k1 k2 k3 k4
 rw [uN] at k1
 rw [uM] at k2
 rw [Bq] at k3
 rw [Br] at k4
 simp only [ai] at k1 k2 k3 k4
 simp [exS,qM,hJ,dt,bU] at k1 k2 k3 k4 q1 q2 q3
 refine aF hC (nf:=N241) rfl rfl ?_
 simp [N241]
 refine aa k1 (.inr rfl) ?_
 simp
 refine aa k2 (.inr rfl) ?_
 simp
 refine aa k3 (.inr rfl) ?_
 simp
 refine aa k4 (.inr rfl) ?_
 simp
 refine aa q1 (.inl rfl) ?_
 simp
 refine aa q2 (.inl rfl) ?_
 simp
 refine aa q3 (.inl rfl) ?_
 simp
end
end Go.Gv

namespace Go.Gv
structure LvI (m : Msh) (r : RF) (P : Nat -> Nat -> Prop) : Prop where
 rcl : r.rc.length=m.f.length
 lfl : r.lf.length=m.f.length
 lvl : r.lv.length=m.f.length
 oul : r.ou.length=m.f.length
 l1 : ∀ a,r.lf.getD a false=true -> r.rc.getD a false=true
 l2 : ∀ a b,r.lf.getD a false=true -> r.rc.getD b false=true -> r.lf.getD b false=false -> r.lv.getD a 0 <= r.lv.getD b 0
 bd : ∀ a,a < m.f.length -> bsd m a (-1)=true -> r.rc.getD a false=true
 l3 : ∀ a,a < m.f.length -> r.rc.getD a false=true -> (bsd m a (-1)=true /\ r.ou.getD a 0=-1 /\ r.lv.getD a 0=(bA m).getD a 0) \/
  (bsd m a (-1)=false /\ ∃ z : Nat,z < m.f.length /\ r.ou.getD a 0=z /\ r.lf.getD z false=true /\ (∃ c,c < 3 /\ nbF m a c=z) /\ r.lv.getD a 0=max ((bA m).getD a 0) (r.lv.getD z 0))
 l4 : ∀ y,r.lf.getD y false=true -> ∀ c,c < 3 -> P y c -> ∀ x : Nat,nbF m y c=x -> r.rc.getD x false=true /\ r.lv.getD x 0 <= max ((bA m).getD x 0) (r.lv.getD y 0)
theorem LvI.p1 {m : Msh} (hv : av m=true) {a j : Nat} {r : RF} (ha : a < m.f.length) (hj : j < 3) (hla : r.lf.getD a false=true) (hat : ∀ z,r.lf.getD z false=true -> r.lv.getD z 0 <= r.lv.getD a 0) {P : Nat -> Nat -> Prop} (h : LvI m r P) :
  LvI m (eT m a r (nbF m a j)) (fun y c=>P y c \/ (y=a /\ c=j)) /\ (eT m a r (nbF m a j)).lf=r.lf /\ ∀ z,r.lf.getD z false=true -> (eT m a r (nbF m a j)).lv.getD z 0=r.lv.getD z 0:=by
 have hb:=eM m a j
 unfold eT
 split
 ·rename_i hc
  obtain ⟨x0,hx0⟩ : ∃ x0 : Nat,nbF m a j=x0:=⟨(nbF m a j).toNat,by omega⟩
  rw [hx0] at hc hb ⊢
  simp only [Int.toNat_natCast] at hc ⊢
  have hxn : x0 < m.f.length:=by omega
  obtain ⟨v,hvv⟩ : ∃ v,v=(if r.lv.getD a 0 < (bA m).getD x0 0 then (bA m).getD x0 0 else r.lv.getD a 0):=⟨_,rfl⟩
  have hv1 : v=max ((bA m).getD x0 0) (r.lv.getD a 0):=by rw [hvv];split <;> omega
  rw [<- hvv]
  have grc : ∀ i,(r.rc.set x0 true).getD i false=if i=x0 then true else r.rc.getD i false:=fun i=>bk (by rw [h.rcl];exact hxn)
  have glv : ∀ i,(r.lv.set x0 v).getD i 0=if i=x0 then v else r.lv.getD i 0:=fun i=>bk (by rw [h.lvl];exact hxn)
  have gou : ∀ i,(r.ou.set x0 (a : Int)).getD i 0=if i=x0 then (a : Int) else r.ou.getD i 0:=fun i=>bk (by rw [h.oul];exact hxn)
  have hne : ∀ i,r.rc.getD i false=true -> i ≠ x0:=fun i hi e=>by rw [e,hc.2] at hi;cases hi
  have hmono : ∀ i,r.rc.getD i false=true -> (r.rc.set x0 true).getD i false=true:=fun i hi=>by rw [grc,if_neg (hne i hi)];exact hi
  have hkeep : ∀ z,r.lf.getD z false=true -> (r.lv.set x0 v).getD z 0=r.lv.getD z 0:=fun z hz=>by rw [glv,if_neg (hne z (h.l1 z hz))]
  refine ⟨⟨by simp [h.rcl],h.lfl,by simp [h.lvl],by simp [h.oul],fun i hi=>hmono i (h.l1 i hi),fun i k hi hk hk2=>?_,fun i hi hbi=>hmono i (h.bd i hi hbi),fun i hi hir=>?_,fun y hy c hc3 hP x hx=>?_⟩,trivial,hkeep⟩
  ·simp only at hi hk hk2 ⊢
   rw [hkeep i hi,glv]
   split
   ·have:=hat i hi
    omega
   ·rename_i e
    rw [grc,if_neg e] at hk
    exact h.l2 i k hi hk hk2
  ·simp only at hir ⊢
   by_cases e : i=x0
   ·subst e
    right
    have hnb : bsd m i (-1)=false:=by
     cases hh : bsd m i (-1)
     ·rfl
     ·have:=h.bd i hi hh
      rw [hc.2] at this
      cases this
    obtain ⟨c',hc',e'⟩:=qZ hv ha hj (by omega)
    rw [hx0] at e'
    refine ⟨hnb,a,ha,by rw [gou,if_pos rfl],hla,⟨c',hc',by simpa using e'⟩,?_⟩
    rw [glv,if_pos rfl,hkeep a hla,hv1]
   ·rw [grc,if_neg e] at hir
    rw [gou,if_neg e,glv,if_neg e]
    rcases h.l3 i hi hir with h5 | ⟨h5,z,hz,h6,h7,h8,h9⟩
    ·exact .inl h5
    ·exact .inr ⟨h5,z,hz,h6,h7,h8,by rw [hkeep z h7];exact h9⟩
  ·simp only at hy ⊢
   rw [hkeep y hy]
   rcases hP with hP | ⟨rfl,rfl⟩
   ·obtain ⟨h5,h6⟩:=h.l4 y hy c hc3 hP x hx
    rw [glv,if_neg (hne x h5)]
    exact ⟨hmono x h5,h6⟩
   ·have e : x=x0:=by omega
    subst e
    rw [grc,if_pos rfl,glv,if_pos rfl,hv1]
    exact ⟨by simp,Int.le_refl _⟩
 ·rename_i hc
  refine ⟨⟨h.rcl,h.lfl,h.lvl,h.oul,h.l1,h.l2,h.bd,h.l3,fun y hy c hc3 hP x hx=>?_⟩,rfl,fun _ _=>rfl⟩
  rcases hP with hP | ⟨rfl,rfl⟩
  ·exact h.l4 y hy c hc3 hP x hx
  ·have hxn : x < m.f.length:=by omega
   have hr : r.rc.getD x false=true:=by
    cases hh : r.rc.getD x false
    ·exact absurd ⟨by omega,by rw [hx];simpa using hh⟩ hc
    ·rfl
   refine ⟨hr,?_⟩
   rcases h.l3 x hxn hr with h5 | ⟨h5,z,hz,h6,h7,h8,h9⟩
   ·omega
   ·have:=hat z h7
    omega
theorem LvI.weaken {m : Msh} {r : RF} {P Q : Nat -> Nat -> Prop} (h : LvI m r P) (hPQ : ∀ y c,c < 3 -> r.lf.getD y false=true -> Q y c -> P y c) : LvI m r Q :=
 ⟨h.rcl,h.lfl,h.lvl,h.oul,h.l1,h.l2,h.bd,h.l3,fun y hy c hc hq=>h.l4 y hy c hc (hPQ y c hc hy hq)⟩
theorem LvI.i {m : Msh} (hv : av m=true) {a : Nat} {r : RF} (ha : a < m.f.length) (hla : r.lf.getD a false=true) (hat : ∀ z,r.lf.getD z false=true -> r.lv.getD z 0 <= r.lv.getD a 0) {P : Nat -> Nat -> Prop} (h : LvI m r P) : ∀ j,j <= 3 ->
  LvI m (rfI m a r j) (fun y c=>P y c \/ (y=a /\ c < j)) /\ (rfI m a r j).lf=r.lf /\ ∀ z,r.lf.getD z false=true -> (rfI m a r j).lv.getD z 0=r.lv.getD z 0
 | 0,_=>⟨h.weaken fun y c _ _ hq=>by rcases hq with h | h;exact h;omega,rfl,fun _ _=>rfl⟩
 | j + 1,hj=>by
  obtain ⟨h1,h2,h3⟩:=LvI.i hv ha hla hat h j (by omega)
  obtain ⟨q1,q2,q3⟩:=h1.p1 hv ha (show j < 3 by omega) (by rw [h2];exact hla) (fun z hz=>by rw [h2] at hz;rw [h3 z hz,h3 a hla];exact hat z hz)
  refine ⟨q1.weaken fun y c hc _ hq=>?_,by show (eT m a (rfI m a r j) (nbF m a j)).lf=_;rw [q2,h2],fun z hz=>by show (eT m a (rfI m a r j) (nbF m a j)).lv.getD z 0=_;rw [q3 z (by rw [h2];exact hz),h3 z hz]⟩
  rcases hq with h | ⟨h4,h5⟩
  ·exact .inl (.inl h)
  ·by_cases e : c=j
   ·exact .inr ⟨h4,e⟩
   ·exact .inl (.inr ⟨h4,by omega⟩)
theorem LvI.step {m : Msh} (hv : av m=true) {r : RF} (h : LvI m r fun _ _=>True) : LvI m (dB m r) fun _ _=>True:=by
 unfold dB
 split
 ·exact h
 ·rename_i h0
  rcases gw r m.f.length with ⟨h1,_⟩ | ⟨a,h1,h2,h3,h4⟩
  ·omega
  ·rw [h1]
   simp only [Int.toNat_natCast]
   have h3' : r.rc.getD a false=true /\ r.lf.getD a false=false:=by simpa [act] using h3
   have glf : ∀ i,(r.lf.set a true).getD i false=if i=a then true else r.lf.getD i false:=fun i=>bk (by rw [h.lfl];exact h2)
   have hat : ∀ z,(r.lf.set a true).getD z false=true -> r.lv.getD z 0 <= r.lv.getD a 0:=fun z hz=>by
    rw [glf] at hz
    split at hz
    ·rename_i e;rw [e];exact Int.le_refl _
    ·exact h.l2 z a hz h3'.1 h3'.2
   have hI : LvI m { r with lf:=r.lf.set a true } fun y _=>y ≠ a:=by
    refine ⟨h.rcl,by simp [h.lfl],h.lvl,h.oul,fun i hi=>?_,fun i k hi hk hk2=>?_,h.bd,fun i hi hir=>?_,fun y hy c hc hne x hx=>?_⟩
    ·simp only at hi
     rw [glf] at hi
     split at hi
     ·rename_i e;rw [e];exact h3'.1
     ·exact h.l1 i hi
    ·simp only at hi hk hk2 ⊢
     rw [glf] at hk2
     split at hk2
     ·cases hk2
     ·rename_i e
      have hak : act r k=true:=by simp only [act,hk,hk2];rfl
      by_cases hkn : k < m.f.length
      ·have h5:=h4 k hkn hak
       have h6:=hat i hi
       omega
      ·have : r.rc.getD k false=false:=by
        rw [List.getD_eq_getElem?_getD,List.getElem?_eq_none (by rw [h.rcl];omega)];rfl
       rw [this] at hk;cases hk
    ·rcases h.l3 i hi hir with h5 | ⟨h5,z,hz,h6,h7,h8,h9⟩
     ·exact .inl h5
     ·refine .inr ⟨h5,z,hz,h6,?_,h8,h9⟩
      show (r.lf.set a true).getD z false=true
      rw [glf];split
      ·rfl
      ·exact h7
    ·simp only at hy
     rw [glf,if_neg hne] at hy
     exact h.l4 y hy c hc trivial x hx
   have:=(hI.i (a:=a) hv h2 (by show (r.lf.set a true).getD a false=true;rw [glf,if_pos rfl]) hat 3 (Nat.le_refl _)).1
   refine this.weaken fun y c hc _ _=>?_
   by_cases e : y=a
   ·exact .inr ⟨e,hc⟩
   ·exact .inl e
theorem LvI.run {m : Msh} (hv : av m=true) : ∀ (k : Nat) {r : RF},LvI m r (fun _ _=>True) -> LvI m (rfN m k r) fun _ _=>True
 | 0,_,h=>h
 | k + 1,_,h=>LvI.run hv k (h.step hv)
theorem kK (m : Msh) : ∀ i a,(rf0 m i).1.getD a false=true -> bsd m a (-1)=true
 | 0,a,h=>by
  simp [rf0,List.getElem?_replicate] at h
  split at h <;> cases h
 | i + 1,a,h=>by
  unfold rf0 at h
  split at h
  ·rename_i hb
   rcases ma h with rfl | h
   ·exact hb
   ·exact kK m i a h
  ·exact kK m i a h
theorem LvI.init (m : Msh) : LvI m (dU m) fun _ _=>True:=by
 have hf : ∀ i,(List.replicate m.f.length false).getD i false=false:=fun i=>by simp [List.getElem?_replicate];split <;> rfl
 refine ⟨(dT m _).1,by simp [dU],(dT m _).2,by simp [dU],fun a ha=>?_,fun a b ha _ _=>?_,fun a ha hb=>rn m _ (Nat.le_refl _) a ha hb,fun a ha hr=>.inl ⟨kK m _ a hr,?_,oF m _ (Nat.le_refl _) a hr⟩,fun y hy=>?_⟩
 ·exact absurd ((hf a).symm.trans ha) (by decide)
 ·exact absurd ((hf a).symm.trans ha) (by decide)
 ·show (List.replicate m.f.length (-1 : Int)).getD a 0=-1
  simp [List.getElem?_replicate,ha]
 ·exact absurd ((hf y).symm.trans hy) (by decide)
def spF (m : Msh) (a : Nat) : Int:=(aQ m).sp.getD a 0
def suF (m : Msh) (a : Nat) : Int:=(bA m).getD a 0
def ouF (m : Msh) (a : Nat) : Int:=(aQ m).ou.getD a 0
theorem nA {m : Msh} (hv : av m=true) : LvI m (b6 m) fun _ _=>True:=(LvI.init m).run hv _
theorem kQ {m : Msh} (hv : av m=true) {a : Nat} (ha : a < m.f.length) (hb : bsd m a (-1)=true) : spF m a=suF m a /\ ouF m a=-1:=by
 obtain ⟨e1,e2⟩:=cY hv
 unfold spF suF ouF
 rw [e1,e2]
 rcases (nA hv).l3 a ha (ez hv a ha) with h | ⟨h,_⟩
 ·exact ⟨h.2.2,h.2.1⟩
 ·rw [hb] at h;cases h
theorem kR {m : Msh} (hv : av m=true) {a : Nat} (ha : a < m.f.length) (hb : bsd m a (-1)=false) : ∃ z : Nat,z < m.f.length /\ ouF m a=z /\ (∃ c,c < 3 /\ nbF m a c=z) /\ spF m a=max (suF m a) (spF m z):=by
 obtain ⟨e1,e2⟩:=cY hv
 unfold spF suF ouF
 rw [e1,e2]
 rcases (nA hv).l3 a ha (ez hv a ha) with h | ⟨_,z,h1,h2,_,h4,h5⟩
 ·rw [hb] at h;cases h.1
 ·exact ⟨z,h1,h2,h4,h5⟩
theorem AM {m : Msh} (hv : av m=true) {a : Nat} (ha : a < m.f.length) : suF m a <= spF m a:=by
 cases hb : bsd m a (-1)
 ·obtain ⟨z,_,_,_,h⟩:=kR hv ha hb
  omega
 ·have:=kQ hv ha hb
  omega
end Go.Gv

namespace Go.Gv
open Go.Lib
variable {C : CC} (hC : az prog C)
include hC
end Go.Gv

namespace Go.Gv
def DvS (x b i a q r : Nat) : Prop:=i <= 128 /\ r < b /\ ∃ c,a=c * 2 ^ i /\ c < 2 ^ (128 - i) /\ (q * b + r) * 2 ^ (128 - i) + c=x
theorem DvS.step {x b i a q r : Nat} (h : DvS x b i a q r) (hi : i < 128) (hb : 0 < b) :
  a < 340282366920938463463374607431768211456 /\ 2 * q <= x /\
  ∀ w r' a',2 * r + a / 170141183460469231731687303715884105728=w * b + r' -> r' < b -> a'=2 * a % 340282366920938463463374607431768211456 -> DvS x b (i + 1) a' (2 * q + w) r' /\ 2 * q + w <= x:=by
 obtain ⟨_,hr,c,h1,h2,h3⟩:=h
 obtain ⟨m,hm⟩ : ∃ m,m + 1=128 - i:=⟨127 - i,by omega⟩
 have hm2 : m=128 - (i + 1):=by omega
 rw [<- hm,Nat.pow_succ] at h2 h3
 obtain ⟨V,hV⟩ : ∃ V,V=2 ^ m:=⟨_,rfl⟩
 obtain ⟨W,hW⟩ : ∃ W,W=2 ^ i:=⟨_,rfl⟩
 have hVW : V * W=170141183460469231731687303715884105728:=by
  rw [hV,hW,<- Nat.pow_add,show m + i=127 by omega]
 have hVp : 0 < V:=by rw [hV];exact Nat.two_pow_pos m
 rw [<- hV] at h2 h3
 rw [<- hW] at h1
 obtain ⟨t,ht⟩ : ∃ t,t=c / V:=⟨_,rfl⟩
 obtain ⟨d,hd⟩ : ∃ d,d=c % V:=⟨_,rfl⟩
 have hc : c=t * V + d:=by rw [ht,hd,Nat.mul_comm];exact (Nat.div_add_mod c V).symm
 have hdV : d < V:=by rw [hd];exact Nat.mod_lt _ hVp
 have ht1 : t <= 1:=by
  have : t < 2:=by rw [ht,Nat.div_lt_iff_lt_mul hVp];omega
  omega
 have ha : a=t * 170141183460469231731687303715884105728 + d * W:=by
  rw [h1,hc,Nat.add_mul,Nat.mul_assoc,hVW]
 have hdW : d * W < 170141183460469231731687303715884105728:=by
  have : (d + 1) * W <= V * W:=Nat.mul_le_mul_right _ hdV
  rw [hVW,Nat.add_mul] at this
  have hWp : 0 < W:=by rw [hW];exact Nat.two_pow_pos i
  omega
 have hbit : a / 170141183460469231731687303715884105728=t:=by
  rw [ha];generalize d * W=z at *;omega
 have fin : ∀ w r',2 * r + t=w * b + r' -> ((2 * q + w) * b + r') * V + d=x:=fun w r' e=>by
  have e1 : (2 * q + w) * b + r'=2 * (q * b + r) + t:=by
   rw [Nat.add_mul,Nat.mul_assoc]
   generalize q * b=z at *
   generalize w * b=z' at *
   omega
  rw [e1,<- h3,hc,Nat.add_mul,Nat.mul_comm V 2,<- Nat.mul_assoc,Nat.mul_comm (q * b + r) 2]
  omega
 have big : ∀ w r',2 * r + t=w * b + r' -> 2 * q + w <= x:=fun w r' e=>by
  have e1:=fin w r' e
  have e2 : 2 * q + w <= (2 * q + w) * b:=Nat.le_mul_of_pos_right _ hb
  have e3 : (2 * q + w) * b + r' <= ((2 * q + w) * b + r') * V:=Nat.le_mul_of_pos_right _ hVp
  omega
 refine ⟨?_,?_,?_⟩
 ·rw [ha];generalize d * W=z at *;omega
 ·exact Nat.le_trans (Nat.le_add_right _ _) (big _ _ (Nat.div_add_mod' (2 * r + t) b).symm)
 ·intro w r' a' e hr' ha'
  rw [hbit] at e
  refine ⟨⟨by omega,hr',d,?_,?_,?_⟩,big w r' e⟩
  ·rw [ha',ha,Nat.pow_succ,<- hW,Nat.mul_comm W 2,Nat.mul_left_comm]
   generalize d * W=z at *
   omega
  ·rw [<- hm2,<- hV];exact hdV
  ·rw [<- hm2,<- hV];exact fin w r' e
theorem DvS.last {x b a q r : Nat} (h : DvS x b 128 a q r) : q=x / b /\ r=x % b:=by
 obtain ⟨_,hr,c,h1,h2,h3⟩:=h
 simp at h2 h3
 subst h2
 simp at h3
 subst h3
 have hb : 0 < b:=by omega
 rw [Nat.mul_comm,Nat.mul_add_div hb,Nat.div_eq_of_lt hr,Nat.mul_add_mod,Nat.mod_eq_of_lt hr]
 exact ⟨rfl,rfl⟩
variable {C : CC} (hC : az prog C)
include hC
end Go.Gv

namespace Go.Gv
variable {C : CC} (hC : az prog C)
include hC
end Go.Gv

namespace Go.Gv
open Go.Lib
def i9 (v : Int) : D:=f7 v.natAbs (decide (v < 0))
theorem gP {v : Int} {p : Nat} {b : Bool} (h1 : v.natAbs=p) (h2 : decide (v < 0)=b) : i9 v=f7 p b:=by rw [i9,h1,h2]
theorem ek (p : Nat) (b : Bool) : ∃ x y : Nat,x=p / 18446744073709551616 /\ y=p % 18446744073709551616 /\ f7 p b=.agg [.int .u64 x,.int .u64 y,.bool b]:=⟨_,_,rfl,rfl,rfl⟩
variable {C : CC} (hC : az prog C)
include hC
end Go.Gv

namespace Go.Gv
open Go.Lib
variable {C : CC} (hC : az prog C)
include hC
end Go.Gv

namespace Go.Gv
open Go.Lib
theorem en (v : Int) : ∃ h l : Int,h=v / 1152921504606846976 /\ l=v % 1152921504606846976 /\ wiS v=.agg [.int .i64 h,.int .i64 l]:=⟨_,_,rfl,rfl,rfl⟩
variable {C : CC} (hC : az prog C)
include hC
theorem tq (v : Int) (h : -1329227995784915872903807060280344576 < v /\ v < 1329227995784915872903807060280344576) : C 105 [i9 v] (.tup [wiS v,.int .i64 0]) []:=by
 by_cases v0 : v < 0
 ·have k:=nP hC v.natAbs (by omega) (by omega)
  rw [show -((v.natAbs : Nat) : Int)=v by omega] at k
  rw [i9,decide_eq_true v0]
  exact k
 ·have k:=mD hC v.natAbs (by omega)
  rw [<- lN,show ((v.natAbs : Nat) : Int)=v by omega] at k
  rw [i9,decide_eq_false v0]
  exact k
set_option maxHeartbeats 2000000 in
theorem mZ (v : Int) (h : -1329227995784915872903807060280344576 <= v /\ v < 1329227995784915872903807060280344576) : C 108 [wiS v] (i9 v) []:=by
 by_cases v0 : v < 0
 ·obtain ⟨ph,pl,hph,hpl,e0⟩:=en v
  obtain ⟨n,hn⟩ : ∃ n : Nat,n=ph.natAbs:=⟨_,rfl⟩
  obtain ⟨l,hl⟩ : ∃ l : Nat,l=pl.natAbs:=⟨_,rfl⟩
  obtain ⟨p,hp⟩ : ∃ p,p=v.natAbs:=⟨_,rfl⟩
  obtain ⟨zh,zl,hzh,hzl,e1⟩:=ek p true
  have epl : pl=(l : Int):=by omega
  have eph : ph=-(n : Int):=by omega
  have k1:=qc hC n (by omega) (by omega)
  rw [gP hp.symm (decide_eq_true v0),e0,e1,epl,eph]
  have h1 : ¬ (0 : Int) <= -(n : Int):=by omega
  obtain ⟨w,hw⟩ : ∃ z,z=n % 16:=⟨_,rfl⟩
  obtain ⟨t,ht⟩ : ∃ z,z=n / 16:=⟨_,rfl⟩
  have s1 : Int.fdiv (n : Int) (2 ^ min 4 IntKind.u64.bits)=(t : Int):=by rw [LS,ht]
  have s2 : IntKind.u64.wrap ((n : Int) * 2 ^ min 60 IntKind.u64.bits)=((w * 1152921504606846976 : Nat) : Int):=AJ n _ (by omega)
  have s3 : IntKind.u64.wrap (l : Int)=(l : Int):=de l (by omega)
  have c1 : (l : Int) < 18446744073709551616:=by omega
  have c2 : ((w * 1152921504606846976 : Nat) : Int) < 18446744073709551616:=by omega
  have s4 : (((w * 1152921504606846976 : Nat) : Int) - (l : Int)) % 18446744073709551616=(zl : Int):=by omega
  have s5 : IntKind.u64.wrap ((t : Int) - (if w * 1152921504606846976 < l then 1 else 0))=(zh : Int):=by
   split <;> exact uw (by omega) (by omega)
  obtain ⟨W,hW⟩ : ∃ W,W=w * 1152921504606846976:=⟨_,rfl⟩
  rw [<- hW] at s2 s4 s5 c2
  obtain ⟨z,hz⟩ : ∃ z,z=-(n : Int):=⟨_,rfl⟩
  rw [<- hz] at k1 h1 ⊢
  have c3 : (0 : Int) <= W:=by omega
  have c4 : (0 : Int) <= l:=by omega
  refine aF hC (nf:=N108) rfl rfl ?_
  simp [N108]
  refine aa k1 (.inl rfl) ?_
  simp [h1]
  rw [s1,s2,s3]
  simp [c1,c2,s4,s5]
 ·have k:=yX hC v.natAbs (by omega)
  rw [<- lN,show ((v.natAbs : Nat) : Int)=v by omega] at k
  rw [i9,decide_eq_false v0]
  exact k
set_option maxRecDepth 20000 in
set_option maxHeartbeats 4000000 in
theorem CW (x y : Int) (hx : x.natAbs < 170141183460469231731687303715884105728) (hy : y.natAbs < 170141183460469231731687303715884105728) : C 107 [i9 x,i9 y] (i9 (x + y)) []:=by
 obtain ⟨p,hp⟩ : ∃ p,p=x.natAbs:=⟨_,rfl⟩
 obtain ⟨r,hr⟩ : ∃ r,r=y.natAbs:=⟨_,rfl⟩
 obtain ⟨s,hs⟩ : ∃ s,s=decide (x < 0):=⟨_,rfl⟩
 obtain ⟨t,ht⟩ : ∃ t,t=decide (y < 0):=⟨_,rfl⟩
 rw [gP hp.symm hs.symm,gP hr.symm ht.symm]
 obtain ⟨ph,pl,hph,hpl,ep⟩:=ek p s
 obtain ⟨rh,rl,hrh,hrl,er⟩:=ek r t
 rw [ep,er]
 have k0 : (0 : Int) <= pl:=by omega
 have k1 : (0 : Int) <= rl:=by omega
 have k3 : (pl : Int) < 18446744073709551616:=by omega
 have k4 : (rl : Int) < 18446744073709551616:=by omega
 by_cases c : s=t
 ·have e : i9 (x + y)=f7 (p + r) (s && !decide (p + r=0)):=gP (by
   subst c
   rw [hs,decide_eq_decide] at ht
   omega) (by
   subst c
   rw [hs] at ht ⊢
   rw [decide_eq_decide] at ht
   rw [Bool.eq_iff_iff]
   simp
   omega)
  obtain ⟨dh,dl,hdh,hdl,ed⟩:=ek (p + r) (s && !decide (p + r=0))
  rw [e,ed]
  have kk:=iK hC dh dl s
  rw [show (s && (!decide ((dh : Int)=0) || !decide ((dl : Int)=0)))=(s && !decide (p + r=0)) by
   congr 1;rw [Bool.eq_iff_iff];simp;omega] at kk
  obtain ⟨w,hw⟩ : ∃ w,w=(s && !decide (p + r=0)):=⟨_,rfl⟩
  rw [<- hw] at kk ⊢
  subst c
  clear hs ht hw e ed
  have e1 : ((pl : Int) + rl) % 18446744073709551616=(dl : Int):=by omega
  have e2 : IntKind.u64.wrap ((ph : Int) + rh)=(ph : Int) + rh:=uw (m:=ph + rh) (by omega) (by omega)
  have e3 : IntKind.u64.wrap ((ph : Int) + rh + ((pl : Int) + rl) / 18446744073709551616)=(dh : Int):=uw (by omega) (by omega)
  obtain ⟨g,hg⟩ : ∃ g,g=((pl : Int) + rl) / 18446744073709551616:=⟨_,rfl⟩
  rw [<- hg] at e3
  refine aF hC (nf:=N107) rfl rfl ?_
  simp [N107,k0,k1,k3,k4,e1,e2,e3,<- hg]
  refine aa kk (.inl rfl) ?_
  simp
 ·have c3 : (s == t)=false:=by simpa using c
  rw [hs,ht,decide_eq_decide] at c
  by_cases l : p < r
  ·have e : i9 (x + y)=f7 (r - p) (t && !decide (r - p=0)):=gP (by
    omega) (by
    rw [Bool.eq_iff_iff,ht]
    simp
    omega)
   obtain ⟨dh,dl,hdh,hdl,ed⟩:=ek (r - p) (t && !decide (r - p=0))
   rw [e,ed]
   have kk:=iK hC dh dl t
   rw [show (t && (!decide ((dh : Int)=0) || !decide ((dl : Int)=0)))=(t && !decide (r - p=0)) by
    congr 1;rw [Bool.eq_iff_iff];simp;omega] at kk
   obtain ⟨w,hw⟩ : ∃ w,w=(t && !decide (r - p=0)):=⟨_,rfl⟩
   rw [<- hw] at kk ⊢
   have e1 : ((rl : Int) - pl) % 18446744073709551616=(dl : Int):=by omega
   have e2 : IntKind.u64.wrap ((rh : Int) - ph)=((rh - ph : Nat) : Int):=uw (by omega) (by omega)
   have e3 : IntKind.u64.wrap (((rh - ph : Nat) : Int) - (if rl < pl then 1 else 0))=(dh : Int):=by
    split <;> exact uw (by omega) (by omega)
   have c5 : ph < rh \/ (ph=rh /\ pl < rl):=by omega
   clear hs ht hw e ed c
   refine aF hC (nf:=N107) rfl rfl ?_
   simp [N107,c3]
   rcases c5 with c5 | ⟨c5,c6⟩
   ·simp [c5,k3,k4,e1,e2]
    rw [e3]
    refine aa kk (.inl rfl) ?_
    simp
   ·have c7 : ¬ rl < pl:=by omega
    have hd : dh=0:=by omega
    have hz : IntKind.u64.wrap 0=0:=de 0 (by omega)
    subst hd
    clear hph hpl hrh hrl hdh hdl k0 k1
    subst c5
    refine al (fun c4=>?_) (fun c4=>?_) <;> simp at c4
    simp
    refine al (fun c4=>?_) (fun c4=>?_) <;> simp at c4
    ·simp [c4,c7,k3,k4,e1,hz]
     refine aa kk (.inl rfl) ?_
     simp
    ·omega
  ·have e : i9 (x + y)=f7 (p - r) (s && !decide (p - r=0)):=gP (by
    omega) (by
    rw [Bool.eq_iff_iff,hs]
    simp
    omega)
   obtain ⟨dh,dl,hdh,hdl,ed⟩:=ek (p - r) (s && !decide (p - r=0))
   rw [e,ed]
   have kk:=iK hC dh dl s
   rw [show (s && (!decide ((dh : Int)=0) || !decide ((dl : Int)=0)))=(s && !decide (p - r=0)) by
    congr 1;rw [Bool.eq_iff_iff];simp;omega] at kk
   obtain ⟨w,hw⟩ : ∃ w,w=(s && !decide (p - r=0)):=⟨_,rfl⟩
   rw [<- hw] at kk ⊢
   have e1 : ((pl : Int) - rl) % 18446744073709551616=(dl : Int):=by omega
   have e2 : IntKind.u64.wrap ((ph : Int) - rh)=((ph - rh : Nat) : Int):=uw (by omega) (by omega)
   have e3 : IntKind.u64.wrap (((ph - rh : Nat) : Int) - (if pl < rl then 1 else 0))=(dh : Int):=by
    split <;> exact uw (by omega) (by omega)
   have c5 : ¬ ph < rh:=by omega
   have c6 : ph=rh -> ¬ pl < rl:=by omega
   clear hs ht hw e ed c
   refine aF hC (nf:=N107) rfl rfl ?_
   simp [N107,c3]
   simp [c5]
   refine al (fun c7=>?_) (fun c7=>?_) <;> simp at c7 <;> simp [c7]
   ·have c8 : ¬ pl < rl:=c6 (by omega)
    have hd : dh=0:=by omega
    have hz : IntKind.u64.wrap 0=0:=de 0 (by omega)
    subst hd
    refine al (fun c4=>?_) (fun c4=>?_) <;> simp at c4 <;> simp [c4]
    ·omega
    simp [c8,k3,k4,e1,hz]
    refine aa kk (.inl rfl) ?_
    simp
   ·simp [k3,k4,e1,e2]
    rw [e3]
    refine aa kk (.inl rfl) ?_
    simp
theorem AQ (x y : Int) (hx : -664613997892457936451903530140172288 <= x /\ x <= 664613997892457936451903530140172287) (hy : -664613997892457936451903530140172288 < y /\ y <= 664613997892457936451903530140172287) : C 327 [wiS x,wiS y] (.tup [wiS (x + y),.int .i64 0]) []:=by
 have k1:=kW hC x (by omega)
 have k2:=kW hC y (by omega)
 have k3:=mZ hC x (by omega)
 have k4:=mZ hC y (by omega)
 have k5:=CW hC x y (by omega) (by omega)
 have k6:=tq hC (x + y) (by omega)
 obtain ⟨a1,a2,_,_,ea⟩:=en x
 obtain ⟨b1,b2,_,_,eb⟩:=en y
 obtain ⟨c1,c2,_,_,ec⟩:=en (x + y)
 obtain ⟨f1,f2,f3,ef⟩ : ∃ (a1 a2 : Nat) (a3 : Bool),i9 x=.agg [.int .u64 a1,.int .u64 a2,.bool a3]:=⟨_,_,_,rfl⟩
 obtain ⟨g1,g2,g3,eg⟩ : ∃ (a1 a2 : Nat) (a3 : Bool),i9 y=.agg [.int .u64 a1,.int .u64 a2,.bool a3]:=⟨_,_,_,rfl⟩
 obtain ⟨h1,h2,h3,eh⟩ : ∃ (a1 a2 : Nat) (a3 : Bool),i9 (x + y)=.agg [.int .u64 a1,.int .u64 a2,.bool a3]:=⟨_,_,_,rfl⟩
 rw [ea] at k1 k3 ⊢
 rw [eb] at k2 k4 ⊢
 rw [ef] at k3 k5
 rw [eg] at k4 k5
 rw [eh] at k5 k6
 rw [ec] at k6 ⊢
 clear ea eb ec ef eg eh
 refine aF hC (nf:=N327) rfl rfl ?_
 simp [N327]
 refine aa k1 (.inl rfl) ?_
 simp
 refine aa k2 (.inl rfl) ?_
 simp
 refine aa k3 (.inl rfl) ?_
 simp
 refine aa k4 (.inl rfl) ?_
 simp
 refine aa k5 (.inl rfl) ?_
 simp
 refine aa k6 (.inr rfl) ?_
 simp
 exact aL (by decide +kernel)
end Go.Gv

namespace Go.Gv
def tn0 (m : Msh) (i : Nat) (p : Pnt) : Int:=dw (ptS (spA m i)) (ptS (spB m i)) p
def tn1 (m : Msh) (i : Nat) (p : Pnt) : Int:=dw (ptS (spB m i)) (ptS (spC m i)) p
def tn2 (m : Msh) (i : Nat) (p : Pnt) : Int:=dw (ptS (spC m i)) (ptS (spA m i)) p
def osF (m : Msh) (i : Nat) (p : Pnt) : Int:=if tn0 m i p < 0 then 0 else if tn1 m i p < 0 then 1 else if tn2 m i p < 0 then 2 else -1
def H0 (m : Msh) (p : Pnt) : Int:=hD (fun i=>decide (osF m i p < 0)) (List.range m.f.length)
def S9 (m : Msh) (i : Nat) : List D:=[.int .i64 (spA m i).x,.int .i64 (spA m i).y,.int .i64 (spA m i).z,.int .i64 (spB m i).x,.int .i64 (spB m i).y,.int .i64 (spB m i).z,.int .i64 (spC m i).x,.int .i64 (spC m i).y,.int .i64 (spC m i).z]
@[simp] theorem Q2 (p : Pnt) : (ptD p).length=2:=_root_.id rfl
@[simp] theorem LC (p : Pnt) : List.take 2 (ptD p)=ptD p:=_root_.id rfl
@[simp] theorem SZ (p : Pnt) : (∀ x,x ∈ ptD p -> isV x=true)=True:=by simp [ptD]
@[simp] theorem SY (p : Pnt) : (∀ x,x ∈ ptD p -> au x=true)=True:=by simp [ptD]
variable {C : CC} (hC : az prog C)
include hC
end Go.Gv

namespace Go.Gv
def onE (m : Msh) (p : Pnt) : Int:=if av m=true /\ okP p=true then (if H0 m p < 0 then 12 else 0) else 1
def onV (m : Msh) (p : Pnt) : Int:=if onE m p=0 then H0 m p else 0
def wlk (m : Msh) (p : Pnt) : Nat -> Nat -> Int × Int × Int
 | r,f=>if osF m f p < 0 then ((f : Int),((m.f.length - r : Nat) : Int),0) else if nbF m f (osF m f p).toNat < 0 then (0,0,12) else match r with
  | 0=>(0,0,6)
  | r + 1=>wlk m p r (nbF m f (osF m f p).toNat).toNat
def wkR (m : Msh) (from_ : Int) (p : Pnt) : Int × Int × Int:=if av m=true /\ okP p=true then (if fz m.f.length from_=true then wlk m p m.f.length from_.toNat else (0,0,2)) else (0,0,1)
def Tl (t : Int × Int × Int) : D:=.tup [.int .i64 t.1,.int .i64 t.2.1,.int .i64 t.2.2]
variable {C : CC} (hC : az prog C)
include hC
end Go.Gv

namespace Go.Gv
open Go.Lib
def th (m : Msh) (i : Nat) (p : Pnt) : Int:=(spA m i).z * tn1 m i p + (spB m i).z * tn2 m i p + (spC m i).z * tn0 m i p
def o7 (m : Msh) (i : Nat) : Int:=dw (ptS (spA m i)) (ptS (spB m i)) (ptS (spC m i))
theorem CX (m : Msh) (i : Nat) (p : Pnt) : tn0 m i p + tn1 m i p + tn2 m i p=o7 m i:=by
 unfold tn0 tn1 tn2 o7 dw ptS
 grind
structure OnF (m : Msh) (i : Nat) (p : Pnt) : Prop where
 z0 : -4194304 <= (spA m i).z /\ (spA m i).z <= 4194304
 z1 : -4194304 <= (spB m i).z /\ (spB m i).z <= 4194304
 z2 : -4194304 <= (spC m i).z /\ (spC m i).z <= 4194304
 t0 : 0 <= tn0 m i p /\ tn0 m i p <= 2251799813685248
 t1 : 0 <= tn1 m i p /\ tn1 m i p <= 2251799813685248
 t2 : 0 <= tn2 m i p /\ tn2 m i p <= 2251799813685248
 d : 0 < o7 m i /\ o7 m i <= 2251799813685248
theorem oq {z t : Int} (hz : -4194304 <= z /\ z <= 4194304) (ht : 0 <= t) : -(4194304 * t) <= z * t /\ z * t <= 4194304 * t:=by
 have h1:=Int.mul_nonneg (show 0 <= 4194304 - z by omega) ht
 have h2:=Int.mul_nonneg (show 0 <= 4194304 + z by omega) ht
 rw [Int.sub_mul] at h1
 rw [Int.add_mul] at h2
 omega
theorem OnF.num {m : Msh} {i : Nat} {p : Pnt} (h : OnF m i p) : -(4194304 * o7 m i) <= th m i p /\ th m i p <= 4194304 * o7 m i:=by
 have e:=CX m i p
 have h1:=oq h.z0 h.t1.1
 have h2:=oq h.z1 h.t2.1
 have h3:=oq h.z2 h.t0.1
 unfold th
 rw [<- e]
 omega
theorem ux {n d k : Int} (hd : 0 < d) (h : -(k * d) <= n /\ n <= k * d) : -k <= n / d /\ n / d <= k:=by
 constructor
 ·exact (Int.le_ediv_iff_mul_le hd).2 (by rw [Int.neg_mul];exact h.1)
 ·exact Int.le_of_lt_add_one ((Int.ediv_lt_iff_lt_mul hd).2 (by rw [Int.add_mul];omega))
def loF (m : Msh) (i : Nat) (p : Pnt) : Int:=th m i p / o7 m i
def hiF (m : Msh) (i : Nat) (p : Pnt) : Int:=-(-th m i p / o7 m i)
theorem OnF.lo {m : Msh} {i : Nat} {p : Pnt} (h : OnF m i p) : -4194304 <= loF m i p /\ loF m i p <= 4194304:=ux h.d.1 h.num
theorem OnF.hi {m : Msh} {i : Nat} {p : Pnt} (h : OnF m i p) : -4194304 <= hiF m i p /\ hiF m i p <= 4194304:=by
 have:=ux (n:=-th m i p) (k:=4194304) h.d.1 (by have:=h.num;omega)
 unfold hiF
 omega
variable {C : CC} (hC : az prog C)
include hC
def wz : D:=.agg [.int .i64 0,.int .i64 0]
end Go.Gv

namespace Go.Gv
theorem rW {x y : Int} (hx : -33554432 <= x /\ x <= 33554432) (hy : -33554432 <= y /\ y <= 33554432) : -1125899906842624 <= x * y /\ x * y <= 1125899906842624:=by
 have h1 : 0 <= (33554432 - x) * (33554432 - y):=Int.mul_nonneg (by omega) (by omega)
 have h2 : 0 <= (33554432 + x) * (33554432 + y):=Int.mul_nonneg (by omega) (by omega)
 have h3 : 0 <= (33554432 - x) * (33554432 + y):=Int.mul_nonneg (by omega) (by omega)
 have h4 : 0 <= (33554432 + x) * (33554432 - y):=Int.mul_nonneg (by omega) (by omega)
 rw [Int.sub_mul,Int.mul_sub,Int.mul_sub] at h1
 rw [Int.add_mul,Int.mul_add,Int.mul_add] at h2
 rw [Int.sub_mul,Int.mul_add,Int.mul_add] at h3
 rw [Int.add_mul,Int.mul_sub,Int.mul_sub] at h4
 omega
variable {C : CC} (hC : az prog C)
include hC
set_option maxRecDepth 20000 in
set_option maxHeartbeats 2000000 in
theorem wt (m : Msh) (hv : av m=true) (i : Nat) (hi : i < m.f.length) : C 846 [.agg (b7 m),.int .i64 i] (.int .i64 (twF m i)) []:=by
 obtain ⟨⟨a1,a2⟩,⟨b1,b2⟩,⟨c1,c2⟩⟩:=jj (dx hv hi)
 obtain ⟨h1,h2,h3⟩:=wo hv hi
 have h1:=da h1
 have h2:=da h2
 have h3:=da h3
 have htw:=ww hv hi
 refine aF hC (nf:=N846) rfl rfl ?_
 have e0 : twF m i=((spB m i).x - (spA m i).x) * ((spC m i).y - (spA m i).y) - ((spB m i).y - (spA m i).y) * ((spC m i).x - (spA m i).x):=rfl
 simp [N846,ai,hi,a1,a2,b1,b2,c1,c2,bu,j0,wl,wm,wn]
 refine ⟨aL (by decide +kernel),?_⟩
 have b1 : -33554432 <= (spB m i).x - (spA m i).x /\ (spB m i).x - (spA m i).x <= 33554432:=by omega
 have b2 : -33554432 <= (spC m i).y - (spA m i).y /\ (spC m i).y - (spA m i).y <= 33554432:=by omega
 have b3 : -33554432 <= (spB m i).y - (spA m i).y /\ (spB m i).y - (spA m i).y <= 33554432:=by omega
 have b4 : -33554432 <= (spC m i).x - (spA m i).x /\ (spC m i).x - (spA m i).x <= 33554432:=by omega
 generalize (spB m i).x - (spA m i).x=x1 at *
 generalize (spC m i).y - (spA m i).y=x2 at *
 generalize (spB m i).y - (spA m i).y=x3 at *
 generalize (spC m i).x - (spA m i).x=x4 at *
 have p1 : -1125899906842624 <= x1 * x2 /\ x1 * x2 <= 1125899906842624:=rW b1 b2
 have p2 : -1125899906842624 <= x3 * x4 /\ x3 * x4 <= 1125899906842624:=rW b3 b4
 rw [ah (m:=x1) rfl (by omega),ah (m:=x2) rfl (by omega),ah (m:=x3) rfl (by omega),ah (m:=x4) rfl (by omega),ah (m:=x1 * x2) rfl (by omega),ah (m:=x3 * x4) rfl (by omega)]
 exact ah e0.symm (by omega)
theorem wA (n : Nat) (h : n < 18446744073709551616) : C 110 [.int .u64 n,.bool false] (if n < 9223372036854775808 then .tup [.int .i64 n,.int .i64 0] else .tup [.int .i64 0,.int .i64 5]) []:=by
 by_cases h0 : n < 9223372036854775808
 ·rw [if_pos h0]
  exact yY hC n h0
 ·rw [if_neg h0]
  refine aF hC (nf:=N110) rfl rfl ?_
  have h1 : ¬ (n : Int) <= 9223372036854775807:=by omega
  simp [N110,h1]
theorem pO (p : Nat) (up : Bool) (hp : p < 340282366920938463463374607431768211456) : C 104 [f7 p false,.int .i64 6000,.bool up] (if (if up then (p + 5999) / 6000 else p / 6000) < 9223372036854775808 then .tup [.int .i64 ((if up then (p + 5999) / 6000 else p / 6000 : Nat) : Int),.int .i64 0] else .tup [.int .i64 0,.int .i64 5]) []:=by
 obtain ⟨ph,hph⟩ : ∃ z,z=p / 18446744073709551616:=⟨_,rfl⟩
 obtain ⟨pl,hpl⟩ : ∃ z,z=p % 18446744073709551616:=⟨_,rfl⟩
 have hpp : ph * 18446744073709551616 + pl=p:=by omega
 obtain ⟨q0,hq0⟩ : ∃ z,z=p / 6000:=⟨_,rfl⟩
 obtain ⟨r0,hr0⟩ : ∃ z,z=p % 6000:=⟨_,rfl⟩
 obtain ⟨q,hq⟩ : ∃ z,z=(if up then (p + 5999) / 6000 else p / 6000):=⟨_,rfl⟩
 have hs:=j9 hC 6000 (by omega)
 rw [<- hq,f7,<- hph,<- hpl]
 by_cases hbig : 6000 <= ph
 ·rw [if_neg (by rw [hq];split <;> omega)]
  have h1 : (6000 : Int) <= (ph : Int):=by omega
  refine aF hC (nf:=N104) rfl rfl ?_
  simp [N104]
  refine aa hs (.inl rfl) ?_
  simp [h1]
 ·have hdiv:=wT hC ph pl 6000 (by omega) (by omega) (by omega)
  rw [hpp,<- hq0,<- hr0] at hdiv
  have h1 : ¬ (6000 : Int) <= (ph : Int):=by omega
  refine aF hC (nf:=N104) rfl rfl ?_
  simp [N104]
  refine aa hs (.inl rfl) ?_
  simp [h1]
  refine aa hdiv (.inl rfl) ?_
  have kw:=fun n h=>wA hC n h
  simp
  cases up
  ·have e : q=q0:=by rw [hq,hq0];rfl
   rw [e]
   have k0:=kw q0 (by omega)
   refine al (fun h=>?_) (fun h=>?_) <;> simp at h <;> simp [h]
   ·refine aa k0 (.inl (by split <;> rfl)) ?_
    split <;> simp <;> omega
   ·refine aa k0 (.inl (by split <;> rfl)) ?_
    split <;> simp <;> omega
  ·refine al (fun h=>?_) (fun h=>?_) <;> simp at h
   ·have hi : (0 : Int) < r0:=by omega
    have e : q=q0 + 1:=by rw [hq];simp only [if_true];omega
    by_cases h9 : q0 + 1 < 18446744073709551616
    ·have h3 : IntKind.u64.wrap ((q0 : Int) + 1)=((q0 + 1 : Nat) : Int):=uw (by omega) (by omega)
     have h4 : ¬ ((q0 : Int) + 1=0):=by omega
     have k1:=kw (q0 + 1) h9
     rw [e]
     simp [h,h3,h4]
     simp at k1
     refine aa k1 (.inl (by split <;> rfl)) ?_
     split <;> simp <;> omega
    ·have h3 : IntKind.u64.wrap ((q0 : Int) + 1)=0:=by
      have e9 : q0=18446744073709551615:=by omega
      rw [e9];decide
     rw [if_neg (by omega)]
     simp [h,h3]
   ·have e : q=q0:=by rw [hq];simp only [if_true];omega
    have k0:=kw q0 (by omega)
    rw [e]
    simp [h]
    refine aa k0 (.inl (by split <;> rfl)) ?_
    split <;> simp <;> omega
theorem uv (p : Nat) (up : Bool) (hp : p < 1329227995784915872903807060280344576) : C 301 [wiS p,.int .i64 6000,.bool up] (if (if up then (p + 5999) / 6000 else p / 6000) < 9223372036854775808 then .tup [.int .i64 ((if up then (p + 5999) / 6000 else p / 6000 : Nat) : Int),.int .i64 0] else .tup [.int .i64 0,.int .i64 5]) []:=by
 have k1:=kW hC (p : Int) (by omega)
 have k2:=mZ hC (p : Int) (by omega)
 have k3:=pO hC p up (by omega)
 rw [gP (p:=p) (b:=false) (by omega) (by simp)] at k2
 obtain ⟨Q,hQ⟩ : ∃ Q,Q=(if up then (p + 5999) / 6000 else p / 6000):=⟨_,rfl⟩
 rw [<- hQ] at k3 ⊢
 obtain ⟨a1,a2,_,_,ea⟩:=en (p : Int)
 obtain ⟨f1,f2,_,_,ef⟩:=ek p false
 rw [ea] at k1 k2 ⊢
 rw [ef] at k2 k3
 refine aF hC (nf:=N301) rfl rfl ?_
 simp [N301]
 refine aa k1 (.inl rfl) ?_
 simp
 refine aa k2 (.inl rfl) ?_
 simp
 refine aa k3 (.inr (by rfl)) ?_
 split <;> simp <;> omega
theorem tT (p : Nat) (hp : p < 1329227995784915872903807060280344576) : C 271 [wiS p,.int .i64 6000] (if p / 6000 < 9223372036854775808 then .tup [.int .i64 (p / 6000 : Nat),.int .i64 0] else .tup [.int .i64 0,.int .i64 5]) []:=by
 have k:=uv hC p false hp
 simp only [Bool.false_eq_true,if_false] at k
 obtain ⟨Q,hQ⟩ : ∃ Q,Q=p / 6000:=⟨_,rfl⟩
 rw [<- hQ] at k ⊢
 obtain ⟨a1,a2,_,_,ea⟩:=en (p : Int)
 rw [ea] at k ⊢
 refine aF hC (nf:=N271) rfl rfl ?_
 simp [N271]
 refine aa k (.inl (by split <;> rfl)) ?_
 split <;> simp <;> omega
theorem wQ (p : Nat) (hp : p < 1329227995784915872903807060280344576) : C 272 [wiS p,.int .i64 6000] (if (p + 5999) / 6000 < 9223372036854775808 then .tup [.int .i64 ((p + 5999) / 6000 : Nat),.int .i64 0] else .tup [.int .i64 0,.int .i64 5]) []:=by
 have k:=uv hC p true hp
 simp only [if_true] at k
 obtain ⟨Q,hQ⟩ : ∃ Q,Q=(p + 5999) / 6000:=⟨_,rfl⟩
 rw [<- hQ] at k ⊢
 obtain ⟨a1,a2,_,_,ea⟩:=en (p : Int)
 rw [ea] at k ⊢
 refine aF hC (nf:=N272) rfl rfl ?_
 simp [N272]
 refine aa k (.inl (by split <;> rfl)) ?_
 split <;> simp <;> omega
end Go.Gv

namespace Go.Gv
section
variable {C : Nat -> List D -> D -> List D -> Prop} (hC : az prog C)
include hC
end
end Go.Gv

namespace Go.Gv
section
variable {C : Nat -> List D -> D -> List D -> Prop} (hC : az prog C)
include hC
theorem tb (m : Msh) : C 242 [.agg (b7 m)] (.bool (decide (60 < m.s.length) || decide (80 < m.f.length))) []:=by
 refine aF hC (nf:=N242) rfl rfl ?_
 simp [N242,ai]
 refine al (fun g1=>?_) (fun g1=>?_) <;> simp at g1
 ·simp [show (60 : Int) < m.s.length by omega]
  exact .inl (by omega)
 ·simp [show ¬ (60 : Int) < m.s.length by omega]
  rw [decide_eq_false (show ¬ 60 < m.s.length by omega),Bool.false_or]
  by_cases h : 80 < m.f.length
  ·rw [decide_eq_true h,decide_eq_true (by omega)]
  ·rw [decide_eq_false h,decide_eq_false (by omega)]
end
end Go.Gv

namespace Go.Gv
theorem qO {m : Msh} {i : Nat} (h : i < m.f.length) : (inR (aQ m).sp)[i]? = some [.int .i64 (spF m i)]:=cu (by rw [(fP m).sp];exact h)
theorem BE {m : Msh} {i : Nat} (h : i < m.f.length) : (inR (bA m))[i]? = some [.int .i64 (suF m i)]:=cu (by simpa using h)
section
variable {C : Nat -> List D -> D -> List D -> Prop} (hC : az prog C)
include hC
end
end Go.Gv

namespace Go.Gv
def lE (m : Msh) (i : Nat) : Nat:=((spF m i - suF m i) * twF m i).toNat
def dZ (m : Msh) (l : List Nat) : Nat:=(l.map (lE m)).sum
def p9 (m : Msh) (l : List Nat) : D:=if (dZ m l + 5999) / 6000 <= 1125899906842624 then .tup [.agg [.int .i64 (dZ m l / 6000 : Nat),.int .i64 ((dZ m l + 5999) / 6000 : Nat)],.int .i64 0] else .tup [.agg [.int .i64 0,.int .i64 0],.int .i64 5]
theorem oJ {m : Msh} (hv : av m=true) : ∀ {a : Nat},a < m.f.length -> -12582912 <= spF m a /\ spF m a <= 12582912:=by
 have key : ∀ (d a : Nat),a < m.f.length -> jy m.f.length (aQ m).ou (b6 m).rc d a -> -12582912 <= spF m a /\ spF m a <= 12582912:=by
  intro d
  induction d with
  | zero =>
   intro a ha he
   have e : ouF m a=-1:=he
   have hb : bsd m a (-1)=true:=by
    cases h : bsd m a (-1)
    ·obtain ⟨z,_,h2,_⟩:=kR hv ha h
     omega
    ·rfl
   have h1:=(kQ hv ha hb).1
   have h2:=lM hv ha
   have h3 : suF m a=fk m a:=by simp [suF,bA,ha]
   omega
  | succ d ih =>
   intro a ha ⟨b,hb,e1,_,e3⟩
   have h4:=ih b hb e3
   have h2:=lM hv ha
   have h3 : suF m a=fk m a:=by simp [suF,bA,ha]
   have e : ouF m a=b:=e1
   cases h : bsd m a (-1)
   ·obtain ⟨z,_,h5,_,h6⟩:=kR hv ha h
    have : z=b:=by omega
    subst this
    omega
   ·have:=(kQ hv ha h).2
    omega
 intro a ha
 obtain ⟨d,_,he⟩:=l5 hv ha
 exact key d a ha he
theorem kS {m : Msh} {a : Nat} (ha : a < m.f.length) : suF m a=fk m a:=by simp [suF,bA,ha]
theorem sv {m : Msh} (hv : av m=true) {i : Nat} (hi : i < m.f.length) : (lE m i : Int)=(spF m i - suF m i) * twF m i /\ lE m i < 75557863725914323419136:=by
 have h1:=oJ hv hi
 have h2:=lM hv hi
 have h3:=ww hv hi
 have h4:=AM hv hi
 rw [kS hi] at h4
 obtain ⟨x,hx⟩ : ∃ x : Nat,spF m i - suF m i=x:=⟨(spF m i - suF m i).toNat,by rw [kS hi];omega⟩
 obtain ⟨y,hy⟩ : ∃ y : Nat,twF m i=y:=⟨(twF m i).toNat,by omega⟩
 have hx2 : x <= 25165824:=by rw [kS hi] at hx;omega
 have hy2 : y <= 2251799813685248:=by omega
 unfold lE
 rw [hx,hy]
 have e : ((x : Int) * (y : Int)).toNat=x * y:=by rw [<- Int.natCast_mul];exact Int.toNat_natCast _
 rw [e]
 exact ⟨by simp,Nat.lt_of_le_of_lt (Nat.mul_le_mul hx2 hy2) (by decide)⟩
theorem tN (m : Msh) (l : List Nat) {k : Nat} (h : k < l.length) : dZ m (l.take (k + 1))=dZ m (l.take k) + lE m l[k]:=by
 unfold dZ
 rw [List.take_succ_eq_append_getElem h,List.map_append,List.sum_append]
 simp
theorem oO {m : Msh} (hv : av m=true) : ∀ (l : List Nat),(∀ i ∈ l,i < m.f.length) -> dZ m l <= l.length * 75557863725914323419136
 | [],_=>by simp [dZ]
 | i::l,h=>by
  have h1:=oO hv l fun j hj=>h j (List.mem_cons_of_mem _ hj)
  have h2:=(sv hv (h i (List.mem_cons_self ..))).2
  have e : dZ m (i::l)=lE m i + dZ m l:=by simp [dZ]
  rw [e,List.length_cons,Nat.add_mul]
  omega
theorem lH {m : Msh} {l : List Nat} (h : l ∈ cm m) : (∀ i ∈ l,i < m.f.length) /\ l.length <= m.f.length:=by
 unfold cm cK at h
 obtain ⟨s,_,rfl⟩:=List.mem_map.1 h
 refine ⟨fun i hi=>by simpa using (List.mem_filter.1 hi).1,?_⟩
 have:=List.length_filter_le (inP m s) (List.range m.f.length)
 simpa using this
def zSp : D:=.agg [.int .i64 0,.int .i64 0]
variable {C : CC} (hC : az prog C)
include hC
set_option maxHeartbeats 2000000 in
set_option maxRecDepth 8000 in
theorem oQ (dec : Nat -> List UInt8) (hI : ∀ n : Nat,n < 100 -> C 127 [.int .i64 n] (.str (dec n)) []) (m : Msh) (hz : cg m=true -> m.s.length <= 100 /\ m.f.length <= 100) (p : Int) :
  C 842 [.agg (b7 m),.int .i64 p] (if av m then (if 0 <= p /\ p < (cm m).length then p9 m ((cm m)[p.toNat]?.getD []) else .tup [zSp,.int .i64 2]) else .tup [zSp,.int .i64 1]) []:=by
 have k:=gj hC dec hI m hz
 simp only [ai] at k
 cases hv : av m
 ·simp only [hv,Bool.false_eq_true,if_false] at k ⊢
  refine aF hC (nf:=N842) rfl rfl ?_
  simp [N842,ai,zSp]
  refine aa k (.inr rfl) ?_
  simp
 ·have kp:=vG hC m hv
  simp only [hv,if_true] at k ⊢
  have e0 : ee m=.ptr [.sl (nbA m),slx true (inR (bA m)),.sl (inR (aQ m).sp),.sl (inR (aQ m).ou)]:=rfl
  rw [e0] at k kp
  have hpl : (hJ (cm m)).length=(cm m).length:=by simp [hJ]
  by_cases hp : 0 <= p /\ p < (cm m).length
  ·rw [if_pos hp]
   obtain ⟨q,rfl⟩ : ∃ q : Nat,p=q:=⟨p.toNat,by omega⟩
   have hq : q < (cm m).length:=by omega
   obtain ⟨l,hl⟩ : ∃ l,(cm m)[q]? = some l:=⟨_,List.getElem?_eq_getElem hq⟩
   have hlr : (hJ (cm m))[q]? = some [.sl (nfR l)]:=by unfold hJ;rw [List.getElem?_map,hl];rfl
   obtain ⟨hli,hll⟩:=lH (List.mem_of_getElem? hl)
   have hbd:=oO hv l hli
   simp only [Int.toNat_natCast,hl,Option.getD_some]
   refine aF hC (nf:=N842) rfl rfl ?_
   simp [N842,ai]
   refine aa k (.inr rfl) ?_
   simp
   refine aa kp (.inr rfl) ?_
   simp [hpl,show ¬ (q : Int) < 0 by omega,show ¬ (cm m).length <= q by omega,aG hlr]
   have hsz:=(cW hv).2
   refine aD Nat (fun k=>[(2,.ptr [slx m.sn (List.map dt m.s),slx m.fn (List.map bU m.f)]),(4,.adr (.r 10064) 0 0),(6,.ptr [.sl (nbA m),slx true (inR (bA m)),.sl (inR (aQ m).sp),.sl (inR (aQ m).ou)]),(9,.adr (.r 10144) 0 0),(40,.sl (nfR l)),(41,.int .i64 l.length),(42,.int .i64 k),(10064,.blk 2 [[.int .i64 0,.int .i64 0]]),(10144,.blk 2 [[.int .i64 ((dZ m (l.take k) : Int) / 1152921504606846976),.int .i64 ((dZ m (l.take k) : Int) % 1152921504606846976)]])])
    (fun k=>k <= l.length) (fun k=>l.length - k) 0 (by simp) (by simp [dZ]) ?_
   rintro k hk
   have hw : IntKind.wrap .i64 ((k : Int) + 1)=((k + 1 : Nat) : Int):=ah (by omega) (by omega)
   have hb1:=oO hv (l.take k) fun i hi=>hli i (List.mem_of_mem_take hi)
   rw [List.length_take_of_le hk] at hb1
   simp
   refine al (fun g1=>?_) (fun g1=>?_) <;> simp at g1
   ·obtain ⟨i,hi⟩ : ∃ i,i=l[k]:=⟨_,rfl⟩
    have hin : i < m.f.length:=by rw [hi];exact hli _ (List.getElem_mem _)
    have hnk : (nfR l)[k]? = some [.int .i64 (i : Nat)]:=by rw [gN g1,hi]
    have kt:=wt hC m hv i hin
    have htw:=ww hv hin
    have s1:=oJ hv hin
    have s2:=lM hv hin
    have s3:=AM hv hin
    rw [<- kS hin] at s2
    obtain ⟨y,hy⟩ : ∃ y : Nat,twF m i=y:=⟨(twF m i).toNat,by omega⟩
    obtain ⟨v1,v2⟩:=sv hv hin
    have hvt:=tN m l g1
    rw [<- hi] at hvt
    rw [hy] at kt htw v1
    obtain ⟨x,hx⟩ : ∃ x,x=spF m i - suF m i:=⟨_,rfl⟩
    rw [<- hx] at v1
    have w1 : IntKind.wrap .i64 (spF m i - suF m i)=x:=ah hx.symm (by omega)
    have hna : x.natAbs * y=lE m i:=by
     have : (x.natAbs : Int)=x:=by omega
     have h9 : ((x.natAbs * y : Nat) : Int)=(lE m i : Int):=by rw [v1,Int.natCast_mul,this]
     exact Int.ofNat.inj h9
    have kp2:=qg hC x y (by omega) (by omega) (by rw [hna];omega)
    rw [<- v1] at kp2
    have ka:=AQ hC (dZ m (l.take k) : Nat) (lE m i : Nat) (by omega) (by omega)
    rw [<- Int.natCast_add,<- hvt] at ka
    simp only [wiS] at kp2 ka
    simp only [ai] at kt
    obtain ⟨a1,ha1⟩ : ∃ a,a=((dZ m (l.take k) : Nat) : Int) / 1152921504606846976:=⟨_,rfl⟩
    obtain ⟨a2,ha2⟩ : ∃ a,a=((dZ m (l.take k) : Nat) : Int) % 1152921504606846976:=⟨_,rfl⟩
    obtain ⟨b1,hbb1⟩ : ∃ a,a=((lE m i : Nat) : Int) / 1152921504606846976:=⟨_,rfl⟩
    obtain ⟨b2,hbb2⟩ : ∃ a,a=((lE m i : Nat) : Int) % 1152921504606846976:=⟨_,rfl⟩
    obtain ⟨c1,hc1⟩ : ∃ a,a=((dZ m (l.take (k + 1)) : Nat) : Int) / 1152921504606846976:=⟨_,rfl⟩
    obtain ⟨c2,hc2⟩ : ∃ a,a=((dZ m (l.take (k + 1)) : Nat) : Int) % 1152921504606846976:=⟨_,rfl⟩
    rw [<- ha1,<- ha2,<- hbb1,<- hbb2,<- hc1,<- hc2] at ka
    rw [<- hbb1,<- hbb2] at kp2
    rw [<- ha1,<- ha2]
    simp [g1,aG hnk]
    simp [aG (qO hin),aG (BE hin),w1]
    refine aa kt (.inl rfl) ?_
    simp
    refine aa kp2 (.inl rfl) ?_
    simp
    refine ⟨aL (by decide +kernel),?_⟩
    refine aa ka (.inl rfl) ?_
    simp
    exact ⟨k + 1,by omega,by omega,hw,hc1,hc2⟩
   ·have e : k=l.length:=by omega
    subst e
    have hq1:=tT hC (dZ m l) (by omega)
    have hq2:=wQ hC (dZ m l) (by omega)
    simp only [wiS] at hq1 hq2
    obtain ⟨A,hA⟩ : ∃ A,A=dZ m l / 6000:=⟨_,rfl⟩
    obtain ⟨B,hB⟩ : ∃ B,B=(dZ m l + 5999) / 6000:=⟨_,rfl⟩
    have hAB : A <= B /\ B <= A + 1:=by omega
    have e3 : p9 m l=if B <= 1125899906842624 then .tup [.agg [.int .i64 (A : Nat),.int .i64 (B : Nat)],.int .i64 0] else .tup [.agg [.int .i64 0,.int .i64 0],.int .i64 5]:=by unfold p9;rw [<- hA,<- hB]
    rw [e3]
    rw [<- hA] at hq1
    rw [<- hB] at hq2
    obtain ⟨a1,ha1⟩ : ∃ a,a=((dZ m l : Nat) : Int) / 1152921504606846976:=⟨_,rfl⟩
    obtain ⟨a2,ha2⟩ : ∃ a,a=((dZ m l : Nat) : Int) % 1152921504606846976:=⟨_,rfl⟩
    rw [<- ha1,<- ha2] at hq1 hq2
    rw [List.take_length,<- ha1,<- ha2]
    simp
    refine aa hq1 (.inl (by split <;> rfl)) ?_
    by_cases c1 : A < 9223372036854775808
    ·by_cases c2 : B < 9223372036854775808
     ·by_cases c3 : B <= 1125899906842624
      ·rw [if_pos c1]
       simp
       refine aa hq2 (.inl (by split <;> rfl)) ?_
       rw [if_pos c2,if_pos c3]
       simp [show ¬ (1125899906842624 : Int) < B by omega]
      ·rw [if_pos c1]
       simp
       refine aa hq2 (.inl (by split <;> rfl)) ?_
       rw [if_pos c2,if_neg c3]
       simp [show (1125899906842624 : Int) < B by omega]
     ·rw [if_pos c1]
      simp
      refine aa hq2 (.inl (by split <;> rfl)) ?_
      rw [if_neg c2,if_neg (by omega)]
      simp
    ·rw [if_neg c1]
     simp
     refine aa hq2 (.inl (by split <;> rfl)) ?_
     rw [if_neg (by omega),if_neg (by omega)]
     simp
  ·rw [if_neg hp]
   refine aF hC (nf:=N842) rfl rfl ?_
   simp [N842,ai,zSp]
   refine aa k (.inr rfl) ?_
   simp
   refine aa kp (.inr rfl) ?_
   by_cases h0 : p < 0
   ·simp [hpl,h0]
   ·simp [hpl,h0,show ((cm m).length : Int) <= p by omega]
end Go.Gv

namespace Go.Gv
structure fd (c : Int) (r s : RF) : Prop where
 rc : s.rc=r.rc
 lf : s.lf=r.lf
 ou : s.ou=r.ou
 len : s.lv.length=r.lv.length
 lv : ∀ a,r.rc.getD a false=true -> s.lv.getD a 0=r.lv.getD a 0 + c
theorem fd.act {c : Int} {r s : RF} (h : fd c r s) (a : Nat) : act s a=act r a:=by unfold Go.Gv.act;rw [h.rc,h.lf]
theorem fd.rat {c : Int} {r s : RF} (h : fd c r s) : ∀ i,rat s i=rat r i
 | 0=>rfl
 | i + 1=>by
  have ih:=fd.rat h i
  unfold Go.Gv.rat
  rw [ih,h.act]
  by_cases ha : Go.Gv.act r i=true
  ·have hi : r.rc.getD i false=true:=by
    simp only [Go.Gv.act,Bool.and_eq_true] at ha
    exact ha.1
   by_cases h0 : Go.Gv.rat r i < 0
   ·simp only [h0,true_or,and_true]
   ·rcases gw r i with ⟨h1,_⟩ | ⟨a,h1,h2,h3,_⟩
    ·omega
    ·have h4 : r.rc.getD a false=true:=by
      simp only [Go.Gv.act,Bool.and_eq_true] at h3
      exact h3.1
     rw [h1]
     simp only [Int.toNat_natCast]
     have e1:=h.lv i hi
     have e2:=h.lv a h4
     by_cases hlt : r.lv.getD i 0 < r.lv.getD a 0
     ·rw [if_pos ⟨ha,.inr (by omega)⟩,if_pos ⟨ha,.inr hlt⟩]
     ·rw [if_neg (fun h9=>by omega),if_neg (fun h9=>by omega)]
  ·rw [if_neg (fun h=>ha h.1),if_neg (fun h=>ha h.1)]
section
variable {m : Msh} {x y z : Int} (hv : av m=true) (hr : ∀ i,i < m.s.length -> aV (mvS x y z (spt m i))=true)
include hv hr
theorem rZ {a : Nat} (ha : a < m.f.length) : suF (mvM m x y z) a=suF m a + 3 * z:=by
 rw [kS (m:=mvM m x y z) (by rw [xW];exact ha),kS ha]
 exact Cu hv ha
theorem fd.p1 {r s : RF} (h : fd (3 * z) r s) (hl : r.rc.length=m.f.length) (hl2 : r.lv.length=m.f.length) {i : Nat} (hi : r.rc.getD i false=true) {k : Int} (hk : k < m.f.length) : fd (3 * z) (eT m i r k) (eT (mvM m x y z) i s k):=by
 unfold eT
 rw [h.rc]
 split
 ·rename_i hc
  have hkn : k.toNat < m.f.length:=by omega
  have e1:=rZ hv hr hkn
  have e2:=h.lv i hi
  have e3 : (if s.lv.getD i 0 < (bA (mvM m x y z)).getD k.toNat 0 then (bA (mvM m x y z)).getD k.toNat 0 else s.lv.getD i 0)=(if r.lv.getD i 0 < (bA m).getD k.toNat 0 then (bA m).getD k.toNat 0 else r.lv.getD i 0) + 3 * z:=by
   unfold suF at e1
   rw [e1,e2]
   split <;> split <;> omega
  refine ⟨rfl,h.lf,by simp only;rw [h.ou],by simp only [List.length_set];exact h.len,fun a ha=>?_⟩
  simp only at ha ⊢
  rw [e3,bk (by rw [h.len,hl2];exact hkn),bk (by rw [hl2];exact hkn)]
  rw [bk (by rw [hl];exact hkn)] at ha
  split
  ·rfl
  ·rename_i e
   rw [if_neg e] at ha
   exact h.lv a ha
 ·exact h
theorem fd.i {r s : RF} (h : fd (3 * z) r s) (hl : r.rc.length=m.f.length) (hl2 : r.lv.length=m.f.length) {i : Nat} (hi : r.rc.getD i false=true) : ∀ j,fd (3 * z) (rfI m i r j) (rfI (mvM m x y z) i s j) /\ (rfI m i r j).lv.length=m.f.length
 | 0=>⟨h,hl2⟩
 | j + 1=>by
  obtain ⟨h1,h2⟩:=fd.i h hl hl2 hi j
  refine ⟨fd.p1 hv hr h1 ((jW j).1.trans hl) h2 (mL hi j) (eM m i j).2,?_⟩
  show (eT m i (rfI m i r j) (nbF m i j)).lv.length=m.f.length
  unfold eT
  split
  ·simp only [List.length_set];exact h2
  ·exact h2
theorem fd.step {r s : RF} (h : fd (3 * z) r s) (hl : r.rc.length=m.f.length) (hl2 : r.lv.length=m.f.length) : fd (3 * z) (dB m r) (dB (mvM m x y z) s) /\ (dB m r).rc.length=m.f.length /\ (dB m r).lv.length=m.f.length:=by
 unfold dB
 have hrt : Go.Gv.rat s (mvM m x y z).f.length=Go.Gv.rat r m.f.length:=by rw [xW];exact h.rat _
 rw [hrt]
 split
 ·exact ⟨h,hl,hl2⟩
 ·rename_i h0
  rcases gw r m.f.length with ⟨h1,_⟩ | ⟨a,h1,h2,h3,_⟩
  ·omega
  ·rw [h1]
   simp only [Int.toNat_natCast]
   have h4 : r.rc.getD a false=true:=by
    simp only [Go.Gv.act,Bool.and_eq_true] at h3
    exact h3.1
   obtain ⟨q1,q2⟩:=fd.i hv hr (r:={ r with lf:=r.lf.set a true }) (s:={ s with lf:=s.lf.set a true }) ⟨h.rc,by simp only;rw [h.lf],h.ou,h.len,h.lv⟩ hl hl2 h4 3
   exact ⟨q1,(jW (r:={ r with lf:=r.lf.set a true }) 3).1.trans hl,q2⟩
theorem fd.run : ∀ (k : Nat) {r s : RF},fd (3 * z) r s -> r.rc.length=m.f.length -> r.lv.length=m.f.length -> fd (3 * z) (rfN m k r) (rfN (mvM m x y z) k s)
 | 0,_,_,h,_,_=>h
 | k + 1,_,_,h,hl,hl2=>by
  obtain ⟨h1,h2,h3⟩:=fd.step hv hr h hl hl2
  exact fd.run k h1 h2 h3
theorem vt : ∀ i,i <= m.f.length -> (rf0 (mvM m x y z) i).1=(rf0 m i).1 /\ (rf0 (mvM m x y z) i).2.length=(rf0 m i).2.length /\ ∀ a,(rf0 m i).1.getD a false=true -> (rf0 (mvM m x y z) i).2.getD a 0=(rf0 m i).2.getD a 0 + 3 * z
 | 0,_=>⟨rfl,rfl,fun a ha=>by simp [rf0,List.getElem?_replicate] at ha;split at ha <;> cases ha⟩
 | i + 1,hi=>by
  obtain ⟨h1,h2,h3⟩:=vt i (by omega)
  obtain ⟨l1,l2⟩:=dT m i
  have e1:=rZ hv hr (show i < m.f.length by omega)
  unfold suF at e1
  unfold rf0
  rw [show bsd (mvM m x y z) i (-1)=bsd m i (-1) from rfl]
  split
  ·refine ⟨by simp only;rw [h1],by simp only [List.length_set];exact h2,fun a ha=>?_⟩
   simp only at ha ⊢
   rw [bk (by rw [h2,l2];omega),bk (by rw [l2];omega)]
   rw [bk (by rw [l1];omega)] at ha
   split
   ·exact e1
   ·rename_i e
    rw [if_neg e] at ha
    exact h3 a ha
  ·exact ⟨h1,h2,h3⟩
theorem nI : fd (3 * z) (b6 m) (b6 (mvM m x y z)):=by
 obtain ⟨h1,h2,h3⟩:=vt hv hr m.f.length (Nat.le_refl _)
 exact fd.run hv hr (3 * m.f.length) (r:=dU m) (s:=dU (mvM m x y z)) ⟨h1,rfl,rfl,h2,h3⟩ (dT m _).1 (dT m _).2
theorem KC : (aQ (mvM m x y z)).ou=(aQ m).ou:=by
 rw [(cY (mt hv hr)).2,(cY hv).2]
 exact (nI hv hr).ou
theorem mq {a : Nat} (ha : a < m.f.length) : spF (mvM m x y z) a=spF m a + 3 * z:=by
 unfold spF
 rw [(cY (mt hv hr)).1,(cY hv).1]
 exact (nI hv hr).lv a (ez hv a ha)
theorem ov (a : Nat) : f9 (mvM m x y z) a=f9 m a:=by
 by_cases ha : a < m.f.length
 ·have e1:=rZ hv hr ha
  have e2:=mq hv hr ha
  show decide (suF (mvM m x y z) a < spF (mvM m x y z) a)=decide (suF m a < spF m a)
  rw [e1,e2,decide_eq_decide]
  omega
 ·have g : ∀ (n : Msh),n.f.length=m.f.length -> f9 n a=false:=fun n hn=>by
   unfold f9
   rw [List.getD_eq_getElem?_getD,List.getElem?_eq_none (by rw [yR,hn];omega),List.getD_eq_getElem?_getD,List.getElem?_eq_none (by rw [(fP n).sp,hn];omega)]
   rfl
  rw [g (mvM m x y z) rfl,g m rfl]
theorem xV {i j : Nat} (hi : i < m.f.length) : i6 (mvM m x y z) i (nbF m i j)=i6 m i (nbF m i j):=by
 have hb:=eM m i j
 unfold i6
 rw [ov hv hr,ov hv hr]
 by_cases h1 : nbF m i j=-1
 ·simp [h1]
 ·have e1:=mq hv hr hi
  have e2:=mq hv hr (show (nbF m i j).toNat < m.f.length by omega)
  unfold spF at e1 e2
  rw [e1,e2]
  congr 3
  rw [decide_eq_decide]
  omega
theorem vq {i : Nat} (hi : i < m.f.length) (f : List Nat) : ∀ j,foJ (mvM m x y z) i f j=foJ m i f j
 | 0=>rfl
 | j + 1=>by
  unfold foJ
  rw [vq hi f j,show nbF (mvM m x y z) i j=nbF m i j from rfl,xV hv hr hi]
theorem vp : ∀ i,i <= m.f.length -> foI (mvM m x y z) i=foI m i
 | 0,_=>rfl
 | i + 1,hi=>by
  unfold foI
  rw [vp i (by omega),vq hv hr (by omega)]
theorem rY : cm (mvM m x y z)=cm m:=by
 have e1 : ∀ a,rtP (mvM m x y z) a=rtP m a:=fun a=>by
  unfold rtP
  rw [show (mvM m x y z).f.length=m.f.length from rfl,vp hv hr _ (Nat.le_refl _)]
 have e2 : stB (mvM m x y z)=stB m:=funext fun s=>by unfold stB;rw [ov hv hr,e1]
 have e3 : inP (mvM m x y z)=inP m:=funext fun s=>funext fun k=>by unfold inP;rw [ov hv hr,e1]
 unfold cm cK stT
 rw [e2,e3]
 rfl
theorem Cv {l : List Nat} (hl : ∀ i ∈ l,i < m.f.length) : p9 (mvM m x y z) l=p9 m l:=by
 have e : dZ (mvM m x y z) l=dZ m l:=by
  unfold dZ
  congr 1
  refine List.map_congr_left fun i hi=>?_
  have e1:=rZ hv hr (hl i hi)
  have e2:=mq hv hr (hl i hi)
  have e3:=KE (x:=x) (y:=y) (z:=z) hv (hl i hi)
  unfold lE
  rw [e1,e2,e3,show spF m i + 3 * z - (suF m i + 3 * z)=spF m i - suF m i by omega]
 unfold p9
 rw [e]
end
end Go.Gv

namespace Go.Gv
theorem sb (l : List Nat) : nfR l=(l.map fun i : Nat=>(i : Int)).map fun n=>[.int .i64 n]:=by simp [nfR]
theorem vu {l k : List Nat} : (l.map fun i : Nat=>(i : Int))=(k.map fun i : Nat=>(i : Int)) ↔ l=k:=by
 constructor
 ·intro h
  have:=congrArg (List.map Int.toNat) h
  rw [List.map_map,List.map_map,show (Int.toNat ∘ fun i : Nat=>(i : Int))=id from funext fun i=>Int.toNat_natCast i,List.map_id,List.map_id] at this
  exact this
 ·rintro rfl;rfl
theorem pK {l : List (List Nat)} {i : Nat} (h : i < l.length) : (hJ l)[i]? = some [.sl (nfR l[i])]:=by simp [hJ,h]
@[simp] theorem LB (l : List (List Nat)) : (hJ l).length=l.length:=by simp [hJ]
variable {C : CC} (hC : az prog C)
include hC
theorem HT (xs ys : List Nat) (hx : xs.length < 2 ^ 62) (hy : ys.length < 2 ^ 62) : C 19 [.sl (nfR xs),.sl (nfR ys)] (.bool (decide (xs=ys))) []:=by
 have k:=o9 hC false false (xs.map fun i : Nat=>(i : Int)) (ys.map fun i : Nat=>(i : Int)) (by simpa using hx) (by simpa using hy)
 rw [decide_eq_decide.2 vu,<- sb,<- sb] at k
 simpa using k
theorem HU (xs ys : List (List Nat)) (hx : xs.length < 2 ^ 62) (hy : ys.length < 2 ^ 62) (hxx : ∀ x ∈ xs,x.length < 2 ^ 62) (hyy : ∀ x ∈ ys,x.length < 2 ^ 62) :
  C 20 [.sl (hJ xs),.sl (hJ ys),.fn 19 []] (.bool (decide (xs=ys))) []:=by
 obtain ⟨r,hr⟩ : ∃ r,r=decide (xs=ys):=⟨_,rfl⟩
 rw [<- hr]
 refine aF hC (nf:=N20) rfl rfl ?_
 simp [N20]
 refine al (fun h=>?_) (fun h=>?_) <;> simp at h <;> simp [h]
 ·rw [hr,decide_eq_false]
  intro e
  have:=congrArg List.length e
  omega
 have h' : xs.length=ys.length:=by omega
 refine aD Nat (fun i=>[(1,.sl (hJ ys)),(2,.fn 19 []),(15,.sl (hJ xs)),(16,.int .i64 xs.length),(17,.int .i64 i)])
  (fun i=>i <= xs.length /\ ∀ (k : Nat) (h1 : k < xs.length) (h2 : k < ys.length),k < i -> xs[k]=ys[k]) (fun i=>xs.length - i) 0 (by simp) (by simp [h]) ?_
 rintro i ⟨hi,hok⟩
 simp
 refine al (fun h1=>?_) (fun h1=>?_) <;> simp at h1 <;> simp [h1]
 ·have hw : IntKind.wrap .i64 ((i : Int) + 1)=((i + 1 : Nat) : Int):=ah (by omega) (by omega)
  have hy1 : i < ys.length:=by omega
  have he:=HT hC xs[i] ys[i] (hxx _ (List.getElem_mem _)) (hyy _ (List.getElem_mem _))
  simp [aG (pK h1),aG (pK hy1)]
  refine aa he (.inl rfl) ?_
  by_cases h2 : xs[i]=ys[i]
  ·simp [h2,hw]
   refine ⟨i + 1,⟨by omega,fun k k1 k2 hk=>?_⟩,by omega,rfl⟩
   rcases Nat.lt_succ_iff_lt_or_eq.1 hk with h5 | rfl
   ·exact hok k k1 k2 h5
   ·exact h2
  ·simp [h2]
   rw [hr,decide_eq_false]
   intro e
   subst e
   exact h2 rfl
 ·rw [hr,decide_eq_true]
  refine List.ext_getElem h' fun k k1 k2=>?_
  exact hok k k1 k2 (by omega)
end Go.Gv

namespace Go.Gv
variable {C : CC} (hC : az prog C)
include hC
set_option maxHeartbeats 4000000 in
set_option maxRecDepth 8000 in
theorem nY (dec : Nat -> List UInt8) (hI : ∀ n : Nat,n < 100 -> C 127 [.int .i64 n] (.str (dec n)) []) (m : Msh) (x y z : Int) : C 839 [.agg (b7 m),.int .i64 x,.int .i64 y,.int .i64 z] (.bool true) []:=by
 have ka:=sG hC dec hI
 have kl:=tb hC m
 simp only [ai] at kl
 refine aF hC (nf:=N839) rfl rfl ?_
 simp [N839,ai]
 refine aa ka (.inl rfl) ?_
 simp
 refine aa kl (.inl rfl) ?_
 simp
 refine al (fun g1=>?_) (fun g1=>?_)
 ·simp
 ·simp at g1
  have hz : cg m=true -> m.s.length <= 100 /\ m.f.length <= 100:=fun _=>by omega
  have kM:=AU hC dec hI m hz x y z
  have hE : mvE m x y z=0 \/ mvE m x y z=5 \/ mvE m x y z=1:=by
   unfold mvE
   split
   ·split
    ·exact .inr (.inl rfl)
    ·split
     ·exact .inl rfl
     ·exact .inr (.inl rfl)
   ·exact .inr (.inr rfl)
  by_cases hE0 : mvE m x y z=0
  rotate_left
  ·obtain ⟨e,he⟩ : ∃ e,e=mvE m x y z:=⟨_,rfl⟩
   rw [if_neg hE0,<- he] at kM
   rw [<- he] at hE0
   simp only [ai] at kM
   simp [ai]
   refine aa kM (.inr rfl) ?_
   simp [hE0]
  rw [hE0,if_pos rfl] at kM
  have hv : av m=true:=by
   unfold mvE at hE0
   split at hE0
   ·assumption
   ·cases hE0
  have hall : (m.s.all fun s=>aV (mvS x y z s))=true:=by
   unfold mvE at hE0
   rw [if_pos hv] at hE0
   split at hE0
   ·cases hE0
   ·split at hE0
    ·rename_i h;exact h
    ·cases hE0
  have hr : ∀ i,i < m.s.length -> aV (mvS x y z (spt m i))=true:=fun i hi=>by
   have h1:=List.all_eq_true.1 hall _ (List.getElem_mem hi)
   have e : m.s[i]=spt m i:=(getElem!_pos m.s i hi).symm
   rw [e] at h1
   exact h1
  have hvm:=mt hv hr
  have hl1 : (mvM m x y z).s.length=m.s.length:=ot m x y z
  have hl2 : (mvM m x y z).f.length=m.f.length:=rfl
  have hzm : cg (mvM m x y z)=true -> (mvM m x y z).s.length <= 100 /\ (mvM m x y z).f.length <= 100:=fun _=>by omega
  have k1:=qe hC dec hI m hz
  have k2:=ke hC dec hI m hz
  have k3:=qf hC dec hI m hz
  have k4:=fun p=>oQ hC dec hI m hz p
  have j1:=qe hC dec hI (mvM m x y z) hzm
  have j2:=ke hC dec hI (mvM m x y z) hzm
  have j3:=qf hC dec hI (mvM m x y z) hzm
  have j4:=fun p=>oQ hC dec hI (mvM m x y z) hzm p
  rw [KC hv hr] at j2
  rw [rY hv hr] at j3
  have W:=fP m
  have W2:=fP (mvM m x y z)
  have hsp2:=W2.sp
  rw [hl2] at hsp2
  simp only [hv,hvm,if_true] at k1 k2 k3 k4 j1 j2 j3 j4
  obtain ⟨A,hA⟩ : ∃ A,A=b7 (mvM m x y z):=⟨_,rfl⟩
  have cA : ∃ a b : Bool × List (List D),A=[slx a.1 a.2,slx b.1 b.2]:=⟨(_,_),(_,_),by rw [hA,ai]⟩
  rw [<- hA] at j1 j2 j3 j4 kM
  simp only [ai] at k1 k2 k3 k4 kM
  obtain ⟨a,b,rfl⟩:=cA
  have q1:=o9 hC false false (aQ m).ou (aQ m).ou (by rw [W.ou];omega) (by rw [W.ou];omega)
  rw [<- qM] at q1
  have hpl : (cm m).length <= m.f.length:=by unfold cm;rw [fG];exact wr m _
  have q2:=HU hC (cm m) (cm m) (by omega) (by omega) (fun l hl=>by have:=(lH hl).2;omega) (fun l hl=>by have:=(lH hl).2;omega)
  simp at q1 q2
  simp [ai]
  refine aa kM (.inr rfl) ?_
  simp
  refine aa k1 (.inr rfl) ?_
  simp
  refine aa j1 (.inr rfl) ?_
  simp [W.sp,hsp2]
  refine aD Nat (fun i=>[(3,.int .i64 z),(4,.ptr [slx m.sn (List.map dt m.s),slx m.fn (List.map bU m.f)]),(9,.adr (.r 10144) 0 0),(11,.sl (inR (aQ m).sp)),(13,.sl (inR (aQ (mvM m x y z)).sp)),(63,.int .i64 m.f.length),(64,.int .i64 i),(10144,.blk 2 [[slx a.fst a.snd,slx b.fst b.snd]])])
   (fun i=>i <= m.f.length) (fun i=>m.f.length - i) 0 (by simp) (by simp) ?_
  rintro i hi
  have hw : IntKind.wrap .i64 ((i : Int) + 1)=((i + 1 : Nat) : Int):=ah (by omega) (by omega)
  simp
  refine al (fun g2=>?_) (fun g2=>?_) <;> simp at g2 <;> simp [g2]
  ·have e1:=mq hv hr g2
   have e2:=oJ hv g2
   have e3:=oJ hvm (a:=i) (by rw [hl2];exact g2)
   have hsx : (inR (aQ (mvM m x y z)).sp)[i]? = some [.int .i64 (spF m i + 3 * z)]:=by rw [<- e1];exact qO (m:=mvM m x y z) (by rw [hl2];exact g2)
   have w1 : IntKind.wrap .i64 (spF m i + 3 * z - spF m i)=3 * z:=ah (by omega) (by omega)
   have w2 : IntKind.wrap .i64 (3 * z)=3 * z:=ah rfl (by omega)
   simp [aG hsx,aG (qO g2),w1,w2]
   exact ⟨aL (by decide +kernel),i + 1,by omega,by omega,hw⟩
  ·refine aa k2 (.inr rfl) ?_
   simp
   refine aa j2 (.inr rfl) ?_
   simp
   refine aa q1 (.inl rfl) ?_
   simp
   refine aa k3 (.inr rfl) ?_
   simp
   refine aa j3 (.inr rfl) ?_
   simp
   refine aa q2 (.inl rfl) ?_
   simp
   refine aD Nat (fun i=>[(4,.ptr [slx m.sn (List.map dt m.s),slx m.fn (List.map bU m.f)]),(9,.adr (.r 10144) 0 0),(125,.int .i64 (cm m).length),(126,.int .i64 i),(10144,.blk 2 [[slx a.fst a.snd,slx b.fst b.snd]])])
    (fun i=>i <= (cm m).length) (fun i=>(cm m).length - i) 0 (by simp) (by simp) ?_
   rintro k hk
   have hw2 : IntKind.wrap .i64 ((k : Int) + 1)=((k + 1 : Nat) : Int):=ah (by omega) (by omega)
   simp
   refine al (fun g3=>?_) (fun g3=>?_) <;> simp at g3 <;> simp [g3]
   ·obtain ⟨l,hl⟩ : ∃ l,(cm m)[k]? = some l:=⟨_,List.getElem?_eq_getElem g3⟩
    have hli:=(lH (List.mem_of_getElem? hl)).1
    have n1:=k4 (k : Int)
    have n2:=j4 (k : Int)
    rw [rY hv hr,if_pos ⟨by omega,by omega⟩] at n2
    rw [if_pos ⟨by omega,by omega⟩] at n1
    simp only [Int.toNat_natCast,hl,Option.getD_some] at n1 n2
    rw [Cv hv hr hli] at n2
    have hvr : ∃ a b c : Int,p9 m l=.tup [.agg [.int .i64 a,.int .i64 b],.int .i64 c]:=by
     unfold p9
     split
     ·exact ⟨_,_,_,rfl⟩
     ·exact ⟨_,_,_,rfl⟩
    obtain ⟨v1,v2,v3,hvr⟩:=hvr
    rw [hvr] at n1 n2
    refine aa n1 (.inl rfl) ?_
    simp
    refine aa n2 (.inl rfl) ?_
    simp
    exact ⟨k + 1,by omega,by omega,hw2⟩
end Go.Gv
