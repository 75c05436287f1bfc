/-
  Texts of the proof: PF2, V1, V2, V3, V4, PF3, PF4, PF5, PT3, PT5, I3, I1, I2, I4, H13, H14, H15, I5, I6, L10, L11, J29, L12, L15, L16, L19, RF1, SF1, SF2, PT6, PL1, M3, M4, P3, Z1, Z2, Z3, Z4, Z5, Z6, PV1, RF2, LF1, SL1, PV2, PM1, PL2, HT1, HT3, SH1, RP4, WP1, WG0, SM0, WG1, WG2, WG3, WM1, WT1, WT2, WT3, WR1, WT4, WT5, WR2, WR3, WL1, WL3.
-/
import Derived.Test.YtibmdjdddnkomaaGreatDoorX7
import Derived.Test.YtibmdjdddnkomaaGreatDoorX4
import Derived.Lib.SlicesCompact
set_option linter.all false
namespace Go.Gv
theorem oV (m : Msh) : ∀ i,(rf0 m i).1=(fl0 m i).2
 | 0=>rfl
 | i + 1=>by
  unfold rf0 fl0
  split
  ·simp only [oV m i]
  ·exact oV m i
theorem eL (m : Msh) : ∀ i,(rf0 m i).1.length=m.f.length /\ (rf0 m i).2.length=m.f.length
 | 0=>by simp [rf0]
 | i + 1=>by
  obtain ⟨h1,h2⟩:=eL m i
  unfold rf0
  split
  ·simp [h1,h2]
  ·exact ⟨h1,h2⟩
theorem jt (m : Msh) : ∀ i,gU (bp m) (fl0 m i).1 (fl0 m i).1.length
 | 0=>by intro i h0 hi;simp [fl0] at hi
 | i + 1=>by
  unfold fl0
  split
  ·exact (kG (jt m i)).1
  ·exact jt m i
theorem sf (m : Msh) : ∀ i,i <= m.f.length -> ∀ a,(fl0 m i).1.count a=if (fl0 m i).2.getD a false=true then 1 else 0
 | 0,_,a=>by
  rw [nN m 0 a (by omega)]
  simp [fl0]
 | i + 1,h,a=>by
  have ih:=sf m i (by omega) a
  have hl:=(ju m i).1
  unfold fl0
  split
  ·simp only [(kG (jt m i)).2.1,ih]
   rw [bk (by omega)]
   by_cases e : a=i
   ·subst e
    rw [nN m a a (x0l _)]
    simp
   ·simp only [if_neg e]
    simp
  ·exact ih
theorem oU (m : Msh) : ∀ i,i <= m.f.length -> ∀ a,(rf0 m i).1.getD a false=true -> (rf0 m i).2.getD a 0=(bp m).getD a 0
 | 0,_,a,h=>by
  have:=nN m 0 a (by omega)
  simp only [fl0] at this
  simp only [rf0] at h
  rw [this] at h;cases h
 | i + 1,hi,a,h=>by
  obtain ⟨h1,h2⟩:=eL m i
  unfold rf0 at h ⊢
  split at h
  ·rename_i hb
   simp only [hb,if_true] at h ⊢
   rw [bk (by omega)] at h ⊢
   by_cases e : a=i
   ·rw [if_pos e,e]
   ·rw [if_neg e] at h ⊢
    exact oU m i (by omega) a h
  ·rename_i hb
   simp only [hb] at h ⊢
   exact oU m i (by omega) a h
theorem f6.init (m : Msh) : f6 m (dL m) (cL m):=by
 have hf : ∀ a,(List.replicate m.f.length false).getD a false=false:=fun a=>by
  simp [x0T]
  split <;> rfl
 refine ⟨(oV m _).symm,rfl,jt m _,fun a=>?_,fun a ha=>?_,fun a _=>rfl,fun a ha=>?_,?_⟩
 ·have:=sf m m.f.length (x0l _) a
  simp only [dL,act,cL,hf,oV]
  simpa using this
 ·exact (oU m _ (x0l _) a ha).symm
 ·simp only [cL] at ha
  rw [hf] at ha;cases ha
 ·simp [cL,(eL m _).2]
def rfN (m : Msh) : Nat -> RF -> RF
 | 0,r=>r
 | k + 1,r=>rfN m k (cD m r)
theorem oW (m : Msh) : ∀ (k j : Nat) (r : RF),rfN m (k + j) r=rfN m j (rfN m k r)
 | 0,j,r=>by simp [rfN]
 | k + 1,j,r=>by rw [Nat.succ_add];simp only [rfN];exact oW m k j _
theorem qj (m : Msh) {r : RF} (h : rat r m.f.length < 0) : ∀ j,rfN m j r=r
 | 0=>rfl
 | j + 1=>by simp only [rfN,cD,if_pos h];exact qj m h j
def cr (m : Msh) : RF:=rfN m (3 * m.f.length) (cL m)
theorem f6.run {m : Msh} : ∀ (k : Nat) {s : Fl} {r : RF},f6 m s r -> FlW m s -> f6 m (flN m k s) (rfN m k r)
 | 0,_,_,h,_=>h
 | k + 1,_,_,h,W=>f6.run k (h.step W).1 (fN W).1
theorem pD {m : Msh} : ∀ (k : Nat) {s : Fl},FlW m s -> flM (flN m k s) + k <= flM s \/ (flN m k s).q.length=0
 | 0,s,_=>.inl (x0l _)
 | k + 1,s,W=>by
  simp only [flN]
  by_cases h0 : s.q.length=0
  ·right
   have : dZ m s=s:=by unfold dZ;rw [if_pos h0]
   rw [this,ma m h0];exact h0
  ·obtain ⟨W1,h1⟩:=fN W
   have h2:=h1 (by omega)
   rcases pD k W1 with h3 | h3
   ·left;omega
   ·exact .inr h3
theorem qN (m : Msh) : (aV m).q.length=0:=by
 obtain ⟨W,h⟩:=jv m
 rcases pD (3 * m.f.length) W with h1 | h1
 ·have h2 : flM (aV m) + 3 * m.f.length <= flM (dL m):=h1
  have h3 : (aV m).q.length <= flM (aV m):=by unfold flM;omega
  omega
 ·exact h1
theorem nO (m : Msh) : f6 m (aV m) (cr m):=(f6.init m).run _ (jv m).1
theorem lI (m : Msh) : FlW m (aV m):=Am _ (jv m).1
theorem lw (m : Msh) (a : Nat) (h : (cr m).rc.getD a false=true) : (cr m).lf.getD a false=true:=by
 have h1:=(nO m).cnt a
 have h2 : (aV m).q=[]:=x0v (qN m)
 rw [h2] at h1
 simp only [List.count_nil,act,h,x1J] at h1
 cases e : (cr m).lf.getD a false
 ·rw [e] at h1;simp at h1
 ·rfl
theorem u6 (m : Msh) (hall : ∀ a,a < m.f.length -> (cr m).rc.getD a false=true) : (aV m).sp=(cr m).lv /\ (aV m).ou=(cr m).ou:=by
 have h:=nO m
 have W:=lI m
 refine ⟨x1m (by rw [W.sp,h.len.2]) fun i h1 h2=>?_,h.ou⟩
 have:=h.lv i (hall i (by rw [<- W.sp];exact h1))
 simpa [h1,h2] using this
end Go.Gv

namespace Go.Gv
open Go.Lib
variable {C : CC} (hC : ay prog C)
include hC
end Go.Gv

namespace Go.Gv
variable {C : CC} (hC : ay prog C)
include hC
end Go.Gv

namespace Go.Gv
variable {C : CC} (hC : ay prog C)
include hC
end Go.Gv

namespace Go.Gv
theorem xU {α : Type} {p : α -> Bool} {xs : List α} {i : Nat} (h : dS p xs=(i : Int)) : ∃ h : i < xs.length,p xs[i]=true:=by
 unfold dS at h
 cases e : xs.findIdx? p with
 | none=>rw [e] at h;simp at h
 | some k =>
  rw [e] at h
  have h : k=i:=by have h : (k : Int)=(i : Int):=h;omega
  subst h
  rw [x1z] at e
  exact ⟨e.1,e.2.1⟩
theorem sw {m : Msh} {i k : Nat} (h : 0 <= nbF m i k) : ∃ c,c < 3 /\ crn (fce m (nbF m i k).toNat) c=crn (fce m i) (k + 1) /\ crn (fce m (nbF m i k).toNat) (c + 1)=crn (fce m i) k:=by
 have e : nbF m i k=((nbF m i k).toNat : Int):=by omega
 have h2 : dS (fun f=>bQ f (crn (fce m i) (k + 1)) (crn (fce m i) k)) m.f=((nbF m i k).toNat : Int):=e
 obtain ⟨h3,h4⟩:=xU h2
 rw [jr] at h4
 simp only [bQ,x0x,x0H,x0a,x0g] at h4
 exact h4
end Go.Gv

namespace Go.Gv
theorem ja {m : Msh} (hv : ap m=true) {i k : Nat} (hi : i < m.f.length) (hk : k < 3) (h : 0 <= nbF m i k) : ∃ c,c < 3 /\ nbF m (nbF m i k).toNat c=i:=by
 obtain ⟨c,hc,c1,c2⟩:=sw h
 refine ⟨c,hc,?_⟩
 unfold nbF at c1 c2 ⊢
 rw [c1,c2]
 have hs : bQ (fce m i) (crn (fce m i) k) (crn (fce m i) (k + 1))=true:=by
  simp only [bQ,x0x,x0H,x0a,x0g]
  exact ⟨k,hk,rfl,rfl⟩
 refine dD (fun j hj hji=>?_) hi (by rw [jr];exact hs)
 rw [jr]
 cases e : bQ (fce m j) (crn (fce m i) k) (crn (fce m i) (k + 1))
 ·rfl
 ·have:=km hv hj hi e hs
  omega
def crs (a b : Pnt) : Int:=a.1 * b.2 - a.2 * b.1
theorem xu (a b : Pnt) : crs b a=-crs a b:=by
 unfold crs
 rw [Int.mul_comm b.1,Int.mul_comm b.2]
 omega
theorem wF (a b c : Pnt) : cT a b c=crs a b + crs b c + crs c a:=by
 obtain ⟨a1,a2⟩:=a
 obtain ⟨b1,b2⟩:=b
 obtain ⟨c1,c2⟩:=c
 simp only [cT,crs,Int.sub_mul,Int.mul_sub]
 have e1:=Int.mul_comm a1 a2
 have e2:=Int.mul_comm b2 a1
 have e5:=Int.mul_comm a2 b1
 have e3:=Int.mul_comm c1 a2
 have e4:=Int.mul_comm c2 a1
 omega
def gE (m : Msh) (e : Int × Int) : Int:=crs (ptS (spt m e.1.toNat)) (ptS (spt m e.2.toNat))
theorem tM {l l' : List Int} (h : l.Perm l') : l.sum=l'.sum:=by
 induction h with
 | nil=>rfl
 | cons x _ ih=>simp [ih]
 | swap x y l=>simp;omega
 | trans _ _ ih1 ih2=>exact ih1.trans ih2
theorem uA (m : Msh) : ∀ (n : Nat) (E : List (Int × Int)),E.length <= n -> E.Nodup -> (∀ e ∈ E,e.1 ≠ e.2) -> (∀ e ∈ E,(e.2,e.1) ∈ E) -> (E.map (gE m)).sum=0
 | _,[],_,_,_,_=>rfl
 | 0,e::T,h,_,_,_=>by simp at h
 | n + 1,e::T,h,hn,hd,hs=>by
  have hne : (e.2,e.1) ≠ e:=fun he=>hd e (by simp) (by rw [<- he];simp at he ⊢;have:=congrArg Prod.fst he;have:=congrArg Prod.snd he;simp_all)
  have hmem : (e.2,e.1) ∈ T:=by
   rcases x0K.1 (hs e (by simp)) with h1 | h1
   ·exact absurd h1 hne
   ·exact h1
  rw [x1H] at hn
  have hp:=List.perm_cons_erase hmem
  have h1:=tM (hp.map (gE m))
  have hel : (T.erase (e.2,e.1)).length + 1=T.length:=by
   have:=hp.length_eq
   simpa using this.symm
  have h2:=uA m n (T.erase (e.2,e.1)) (by simp at h;omega) (hn.2.erase _) (fun x hx=>hd x (List.mem_cons_of_mem _ (List.mem_of_mem_erase hx))) (fun x hx=>by
   rw [hn.2.mem_erase_iff] at hx ⊢
   have h3:=hs x (List.mem_cons_of_mem _ hx.2)
   refine ⟨fun h4=>?_,?_⟩
   ·have : x=e:=by
     have a1:=congrArg Prod.fst h4
     have a2:=congrArg Prod.snd h4
     simp at a1 a2
     exact Prod.ext a2 a1
    exact hn.1 (this ▸ hx.2)
   ·rcases x0K.1 h3 with h4 | h4
    ·exfalso
     refine hx.1 ?_
     rw [<- h4]
    ·exact h4)
  have h3 : gE m (e.2,e.1)=-gE m e:=xu _ _
  simp only [x0G,List.sum_cons] at h1 ⊢
  omega
def sdE (m : Msh) (i : Nat) : List (Int × Int):=[(crn (fce m i) 0,crn (fce m i) 1),(crn (fce m i) 1,crn (fce m i) 2),(crn (fce m i) 2,crn (fce m i) 3)]
theorem lP {m : Msh} {i : Nat} {e : Int × Int} : e ∈ sdE m i ↔ bQ (fce m i) e.1 e.2=true:=by
 simp only [sdE,x0K,x09,or_false,bQ,x0x,x0H,x0a,x0g]
 constructor
 ·rintro (rfl | rfl | rfl)
  ·exact ⟨0,by omega,rfl,rfl⟩
  ·exact ⟨1,by omega,rfl,rfl⟩
  ·exact ⟨2,by omega,rfl,rfl⟩
 ·rintro ⟨c,hc,c1,c2⟩
  rcases (by omega : c=0 \/ c=1 \/ c=2) with rfl | rfl | rfl
  ·exact .inl (Prod.ext c1.symm c2.symm)
  ·exact .inr (.inl (Prod.ext c1.symm c2.symm))
  ·exact .inr (.inr (Prod.ext c1.symm c2.symm))
theorem pF {α β : Type} (F : α -> List β) (g : β -> Int) : ∀ l : List α,((l.flatMap F).map g).sum=(l.map fun x=>((F x).map g).sum).sum
 | []=>rfl
 | x::l=>by simp [pF F g l]
theorem sO {α : Type} (g : α -> Int) : ∀ l : List α,(∀ x ∈ l,0 < g x) -> l ≠ [] -> 0 < (l.map g).sum
 | [],_,h=>absurd rfl h
 | [x],h,_=>by have:=h x (by simp);simpa using this
 | x::y::l,h,_=>by
  have h1:=h x (by simp)
  have h2:=sO g (y::l) (fun z hz=>h z (by simp [hz])) (by simp)
  simp only [x0G,List.sum_cons] at h2 ⊢
  omega
theorem tH {m : Msh} (hv : ap m=true) (u : Nat -> Bool) (hcl : ∀ i k,i < m.f.length -> k < 3 -> u i=true -> 0 <= nbF m i k /\ u (nbF m i k).toNat=true) : ∀ i,i < m.f.length -> u i=false:=by
 intro i hi
 cases hu : u i
 ·rfl
 exfalso
 obtain ⟨U,hU⟩ : ∃ U,U=(List.range m.f.length).filter u:=⟨_,rfl⟩
 have hmU : ∀ x,x ∈ U ↔ x < m.f.length /\ u x=true:=fun x=>by rw [hU,List.mem_filter,x0H]
 have hnU : U.Pairwise (· ≠ ·):=by rw [hU];exact List.Pairwise.filter _ List.nodup_range
 have hcor : ∀ x,x < m.f.length -> (fce m x).a ≠ (fce m x).b /\ (fce m x).b ≠ (fce m x).c /\ (fce m x).c ≠ (fce m x).a:=fun x hx=>by
  have:=(iQ hv hx).1
  simp only [okF,okc,x0a,x0g] at this
  exact ⟨this.1.1.1.1.1.2,this.1.1.1.2.1.2,this.1.1.2.1.2⟩
 have hE:=uA m _ (U.flatMap (sdE m)) (x0l _) (by
  rw [List.Nodup,List.pairwise_flatMap]
  refine ⟨fun x hx=>?_,hnU.imp_of_mem fun {x y} hx hy hxy e he e' he' h=>?_⟩
  ·obtain ⟨k1,k2,k3⟩:=hcor x ((hmU x).1 hx).1
   simp only [sdE,crn,List.pairwise_cons,x0K,x09,or_false,forall_eq_or_imp,forall_eq,List.Pairwise.nil,and_true,ne_eq,Prod.mk.injEq,not_and,false_imp_iff,implies_true]
   exact ⟨⟨fun h=>absurd h k1,fun h=>absurd h.symm k3⟩,fun h=>absurd h k2⟩
  ·subst h
   exact hxy (km hv ((hmU x).1 hx).1 ((hmU y).1 hy).1 (lP.1 he) (lP.1 he'))) (fun e he=>by
  obtain ⟨x,hx,hex⟩:=x1n.1 he
  obtain ⟨k1,k2,k3⟩:=hcor x ((hmU x).1 hx).1
  simp only [sdE,crn,x0K,x09,or_false] at hex
  rcases hex with rfl | rfl | rfl
  ·exact k1
  ·exact k2
  ·exact k3) (fun e he=>by
  obtain ⟨x,hx,hex⟩:=x1n.1 he
  have hxl:=(hmU x).1 hx
  have hh:=lP.1 hex
  simp only [bQ,x0x,x0H,x0a,x0g] at hh
  obtain ⟨k,hk,k1,k2⟩:=hh
  obtain ⟨h1,h2⟩:=hcl x k hxl.1 hk hxl.2
  obtain ⟨c,hc,c1,c2⟩:=sw h1
  have hb:=cm m x k
  refine x1n.2 ⟨(nbF m x k).toNat,(hmU _).2 ⟨by omega,h2⟩,lP.2 ?_⟩
  simp only [bQ,x0x,x0H,x0a,x0g]
  exact ⟨c,hc,by rw [c1,k2],by rw [c2,k1]⟩)
 rw [pF] at hE
 have hpos:=sO (fun x=>((sdE m x).map (gE m)).sum) U (fun x hx=>by
  have:=(iQ hv ((hmU x).1 hx).1).2
  have e : iY (aR m (fce m x))=((sdE m x).map (gE m)).sum:=by
   unfold iY
   rw [wF]
   simp only [sdE,x0G,x0W,List.sum_cons,List.sum_nil,gE,aR,crn]
   omega
  rw [<- e];exact this) (by
  intro h
  have:=(hmU i).2 ⟨hi,hu⟩
  rw [h] at this;cases this)
 omega
end Go.Gv

namespace Go.Gv
theorem vV {m : Msh} {i : Nat} {r : RF} {k : Int} : (dQ m i r k).rc.length=r.rc.length /\ (dQ m i r k).lf=r.lf:=by
 unfold dQ
 split
 ·simp
 ·exact ⟨rfl,rfl⟩
theorem iE {m : Msh} {i : Nat} {r : RF} : ∀ j,(rfI m i r j).rc.length=r.rc.length /\ (rfI m i r j).lf=r.lf
 | 0=>⟨rfl,rfl⟩
 | j + 1=>by
  obtain ⟨h1,h2⟩:=iE (m:=m) (i:=i) (r:=r) j
  obtain ⟨h3,h4⟩:=vV (m:=m) (i:=i) (r:=rfI m i r j) (k:=nbF m i j)
  exact ⟨h3.trans h1,h4.trans h2⟩
theorem mW {m : Msh} {i a : Nat} {r : RF} (h : r.rc.getD a false=true) : ∀ j,(rfI m i r j).rc.getD a false=true
 | 0=>h
 | j + 1=>oX (mW h j)
theorem n8 {m : Msh} {i : Nat} {r : RF} (hl : r.rc.length=m.f.length) : ∀ j c,c < j -> 0 <= nbF m i c -> (rfI m i r j).rc.getD (nbF m i c).toNat false=true
 | 0,c,h,_=>by omega
 | j + 1,c,h,h0=>by
  by_cases e : c=j
  ·subst e
   show (dQ m i (rfI m i r c) (nbF m i c)).rc.getD _ false=true
   have hb:=cm m i c
   unfold dQ
   cases e2 : (rfI m i r c).rc.getD (nbF m i c).toNat false
   ·rw [if_pos ⟨h0,rfl⟩]
    rw [bk (by rw [(iE c).1];omega),if_pos rfl]
   ·rw [if_neg (by simp)]
    exact e2
  ·exact oX (n8 hl j c (by omega) h0)
structure RCl (m : Msh) (r : RF) : Prop where
 len : r.rc.length=m.f.length
 cl : ∀ a,r.lf.getD a false=true -> ∀ c,c < 3 -> 0 <= nbF m a c -> r.rc.getD (nbF m a c).toNat false=true
 bd : ∀ a,a < m.f.length -> bsd m a (-1)=true -> r.rc.getD a false=true
theorem mg {l : List Bool} {i j : Nat} (h : (l.set i true).getD j false=true) : j=i \/ l.getD j false=true:=by
 by_cases e : i < l.length
 ·rw [bk e] at h
  split at h
  ·exact .inl (by assumption)
  ·exact .inr h
 ·rw [List.set_eq_of_length_le (by omega)] at h
  exact .inr h
theorem RCl.step {m : Msh} {r : RF} (h : RCl m r) : RCl m (cD m r):=by
 unfold cD
 split
 ·exact h
 ·obtain ⟨h1,h2⟩:=iE (m:=m) (i:=(rat r m.f.length).toNat) (r:={ r with lf:=r.lf.set (rat r m.f.length).toNat true }) 3
  refine ⟨h1.trans h.len,fun a ha c hc h0=>?_,fun a ha hb=>mW (r:={ r with lf:=r.lf.set (rat r m.f.length).toNat true }) (h.bd a ha hb) 3⟩
  rw [h2] at ha
  rcases mg ha with rfl | ha
  ·exact n8 (r:={ r with lf:=r.lf.set (rat r m.f.length).toNat true }) h.len 3 c hc h0
  ·exact mW (r:={ r with lf:=r.lf.set (rat r m.f.length).toNat true }) (h.cl a ha c hc h0) 3
theorem RCl.run {m : Msh} : ∀ (k : Nat) {r : RF},RCl m r -> RCl m (rfN m k r)
 | 0,_,h=>h
 | k + 1,_,h=>RCl.run k h.step
theorem rD (m : Msh) : ∀ i,i <= m.f.length -> ∀ a,a < i -> bsd m a (-1)=true -> (rf0 m i).1.getD a false=true
 | 0,_,a,h,_=>by omega
 | i + 1,hi,a,h,hb=>by
  have hl:=(eL m i).1
  unfold rf0
  by_cases e : a=i
  ·subst e
   rw [if_pos hb]
   simp only
   rw [bk (by omega),if_pos rfl]
  ·have ih:=rD m i (by omega) a (by omega) hb
   split
   ·simp only
    rw [bk (by omega),if_neg e]
    exact ih
   ·exact ih
theorem RCl.init (m : Msh) : RCl m (cL m):=by
 refine ⟨(eL m _).1,fun a ha=>?_,fun a ha hb=>rD m _ (x0l _) a ha hb⟩
 have hf : (List.replicate m.f.length false).getD a false=false:=by
  simp [x0T]
  split <;> rfl
 simp only [cL] at ha
 rw [hf] at ha;cases ha
theorem d8 {m : Msh} (hv : ap m=true) : ∀ a,a < m.f.length -> (cr m).rc.getD a false=true:=by
 have hc : RCl m (cr m):=(RCl.init m).run _
 intro a ha
 have:=tH hv (fun i=>!(cr m).rc.getD i false) (fun i k hi hk hu=>?_) a ha
 ·simpa using this
 ·simp only [x0r] at hu ⊢
  have hb:=cm m i k
  have h0 : 0 <= nbF m i k:=by
   by_cases e : nbF m i k=-1
   ·exfalso
    have h1 : bsd m i (-1)=true:=by
     rcases (by omega : k=0 \/ k=1 \/ k=2) with rfl | rfl | rfl <;> simp [bsd,e]
    rw [hc.bd i hi h1] at hu;cases hu
   ·omega
  refine ⟨h0,?_⟩
  cases e : (cr m).rc.getD (nbF m i k).toNat false
  ·rfl
  ·exfalso
   have h1:=lw m _ e
   obtain ⟨c,hc1,hc2⟩:=ja hv hi hk h0
   have h2:=hc.cl _ h1 c hc1 (by omega)
   rw [hc2] at h2
   simp only [x1q] at h2
   rw [h2] at hu;cases hu
theorem fO {m : Msh} (hv : ap m=true) : (aV m).sp=(cr m).lv /\ (aV m).ou=(cr m).ou:=u6 m (d8 hv)
end Go.Gv

namespace Go.Gv
def lU (n : Nat) (ou : List Int) (rc : List Bool) : Nat -> Nat -> Prop
 | 0,a=>ou.getD a 0=-1
 | d + 1,a=>∃ b : Nat,b < n /\ ou.getD a 0=b /\ rc.getD b false=true /\ lU n ou rc d b
structure OuI (m : Msh) (r : RF) : Prop where
 rc : r.rc.length=m.f.length
 ou : r.ou.length=m.f.length
 e : ∀ a,a < m.f.length -> r.rc.getD a false=true -> ∃ d,d <= r.rc.count true /\ lU m.f.length r.ou r.rc d a
theorem lU.mono {n : Nat} {ou ou' : List Int} {rc rc' : List Bool} (h1 : ∀ a,rc.getD a false=true -> rc'.getD a false=true /\ ou'.getD a 0=ou.getD a 0) : ∀ {d a : Nat},rc.getD a false=true -> lU n ou rc d a -> lU n ou' rc' d a
 | 0,a,ha,h=>by
  show ou'.getD a 0=-1
  rw [(h1 a ha).2];exact h
 | d + 1,a,ha,⟨b,hb,e1,e2,e3⟩=>⟨b,hb,by rw [(h1 a ha).2];exact e1,(h1 b e2).1,lU.mono h1 e2 e3⟩
theorem pv {l : List Bool} {i : Nat} (h : i < l.length) (hf : l.getD i false=false) : (l.set i true).count true=l.count true + 1:=by
 have h1 : l[i]=false:=by simpa [h] using hf
 rw [List.count_set h,h1]
 simp
theorem OuI.p1 {m : Msh} {i : Nat} {r : RF} {k : Int} (h : OuI m r) (hi : i < m.f.length) (hr : r.rc.getD i false=true) (hk : k < m.f.length) : OuI m (dQ m i r k):=by
 unfold dQ
 split
 ·rename_i hc
  have hkl : k.toNat < m.f.length:=by omega
  have hrc:=fun j=>bk (l:=r.rc) (i:=k.toNat) (j:=j) (x:=true) (d:=false) (by rw [h.rc];omega)
  have hou:=fun j (x : Int)=>bk (l:=r.ou) (i:=k.toNat) (j:=j) (x:=x) (d:=(0 : Int)) (by rw [h.ou];omega)
  have hm : ∀ a,r.rc.getD a false=true -> (r.rc.set k.toNat true).getD a false=true /\ (r.ou.set k.toNat (i : Int)).getD a 0=r.ou.getD a 0:=fun a ha=>by
   have hne : a ≠ k.toNat:=fun e=>by rw [e,hc.2] at ha;cases ha
   rw [hrc,hou,if_neg hne,if_neg hne]
   exact ⟨ha,rfl⟩
  have hct:=pv (l:=r.rc) (i:=k.toNat) (by rw [h.rc];omega) hc.2
  refine ⟨by simp [h.rc],by simp [h.ou],fun a ha har=>?_⟩
  simp only at har ⊢
  rw [hct]
  by_cases e : a=k.toNat
  ·obtain ⟨d,hd,he⟩:=h.e i hi hr
   refine ⟨d + 1,by omega,i,hi,?_,(hm i hr).1,lU.mono hm hr he⟩
   rw [hou,if_pos e]
  ·rw [hrc,if_neg e] at har
   obtain ⟨d,hd,he⟩:=h.e a ha har
   exact ⟨d,by omega,lU.mono hm har he⟩
 ·exact h
theorem OuI.i {m : Msh} {i : Nat} {r : RF} (h : OuI m r) (hi : i < m.f.length) (hr : r.rc.getD i false=true) : ∀ j,OuI m (rfI m i r j)
 | 0=>h
 | j + 1=>(OuI.i h hi hr j).p1 hi (mW hr j) (cm m i j).2
theorem OuI.step {m : Msh} {r : RF} (h : OuI m r) : OuI m (cD m r):=by
 unfold cD
 split
 ·exact h
 ·rename_i h0
  rcases ef r m.f.length with ⟨h1,_⟩ | ⟨a,h1,h2,h3,_⟩
  ·omega
  ·rw [h1]
   simp only [act,x0a] at h3
   exact OuI.i (r:={ r with lf:=r.lf.set a true }) ⟨h.rc,h.ou,h.e⟩ h2 h3.1 3
theorem OuI.run {m : Msh} : ∀ (k : Nat) {r : RF},OuI m r -> OuI m (rfN m k r)
 | 0,_,h=>h
 | k + 1,_,h=>OuI.run k h.step
theorem OuI.init (m : Msh) : OuI m (cL m):=by
 refine ⟨(eL m _).1,by simp [cL],fun a ha _=>⟨0,by omega,?_⟩⟩
 show (List.replicate m.f.length (-1 : Int)).getD a 0=-1
 simp [x0T,ha]
theorem gc {m : Msh} (hv : ap m=true) {a : Nat} (ha : a < m.f.length) : ∃ d,d <= m.f.length /\ lU m.f.length (aV m).ou (cr m).rc d a:=by
 have h : OuI m (cr m):=(OuI.init m).run _
 obtain ⟨d,hd,he⟩:=h.e a ha (d8 hv a ha)
 refine ⟨d,?_,by rw [(fO hv).2];exact he⟩
 have:=List.count_le_length (a:=true) (l:=(cr m).rc)
 have:=h.rc
 omega
end Go.Gv

namespace Go.Gv
def zj (m : Msh) (i : Nat) : Bool:=decide ((bp m).getD i 0 < (aV m).sp.getD i 0)
def Q5 (m : Msh) (i k : Nat) : Prop:=i < m.f.length /\ k < m.f.length /\ zj m i=true /\ zj m k=true /\ (aV m).sp.getD i 0=(aV m).sp.getD k 0 /\ ∃ j,j < 3 /\ nbF m i j=k
theorem Cn.wet {m : Msh} {a b : Nat} (h : Cn (Q5 m) a b) : zj m a=zj m b /\ (aV m).sp.getD a 0=(aV m).sp.getD b 0:=by
 induction h with
 | refl=>exact ⟨rfl,rfl⟩
 | step _ r ih =>
  obtain ⟨_,_,h3,h4,h5,_⟩:=r
  exact ⟨ih.1.trans (h3.trans h4.symm),ih.2.trans h5⟩
end Go.Gv

namespace Go.Gv
def Lo (l : List (List Nat)) : List (List D):=l.map fun p=>[.sl (nfR p)]
section
variable {C : Nat -> List D -> D -> List D -> Prop} (hC : ay prog C)
include hC
end
end Go.Gv

namespace Go.Gv
theorem vc {f : Fce} {a b : Int} {k : Nat} (hk : k < 3) (h1 : crn f k=a) (h2 : crn f (k + 1)=b) : bQ f a b=true:=by
 simp only [bQ,x0x,x0H,x0a,x0g]
 exact ⟨k,hk,h1,h2⟩
theorem ve {f : Fce} {a b : Int} (h : ∀ k,k < 3 -> ¬ (crn f k=a /\ crn f (k + 1)=b)) : bQ f a b=false:=by
 simp only [bQ,x1I,x0H,x0a,x0g]
 exact h
theorem wl {m : Msh} {a b : Int} {i : Nat} (hi : i < m.f.length) (hj : ∀ j,j < i -> bQ (fce m j) a b=false) (h : bQ (fce m i) a b=true) : io m a b=i:=by
 refine dD (fun j hl hji=>?_) hi ?_
 ·rw [jr];exact hj j hji
 ·rw [jr];exact h
theorem wm {m : Msh} {a b : Int} (hj : ∀ j,j < m.f.length -> bQ (fce m j) a b=false) : io m a b=-1:=by
 refine dC (fun j hl=>?_)
 rw [jr];exact hj j hl
def rK (m : Msh) (a b : Int) : Int:=if io m a b < 0 then 0 else dS (fun j=>decide (crn (fce m (io m a b).toNat) j=a) && decide (crn (fce m (io m a b).toNat) (j + 1)=b)) (List.range 3)
theorem yK {m : Msh} {a b : Int} (h : io m a b=-1) : rK m a b=0:=by rw [rK,if_pos (by omega)]
theorem yJ {m : Msh} {a b : Int} {i k : Nat} (h : io m a b=i) (hk : k < 3) (hj : ∀ j,j < k -> ¬ (crn (fce m i) j=a /\ crn (fce m i) (j + 1)=b)) (h1 : crn (fce m i) k=a) (h2 : crn (fce m i) (k + 1)=b) : rK m a b=k:=by
 rw [rK,if_neg (by omega),h]
 refine dD (fun j hl hjk=>?_) (by simp;omega) ?_
 ·have:=hj j hjk
  simp only [x1q,List.getElem_range,x0w,x0p]
  omega
 ·simp [h1,h2]
def acK (m : Msh) (i k : Nat) : Int:=rK m (crn (fce m i) (k + 1)) (crn (fce m i) k)
def nbT (m : Msh) (i : Nat) : List (List D):=(List.range i).map fun j=>[.int .i64 (nbF m j 0),.int .i64 (nbF m j 1),.int .i64 (nbF m j 2)]
@[simp] theorem Qg (m : Msh) (i : Nat) : (nbT m i).length=i:=by simp [nbT]
theorem yf (m : Msh) (i : Nat) : nbT m i++[[.int .i64 (nbF m i 0),.int .i64 (nbF m i 1),.int .i64 (nbF m i 2)]]=nbT m (i + 1):=by simp [nbT,x1e]
@[simp] theorem KD (m : Msh) (i : Nat) : List.take i (nbT m i)=nbT m i:=x0q (by simp)
@[simp] theorem Sg (m : Msh) (i : Nat) : List.map (fun e=>List.map bq e) (nbT m i)=nbT m i:=by simp [nbT]
variable {C : CC} (hC : ay prog C)
include hC
set_option maxHeartbeats 2000000 in
theorem yp (m : Msh) (hm : m.f.length <= 100) (a b : Int) : C 322 [.agg (aW m),.int .i64 a,.int .i64 b] (.tup [.int .i64 (io m a b),.int .i64 (rK m a b)]) []:=by
 have kr:=fun i k h=>fT hC (fce m i) k h
 refine aw hC (nf:=N322) rfl rfl ?_
 simp only [aI] at kr
 simp [N322,ab]
 refine av Nat (fun i=>[(1,.int .i64 a),(2,.int .i64 b),(3,.ptr (aW m)),(8,.int .i64 i)]) (fun i=>i <= m.f.length /\ ∀ j,j < i -> bQ (fce m j) a b=false) (fun i=>m.f.length - i) 0 (by simp) (by simp [ab]) ?_
 rintro i ⟨hi,hj⟩
 simp [ab]
 refine aj (fun g1=>?_) (fun g1=>?_) <;> simp at g1 <;> simp [g1]
 ·have hw : IntKind.wrap .i64 ((i : Int) + 1)=((i + 1 : Nat) : Int):=af (by omega) (by omega)
  refine av Nat (fun k=>[(1,.int .i64 a),(2,.int .i64 b),(3,.ptr (aW m)),(8,.int .i64 i),(9,.int .i64 k)]) (fun k=>k <= 3 /\ ∀ j,j < k -> ¬ (crn (fce m i) j=a /\ crn (fce m i) (j + 1)=b)) (fun k=>3 - k) 0 (by simp) (by simp [ab]) ?_
  rintro k ⟨hk,hn⟩
  simp [ab]
  refine aj (fun g2=>?_) (fun g2=>?_) <;> simp at g2 <;> simp [g2]
  ·have hw2 : IntKind.wrap .i64 ((k : Int) + 1)=((k + 1 : Nat) : Int):=af (by omega) (by omega)
   simp [g1,aI]
   refine aa (kr i k (by omega)) (.inl rfl) ?_
   simp
   refine aj (fun c1=>?_) (fun c1=>?_) <;> simp at c1
   ·simp [c1,g1,hw2,aI]
    refine aa (kr i (k + 1) (by omega)) (.inl rfl) ?_
    simp
    refine aj (fun c2=>?_) (fun c2=>?_) <;> simp at c2
    ·have hs:=wl g1 hj (vc (by omega) c1 c2)
     simp [c2]
     exact ⟨hs,yJ hs (by omega) hn c1 c2⟩
    ·simp [c2]
     refine ⟨k + 1,⟨by omega,fun j hjk=>?_⟩,by omega,?_⟩
     ·rcases x0C.1 hjk with h | rfl
      ·exact fun h3 h4=>hn j h ⟨h3,h4⟩
      ·exact fun _ h=>c2 h
     ·simp [ab,hw2]
   ·simp [c1]
    refine ⟨k + 1,⟨by omega,fun j hjk=>?_⟩,by omega,?_⟩
    ·rcases x0C.1 hjk with h | rfl
     ·exact fun h3 h4=>hn j h ⟨h3,h4⟩
     ·exact fun h=>absurd h c1
    ·simp [ab,hw2]
  ·have hk3 : k=3:=by omega
   subst hk3
   refine ⟨i + 1,⟨by omega,fun j hji=>?_⟩,by omega,?_⟩
   ·rcases x0C.1 hji with h | rfl
    ·exact hj j h
    ·exact ve hn
   ·simp [ab,hw]
 ·have hs:=wm (m:=m) (a:=a) (b:=b) (fun j hl=>hj j (by omega))
  exact ⟨hs,yK hs⟩
theorem tN (m : Msh) (hm : m.f.length <= 100) (i k : Nat) (hi : i < m.f.length) (hk : k < 3) : C 287 [.agg (aW m),.int .i64 i,.int .i64 k] (.tup [.int .i64 (nbF m i k),.int .i64 (acK m i k)]) []:=by
 have k1:=fT hC (fce m i) (k + 1) (by omega)
 have k2:=fT hC (fce m i) k (by omega)
 have k3:=yp hC m hm (crn (fce m i) (k + 1)) (crn (fce m i) k)
 rw [show io m (crn (fce m i) (k + 1)) (crn (fce m i) k)=nbF m i k from rfl,show rK m (crn (fce m i) (k + 1)) (crn (fce m i) k)=acK m i k from rfl] at k3
 have hw2 : IntKind.wrap .i64 ((k : Int) + 1)=((k + 1 : Nat) : Int):=af (by omega) (by omega)
 refine aw hC (nf:=N287) rfl rfl ?_
 simp only [ab,aI] at k1 k2 k3
 simp [N287,ab,hi,aI,hw2]
 refine aa k1 (.inl rfl) ?_
 simp
 refine aa k2 (.inl rfl) ?_
 simp
 refine aa k3 (.inl rfl) ?_
 simp
 exact ai (by decide +kernel)
set_option maxHeartbeats 2000000 in
theorem iW (m : Msh) (hm : m.f.length <= 100) : C 259 [.agg (aW m)] (.sl (nbA m)) []:=by
 have ka:=fun i k hi hk=>tN hC m hm i k hi hk
 refine aw hC (nf:=N259) rfl rfl ?_
 simp only [ab] at ka
 simp [N259,ab]
 refine av Nat (fun i=>[(1,.ptr (aW m)),(3,.ref (.r 10048) 0 i),(10048,.blk 3 (nbT m i)),(4,.int .i64 i)]) (fun i=>i <= m.f.length) (fun i=>m.f.length - i) 0 (by simp) (by simp [ab,nbT]) ?_
 rintro i hi
 simp [ab]
 refine aj (fun g1=>?_) (fun g1=>?_) <;> simp at g1 <;> simp [g1]
 ·have hw : IntKind.wrap .i64 ((i : Int) + 1)=((i + 1 : Nat) : Int):=af (by omega) (by omega)
  have k0:=ka i 0 g1 (by omega)
  have k1:=ka i 1 g1 (by omega)
  have k2:=ka i 2 g1 (by omega)
  simp at k0 k1 k2
  refine aa k0 (.inl rfl) ?_
  simp
  refine aa k1 (.inl rfl) ?_
  simp
  refine aa k2 (.inl rfl) ?_
  simp
  refine ⟨by rintro c ((rfl | rfl) | rfl) <;> rfl,by omega,i + 1,by omega,by omega,by simp [ab],rfl,yf m i,hw⟩
 ·have hi2 : i=m.f.length:=by omega
  subst hi2
  rfl
end Go.Gv

namespace Go.Gv
open Go.Lib
variable {C : CC} (hC : ay prog C)
include hC
theorem sy (n : Nat) (h : n < 9223372036854775808) : C 86 [.int .i64 n] (.int .u64 (n : Int)) []:=by
 refine aw hC (nf:=N86) rfl rfl ?_
 simp [N86,dg n (by omega)]
 refine aj (fun h1=>?_) (fun h1=>?_) <;> simp at h1 <;> simp [h1,dg n (by omega)]
 omega
theorem sx (a b c d : Nat) : C 87 [.agg [.int .u64 a,.int .u64 b],.agg [.int .u64 c,.int .u64 d]] (.bool (decide (a < c \/ (a=c /\ b < d)))) []:=by
 refine aw hC (nf:=N87) rfl rfl ?_
 simp [N87]
 refine aj (fun h=>?_) (fun h=>?_) <;> simp at h <;> simp [h]
 have h3 : ¬ a < c:=by omega
 refine aj (fun h2=>?_) (fun h2=>?_) <;> simp at h2 <;> simp [h2,h3]
 ·have h4 : a=c:=by omega
  simp [h4]
 ·omega
theorem qa (a b c d p q : Nat) (ha : a < 18446744073709551616) (hb : b < 18446744073709551616) (hd : d < 18446744073709551616) (hq : q < 18446744073709551616) (h : p * 18446744073709551616 + q + (c * 18446744073709551616 + d)=a * 18446744073709551616 + b) : C 95 [.agg [.int .u64 a,.int .u64 b],.agg [.int .u64 c,.int .u64 d]] (.agg [.int .u64 p,.int .u64 q]) []:=by
 refine aw hC (nf:=N95) rfl rfl ?_
 simp [N95]
 have e3 : IntKind.u64.wrap ((b : Int) - (d : Int))=(q : Int):=uw (by omega) hq
 refine aj (fun h1=>?_) (fun h1=>?_) <;> simp at h1 <;> simp [h1,e3]
 ·have e1 : IntKind.u64.wrap ((a : Int) - (c : Int))=((p + 1 : Nat) : Int):=uw (by omega) (by omega)
  rw [e1]
  exact uw (by omega) (by omega)
 ·exact uw (by omega) (by omega)
theorem CS (x y : Nat) (hx : x < 18446744073709551616) (hy : y < 18446744073709551616) : C 85 [.int .u64 x,.int .u64 y] (wK (x * y)) []:=by
 refine aw hC (nf:=N85) rfl rfl ?_
 obtain ⟨bd,bt,bw,hhi⟩:=Lib.mul64_hi x y hx hy
 have ba:=Lib.half_mul_le (a:=x / 4294967296) (b:=y / 4294967296) (by omega) (by omega)
 have bb:=Lib.half_mul_le (a:=x / 4294967296) (b:=y % 4294967296) (by omega) (by omega)
 have bc:=Lib.half_mul_le (a:=x % 4294967296) (b:=y / 4294967296) (by omega) (by omega)
 have hxy : x * y=x / 4294967296 * (y / 4294967296) * 18446744073709551616 + (x / 4294967296 * (y % 4294967296) + x % 4294967296 * (y / 4294967296)) * 4294967296 + x % 4294967296 * (y % 4294967296):=by
  have e1 : x=x / 4294967296 * 4294967296 + x % 4294967296:=by omega
  have e2 : y=y / 4294967296 * 4294967296 + y % 4294967296:=by omega
  generalize x / 4294967296=ah at *
  generalize x % 4294967296=al at *
  generalize y / 4294967296=bh at *
  generalize y % 4294967296=bl at *
  rw [e1,e2,x0D,Nat.mul_add,Nat.mul_add,x0D]
  rw [show ah * 4294967296 * (bh * 4294967296)=ah * bh * 18446744073709551616 by rw [Nat.mul_assoc,Nat.mul_left_comm 4294967296,<- Nat.mul_assoc]]
  rw [show ah * 4294967296 * bl=ah * bl * 4294967296 by rw [Nat.mul_right_comm],show al * (bh * 4294967296)=al * bh * 4294967296 by rw [Nat.mul_assoc]]
  omega
 obtain ⟨P,hP⟩ : ∃ P,P=x / 4294967296 * (y / 4294967296):=⟨_,rfl⟩
 obtain ⟨Q,hQ⟩ : ∃ Q,Q=x / 4294967296 * (y % 4294967296):=⟨_,rfl⟩
 obtain ⟨R,hR⟩ : ∃ R,R=x % 4294967296 * (y / 4294967296):=⟨_,rfl⟩
 obtain ⟨L,hL⟩ : ∃ L,L=x % 4294967296 * (y % 4294967296):=⟨_,rfl⟩
 obtain ⟨Z,hZ⟩ : ∃ Z,Z=x * y:=⟨_,rfl⟩
 rw [<- hP,<- hQ,<- hR,<- hL,<- hZ] at hxy
 rw [<- hP] at ba
 rw [<- hQ] at bb
 rw [<- hR] at bc
 rw [<- hL] at bd
 obtain ⟨zh,hzh⟩ : ∃ zh,zh=Z / 18446744073709551616:=⟨_,rfl⟩
 obtain ⟨zl,hzl⟩ : ∃ zl,zl=Z % 18446744073709551616:=⟨_,rfl⟩
 rw [<- hZ,wK,<- hzh,<- hzl]
 simp [N85]
 simp only [mz x hx,mz y hy,sH,Ku,<- hP,<- hQ,<- hR,<- hL,dg L bd,dg P (by omega),dg Q (by omega),dg R (by omega),s6]
 obtain ⟨M,hM⟩ : ∃ M,M=Q + L / 4294967296:=⟨_,rfl⟩
 have hM1 : M < 18446744073709551616:=by omega
 rw [<- hM,dg M hM1,sH,mz M hM1,mz L bd,s6]
 obtain ⟨O,hO⟩ : ∃ O,O=R + M % 4294967296:=⟨_,rfl⟩
 have hO1 : O < 18446744073709551616:=by omega
 obtain ⟨O2,hO2⟩ : ∃ O2,O2=O * 4294967296 % 18446744073709551616:=⟨_,rfl⟩
 simp only [s6 R,<- hO,dg O hO1,sH,LK O O2 hO2]
 rw [dg (P + M / 4294967296) (by omega),s6,s6,dg _ (by omega),dg _ (by omega)]
 clear hP hQ hR hL hZ bt bw hhi
 exact ⟨by omega,by omega⟩
theorem oS (a b : Nat) : C 84 [.agg [.int .u64 a,.int .u64 b],.bool false] (.agg [.int .u64 a,.int .u64 b,.bool false]) []:=by
 refine aw hC (nf:=N84) rfl rfl ?_
 simp [N84]
 exact ai (by decide +kernel)
theorem qc (x y : Nat) (hx : x < 9223372036854775808) (hy : y < 9223372036854775808) : C 67 [.int .i64 x,.int .i64 y] (.agg [.int .u64 ((x * y / 18446744073709551616 : Nat) : Int),.int .u64 ((x * y % 18446744073709551616 : Nat) : Int),.bool false]) []:=by
 refine aw hC (nf:=N67) rfl rfl ?_
 have h0 : ¬ (x : Int) < 0:=by omega
 have h1 : ¬ (y : Int) < 0:=by omega
 have hm:=CS hC x y (by omega) (by omega)
 rw [wK] at hm
 obtain ⟨zh,hzh⟩ : ∃ zh,zh=x * y / 18446744073709551616:=⟨_,rfl⟩
 obtain ⟨zl,hzl⟩ : ∃ zl,zl=x * y % 18446744073709551616:=⟨_,rfl⟩
 rw [<- hzh,<- hzl] at hm ⊢
 simp [N67]
 refine aa (sy hC x hx) (.inl rfl) ?_
 simp
 refine aa (sy hC y hy) (.inl rfl) ?_
 simp
 refine aa hm (.inl rfl) ?_
 simp [h0,h1]
 refine aa (oS hC zh zl) (.inl rfl) ?_
 simp
theorem p9 (a b : Nat) : C 84 [.agg [.int .u64 a,.int .u64 b],.bool true] (.agg [.int .u64 a,.int .u64 b,.bool (!(decide (a=0) && decide (b=0)))]) []:=by
 refine aw hC (nf:=N84) rfl rfl ?_
 simp [N84]
 exact ai (by decide +kernel)
theorem CT (a b : Nat) : C 338 [.agg [.int .u64 a,.int .u64 b,.bool false]] (.agg [.int .u64 a,.int .u64 b,.bool (!(decide (a=0) && decide (b=0)))]) []:=by
 have k:=p9 hC a b
 obtain ⟨n,hn⟩ : ∃ n,n=!(decide (a=0) && decide (b=0)):=⟨_,rfl⟩
 rw [<- hn] at k ⊢
 refine aw hC (nf:=N338) rfl rfl ?_
 simp [N338]
 refine aa k (.inl rfl) ?_
 simp
theorem vM (a b : Nat) (ha : a < 18446744073709551616) (hb : b < 18446744073709551616) : C 83 [.agg [.int .u64 a,.int .u64 b],.agg [.int .u64 0,.int .u64 0]] (.agg [.int .u64 a,.int .u64 b]) []:=by
 have w1:=dg a ha
 have w2:=dg b hb
 refine aw hC (nf:=N83) rfl rfl ?_
 simp [N83,w1,w2]
theorem yq (a b : Nat) (ha : a < 18446744073709551616) (hb : b < 18446744073709551616) : C 337 [.agg [.int .u64 a,.int .u64 b,.bool false],.agg [.int .u64 0,.int .u64 0,.bool false]] (.agg [.int .u64 a,.int .u64 b,.bool false]) []:=by
 refine aw hC (nf:=N337) rfl rfl ?_
 simp [N337]
 refine aa (vM hC a b ha hb) (.inl rfl) ?_
 simp
 refine aa (oS hC a b) (.inl rfl) ?_
 simp
 exact ai (by decide +kernel)
theorem yt (a b c d p q : Nat) (ha : c < 18446744073709551616) (hb : d < 18446744073709551616) (hd : b < 18446744073709551616) (hq : q < 18446744073709551616) (h : p * 18446744073709551616 + q + (a * 18446744073709551616 + b)=c * 18446744073709551616 + d) (hl : a < c \/ (a=c /\ b < d)) : C 337 [.agg [.int .u64 a,.int .u64 b,.bool false],.agg [.int .u64 c,.int .u64 d,.bool true]] (.agg [.int .u64 p,.int .u64 q,.bool true]) []:=by
 have k1:=sx hC a b c d
 rw [decide_eq_true hl] at k1
 have k2:=qa hC c d a b p q ha hb hd hq h
 have k3:=p9 hC p q
 rw [show (!(decide (p=0) && decide (q=0)))=true by simp;omega] at k3
 refine aw hC (nf:=N337) rfl rfl ?_
 simp [N337]
 refine aa k1 (.inl rfl) ?_
 simp
 refine aa k2 (.inl rfl) ?_
 simp
 refine aa k3 (.inl rfl) ?_
 simp
 exact ai (by decide +kernel)
theorem yr (a b c d p q : Nat) (ha : a < 18446744073709551616) (hb : b < 18446744073709551616) (hd : d < 18446744073709551616) (hq : q < 18446744073709551616) (h : p * 18446744073709551616 + q + (c * 18446744073709551616 + d)=a * 18446744073709551616 + b) (hl : ¬ (a < c \/ (a=c /\ b < d))) : C 337 [.agg [.int .u64 a,.int .u64 b,.bool false],.agg [.int .u64 c,.int .u64 d,.bool true]] (.agg [.int .u64 p,.int .u64 q,.bool false]) []:=by
 have k1:=sx hC a b c d
 rw [decide_eq_false hl] at k1
 have k2:=qa hC a b c d p q ha hb hd hq h
 have k3:=oS hC p q
 refine aw hC (nf:=N337) rfl rfl ?_
 simp [N337]
 refine aa k1 (.inl rfl) ?_
 simp
 refine aa k2 (.inl rfl) ?_
 simp
 refine aa k3 (.inl rfl) ?_
 simp
 exact ai (by decide +kernel)
def nmD (x : Nat) : D:=.agg [.int .u64 ((x / 18446744073709551616 : Nat) : Int),.int .u64 ((x % 18446744073709551616 : Nat) : Int),.bool false]
theorem vL (x y : Nat) (hx : x < 340282366920938463463374607431768211456) (hy : y < 340282366920938463463374607431768211456) : C 326 [nmD x,nmD y] (.int .i64 (eW x y)) []:=by
 obtain ⟨a,ea⟩ : ∃ a,a=x / 18446744073709551616:=⟨_,rfl⟩
 obtain ⟨b,eb⟩ : ∃ b,b=x % 18446744073709551616:=⟨_,rfl⟩
 obtain ⟨c,ec⟩ : ∃ c,c=y / 18446744073709551616:=⟨_,rfl⟩
 obtain ⟨d,ed⟩ : ∃ d,d=y % 18446744073709551616:=⟨_,rfl⟩
 have ko:=CT hC c d
 rw [nmD,nmD,<- ea,<- eb,<- ec,<- ed]
 by_cases hz : c=0 /\ d=0
 ·obtain ⟨rfl,rfl⟩:=hz
  have ks:=yq hC a b (by omega) (by omega)
  simp at ko
  refine aw hC (nf:=N326) rfl rfl ?_
  simp [N326]
  refine aa ko (.inl rfl) ?_
  simp
  refine aa ks (.inl rfl) ?_
  simp
  refine ⟨ai (by decide +kernel),?_⟩
  refine aj (fun c1=>?_) (fun c1=>?_) <;> simp at c1
  ·simp [c1]
   rw [eW,if_neg (by omega),if_neg (by omega)]
  ·simp
   rw [eW,if_neg (by omega),if_pos (by omega)]
 ·rw [show (!(decide (c=0) && decide (d=0)))=true by simp;omega] at ko
  by_cases hl : a < c \/ (a=c /\ b < d)
  ·have ks:=yt hC a b c d ((y - x) / 18446744073709551616) ((y - x) % 18446744073709551616) (by omega) (by omega) (by omega) (by omega) (by omega) hl
   obtain ⟨p,ep⟩ : ∃ p,p=(y - x) / 18446744073709551616:=⟨_,rfl⟩
   obtain ⟨q,eq⟩ : ∃ q,q=(y - x) % 18446744073709551616:=⟨_,rfl⟩
   rw [<- ep,<- eq] at ks
   refine aw hC (nf:=N326) rfl rfl ?_
   simp [N326]
   refine aa ko (.inl rfl) ?_
   simp
   refine aa ks (.inl rfl) ?_
   simp
   refine ⟨ai (by decide +kernel),?_⟩
   rw [eW,if_pos (by omega)]
  ·have ks:=yr hC a b c d ((x - y) / 18446744073709551616) ((x - y) % 18446744073709551616) (by omega) (by omega) (by omega) (by omega) (by omega) hl
   obtain ⟨p,ep⟩ : ∃ p,p=(x - y) / 18446744073709551616:=⟨_,rfl⟩
   obtain ⟨q,eq⟩ : ∃ q,q=(x - y) % 18446744073709551616:=⟨_,rfl⟩
   rw [<- ep,<- eq] at ks
   refine aw hC (nf:=N326) rfl rfl ?_
   simp [N326]
   refine aa ko (.inl rfl) ?_
   simp
   refine aa ks (.inl rfl) ?_
   simp
   refine ⟨ai (by decide +kernel),?_⟩
   refine aj (fun c1=>?_) (fun c1=>?_) <;> simp at c1
   ·simp [c1]
    rw [eW,if_neg (by omega),if_neg (by omega)]
   ·simp
    rw [eW,if_neg (by omega),if_pos (by omega)]
end Go.Gv

namespace Go.Gv
variable {C : CC} (hC : ay prog C)
include hC
theorem oT (m : Msh) (hv : ap m=true) (i : Nat) (hi : i < m.f.length) : C 296 [.agg (aW m),.int .i64 i] (.int .i64 (bF m i)) []:=by
 obtain ⟨⟨a1,a2⟩,⟨b1,b2⟩,⟨c1,c2⟩⟩:=gf (dR hv hi)
 obtain ⟨h1,h2,h3⟩:=n9 hv hi
 have h1:=bx h1
 have h2:=bx h2
 have h3:=bx h3
 have wz1 : IntKind.wrap .i64 ((spA m i).z + (spB m i).z)=(spA m i).z + (spB m i).z:=af rfl (by omega)
 have wz2 : IntKind.wrap .i64 ((spA m i).z + (spB m i).z + (spC m i).z)=bF m i:=af rfl (by unfold bF;omega)
 refine aw hC (nf:=N296) rfl rfl ?_
 simp [N296,ab,hi,aI,a1,a2,b1,b2,c1,c2,bZ,rM,rN,rO,wz1,wz2]
 exact ai (by decide +kernel)
set_option maxRecDepth 8000 in
set_option maxHeartbeats 2000000 in
theorem vN (m : Msh) (hv : ap m=true) (i j : Nat) (hi : i < m.f.length) (hj : j < m.f.length) : C 336 [.agg (aW m),.int .i64 i,.int .i64 j] (.int .i64 (gz m i j)) []:=by
 obtain ⟨⟨a1,a2⟩,⟨b1,b2⟩,⟨c1,c2⟩⟩:=gf (dR hv hi)
 obtain ⟨⟨d1,d2⟩,⟨e1,e2⟩,⟨f1,f2⟩⟩:=gf (dR hv hj)
 obtain ⟨h1,h2,h3⟩:=n9 hv hi
 have h1:=bx h1
 have h2:=bx h2
 have h3:=bx h3
 obtain ⟨g1,g2,g3⟩:=n9 hv hj
 have g1:=bx g1
 have g2:=bx g2
 have g3:=bx g3
 have hd:=iw hv hi hj
 have k3:=j7 hv hi
 have k4:=j7 hv hj
 have k7:=gh (k:=134217728) (l:=134217728) (a:=bB m i - bB m j) (b:=bB m i - bB m j) (by omega) (by omega) (by omega) (by omega)
 have k8:=gh (k:=134217728) (l:=134217728) (a:=bC m i - bC m j) (b:=bC m i - bC m j) (by omega) (by omega) (by omega) (by omega)
 have wx1 : IntKind.wrap .i64 ((spA m i).x + (spB m i).x)=(spA m i).x + (spB m i).x:=af rfl (by omega)
 have wx2 : IntKind.wrap .i64 ((spA m i).x + (spB m i).x + (spC m i).x)=bB m i:=af rfl (by omega)
 have wx3 : IntKind.wrap .i64 (bB m i - (spA m j).x)=bB m i - (spA m j).x:=af rfl (by omega)
 have wx4 : IntKind.wrap .i64 (bB m i - (spA m j).x - (spB m j).x)=bB m i - (spA m j).x - (spB m j).x:=af rfl (by omega)
 have wx5 : IntKind.wrap .i64 (bB m i - (spA m j).x - (spB m j).x - (spC m j).x)=bB m i - bB m j:=af (by show _=bB m i - ((spA m j).x + (spB m j).x + (spC m j).x);omega) (by omega)
 have wy1 : IntKind.wrap .i64 ((spA m i).y + (spB m i).y)=(spA m i).y + (spB m i).y:=af rfl (by omega)
 have wy2 : IntKind.wrap .i64 ((spA m i).y + (spB m i).y + (spC m i).y)=bC m i:=af rfl (by omega)
 have wy3 : IntKind.wrap .i64 (bC m i - (spA m j).y)=bC m i - (spA m j).y:=af rfl (by omega)
 have wy4 : IntKind.wrap .i64 (bC m i - (spA m j).y - (spB m j).y)=bC m i - (spA m j).y - (spB m j).y:=af rfl (by omega)
 have wy5 : IntKind.wrap .i64 (bC m i - (spA m j).y - (spB m j).y - (spC m j).y)=bC m i - bC m j:=af (by show _=bC m i - ((spA m j).y + (spB m j).y + (spC m j).y);omega) (by omega)
 have w6 : IntKind.wrap .i64 ((bB m i - bB m j) * (bB m i - bB m j))=(bB m i - bB m j) * (bB m i - bB m j):=af rfl (by omega)
 have w7 : IntKind.wrap .i64 ((bC m i - bC m j) * (bC m i - bC m j))=(bC m i - bC m j) * (bC m i - bC m j):=af rfl (by omega)
 have w8 : IntKind.wrap .i64 ((bB m i - bB m j) * (bB m i - bB m j) + (bC m i - bC m j) * (bC m i - bC m j))=gz m i j:=af rfl (by omega)
 refine aw hC (nf:=N336) rfl rfl ?_
 simp [N336,ab,hi,hj,aI,a1,a2,b1,b2,c1,c2,d1,d2,e1,e2,f1,f2,bZ,rM,rN,rO,wx1,wx2,wx3,wx4,wx5,wy1,wy2,wy3,wy4,wy5,w6,w7,w8]
 exact ⟨ai (by decide +kernel),ai (by decide +kernel)⟩
theorem qb (m : Msh) (hv : ap m=true) (i j : Nat) (hi : i < m.f.length) (hj : j < m.f.length) (hs : bF m j <= bF m i) : C 325 [.agg (aW m),.int .i64 i,.int .i64 j] (.tup [.int .i64 (fS m i j),.int .i64 (gz m i j)]) []:=by
 have k1:=oT hC m hv i hi
 have k2:=oT hC m hv j hj
 have k3:=vN hC m hv i j hi hj
 have b1:=iK hv hi
 have b2:=iK hv hj
 have b3:=iB hv hi hj
 have w1 : IntKind.wrap .i64 (bF m i - bF m j)=dF m i j:=af rfl (by unfold dF;omega)
 have d0 : ¬ dF m i j < 0:=by unfold dF;omega
 have e : fS m i j=dF m i j * dF m i j:=by unfold fS;rw [if_neg (by omega)]
 rw [e] at b3 ⊢
 have w2 : IntKind.wrap .i64 (dF m i j * dF m i j)=dF m i j * dF m i j:=af rfl (by omega)
 refine aw hC (nf:=N325) rfl rfl ?_
 simp only [ab] at k1 k2 k3
 simp [N325,ab]
 refine aa k1 (.inl rfl) ?_
 simp
 refine aa k2 (.inl rfl) ?_
 simp [w1]
 refine ⟨ai (by decide +kernel),?_⟩
 simp [d0,w2]
 refine aa k3 (.inl rfl) ?_
 simp
theorem rr (m : Msh) (hv : ap m=true) (i a b : Nat) (hi : i < m.f.length) (ha : a < m.f.length) (hb : b < m.f.length) (sa : bF m a <= bF m i) (sb : bF m b <= bF m i) :
  C 297 [.agg (aW m),.int .i64 i,.int .i64 a,.int .i64 b] (.int .i64 (jk m i a b)) []:=by
 have k1:=qb hC m hv i a hi ha sa
 have k2:=qb hC m hv i b hi hb sb
 have n1:=iB hv hi ha
 have n2:=iB hv hi hb
 have n3:=lL sa
 have n4:=lL sb
 have d1:=iw hv hi ha
 have d2:=iw hv hi hb
 obtain ⟨x,hx⟩ : ∃ x : Nat,fS m i a=x:=⟨(fS m i a).toNat,by omega⟩
 obtain ⟨y,hy⟩ : ∃ x : Nat,fS m i b=x:=⟨(fS m i b).toNat,by omega⟩
 obtain ⟨p,hp⟩ : ∃ x : Nat,gz m i a=x:=⟨(gz m i a).toNat,by omega⟩
 obtain ⟨q,hq⟩ : ∃ x : Nat,gz m i b=x:=⟨(gz m i b).toNat,by omega⟩
 have b1 : x * q <= 1125899906842624 * 36028797018963968:=Nat.mul_le_mul (by omega) (by omega)
 have b2 : y * p <= 1125899906842624 * 36028797018963968:=Nat.mul_le_mul (by omega) (by omega)
 have k3:=qc hC x q (by omega) (by omega)
 have k4:=qc hC y p (by omega) (by omega)
 have k5:=vL hC (x * q) (y * p) (by omega) (by omega)
 have e : jk m i a b=eW ((x * q : Nat) : Int) ((y * p : Nat) : Int):=by rw [jk,hx,hy,hp,hq];simp
 rw [hx,hp] at k1
 rw [hy,hq] at k2
 rw [e]
 obtain ⟨c,hc⟩ : ∃ c,c=eW ((x * q : Nat) : Int) ((y * p : Nat) : Int):=⟨_,rfl⟩
 rw [<- hc] at k5 ⊢
 simp only [nmD] at k5
 obtain ⟨u1,hu1⟩ : ∃ z,z=x * q / 18446744073709551616:=⟨_,rfl⟩
 obtain ⟨u2,hu2⟩ : ∃ z,z=x * q % 18446744073709551616:=⟨_,rfl⟩
 obtain ⟨v1,hv1⟩ : ∃ z,z=y * p / 18446744073709551616:=⟨_,rfl⟩
 obtain ⟨v2,hv2⟩ : ∃ z,z=y * p % 18446744073709551616:=⟨_,rfl⟩
 rw [<- hu1,<- hu2] at k3 k5
 rw [<- hv1,<- hv2] at k4 k5
 obtain ⟨G,hG⟩ : ∃ G,G=aW m:=⟨_,rfl⟩
 simp only [ab] at k1 k2
 refine aw hC (nf:=N297) rfl rfl ?_
 simp [N297,ab]
 refine aa k1 (.inl rfl) ?_
 simp
 refine aa k2 (.inl rfl) ?_
 simp
 refine aa k3 (.inl rfl) ?_
 simp
 refine aa k4 (.inl rfl) ?_
 simp
 refine aa k5 (.inl rfl) ?_
 simp
end Go.Gv

namespace Go.Gv
def bdB (m : Msh) (i k : Nat) : Bool:=(List.range k).any fun c=>decide (nbF m i c < 0)
theorem uu (m : Msh) (i k : Nat) : bdB m i (k + 1)=(bdB m i k || decide (nbF m i k < 0)):=by simp [bdB,x1e]
theorem G7 (m : Msh) (i : Nat) : bdB m i 3=bsd m i (-1):=by
 have h3 : List.range 3=[0,1,2]:=rfl
 have e : ∀ c,decide (nbF m i c < 0)=decide (-1=nbF m i c):=fun c=>by
  have:=cm m i c
  rw [x04]
  simp
  omega
 simp [bdB,h3,bsd,e]
def ini (m : Msh) (i k : Nat) : Int:=if bdB m i k then -1 else -2
def qup (m : Msh) (i k : Nat) : Int:=if upF m i k < 0 then ini m i 3 else upF m i k
theorem Ls (m : Msh) (i : Nat) : qup m i 3=cS m i:=by
 have:=fI m i 3
 unfold qup ini cS
 rw [G7]
 cases bsd m i (-1) <;> simp <;> omega
theorem oD (m : Msh) (i k : Nat) : ini m i k < 0:=by unfold ini;split <;> omega
theorem mr (m : Msh) (i k : Nat) : ini m i (k + 1)=if nbF m i k < 0 /\ ini m i k=-2 then -1 else ini m i k:=by
 unfold ini
 rw [uu]
 cases bdB m i k <;> simp
variable {C : CC} (hC : ay prog C)
include hC
set_option maxRecDepth 8000 in
set_option maxHeartbeats 2000000 in
theorem yo (m : Msh) (hv : ap m=true) (i : Nat) (hi : i < m.f.length) : C 260 [.agg (aW m),.sl (nbA m),.int .i64 i] (.int .i64 (cS m i)) []:=by
 have hs:=fun j hj=>oT hC m hv j hj
 have ks:=fun a b ha hb sa sb=>rr hC m hv i a b hi ha hb sa sb
 simp only [ab] at hs ks
 refine aw hC (nf:=N260) rfl rfl ?_
 simp [N260,ab]
 have hnb : (nbA m)[i]? = some [.int .i64 (nbF m i 0),.int .i64 (nbF m i 1),.int .i64 (nbF m i 2)]:=by simp [nbA,hi]
 refine av Nat (fun k=>[(1,.sl (nbA m)),(2,.int .i64 i),(3,.ptr (aW m)),(7,.int .i64 (ini m i k)),(8,.int .i64 k)]) (fun k=>k <= 3) (fun k=>3 - k) 0 (by simp) (by simp [ab,ini,bdB]) ?_
 rintro k hk
 rcases (by omega : k=0 \/ k=1 \/ k=2 \/ k=3) with rfl | rfl | rfl | rfl
 ·have st:=mr m i 0
  obtain ⟨N,hN⟩ : ∃ N,N=nbF m i 0:=⟨_,rfl⟩
  obtain ⟨B,hB⟩ : ∃ B,B=ini m i 0:=⟨_,rfl⟩
  rw [<- hN,<- hB] at st
  simp [ab,az,aD,aE]
  rw [aq hnb]
  simp [<- hN,<- hB]
  by_cases c1 : N < 0
  ·by_cases c2 : B=-2
   ·rw [if_pos ⟨c1,c2⟩] at st
    simp [c1,c2,az,aD,aE]
    exact ⟨1,by omega,by omega,by simp [ab],st.symm,by simp⟩
   ·rw [if_neg (by omega)] at st
    simp [c1,c2,az,aD,aE]
    exact ⟨1,by omega,by omega,by simp [ab],st.symm,by simp⟩
  ·rw [if_neg (by omega)] at st
   simp [c1,az,aD,aE]
   exact ⟨1,by omega,by omega,by simp [ab],st.symm,by simp⟩
 ·have st:=mr m i 1
  obtain ⟨N,hN⟩ : ∃ N,N=nbF m i 1:=⟨_,rfl⟩
  obtain ⟨B,hB⟩ : ∃ B,B=ini m i 1:=⟨_,rfl⟩
  rw [<- hN,<- hB] at st
  simp [ab,az,aD,aE]
  rw [aq hnb]
  simp [<- hN,<- hB]
  by_cases c1 : N < 0
  ·by_cases c2 : B=-2
   ·rw [if_pos ⟨c1,c2⟩] at st
    simp [c1,c2,az,aD,aE]
    exact ⟨2,by omega,by omega,by simp [ab],st.symm,by simp⟩
   ·rw [if_neg (by omega)] at st
    simp [c1,c2,az,aD,aE]
    exact ⟨2,by omega,by omega,by simp [ab],st.symm,by simp⟩
  ·rw [if_neg (by omega)] at st
   simp [c1,az,aD,aE]
   exact ⟨2,by omega,by omega,by simp [ab],st.symm,by simp⟩
 ·have st:=mr m i 2
  obtain ⟨N,hN⟩ : ∃ N,N=nbF m i 2:=⟨_,rfl⟩
  obtain ⟨B,hB⟩ : ∃ B,B=ini m i 2:=⟨_,rfl⟩
  rw [<- hN,<- hB] at st
  simp [ab,az,aD,aE]
  rw [aq hnb]
  simp [<- hN,<- hB]
  by_cases c1 : N < 0
  ·by_cases c2 : B=-2
   ·rw [if_pos ⟨c1,c2⟩] at st
    simp [c1,c2,az,aD,aE]
    exact ⟨3,by omega,by omega,by simp [ab],st.symm,by simp⟩
   ·rw [if_neg (by omega)] at st
    simp [c1,c2,az,aD,aE]
    exact ⟨3,by omega,by omega,by simp [ab],st.symm,by simp⟩
  ·rw [if_neg (by omega)] at st
   simp [c1,az,aD,aE]
   exact ⟨3,by omega,by omega,by simp [ab],st.symm,by simp⟩
 ·simp [ab]
  refine av Nat (fun k=>[(1,.sl (nbA m)),(2,.int .i64 i),(3,.ptr (aW m)),(7,.int .i64 (qup m i k)),(10,.int .i64 k)]) (fun k=>k <= 3) (fun k=>3 - k) 0 (by simp) (by simp [ab,qup,upF]) ?_
  clear hk
  rintro k hk
  rcases (by omega : k=0 \/ k=1 \/ k=2 \/ k=3) with rfl | rfl | rfl | rfl
  ·have step : upF m i 1=cF m i (upF m i 0) (nbF m i 0):=rfl
   have nb:=cm m i 0
   have ub:=fI m i 0
   have iN:=oD m i 3
   have q0 : qup m i 0=if upF m i 0 < 0 then ini m i 3 else upF m i 0:=rfl
   have q1 : qup m i 1=if upF m i 1 < 0 then ini m i 3 else upF m i 1:=rfl
   obtain ⟨N,hN⟩ : ∃ N,N=nbF m i 0:=⟨_,rfl⟩
   obtain ⟨U,hU⟩ : ∃ U,U=upF m i 0:=⟨_,rfl⟩
   obtain ⟨V,hV⟩ : ∃ V,V=upF m i 1:=⟨_,rfl⟩
   obtain ⟨B,hB⟩ : ∃ B,B=qup m i 0:=⟨_,rfl⟩
   rw [<- hN,<- hU,<- hV] at step
   rw [<- hN] at nb
   rw [<- hU] at ub
   rw [<- hB,<- hU] at q0
   rw [<- hV] at q1
   simp [ab,az,aD,aE]
   rw [aq hnb]
   simp [<- hN,<- hB]
   by_cases c1 : N < 0
   ·rw [cF,if_pos (.inl c1)] at step
    simp [c1,az,aD,aE]
    exact ⟨ai (by decide +kernel),1,by omega,by omega,by simp [ab],by rw [q1,step];exact q0,by simp⟩
   ·have n0 : 0 <= N:=by omega
    have kN:=hs N.toNat (by omega)
    have kI:=hs i hi
    rw [x0F n0] at kN
    simp [c1]
    refine aa kN (.inl rfl) ?_
    simp
    refine aa kI (.inl rfl) ?_
    simp
    by_cases c2 : bF m i <= bF m N.toNat
    ·rw [cF,if_pos (.inr c2)] at step
     simp [c2,az,aD,aE]
     exact ⟨ai (by decide +kernel),1,by omega,by omega,by simp [ab],by rw [q1,step];exact q0,by simp⟩
    ·rw [cF,if_neg (by omega)] at step
     simp [c2]
     refine ⟨ai (by decide +kernel),?_⟩
     by_cases c3 : U < 0
     ·rw [if_pos c3] at step q0
      have b0 : B < 0:=by omega
      simp [b0,az,aD,aE]
      exact ⟨1,by omega,by omega,by simp [ab],by rw [q1,step,if_neg c1],by simp⟩
     ·rw [if_neg c3] at step q0
      have b0 : ¬ B < 0:=by omega
      have hc:=ks N.toNat U.toNat (by omega) (by omega) (by omega) (by omega)
      rw [x0F n0,x0F (by omega),<- q0] at hc
      obtain ⟨c,hcc⟩ : ∃ c,c=jk m i N.toNat U.toNat:=⟨_,rfl⟩
      rw [<- q0] at hcc step
      rw [<- hcc] at hc step
      simp [b0]
      refine aa hc (.inl rfl) ?_
      simp
      by_cases c4 : 0 < c
      ·rw [if_pos (.inl c4)] at step
       simp [c4,az,aD,aE]
       exact ⟨1,by omega,by omega,by simp [ab],by rw [q1,step,if_neg c1],by simp⟩
      ·by_cases c5 : c=0 /\ N < B
       ·rw [if_pos (.inr c5)] at step
        simp [c4,c5.1,c5.2,az,aD,aE]
        exact ⟨1,by omega,by omega,by simp [ab],by rw [q1,step,if_neg c1],by simp⟩
       ·rw [if_neg (by omega)] at step
        by_cases c6 : c=0
        ·have c7 : ¬ N < B:=fun h=>c5 ⟨c6,h⟩
         simp [c6,c7,az,aD,aE]
         exact ⟨1,by omega,by omega,by simp [ab],by rw [q1,step,if_neg b0],by simp⟩
        ·simp [c4,c6,az,aD,aE]
         exact ⟨1,by omega,by omega,by simp [ab],by rw [q1,step,if_neg b0],by simp⟩
  ·have step : upF m i 2=cF m i (upF m i 1) (nbF m i 1):=rfl
   have nb:=cm m i 1
   have ub:=fI m i 1
   have iN:=oD m i 3
   have q0 : qup m i 1=if upF m i 1 < 0 then ini m i 3 else upF m i 1:=rfl
   have q1 : qup m i 2=if upF m i 2 < 0 then ini m i 3 else upF m i 2:=rfl
   obtain ⟨N,hN⟩ : ∃ N,N=nbF m i 1:=⟨_,rfl⟩
   obtain ⟨U,hU⟩ : ∃ U,U=upF m i 1:=⟨_,rfl⟩
   obtain ⟨V,hV⟩ : ∃ V,V=upF m i 2:=⟨_,rfl⟩
   obtain ⟨B,hB⟩ : ∃ B,B=qup m i 1:=⟨_,rfl⟩
   rw [<- hN,<- hU,<- hV] at step
   rw [<- hN] at nb
   rw [<- hU] at ub
   rw [<- hB,<- hU] at q0
   rw [<- hV] at q1
   simp [ab,az,aD,aE]
   rw [aq hnb]
   simp [<- hN,<- hB]
   by_cases c1 : N < 0
   ·rw [cF,if_pos (.inl c1)] at step
    simp [c1,az,aD,aE]
    exact ⟨ai (by decide +kernel),2,by omega,by omega,by simp [ab],by rw [q1,step];exact q0,by simp⟩
   ·have n0 : 0 <= N:=by omega
    have kN:=hs N.toNat (by omega)
    have kI:=hs i hi
    rw [x0F n0] at kN
    simp [c1]
    refine aa kN (.inl rfl) ?_
    simp
    refine aa kI (.inl rfl) ?_
    simp
    by_cases c2 : bF m i <= bF m N.toNat
    ·rw [cF,if_pos (.inr c2)] at step
     simp [c2,az,aD,aE]
     exact ⟨ai (by decide +kernel),2,by omega,by omega,by simp [ab],by rw [q1,step];exact q0,by simp⟩
    ·rw [cF,if_neg (by omega)] at step
     simp [c2]
     refine ⟨ai (by decide +kernel),?_⟩
     by_cases c3 : U < 0
     ·rw [if_pos c3] at step q0
      have b0 : B < 0:=by omega
      simp [b0,az,aD,aE]
      exact ⟨2,by omega,by omega,by simp [ab],by rw [q1,step,if_neg c1],by simp⟩
     ·rw [if_neg c3] at step q0
      have b0 : ¬ B < 0:=by omega
      have hc:=ks N.toNat U.toNat (by omega) (by omega) (by omega) (by omega)
      rw [x0F n0,x0F (by omega),<- q0] at hc
      obtain ⟨c,hcc⟩ : ∃ c,c=jk m i N.toNat U.toNat:=⟨_,rfl⟩
      rw [<- q0] at hcc step
      rw [<- hcc] at hc step
      simp [b0]
      refine aa hc (.inl rfl) ?_
      simp
      by_cases c4 : 0 < c
      ·rw [if_pos (.inl c4)] at step
       simp [c4,az,aD,aE]
       exact ⟨2,by omega,by omega,by simp [ab],by rw [q1,step,if_neg c1],by simp⟩
      ·by_cases c5 : c=0 /\ N < B
       ·rw [if_pos (.inr c5)] at step
        simp [c4,c5.1,c5.2,az,aD,aE]
        exact ⟨2,by omega,by omega,by simp [ab],by rw [q1,step,if_neg c1],by simp⟩
       ·rw [if_neg (by omega)] at step
        by_cases c6 : c=0
        ·have c7 : ¬ N < B:=fun h=>c5 ⟨c6,h⟩
         simp [c6,c7,az,aD,aE]
         exact ⟨2,by omega,by omega,by simp [ab],by rw [q1,step,if_neg b0],by simp⟩
        ·simp [c4,c6,az,aD,aE]
         exact ⟨2,by omega,by omega,by simp [ab],by rw [q1,step,if_neg b0],by simp⟩
  ·have step : upF m i 3=cF m i (upF m i 2) (nbF m i 2):=rfl
   have nb:=cm m i 2
   have ub:=fI m i 2
   have iN:=oD m i 3
   have q0 : qup m i 2=if upF m i 2 < 0 then ini m i 3 else upF m i 2:=rfl
   have q1 : qup m i 3=if upF m i 3 < 0 then ini m i 3 else upF m i 3:=rfl
   obtain ⟨N,hN⟩ : ∃ N,N=nbF m i 2:=⟨_,rfl⟩
   obtain ⟨U,hU⟩ : ∃ U,U=upF m i 2:=⟨_,rfl⟩
   obtain ⟨V,hV⟩ : ∃ V,V=upF m i 3:=⟨_,rfl⟩
   obtain ⟨B,hB⟩ : ∃ B,B=qup m i 2:=⟨_,rfl⟩
   rw [<- hN,<- hU,<- hV] at step
   rw [<- hN] at nb
   rw [<- hU] at ub
   rw [<- hB,<- hU] at q0
   rw [<- hV] at q1
   simp [ab,az,aD,aE]
   rw [aq hnb]
   simp [<- hN,<- hB]
   by_cases c1 : N < 0
   ·rw [cF,if_pos (.inl c1)] at step
    simp [c1,az,aD,aE]
    exact ⟨ai (by decide +kernel),3,by omega,by omega,by simp [ab],by rw [q1,step];exact q0,by simp⟩
   ·have n0 : 0 <= N:=by omega
    have kN:=hs N.toNat (by omega)
    have kI:=hs i hi
    rw [x0F n0] at kN
    simp [c1]
    refine aa kN (.inl rfl) ?_
    simp
    refine aa kI (.inl rfl) ?_
    simp
    by_cases c2 : bF m i <= bF m N.toNat
    ·rw [cF,if_pos (.inr c2)] at step
     simp [c2,az,aD,aE]
     exact ⟨ai (by decide +kernel),3,by omega,by omega,by simp [ab],by rw [q1,step];exact q0,by simp⟩
    ·rw [cF,if_neg (by omega)] at step
     simp [c2]
     refine ⟨ai (by decide +kernel),?_⟩
     by_cases c3 : U < 0
     ·rw [if_pos c3] at step q0
      have b0 : B < 0:=by omega
      simp [b0,az,aD,aE]
      exact ⟨3,by omega,by omega,by simp [ab],by rw [q1,step,if_neg c1],by simp⟩
     ·rw [if_neg c3] at step q0
      have b0 : ¬ B < 0:=by omega
      have hc:=ks N.toNat U.toNat (by omega) (by omega) (by omega) (by omega)
      rw [x0F n0,x0F (by omega),<- q0] at hc
      obtain ⟨c,hcc⟩ : ∃ c,c=jk m i N.toNat U.toNat:=⟨_,rfl⟩
      rw [<- q0] at hcc step
      rw [<- hcc] at hc step
      simp [b0]
      refine aa hc (.inl rfl) ?_
      simp
      by_cases c4 : 0 < c
      ·rw [if_pos (.inl c4)] at step
       simp [c4,az,aD,aE]
       exact ⟨3,by omega,by omega,by simp [ab],by rw [q1,step,if_neg c1],by simp⟩
      ·by_cases c5 : c=0 /\ N < B
       ·rw [if_pos (.inr c5)] at step
        simp [c4,c5.1,c5.2,az,aD,aE]
        exact ⟨3,by omega,by omega,by simp [ab],by rw [q1,step,if_neg c1],by simp⟩
       ·rw [if_neg (by omega)] at step
        by_cases c6 : c=0
        ·have c7 : ¬ N < B:=fun h=>c5 ⟨c6,h⟩
         simp [c6,c7,az,aD,aE]
         exact ⟨3,by omega,by omega,by simp [ab],by rw [q1,step,if_neg b0],by simp⟩
        ·simp [c4,c6,az,aD,aE]
         exact ⟨3,by omega,by omega,by simp [ab],by rw [q1,step,if_neg b0],by simp⟩
  ·simp [ab]
   exact Ls m i
end Go.Gv

namespace Go.Gv
variable {C : CC} (hC : ay prog C)
include hC
theorem pA (b b' : Bool) (xs ys : List Int) (hx : xs.length < 2 ^ 62) (hy : ys.length < 2 ^ 62) : C 19 [slx b (xs.map fun n=>[.int .i64 n]),slx b' (ys.map fun n=>[.int .i64 n])] (.bool (decide (xs=ys))) []:=by
 refine aw hC (nf:=N19) rfl rfl ?_
 simp [N19]
 refine aj (fun h=>?_) (fun h=>?_) <;> simp at h <;> simp [h]
 ·rintro rfl;exact h rfl
 have h' : xs.length=ys.length:=by omega
 refine av Nat (fun i=>[(0,slx b (xs.map fun n=>[.int .i64 n])),(1,slx b' (ys.map fun n=>[.int .i64 n])),(12,.int .i64 ys.length),(13,.int .i64 i)])
  (fun i=>i <= ys.length /\ ∀ k,k < i -> xs[k]? = ys[k]?) (fun i=>ys.length - i) 0 (by simp) (by simp) ?_
 rintro i ⟨hi,hok⟩
 simp
 refine aj (fun h1=>?_) (fun h1=>?_) <;> simp at h1 <;> simp [h1]
 ·have hw : IntKind.wrap .i64 ((i : Int) + 1)=((i + 1 : Nat) : Int):=af (by omega) (by omega)
  have hx1 : i < xs.length:=by omega
  simp [h1,hx1]
  refine ⟨ai (by decide +kernel),?_⟩
  refine aj (fun h2=>?_) (fun h2=>?_) <;> simp [h1,hx1] at h2 <;> simp [h1,hx1,h2,hw]
  ·rintro rfl
   exact h2 rfl
  ·refine ⟨i + 1,⟨by omega,fun k hk=>?_⟩,by omega,rfl⟩
   rcases x0C.1 hk with h5 | rfl
   ·exact hok k h5
   ·rw [x0d h1,x0d hx1,h2]
 ·refine List.ext_getElem? fun k=>?_
  rcases x1b k i with h2 | h2
  ·exact hok k h2
  ·rw [x0M (by omega),x0M (by omega)]
end Go.Gv

namespace Go.Gv
variable {C : CC} (hC : ay prog C)
include hC
end Go.Gv

namespace Go.Gv
variable {C : CC} (hC : ay prog C)
include hC
end Go.Gv

namespace Go.Gv
def qfl (m : Msh) (i : Nat) : List Int:=(List.range i).map fun j=>cS m j
@[simp] theorem Lr (m : Msh) (i : Nat) : List.take i (inR (qfl m i))=inR (qfl m i):=x0q (by simp [qfl])
@[simp] theorem QP (m : Msh) (i : Nat) : (qfl m i).length=i:=by simp [qfl]
theorem yv (m : Msh) (i : Nat) : qfl m i++[cS m i]=qfl m (i + 1):=by simp [qfl,x1e]
variable {C : CC} (hC : ay prog C)
include hC
theorem ym (m : Msh) (hv : ap m=true) (hm : m.f.length <= 100) : C 216 [.agg (aW m)] (.sl (inR (cQ m))) []:=by
 have kn:=iW hC m hm
 have kr:=fun i hi=>yo hC m hv i hi
 simp only [ab] at kn kr
 refine aw hC (nf:=N216) rfl rfl ?_
 simp [N216,ab]
 refine aa kn (.inr rfl) ?_
 simp
 refine av Nat (fun i=>[(1,.ptr (aW m)),(3,.sl (nbA m)),(4,.ref (.r 10064) 0 i),(10064,.blk 1 (inR (qfl m i))),(5,.int .i64 i)]) (fun i=>i <= m.f.length) (fun i=>m.f.length - i) 0 (by simp) (by simp [ab,qfl]) ?_
 rintro i hi
 simp [ab]
 refine aj (fun g1=>?_) (fun g1=>?_) <;> simp at g1 <;> simp [g1]
 ·have hw : IntKind.wrap .i64 ((i : Int) + 1)=((i + 1 : Nat) : Int):=af (by omega) (by omega)
  refine aa (kr i g1) (.inl rfl) ?_
  simp
  have e:=yv m i
  refine ⟨by omega,i + 1,by omega,by omega,by simp [ab],rfl,?_,hw⟩
  rw [<- e,sq]
 ·have hi2 : i=m.f.length:=by omega
  subst hi2
  rfl
end Go.Gv

namespace Go.Gv
variable {C : CC} (hC : ay prog C)
include hC
end Go.Gv

namespace Go.Gv
def Dd (f : Nat -> Int) : Nat -> Int
 | 0=>0
 | n + 1=>Dd f n + f n
def twF (m : Msh) (i : Nat) : Int:=iY (aR m (fce m i))
theorem A3 {m : Msh} (hv : ap m=true) {i : Nat} (hi : i < m.f.length) : 0 <= twF m i /\ twF m i <= 2251799813685248:=by
 have h:=(iQ hv hi).2
 have ht:=sU hv hi
 unfold okT at ht
 simp only [x0a] at ht
 have:=o9 ht.1.1 ht.1.2 ht.2
 unfold twF
 unfold iY cT at *
 omega
end Go.Gv

namespace Go.Gv
structure Ord (m : Msh) (P : List Nat) : Prop where
 perm : P.Perm (List.range m.f.length)
 srt : P.Pairwise fun a b=>bF m b <= bF m a
theorem Ord.len {m : Msh} {P : List Nat} (h : Ord m P) : P.length=m.f.length:=by
 have:=h.perm.length_eq
 simpa using this
theorem Ord.lt {m : Msh} {P : List Nat} (h : Ord m P) {p : Nat} (hp : p < P.length) : P[p] < m.f.length:=by
 have:=h.perm.mem_iff.1 (x0u hp)
 simpa using this
end Go.Gv

set_option maxRecDepth 4000
namespace Go.Gv
def mvS (x y z : Int) (s : Spt) : Spt:=⟨s.x + x,s.y + y,s.z + z⟩
def mvM (m : Msh) (x y z : Int) : Msh:=⟨false,m.s.map (mvS x y z),false,m.f⟩
variable {C : CC} (hC : ay prog C)
include hC
end Go.Gv

namespace Go.Gv
section
variable {m : Msh} {x y z : Int} (hv : ap m=true) (hr : ∀ i,i < m.s.length -> aX (mvS x y z (spt m i))=true)
theorem rk (m : Msh) (x y z : Int) {i : Nat} (h : i < m.s.length) : spt (mvM m x y z) i=mvS x y z (spt m i):=by
 unfold spt mvM
 simp only
 rw [x02 _ i (by simpa using h),x02 _ i h,x1u]
theorem Kv (m : Msh) (x y z : Int) : (mvM m x y z).f=m.f:=rfl
include hv hr
omit hr
theorem Kw {i : Nat} (hi : i < m.f.length) : spA (mvM m x y z) i=mvS x y z (spA m i) /\ spB (mvM m x y z) i=mvS x y z (spB m i) /\ spC (mvM m x y z) i=mvS x y z (spC m i):=by
 obtain ⟨⟨_,h1⟩,⟨_,h2⟩,⟨_,h3⟩⟩:=gf (dR hv hi)
 exact ⟨rk m x y z h1,rk m x y z h2,rk m x y z h3⟩
theorem CH {i : Nat} (hi : i < m.f.length) : bF (mvM m x y z) i=bF m i + 3 * z:=by
 obtain ⟨h1,h2,h3⟩:=Kw (x:=x) (y:=y) (z:=z) hv hi
 unfold bF
 rw [h1,h2,h3]
 simp only [mvS]
 omega
omit hv in
end
end Go.Gv

set_option maxRecDepth 4000
namespace Go.Gv
theorem jx (l : List Int) : ∀ e ∈ inR l,e.length=1 /\ ∀ c ∈ e,aK c=true:=by
 intro e he
 obtain ⟨x,_,rfl⟩:=x0s.1 he
 simp
variable {C : CC} (hC : ay prog C)
include hC
theorem vx (m : Msh) (hv : ap m=true) (i : Nat) (hi : i < m.f.length) : C 376 [.agg (aW m),.agg (br (fce m i))] (.int .i64 (twF m i)) []:=by
 have ht:=sU hv hi
 have k1:=vw hC m (fce m i) (dR hv hi)
 unfold okT at ht
 simp only [x0a] at ht
 have k2:=oI hC ht.1.1 ht.1.2 ht.2
 have e : cT (aR m (fce m i)).1 (aR m (fce m i)).2.1 (aR m (fce m i)).2.2=twF m i:=rfl
 rw [e] at k2
 generalize aR m (fce m i)=t at *
 simp only [ab,aI,cc] at k1
 simp only [ptD] at k2
 refine aw hC (nf:=N376) rfl rfl ?_
 simp [N376,ab,aI]
 refine aa k1 (.inl rfl) ?_
 simp
 refine aa k2 (.inl rfl) ?_
 simp
theorem vk (m : Msh) (x : Int) : C 377 [.agg (aW m),.int .i64 x] (.bool (dT m.f.length x)) []:=by
 refine aw hC (nf:=N377) rfl rfl ?_
 unfold dT
 simp [N377,ab]
 by_cases h : 0 <= x
 ·simp [h]
 ·simp [h]
theorem xc (dec : Nat -> List UInt8) (hI : ∀ n : Nat,n < 100 -> C 127 [.int .i64 n] (.str (dec n)) []) (m : Msh) (hz : bV m=true -> m.s.length <= 100 /\ m.f.length <= 100) (hv : ap m=true) (i : Nat) (hi : i < m.f.length) : C 373 [.agg (aW m),.int .i64 i] (.tup [.int .i64 (twF m i),.int .i64 0]) []:=by
 have k1:=mw hC dec hI m hz
 rw [hv] at k1
 have k2:=vk hC m i
 have e : dT m.f.length (i : Int)=true:=by simp [dT,hi]
 rw [e] at k2
 have k3:=vx hC m hv i hi
 simp only [ab,aI] at k1 k2 k3
 refine aw hC (nf:=N373) rfl rfl ?_
 simp [N373,ab]
 refine aa k1 (.inl rfl) ?_
 simp
 refine aa k2 (.inl rfl) ?_
 simp [hi,aI]
 refine aa k3 (.inl rfl) ?_
 simp
 exact ai (by decide +kernel)
end Go.Gv

set_option maxRecDepth 4000
namespace Go.Gv
variable {C : CC} (hC : ay prog C)
include hC
end Go.Gv

set_option maxRecDepth 4000
namespace Go.Gv
variable {C : CC} (hC : ay prog C)
include hC
theorem yu (m : Msh) (hv : ap m=true) (hm : m.f.length <= 100) : C 281 [.agg (aW m)] (.sl (inR (bp m))) []:=by
 refine aw hC (nf:=N281) rfl rfl ?_
 simp [N281,ab]
 refine av Nat (fun i=>[(1,.ptr (aW m)),(3,.ref (.r 10048) 0 i),(4,.int .i64 i),(10048,.blk 1 (smR m i))]) (fun i=>i <= m.f.length) (fun i=>m.f.length - i) 0 (by simp) (by simp [ab,smR]) ?_
 intro i hi
 simp [ab]
 refine aj (fun h=>?_) (fun h=>?_) <;> simp at h
 ·have hw : IntKind.wrap .i64 ((i : Int) + 1)=((i + 1 : Nat) : Int):=af (by omega) (by omega)
  have k1:=oT hC m hv i h
  have ha:=sI m i
  simp only [ab] at k1
  simp [h]
  refine aa k1 (.inl rfl) ?_
  simp [hw]
  exact ⟨by omega,i + 1,by omega,by omega,by simp [ab],by omega,by omega,ha⟩
 ·have ei : i=m.f.length:=by omega
  subst ei
  have e:=AX m
  have hl : (inR (bp m)).length=m.f.length:=by simp [bp]
  simp [h,e]
  first | exact ⟨by simp [bp],x0q (by omega)⟩ | exact x0q (by omega) | exact x0q (by simp [bp])
end Go.Gv

namespace Go.Gv
structure RFW (m : Msh) (r : RF) : Prop where
 rc : r.rc.length=m.f.length
 lf : r.lf.length=m.f.length
 lv : r.lv.length=m.f.length
 ou : r.ou.length=m.f.length
theorem RFW.p1 {m : Msh} {i : Nat} {r : RF} {k : Int} (h : RFW m r) : RFW m (dQ m i r k):=by
 unfold dQ
 split
 ·exact ⟨by simp [h.rc],h.lf,by simp [h.lv],by simp [h.ou]⟩
 ·exact h
theorem RFW.i {m : Msh} {i : Nat} {r : RF} (h : RFW m r) : ∀ j,RFW m (rfI m i r j)
 | 0=>h
 | j + 1=>(RFW.i h j).p1
section
variable {C : Nat -> List D -> D -> List D -> Prop} (hC : ay prog C)
include hC
theorem tO (m : Msh) (i : Nat) : C 282 [.agg [.int .i64 (nbF m i 0),.int .i64 (nbF m i 1),.int .i64 (nbF m i 2)]] (.bool (bsd m i (-1))) []:=by
 have b0:=cm m i 0
 have b1:=cm m i 1
 have b2:=cm m i 2
 refine aw hC (nf:=N282) rfl rfl ?_
 simp [N282]
 refine aj (fun g1=>?_) (fun g1=>?_) <;> simp at g1
 ·simp [g1,bsd,show (-1 : Int)=nbF m i 0 by omega]
  done
 ·simp [x0S.2 g1]
  refine aj (fun g2=>?_) (fun g2=>?_) <;> simp at g2
  ·simp [g2,bsd]
   exact .inr (.inl (by omega))
  ·simp [x0S.2 g2,bsd]
   rw [x04]
   simp
   omega
theorem rE (a b : Int) : C 283 [.int .i64 a,.int .i64 b] (.int .i64 (if b < a then a else b)) []:=by
 refine aw hC (nf:=N283) rfl rfl ?_
 simp [N283]
 refine aj (fun g1=>?_) (fun g1=>?_) <;> simp at g1
 ·simp [g1]
 ·simp [x0S.2 g1]
set_option maxRecDepth 8000 in
set_option maxHeartbeats 2000000 in
theorem vP (m : Msh) (hv : ap m=true) (hm : m.f.length <= 100) : C 246 [.agg (aW m)] (.tup [.sl (inR (cr m).lv),.sl (inR (cr m).ou)]) []:=by
 have k1:=iW hC m hm
 have k2:=yu hC m hv hm
 simp only [ab] at k1 k2
 refine aw hC (nf:=N246) rfl rfl ?_
 simp [N246,ab]
 refine aa k1 (.inr rfl) ?_
 simp
 refine aa k2 (.inr rfl) ?_
 simp
 refine ⟨ai (by decide +kernel),by omega,ai (by decide +kernel),by omega,ai (by decide +kernel),?_⟩
 have r7 : List.replicate m.f.length [D.bool false]=rcR (rf0 m 0).1:=by simp [rf0,rcR]
 have r8 : List.replicate m.f.length [D.bool false]=rcR (List.replicate m.f.length false):=by simp [rcR]
 have r9 : List.replicate m.f.length [D.int .i64 0]=inR (rf0 m 0).2:=by simp [rf0,inR]
 have r10 : List.replicate m.f.length [D.int .i64 0]=inR (List.replicate 0 (-1)++List.replicate (m.f.length - 0) 0):=by simp [inR]
 refine av Nat (fun i=>[(4,.sl (nbA m)),(5,.sl (inR (bp m))),(6,.int .i64 m.f.length),(7,.ref (.r 10112) 0 m.f.length),(8,.ref (.r 10128) 0 m.f.length),(9,.ref (.r 10144) 0 m.f.length),(10,.ref (.r 10160) 0 m.f.length),(11,.int .i64 i),
  (10112,.blk 1 (rcR (rf0 m i).1)),(10128,.blk 1 (rcR (List.replicate m.f.length false))),(10144,.blk 1 (inR (rf0 m i).2)),(10160,.blk 1 (inR (List.replicate i (-1)++List.replicate (m.f.length - i) 0)))]) (fun i=>i <= m.f.length) (fun i=>m.f.length - i) 0 (by simp) (by simp [rf0,rcR,inR]) ?_
 rintro i hi
 obtain ⟨l1,l2⟩:=eL m i
 have hw : IntKind.wrap .i64 ((i : Int) + 1)=((i + 1 : Nat) : Int):=af (by omega) (by omega)
 have hlo : (List.replicate i (-1 : Int)++List.replicate (m.f.length - i) 0).length=m.f.length:=by simp;omega
 obtain ⟨oi,hoi⟩ : ∃ oi,oi=List.replicate i (-1 : Int)++List.replicate (m.f.length - i) 0:=⟨_,rfl⟩
 rw [<- hoi] at hlo ⊢
 simp
 refine aj (fun g1=>?_) (fun g1=>?_) <;> simp at g1 <;> simp [g1]
 ·have hio : i < oi.length:=by omega
  have hir : i < (rf0 m i).1.length:=by omega
  have hil : i < (rf0 m i).2.length:=by omega
  have his : i < (bp m).length:=by simpa using g1
  have ho2 : oi.set i (-1)=List.replicate (i + 1) (-1 : Int)++List.replicate (m.f.length - (i + 1)) 0:=by
   rw [hoi]
   apply x1m (by simp;omega)
   intro j h1 h2
   simp only [List.getElem_set,List.getElem_append,List.length_replicate,List.getElem_replicate]
   split <;> split <;> (try split) <;> omega
  simp [cI hio,oC,aq (lK g1)]
  refine aa (tO hC m i) (.inl rfl) ?_
  simp
  have e0 : rf0 m (i + 1)=if bsd m i (-1) then ((rf0 m i).1.set i true,(rf0 m i).2.set i ((bp m).getD i 0)) else rf0 m i:=rfl
  refine aj (fun g2=>?_) (fun g2=>?_)
  ·rw [if_pos g2] at e0
   simp [g2,aq (cI his),d7 hir,cI hil,jK,oC]
   exact ⟨by omega,i + 1,by omega,by omega,hw,by rw [e0],by rw [e0];rfl,by rw [ho2]⟩
  ·rw [if_neg (by simp [g2])] at e0
   simp [g2]
   exact ⟨i + 1,by omega,by omega,hw,by rw [e0],by rw [e0],by rw [ho2]⟩
 ·have hin : i=m.f.length:=by omega
  subst hin
  have hoe : oi=List.replicate m.f.length (-1):=by rw [hoi];simp
  have W0 : RFW m (cL m):=⟨l1,by simp [cL],l2,by simp [cL]⟩
  refine av (RF × Nat) (fun s=>[(4,.sl (nbA m)),(5,.sl (inR (bp m))),(6,.int .i64 m.f.length),(7,.ref (.r 10112) 0 m.f.length),(8,.ref (.r 10128) 0 m.f.length),(9,.ref (.r 10144) 0 m.f.length),(10,.ref (.r 10160) 0 m.f.length),
   (10112,.blk 1 (rcR s.1.rc)),(10128,.blk 1 (rcR s.1.lf)),(10144,.blk 1 (inR s.1.lv)),(10160,.blk 1 (inR s.1.ou))]) (fun s=>RFW m s.1 /\ s.1=rfN m s.2 (cL m) /\ s.2 + s.1.lf.count false <= m.f.length) (fun s=>s.1.lf.count false) (cL m,0) ⟨W0,rfl,by simp [cL]⟩ (by simp [cL,hoe]) ?_
  rintro ⟨r,k⟩ ⟨W,hs,hk⟩
  simp only at W hs hk
  simp
  refine av Nat (fun j=>[(4,.sl (nbA m)),(5,.sl (inR (bp m))),(6,.int .i64 m.f.length),(7,.ref (.r 10112) 0 m.f.length),(8,.ref (.r 10128) 0 m.f.length),(9,.ref (.r 10144) 0 m.f.length),(10,.ref (.r 10160) 0 m.f.length),(12,.int .i64 (rat r j)),(13,.int .i64 j),
   (10112,.blk 1 (rcR r.rc)),(10128,.blk 1 (rcR r.lf)),(10144,.blk 1 (inR r.lv)),(10160,.blk 1 (inR r.ou))]) (fun j=>j <= m.f.length) (fun j=>m.f.length - j) 0 (by simp) (by simp [rat]) ?_
  rintro j hj
  have hwj : IntKind.wrap .i64 ((j : Int) + 1)=((j + 1 : Nat) : Int):=af (by omega) (by omega)
  simp
  refine aj (fun g2=>?_) (fun g2=>?_) <;> simp at g2 <;> simp [g2]
  ·have hjr : j < r.rc.length:=by rw [W.rc];exact g2
   have hjl : j < r.lf.length:=by rw [W.lf];exact g2
   have hjv : j < r.lv.length:=by rw [W.lv];exact g2
   have hr1 : rat r (j + 1)=if act r j=true /\ (rat r j < 0 \/ r.lv.getD j 0 < r.lv.getD (rat r j).toNat 0) then (j : Int) else rat r j:=rfl
   simp [a8 (d7 hjr)]
   cases hrc : r.rc.getD j false
   ·have ha : act r j=false:=by simp only [act,hrc];rfl
    rw [if_neg (by simp [ha])] at hr1
    simp at hrc
    simp [hrc]
    exact ⟨ai (by decide +kernel),j + 1,by omega,by omega,hr1.symm,hwj⟩
   ·cases hlf : r.lf.getD j false
    ·have ha : act r j=true:=by simp only [act,hrc,hlf];rfl
     simp at hrc hlf
     simp [hrc,hlf,a8 (d7 hjl)]
     refine ⟨g2,aj (fun g3=>?_) (fun g3=>?_)⟩ <;> simp at g3
     ·rw [if_pos ⟨ha,.inl g3⟩] at hr1
      simp [g3]
      exact ⟨ai (by decide +kernel),j + 1,by omega,by omega,hr1.symm,hwj⟩
     ·obtain ⟨a,hae,han⟩ : ∃ a : Nat,rat r j=a /\ a < m.f.length:=by
       rcases ef r j with ⟨h1,_⟩ | ⟨a,h1,h2,_⟩
       ·omega
       ·exact ⟨a,h1,by omega⟩
      have hav : a < r.lv.length:=by rw [W.lv];exact han
      rw [hae] at hr1 ⊢
      simp [a8 (cI hjv),a8 (cI hav),han,g2,show ¬ ((a : Int) < 0) by omega]
      refine ⟨ai (by decide +kernel),aj (fun g4=>?_) (fun g4=>?_)⟩ <;> simp at g4
      ·rw [if_pos ⟨ha,.inr (by simpa using g4)⟩] at hr1
       simp [g4]
       exact ⟨j + 1,by omega,by omega,hr1.symm,hwj⟩
      ·rw [if_neg (fun h=>by
        rcases h.2 with h | h
        ·omega
        ·simp at h;omega)] at hr1
       simp [x0S.2 g4]
       exact ⟨j + 1,by omega,by omega,hr1.symm,hwj⟩
    ·have ha : act r j=false:=by simp only [act,hrc,hlf];rfl
     rw [if_neg (by simp [ha])] at hr1
     simp at hrc hlf
     simp [hrc,hlf,a8 (d7 hjl)]
     exact ⟨g2,ai (by decide +kernel),j + 1,by omega,by omega,hr1.symm,hwj⟩
  ·have hjn : j=m.f.length:=by omega
   subst hjn
   refine aj (fun g3=>?_) (fun g3=>?_) <;> simp at g3
   ·have hfl : cr m=r:=by
     unfold cr
     rw [show 3 * m.f.length=k + (3 * m.f.length - k) by omega,oW,<- hs]
     exact qj m g3 _
    have hlv:=gX r.lv
    have hou:=gX r.ou
    rw [W.lv] at hlv
    rw [W.ou] at hou
    simp [g3]
    refine ⟨⟨by rw [W.lv];omega,by rw [W.ou];omega⟩,?_,?_⟩
    ·rw [hfl,hlv]
    ·rw [hfl,hou]
   ·obtain ⟨a,hae,han,haa⟩ : ∃ a : Nat,rat r m.f.length=a /\ a < m.f.length /\ act r a=true:=by
     rcases ef r m.f.length with ⟨h1,_⟩ | ⟨a,h1,h2,h3,_⟩
     ·omega
     ·exact ⟨a,h1,by omega,h3⟩
    have hst : cD m r=rfI m a { r with lf:=r.lf.set a true } 3:=by
     unfold cD
     rw [if_neg (by omega),hae]
     rfl
    have hal : a < r.lf.length:=by rw [W.lf];exact han
    obtain ⟨r1,hr1⟩ : ∃ r1 : RF,r1={ r with lf:=r.lf.set a true }:=⟨_,rfl⟩
    rw [<- hr1] at hst
    have W1 : RFW m r1:=by rw [hr1];exact ⟨W.rc,by simp [W.lf],W.lv,W.ou⟩
    rw [hae]
    simp [han,d7 hal,jK,show ¬ ((a : Int) < 0) by omega]
    have e1 : r1.rc=r.rc:=by rw [hr1]
    have e2 : r1.lf=r.lf.set a true:=by rw [hr1]
    have e3 : r1.lv=r.lv:=by rw [hr1]
    have e4 : r1.ou=r.ou:=by rw [hr1]
    rw [<- e1,<- e2,<- e3,<- e4]
    refine av Nat (fun c=>[(4,.sl (nbA m)),(5,.sl (inR (bp m))),(6,.int .i64 m.f.length),(7,.ref (.r 10112) 0 m.f.length),(8,.ref (.r 10128) 0 m.f.length),(9,.ref (.r 10144) 0 m.f.length),(10,.ref (.r 10160) 0 m.f.length),(12,.int .i64 a),(14,.int .i64 c),
     (10112,.blk 1 (rcR (rfI m a r1 c).rc)),(10128,.blk 1 (rcR (rfI m a r1 c).lf)),(10144,.blk 1 (inR (rfI m a r1 c).lv)),(10160,.blk 1 (inR (rfI m a r1 c).ou))]) (fun c=>c <= 3) (fun c=>3 - c) 0 (by simp) (by simp [rfI]) ?_
    rintro c hc
    have Wc:=W1.i (i:=a) c
    obtain ⟨t,ht⟩ : ∃ t,t=rfI m a r1 c:=⟨_,rfl⟩
    have hnx : rfI m a r1 (c + 1)=dQ m a t (nbF m a c):=by rw [ht];rfl
    rw [<- ht] at Wc ⊢
    have hwc : IntKind.wrap .i64 ((c : Int) + 1)=((c + 1 : Nat) : Int):=af (by omega) (by omega)
    simp
    refine aj (fun g4=>?_) (fun g4=>?_) <;> simp at g4
    ·have hc3 : c < 3:=by omega
     have hxc : ([.int .i64 (nbF m a 0),.int .i64 (nbF m a 1),.int .i64 (nbF m a 2)] : List D)[c]?.getD .any=.int .i64 (nbF m a c):=by
      rcases (by omega : c=0 \/ c=1 \/ c=2) with rfl | rfl | rfl <;> rfl
     simp [show (c : Int) < 3 by omega,aq (lK han),hxc]
     have hbd:=cm m a c
     obtain ⟨kk,hkk⟩ : ∃ kk,kk=nbF m a c:=⟨_,rfl⟩
     rw [<- hkk] at hbd hnx ⊢
     refine ⟨by omega,aj (fun g5=>?_) (fun g5=>?_)⟩ <;> simp at g5
     ·obtain ⟨f,hf⟩ : ∃ f : Nat,kk=f:=⟨kk.toNat,by omega⟩
      subst hf
      have hfn : f < m.f.length:=by omega
      have hfr : f < t.rc.length:=by rw [Wc.rc];exact hfn
      have hfv : f < t.lv.length:=by rw [Wc.lv];exact hfn
      have hfo : f < t.ou.length:=by rw [Wc.ou];exact hfn
      have hav : a < t.lv.length:=by rw [Wc.lv];exact han
      have hfs : f < (bp m).length:=by simpa using hfn
      simp [a8 (d7 hfr),hfn]
      cases hrc : t.rc.getD f false
      ·simp at hrc
       have hnx2 : rfI m a r1 (c + 1)={ t with rc:=t.rc.set f true,lv:=t.lv.set f (if t.lv.getD a 0 < (bp m).getD f 0 then (bp m).getD f 0 else t.lv.getD a 0),ou:=t.ou.set f a }:=by
        rw [hnx]
        unfold dQ
        rw [if_pos ⟨by omega,by simpa using hrc⟩]
        rfl
       simp [hrc,hfn,han,aq (cI hfs),a8 (cI hav)]
       refine aa (rE hC _ _) (.inl rfl) ?_
       simp [hfn,d7 hfr,cI hfv,cI hfo,jK,oC]
       have hmx : (if t.lv[a]?.getD 0 < (bp m)[f] then (bp m)[f] else t.lv[a]?.getD 0)=(if t.lv.getD a 0 < (bp m).getD f 0 then (bp m).getD f 0 else t.lv.getD a 0):=by
        simp [hfn]
       rw [hmx]
       exact ⟨ai (by decide +kernel),c + 1,by omega,by omega,hwc,by rw [hnx2],by rw [hnx2],by rw [hnx2],by rw [hnx2]⟩
      ·have hnx2 : rfI m a r1 (c + 1)=t:=by
        rw [hnx]
        unfold dQ
        rw [if_neg (fun h=>by
         have:=h.2
         simp at this hrc
         rw [this] at hrc;cases hrc)]
       simp at hrc
       simp [hrc]
       exact ⟨c + 1,by omega,by omega,hwc,by rw [hnx2],by rw [hnx2],by rw [hnx2],by rw [hnx2]⟩
     ·have hnx2 : rfI m a r1 (c + 1)=t:=by
       rw [hnx]
       unfold dQ
       rw [if_neg (by omega)]
      simp [x0X.2 g5]
      exact ⟨c + 1,by omega,by omega,hwc,by rw [hnx2],by rw [hnx2],by rw [hnx2],by rw [hnx2]⟩
    ·have hc3 : c=3:=by omega
     subst hc3
     rw [<- hst] at ht
     simp [show ¬ ((3 : Int) < 3) by omega]
     have hlc : (cD m r).lf.count false + 1=r.lf.count false:=by
      rw [hst,(iE 3).2,e2]
      refine jQ hal ?_
      simp only [act,x0a,x0r] at haa
      exact haa.2
     exact ⟨cD m r,⟨by rw [hst];exact W1.i 3,k + 1,by rw [oW,<- hs];rfl,by omega⟩,by omega,by rw [ht],by rw [ht],by rw [ht],by rw [ht]⟩
end
end Go.Gv

namespace Go.Gv
section
variable {C : Nat -> List D -> D -> List D -> Prop} (hC : ay prog C)
include hC
theorem A7 (dec : Nat -> List UInt8) (hI : ∀ n : Nat,n < 100 -> C 127 [.int .i64 n] (.str (dec n)) []) (m : Msh) (hz : bV m=true -> m.s.length <= 100 /\ m.f.length <= 100) :
  C 243 [.agg (aW m)] (if ap m then .tup [.sl (inR (aV m).sp),.int .i64 0] else .tup [.nils,.int .i64 1]) []:=by
 have k:=nP hC dec hI m hz
 simp only [ab] at k
 refine aw hC (nf:=N243) rfl rfl ?_
 simp [N243,ab]
 refine aa k (.inr rfl) ?_
 cases hv : ap m
 ·simp
 ·simp [mc]
theorem sZ (dec : Nat -> List UInt8) (hI : ∀ n : Nat,n < 100 -> C 127 [.int .i64 n] (.str (dec n)) []) (m : Msh) (hz : bV m=true -> m.s.length <= 100 /\ m.f.length <= 100) :
  C 244 [.agg (aW m)] (if ap m then .tup [.sl (inR (aV m).ou),.int .i64 0] else .tup [.nils,.int .i64 1]) []:=by
 have k:=nP hC dec hI m hz
 simp only [ab] at k
 refine aw hC (nf:=N244) rfl rfl ?_
 simp [N244,ab]
 refine aa k (.inr rfl) ?_
 cases hv : ap m
 ·simp
 ·simp [mc]
end
end Go.Gv

namespace Go.Gv
section
variable {C : Nat -> List D -> D -> List D -> Prop} (hC : ay prog C)
include hC
end
end Go.Gv

namespace Go.Gv
section
variable {C : Nat -> List D -> D -> List D -> Prop} (hC : ay prog C)
include hC
end
end Go.Gv

namespace Go.Gv
structure LvI (m : Msh) (r : RF) (P : Nat -> Nat -> Prop) : Prop where
 rcl : r.rc.length=m.f.length
 lfl : r.lf.length=m.f.length
 lvl : r.lv.length=m.f.length
 oul : r.ou.length=m.f.length
 l1 : ∀ a,r.lf.getD a false=true -> r.rc.getD a false=true
 l2 : ∀ a b,r.lf.getD a false=true -> r.rc.getD b false=true -> r.lf.getD b false=false -> r.lv.getD a 0 <= r.lv.getD b 0
 bd : ∀ a,a < m.f.length -> bsd m a (-1)=true -> r.rc.getD a false=true
 l3 : ∀ a,a < m.f.length -> r.rc.getD a false=true -> (bsd m a (-1)=true /\ r.ou.getD a 0=-1 /\ r.lv.getD a 0=(bp m).getD a 0) \/
  (bsd m a (-1)=false /\ ∃ z : Nat,z < m.f.length /\ r.ou.getD a 0=z /\ r.lf.getD z false=true /\ (∃ c,c < 3 /\ nbF m a c=z) /\ r.lv.getD a 0=max ((bp m).getD a 0) (r.lv.getD z 0))
 l4 : ∀ y,r.lf.getD y false=true -> ∀ c,c < 3 -> P y c -> ∀ x : Nat,nbF m y c=x -> r.rc.getD x false=true /\ r.lv.getD x 0 <= max ((bp m).getD x 0) (r.lv.getD y 0)
theorem LvI.p1 {m : Msh} (hv : ap m=true) {a j : Nat} {r : RF} (ha : a < m.f.length) (hj : j < 3) (hla : r.lf.getD a false=true) (hat : ∀ z,r.lf.getD z false=true -> r.lv.getD z 0 <= r.lv.getD a 0) {P : Nat -> Nat -> Prop} (h : LvI m r P) :
  LvI m (dQ m a r (nbF m a j)) (fun y c=>P y c \/ (y=a /\ c=j)) /\ (dQ m a r (nbF m a j)).lf=r.lf /\ ∀ z,r.lf.getD z false=true -> (dQ m a r (nbF m a j)).lv.getD z 0=r.lv.getD z 0:=by
 have hb:=cm m a j
 unfold dQ
 split
 ·rename_i hc
  obtain ⟨x0,hx0⟩ : ∃ x0 : Nat,nbF m a j=x0:=⟨(nbF m a j).toNat,by omega⟩
  rw [hx0] at hc hb ⊢
  simp only [x1q] at hc ⊢
  have hxn : x0 < m.f.length:=by omega
  obtain ⟨v,hvv⟩ : ∃ v,v=(if r.lv.getD a 0 < (bp m).getD x0 0 then (bp m).getD x0 0 else r.lv.getD a 0):=⟨_,rfl⟩
  have hv1 : v=max ((bp m).getD x0 0) (r.lv.getD a 0):=by rw [hvv];split <;> omega
  rw [<- hvv]
  have grc : ∀ i,(r.rc.set x0 true).getD i false=if i=x0 then true else r.rc.getD i false:=fun i=>bk (by rw [h.rcl];exact hxn)
  have glv : ∀ i,(r.lv.set x0 v).getD i 0=if i=x0 then v else r.lv.getD i 0:=fun i=>bk (by rw [h.lvl];exact hxn)
  have gou : ∀ i,(r.ou.set x0 (a : Int)).getD i 0=if i=x0 then (a : Int) else r.ou.getD i 0:=fun i=>bk (by rw [h.oul];exact hxn)
  have hne : ∀ i,r.rc.getD i false=true -> i ≠ x0:=fun i hi e=>by rw [e,hc.2] at hi;cases hi
  have hmono : ∀ i,r.rc.getD i false=true -> (r.rc.set x0 true).getD i false=true:=fun i hi=>by rw [grc,if_neg (hne i hi)];exact hi
  have hkeep : ∀ z,r.lf.getD z false=true -> (r.lv.set x0 v).getD z 0=r.lv.getD z 0:=fun z hz=>by rw [glv,if_neg (hne z (h.l1 z hz))]
  refine ⟨⟨by simp [h.rcl],h.lfl,by simp [h.lvl],by simp [h.oul],fun i hi=>hmono i (h.l1 i hi),fun i k hi hk hk2=>?_,fun i hi hbi=>hmono i (h.bd i hi hbi),fun i hi hir=>?_,fun y hy c hc3 hP x hx=>?_⟩,trivial,hkeep⟩
  ·simp only at hi hk hk2 ⊢
   rw [hkeep i hi,glv]
   split
   ·have:=hat i hi
    omega
   ·rename_i e
    rw [grc,if_neg e] at hk
    exact h.l2 i k hi hk hk2
  ·simp only at hir ⊢
   by_cases e : i=x0
   ·subst e
    right
    have hnb : bsd m i (-1)=false:=by
     cases hh : bsd m i (-1)
     ·rfl
     ·have:=h.bd i hi hh
      rw [hc.2] at this
      cases this
    obtain ⟨c',hc',e'⟩:=ja hv ha hj (by omega)
    rw [hx0] at e'
    refine ⟨hnb,a,ha,by rw [gou,if_pos rfl],hla,⟨c',hc',by simpa using e'⟩,?_⟩
    rw [glv,if_pos rfl,hkeep a hla,hv1]
   ·rw [grc,if_neg e] at hir
    rw [gou,if_neg e,glv,if_neg e]
    rcases h.l3 i hi hir with h5 | ⟨h5,z,hz,h6,h7,h8,h9⟩
    ·exact .inl h5
    ·exact .inr ⟨h5,z,hz,h6,h7,h8,by rw [hkeep z h7];exact h9⟩
  ·simp only at hy ⊢
   rw [hkeep y hy]
   rcases hP with hP | ⟨rfl,rfl⟩
   ·obtain ⟨h5,h6⟩:=h.l4 y hy c hc3 hP x hx
    rw [glv,if_neg (hne x h5)]
    exact ⟨hmono x h5,h6⟩
   ·have e : x=x0:=by omega
    subst e
    rw [grc,if_pos rfl,glv,if_pos rfl,hv1]
    exact ⟨by simp,Int.le_refl _⟩
 ·rename_i hc
  refine ⟨⟨h.rcl,h.lfl,h.lvl,h.oul,h.l1,h.l2,h.bd,h.l3,fun y hy c hc3 hP x hx=>?_⟩,rfl,fun _ _=>rfl⟩
  rcases hP with hP | ⟨rfl,rfl⟩
  ·exact h.l4 y hy c hc3 hP x hx
  ·have hxn : x < m.f.length:=by omega
   have hr : r.rc.getD x false=true:=by
    cases hh : r.rc.getD x false
    ·exact absurd ⟨by omega,by rw [hx];simpa using hh⟩ hc
    ·rfl
   refine ⟨hr,?_⟩
   rcases h.l3 x hxn hr with h5 | ⟨h5,z,hz,h6,h7,h8,h9⟩
   ·omega
   ·have:=hat z h7
    omega
theorem LvI.weaken {m : Msh} {r : RF} {P Q : Nat -> Nat -> Prop} (h : LvI m r P) (hPQ : ∀ y c,c < 3 -> r.lf.getD y false=true -> Q y c -> P y c) : LvI m r Q :=
 ⟨h.rcl,h.lfl,h.lvl,h.oul,h.l1,h.l2,h.bd,h.l3,fun y hy c hc hq=>h.l4 y hy c hc (hPQ y c hc hy hq)⟩
theorem LvI.i {m : Msh} (hv : ap m=true) {a : Nat} {r : RF} (ha : a < m.f.length) (hla : r.lf.getD a false=true) (hat : ∀ z,r.lf.getD z false=true -> r.lv.getD z 0 <= r.lv.getD a 0) {P : Nat -> Nat -> Prop} (h : LvI m r P) : ∀ j,j <= 3 ->
  LvI m (rfI m a r j) (fun y c=>P y c \/ (y=a /\ c < j)) /\ (rfI m a r j).lf=r.lf /\ ∀ z,r.lf.getD z false=true -> (rfI m a r j).lv.getD z 0=r.lv.getD z 0
 | 0,_=>⟨h.weaken fun y c _ _ hq=>by rcases hq with h | h;exact h;omega,rfl,fun _ _=>rfl⟩
 | j + 1,hj=>by
  obtain ⟨h1,h2,h3⟩:=LvI.i hv ha hla hat h j (by omega)
  obtain ⟨q1,q2,q3⟩:=h1.p1 hv ha (show j < 3 by omega) (by rw [h2];exact hla) (fun z hz=>by rw [h2] at hz;rw [h3 z hz,h3 a hla];exact hat z hz)
  refine ⟨q1.weaken fun y c hc _ hq=>?_,by show (dQ m a (rfI m a r j) (nbF m a j)).lf=_;rw [q2,h2],fun z hz=>by show (dQ m a (rfI m a r j) (nbF m a j)).lv.getD z 0=_;rw [q3 z (by rw [h2];exact hz),h3 z hz]⟩
  rcases hq with h | ⟨h4,h5⟩
  ·exact .inl (.inl h)
  ·by_cases e : c=j
   ·exact .inr ⟨h4,e⟩
   ·exact .inl (.inr ⟨h4,by omega⟩)
theorem LvI.step {m : Msh} (hv : ap m=true) {r : RF} (h : LvI m r fun _ _=>True) : LvI m (cD m r) fun _ _=>True:=by
 unfold cD
 split
 ·exact h
 ·rename_i h0
  rcases ef r m.f.length with ⟨h1,_⟩ | ⟨a,h1,h2,h3,h4⟩
  ·omega
  ·rw [h1]
   simp only [x1q]
   have h3' : r.rc.getD a false=true /\ r.lf.getD a false=false:=by simpa [act] using h3
   have glf : ∀ i,(r.lf.set a true).getD i false=if i=a then true else r.lf.getD i false:=fun i=>bk (by rw [h.lfl];exact h2)
   have hat : ∀ z,(r.lf.set a true).getD z false=true -> r.lv.getD z 0 <= r.lv.getD a 0:=fun z hz=>by
    rw [glf] at hz
    split at hz
    ·rename_i e;rw [e];exact Int.le_refl _
    ·exact h.l2 z a hz h3'.1 h3'.2
   have hI : LvI m { r with lf:=r.lf.set a true } fun y _=>y ≠ a:=by
    refine ⟨h.rcl,by simp [h.lfl],h.lvl,h.oul,fun i hi=>?_,fun i k hi hk hk2=>?_,h.bd,fun i hi hir=>?_,fun y hy c hc hne x hx=>?_⟩
    ·simp only at hi
     rw [glf] at hi
     split at hi
     ·rename_i e;rw [e];exact h3'.1
     ·exact h.l1 i hi
    ·simp only at hi hk hk2 ⊢
     rw [glf] at hk2
     split at hk2
     ·cases hk2
     ·rename_i e
      have hak : act r k=true:=by simp only [act,hk,hk2];rfl
      by_cases hkn : k < m.f.length
      ·have h5:=h4 k hkn hak
       have h6:=hat i hi
       omega
      ·have : r.rc.getD k false=false:=by
        rw [x1p,x0M (by rw [h.rcl];omega)];rfl
       rw [this] at hk;cases hk
    ·rcases h.l3 i hi hir with h5 | ⟨h5,z,hz,h6,h7,h8,h9⟩
     ·exact .inl h5
     ·refine .inr ⟨h5,z,hz,h6,?_,h8,h9⟩
      show (r.lf.set a true).getD z false=true
      rw [glf];split
      ·rfl
      ·exact h7
    ·simp only at hy
     rw [glf,if_neg hne] at hy
     exact h.l4 y hy c hc trivial x hx
   have:=(hI.i (a:=a) hv h2 (by show (r.lf.set a true).getD a false=true;rw [glf,if_pos rfl]) hat 3 (x0l _)).1
   refine this.weaken fun y c hc _ _=>?_
   by_cases e : y=a
   ·exact .inr ⟨e,hc⟩
   ·exact .inl e
theorem LvI.run {m : Msh} (hv : ap m=true) : ∀ (k : Nat) {r : RF},LvI m r (fun _ _=>True) -> LvI m (rfN m k r) fun _ _=>True
 | 0,_,h=>h
 | k + 1,_,h=>LvI.run hv k (h.step hv)
theorem kH (m : Msh) : ∀ i a,(rf0 m i).1.getD a false=true -> bsd m a (-1)=true
 | 0,a,h=>by
  simp [rf0,x0T] at h
  split at h <;> cases h
 | i + 1,a,h=>by
  unfold rf0 at h
  split at h
  ·rename_i hb
   rcases mg h with rfl | h
   ·exact hb
   ·exact kH m i a h
  ·exact kH m i a h
theorem LvI.init (m : Msh) : LvI m (cL m) fun _ _=>True:=by
 have hf : ∀ i,(List.replicate m.f.length false).getD i false=false:=fun i=>by simp [x0T];split <;> rfl
 refine ⟨(eL m _).1,by simp [cL],(eL m _).2,by simp [cL],fun a ha=>?_,fun a b ha _ _=>?_,fun a ha hb=>rD m _ (x0l _) a ha hb,fun a ha hr=>.inl ⟨kH m _ a hr,?_,oU m _ (x0l _) a hr⟩,fun y hy=>?_⟩
 ·exact absurd ((hf a).symm.trans ha) (by decide)
 ·exact absurd ((hf a).symm.trans ha) (by decide)
 ·show (List.replicate m.f.length (-1 : Int)).getD a 0=-1
  simp [x0T,ha]
 ·exact absurd ((hf y).symm.trans hy) (by decide)
def spF (m : Msh) (a : Nat) : Int:=(aV m).sp.getD a 0
def suF (m : Msh) (a : Nat) : Int:=(bp m).getD a 0
def ouF (m : Msh) (a : Nat) : Int:=(aV m).ou.getD a 0
theorem ke {m : Msh} (hv : ap m=true) : LvI m (cr m) fun _ _=>True:=(LvI.init m).run hv _
theorem iI {m : Msh} (hv : ap m=true) {a : Nat} (ha : a < m.f.length) (hb : bsd m a (-1)=true) : spF m a=suF m a /\ ouF m a=-1:=by
 obtain ⟨e1,e2⟩:=fO hv
 unfold spF suF ouF
 rw [e1,e2]
 rcases (ke hv).l3 a ha (d8 hv a ha) with h | ⟨h,_⟩
 ·exact ⟨h.2.2,h.2.1⟩
 ·rw [hb] at h;cases h
theorem iJ {m : Msh} (hv : ap m=true) {a : Nat} (ha : a < m.f.length) (hb : bsd m a (-1)=false) : ∃ z : Nat,z < m.f.length /\ ouF m a=z /\ (∃ c,c < 3 /\ nbF m a c=z) /\ spF m a=max (suF m a) (spF m z):=by
 obtain ⟨e1,e2⟩:=fO hv
 unfold spF suF ouF
 rw [e1,e2]
 rcases (ke hv).l3 a ha (d8 hv a ha) with h | ⟨_,z,h1,h2,_,h4,h5⟩
 ·rw [hb] at h;cases h.1
 ·exact ⟨z,h1,h2,h4,h5⟩
theorem wC {m : Msh} (hv : ap m=true) {a x c : Nat} (ha : a < m.f.length) (hc : c < 3) (hx : nbF m a c=x) : spF m a <= max (suF m a) (spF m x):=by
 obtain ⟨e1,_⟩:=fO hv
 have hb:=cm m a c
 have hxn : x < m.f.length:=by omega
 obtain ⟨c',hc',e⟩:=ja hv ha hc (by omega)
 rw [hx] at e
 unfold spF suF
 rw [e1]
 exact ((ke hv).l4 x (lw m x (d8 hv x hxn)) c' hc' trivial a (by simpa using e)).2
theorem LV {m : Msh} (hv : ap m=true) {a : Nat} (ha : a < m.f.length) : suF m a <= spF m a:=by
 cases hb : bsd m a (-1)
 ·obtain ⟨z,_,_,_,h⟩:=iJ hv ha hb
  omega
 ·have:=iI hv ha hb
  omega
end Go.Gv

namespace Go.Gv
open Go.Lib
variable {C : CC} (hC : ay prog C)
include hC
end Go.Gv

namespace Go.Gv
def DvS (x b i a q r : Nat) : Prop:=i <= 128 /\ r < b /\ ∃ c,a=c * 2 ^ i /\ c < 2 ^ (128 - i) /\ (q * b + r) * 2 ^ (128 - i) + c=x
theorem DvS.step {x b i a q r : Nat} (h : DvS x b i a q r) (hi : i < 128) (hb : 0 < b) :
  a < 340282366920938463463374607431768211456 /\ 2 * q <= x /\
  ∀ w r' a',2 * r + a / 170141183460469231731687303715884105728=w * b + r' -> r' < b -> a'=2 * a % 340282366920938463463374607431768211456 -> DvS x b (i + 1) a' (2 * q + w) r' /\ 2 * q + w <= x:=by
 obtain ⟨_,hr,c,h1,h2,h3⟩:=h
 obtain ⟨m,hm⟩ : ∃ m,m + 1=128 - i:=⟨127 - i,by omega⟩
 have hm2 : m=128 - (i + 1):=by omega
 rw [<- hm,Nat.pow_succ] at h2 h3
 obtain ⟨V,hV⟩ : ∃ V,V=2 ^ m:=⟨_,rfl⟩
 obtain ⟨W,hW⟩ : ∃ W,W=2 ^ i:=⟨_,rfl⟩
 have hVW : V * W=170141183460469231731687303715884105728:=by
  rw [hV,hW,<- Nat.pow_add,show m + i=127 by omega]
 have hVp : 0 < V:=by rw [hV];exact Nat.two_pow_pos m
 rw [<- hV] at h2 h3
 rw [<- hW] at h1
 obtain ⟨t,ht⟩ : ∃ t,t=c / V:=⟨_,rfl⟩
 obtain ⟨d,hd⟩ : ∃ d,d=c % V:=⟨_,rfl⟩
 have hc : c=t * V + d:=by rw [ht,hd,x1y];exact (Nat.div_add_mod c V).symm
 have hdV : d < V:=by rw [hd];exact Nat.mod_lt _ hVp
 have ht1 : t <= 1:=by
  have : t < 2:=by rw [ht,Nat.div_lt_iff_lt_mul hVp];omega
  omega
 have ha : a=t * 170141183460469231731687303715884105728 + d * W:=by
  rw [h1,hc,x0D,Nat.mul_assoc,hVW]
 have hdW : d * W < 170141183460469231731687303715884105728:=by
  have : (d + 1) * W <= V * W:=x0n _ hdV
  rw [hVW,x0D] at this
  have hWp : 0 < W:=by rw [hW];exact Nat.two_pow_pos i
  omega
 have hbit : a / 170141183460469231731687303715884105728=t:=by
  rw [ha];generalize d * W=z at *;omega
 have fin : ∀ w r',2 * r + t=w * b + r' -> ((2 * q + w) * b + r') * V + d=x:=fun w r' e=>by
  have e1 : (2 * q + w) * b + r'=2 * (q * b + r) + t:=by
   rw [x0D,Nat.mul_assoc]
   generalize q * b=z at *
   generalize w * b=z' at *
   omega
  rw [e1,<- h3,hc,x0D,x1y V 2,<- Nat.mul_assoc,x1y (q * b + r) 2]
  omega
 have big : ∀ w r',2 * r + t=w * b + r' -> 2 * q + w <= x:=fun w r' e=>by
  have e1:=fin w r' e
  have e2 : 2 * q + w <= (2 * q + w) * b:=Nat.le_mul_of_pos_right _ hb
  have e3 : (2 * q + w) * b + r' <= ((2 * q + w) * b + r') * V:=Nat.le_mul_of_pos_right _ hVp
  omega
 refine ⟨?_,?_,?_⟩
 ·rw [ha];generalize d * W=z at *;omega
 ·exact x1x (Nat.le_add_right _ _) (big _ _ (Nat.div_add_mod' (2 * r + t) b).symm)
 ·intro w r' a' e hr' ha'
  rw [hbit] at e
  refine ⟨⟨by omega,hr',d,?_,?_,?_⟩,big w r' e⟩
  ·rw [ha',ha,Nat.pow_succ,<- hW,x1y W 2,Nat.mul_left_comm]
   generalize d * W=z at *
   omega
  ·rw [<- hm2,<- hV];exact hdV
  ·rw [<- hm2,<- hV];exact fin w r' e
theorem DvS.last {x b a q r : Nat} (h : DvS x b 128 a q r) : q=x / b /\ r=x % b:=by
 obtain ⟨_,hr,c,h1,h2,h3⟩:=h
 simp at h2 h3
 subst h2
 simp at h3
 subst h3
 have hb : 0 < b:=by omega
 rw [x1y,Nat.mul_add_div hb,Nat.div_eq_of_lt hr,Nat.mul_add_mod,Nat.mod_eq_of_lt hr]
 exact ⟨rfl,rfl⟩
variable {C : CC} (hC : ay prog C)
include hC
end Go.Gv

namespace Go.Gv
variable {C : CC} (hC : ay prog C)
include hC
end Go.Gv

namespace Go.Gv
open Go.Lib
variable {C : CC} (hC : ay prog C)
include hC
end Go.Gv

namespace Go.Gv
open Go.Lib
variable {C : CC} (hC : ay prog C)
include hC
end Go.Gv

namespace Go.Gv
open Go.Lib
variable {C : CC} (hC : ay prog C)
include hC
end Go.Gv

namespace Go.Gv
def tn0 (m : Msh) (i : Nat) (p : Pnt) : Int:=cT (ptS (spA m i)) (ptS (spB m i)) p
def tn1 (m : Msh) (i : Nat) (p : Pnt) : Int:=cT (ptS (spB m i)) (ptS (spC m i)) p
def tn2 (m : Msh) (i : Nat) (p : Pnt) : Int:=cT (ptS (spC m i)) (ptS (spA m i)) p
@[simp] theorem QO (p : Pnt) : (ptD p).length=2:=zR
@[simp] theorem Lq (p : Pnt) : List.take 2 (ptD p)=ptD p:=zR
@[simp] theorem SD (p : Pnt) : (∀ x,x ∈ ptD p -> isV x=true)=True:=by simp [ptD]
@[simp] theorem SC (p : Pnt) : (∀ x,x ∈ ptD p -> aK x=true)=True:=by simp [ptD]
variable {C : CC} (hC : ay prog C)
include hC
end Go.Gv

namespace Go.Gv
variable {C : CC} (hC : ay prog C)
include hC
end Go.Gv

namespace Go.Gv
open Go.Lib
def tI (m : Msh) (i : Nat) (p : Pnt) : Int:=(spA m i).z * tn1 m i p + (spB m i).z * tn2 m i p + (spC m i).z * tn0 m i p
def pw (m : Msh) (i : Nat) : Int:=cT (ptS (spA m i)) (ptS (spB m i)) (ptS (spC m i))
theorem Dg (m : Msh) (i : Nat) (p : Pnt) : tn0 m i p + tn1 m i p + tn2 m i p=pw m i:=by
 unfold tn0 tn1 tn2 pw cT ptS
 grind
structure OnF (m : Msh) (i : Nat) (p : Pnt) : Prop where
 z0 : -4194304 <= (spA m i).z /\ (spA m i).z <= 4194304
 z1 : -4194304 <= (spB m i).z /\ (spB m i).z <= 4194304
 z2 : -4194304 <= (spC m i).z /\ (spC m i).z <= 4194304
 t0 : 0 <= tn0 m i p /\ tn0 m i p <= 2251799813685248
 t1 : 0 <= tn1 m i p /\ tn1 m i p <= 2251799813685248
 t2 : 0 <= tn2 m i p /\ tn2 m i p <= 2251799813685248
 d : 0 < pw m i /\ pw m i <= 2251799813685248
theorem oJ {z t : Int} (hz : -4194304 <= z /\ z <= 4194304) (ht : 0 <= t) : -(4194304 * t) <= z * t /\ z * t <= 4194304 * t:=by
 have h1:=Int.mul_nonneg (show 0 <= 4194304 - z by omega) ht
 have h2:=Int.mul_nonneg (show 0 <= 4194304 + z by omega) ht
 rw [Int.sub_mul] at h1
 rw [Int.add_mul] at h2
 omega
theorem OnF.num {m : Msh} {i : Nat} {p : Pnt} (h : OnF m i p) : -(4194304 * pw m i) <= tI m i p /\ tI m i p <= 4194304 * pw m i:=by
 have e:=Dg m i p
 have h1:=oJ h.z0 h.t1.1
 have h2:=oJ h.z1 h.t2.1
 have h3:=oJ h.z2 h.t0.1
 unfold tI
 rw [<- e]
 omega
theorem uG {n d k : Int} (hd : 0 < d) (h : -(k * d) <= n /\ n <= k * d) : -k <= n / d /\ n / d <= k:=by
 constructor
 ·exact (Int.le_ediv_iff_mul_le hd).2 (by rw [Int.neg_mul];exact h.1)
 ·exact Int.le_of_lt_add_one ((Int.ediv_lt_iff_lt_mul hd).2 (by rw [Int.add_mul];omega))
def loF (m : Msh) (i : Nat) (p : Pnt) : Int:=tI m i p / pw m i
def hiF (m : Msh) (i : Nat) (p : Pnt) : Int:=-(-tI m i p / pw m i)
theorem OnF.lo {m : Msh} {i : Nat} {p : Pnt} (h : OnF m i p) : -4194304 <= loF m i p /\ loF m i p <= 4194304:=uG h.d.1 h.num
theorem OnF.hi {m : Msh} {i : Nat} {p : Pnt} (h : OnF m i p) : -4194304 <= hiF m i p /\ hiF m i p <= 4194304:=by
 have:=uG (n:=-tI m i p) (k:=4194304) h.d.1 (by have:=h.num;omega)
 unfold hiF
 omega
variable {C : CC} (hC : ay prog C)
include hC
end Go.Gv

namespace Go.Gv
variable {C : CC} (hC : ay prog C)
include hC
end Go.Gv

namespace Go.Gv
section
variable {C : Nat -> List D -> D -> List D -> Prop} (hC : ay prog C)
include hC
end
end Go.Gv

namespace Go.Gv
section
variable {C : Nat -> List D -> D -> List D -> Prop} (hC : ay prog C)
include hC
end
end Go.Gv

namespace Go.Gv
section
variable {C : Nat -> List D -> D -> List D -> Prop} (hC : ay prog C)
include hC
end
end Go.Gv

namespace Go.Gv
theorem ip {m : Msh} {a : Nat} (ha : a < m.f.length) : suF m a=bF m a:=by simp [suF,bp,ha]
variable {C : CC} (hC : ay prog C)
include hC
end Go.Gv

namespace Go.Gv
structure fe (c : Int) (r s : RF) : Prop where
 rc : s.rc=r.rc
 lf : s.lf=r.lf
 ou : s.ou=r.ou
 len : s.lv.length=r.lv.length
 lv : ∀ a,r.rc.getD a false=true -> s.lv.getD a 0=r.lv.getD a 0 + c
theorem fe.act {c : Int} {r s : RF} (h : fe c r s) (a : Nat) : act s a=act r a:=by unfold Go.Gv.act;rw [h.rc,h.lf]
theorem fe.rat {c : Int} {r s : RF} (h : fe c r s) : ∀ i,rat s i=rat r i
 | 0=>rfl
 | i + 1=>by
  have ih:=fe.rat h i
  unfold Go.Gv.rat
  rw [ih,h.act]
  by_cases ha : Go.Gv.act r i=true
  ·have hi : r.rc.getD i false=true:=by
    simp only [Go.Gv.act,x0a] at ha
    exact ha.1
   by_cases h0 : Go.Gv.rat r i < 0
   ·simp only [h0,true_or,and_true]
   ·rcases ef r i with ⟨h1,_⟩ | ⟨a,h1,h2,h3,_⟩
    ·omega
    ·have h4 : r.rc.getD a false=true:=by
      simp only [Go.Gv.act,x0a] at h3
      exact h3.1
     rw [h1]
     simp only [x1q]
     have e1:=h.lv i hi
     have e2:=h.lv a h4
     by_cases hlt : r.lv.getD i 0 < r.lv.getD a 0
     ·rw [if_pos ⟨ha,.inr (by omega)⟩,if_pos ⟨ha,.inr hlt⟩]
     ·rw [if_neg (fun h9=>by omega),if_neg (fun h9=>by omega)]
  ·rw [if_neg (fun h=>ha h.1),if_neg (fun h=>ha h.1)]
section
variable {m : Msh} {x y z : Int} (hv : ap m=true) (hr : ∀ i,i < m.s.length -> aX (mvS x y z (spt m i))=true)
include hv hr
theorem Kx {a : Nat} (ha : a < m.f.length) : suF (mvM m x y z) a=suF m a + 3 * z:=by
 rw [ip (m:=mvM m x y z) (by rw [Kv];exact ha),ip ha]
 exact CH hv ha
theorem fe.p1 {r s : RF} (h : fe (3 * z) r s) (hl : r.rc.length=m.f.length) (hl2 : r.lv.length=m.f.length) {i : Nat} (hi : r.rc.getD i false=true) {k : Int} (hk : k < m.f.length) : fe (3 * z) (dQ m i r k) (dQ (mvM m x y z) i s k):=by
 unfold dQ
 rw [h.rc]
 split
 ·rename_i hc
  have hkn : k.toNat < m.f.length:=by omega
  have e1:=Kx hv hr hkn
  have e2:=h.lv i hi
  have e3 : (if s.lv.getD i 0 < (bp (mvM m x y z)).getD k.toNat 0 then (bp (mvM m x y z)).getD k.toNat 0 else s.lv.getD i 0)=(if r.lv.getD i 0 < (bp m).getD k.toNat 0 then (bp m).getD k.toNat 0 else r.lv.getD i 0) + 3 * z:=by
   unfold suF at e1
   rw [e1,e2]
   split <;> split <;> omega
  refine ⟨rfl,h.lf,by simp only;rw [h.ou],by simp only [List.length_set];exact h.len,fun a ha=>?_⟩
  simp only at ha ⊢
  rw [e3,bk (by rw [h.len,hl2];exact hkn),bk (by rw [hl2];exact hkn)]
  rw [bk (by rw [hl];exact hkn)] at ha
  split
  ·rfl
  ·rename_i e
   rw [if_neg e] at ha
   exact h.lv a ha
 ·exact h
theorem fe.i {r s : RF} (h : fe (3 * z) r s) (hl : r.rc.length=m.f.length) (hl2 : r.lv.length=m.f.length) {i : Nat} (hi : r.rc.getD i false=true) : ∀ j,fe (3 * z) (rfI m i r j) (rfI (mvM m x y z) i s j) /\ (rfI m i r j).lv.length=m.f.length
 | 0=>⟨h,hl2⟩
 | j + 1=>by
  obtain ⟨h1,h2⟩:=fe.i h hl hl2 hi j
  refine ⟨fe.p1 hv hr h1 ((iE j).1.trans hl) h2 (mW hi j) (cm m i j).2,?_⟩
  show (dQ m i (rfI m i r j) (nbF m i j)).lv.length=m.f.length
  unfold dQ
  split
  ·simp only [List.length_set];exact h2
  ·exact h2
theorem fe.step {r s : RF} (h : fe (3 * z) r s) (hl : r.rc.length=m.f.length) (hl2 : r.lv.length=m.f.length) : fe (3 * z) (cD m r) (cD (mvM m x y z) s) /\ (cD m r).rc.length=m.f.length /\ (cD m r).lv.length=m.f.length:=by
 unfold cD
 have hrt : Go.Gv.rat s (mvM m x y z).f.length=Go.Gv.rat r m.f.length:=by rw [Kv];exact h.rat _
 rw [hrt]
 split
 ·exact ⟨h,hl,hl2⟩
 ·rename_i h0
  rcases ef r m.f.length with ⟨h1,_⟩ | ⟨a,h1,h2,h3,_⟩
  ·omega
  ·rw [h1]
   simp only [x1q]
   have h4 : r.rc.getD a false=true:=by
    simp only [Go.Gv.act,x0a] at h3
    exact h3.1
   obtain ⟨q1,q2⟩:=fe.i hv hr (r:={ r with lf:=r.lf.set a true }) (s:={ s with lf:=s.lf.set a true }) ⟨h.rc,by simp only;rw [h.lf],h.ou,h.len,h.lv⟩ hl hl2 h4 3
   exact ⟨q1,(iE (r:={ r with lf:=r.lf.set a true }) 3).1.trans hl,q2⟩
theorem fe.run : ∀ (k : Nat) {r s : RF},fe (3 * z) r s -> r.rc.length=m.f.length -> r.lv.length=m.f.length -> fe (3 * z) (rfN m k r) (rfN (mvM m x y z) k s)
 | 0,_,_,h,_,_=>h
 | k + 1,_,_,h,hl,hl2=>by
  obtain ⟨h1,h2,h3⟩:=fe.step hv hr h hl hl2
  exact fe.run k h1 h2 h3
end
end Go.Gv

namespace Go.Gv
theorem wH (m : Msh) (i : Nat) : ∀ k,upF m i k=-2 \/ ∃ c,c < k /\ nbF m i c=upF m i k
 | 0=>.inl rfl
 | k + 1=>by
  have hs : upF m i (k + 1)=cF m i (upF m i k) (nbF m i k):=rfl
  have hc : upF m i (k + 1)=upF m i k \/ upF m i (k + 1)=nbF m i k:=by
   rw [hs]
   unfold cF
   split
   ·exact .inl rfl
   ·split
    ·exact .inr rfl
    ·split
     ·exact .inr rfl
     ·exact .inl rfl
  rcases hc with h | h
  ·rcases wH m i k with h2 | ⟨c,h2,h3⟩
   ·exact .inl (by rw [h,h2])
   ·exact .inr ⟨c,by omega,by rw [h,h3]⟩
  ·exact .inr ⟨k,by omega,h.symm⟩
theorem C1 {m : Msh} {i : Nat} (h : 0 <= cS m i) : ∃ c,c < 3 /\ nbF m i c=cS m i:=by
 unfold cS at h ⊢
 split at h
 ·omega
 ·rename_i hc
  rw [if_neg hc]
  rcases wH m i 3 with h2 | h2
  ·omega
  ·exact h2
end Go.Gv

namespace Go.Gv
def hR (m : Msh) (h : Int) (i k : Nat) : Prop:=i < m.f.length /\ k < m.f.length /\ suF m i <= h /\ suF m k <= h /\ ∃ c,c < 3 /\ nbF m i c=k
def Way (m : Msh) (h : Int) (a b : Nat) : Prop:=suF m a <= h /\ suF m b <= h /\ Cn (hR m h) a b
theorem xS {m : Msh} (hv : ap m=true) {h : Int} : ∀ a b,hR m h a b -> hR m h b a:=by
 rintro a b ⟨h1,h2,h3,h4,c,hc,e⟩
 obtain ⟨c',hc',e2⟩:=ja hv h1 hc (by omega)
 rw [e] at e2
 exact ⟨h2,h1,h4,h3,c',hc',by simpa using e2⟩
theorem Way.symm {m : Msh} (hv : ap m=true) {h : Int} {a b : Nat} (w : Way m h a b) : Way m h b a:=⟨w.2.1,w.1,w.2.2.symm (xS hv)⟩
theorem xR {m : Msh} {h k : Int} (hk : h <= k) : ∀ a b,hR m h a b -> hR m k a b:=by
 rintro a b ⟨h1,h2,h3,h4,h5⟩
 exact ⟨h1,h2,by omega,by omega,h5⟩
theorem Way.mono {m : Msh} {h k : Int} {a b : Nat} (hk : h <= k) (w : Way m h a b) : Way m k a b:=⟨by have:=w.1;omega,by have:=w.2.1;omega,w.2.2.mono (xR hk)⟩
theorem Way.trans {m : Msh} {h k : Int} {a b c : Nat} (w : Way m h a b) (v : Way m k b c) : Way m (max h k) a c :=
 ⟨by have:=w.1;omega,by have:=v.2.1;omega,(w.mono (k:=max h k) (by omega)).2.2.trans (v.mono (k:=max h k) (by omega)).2.2⟩
def Lst (m : Msh) (a b : Nat) (v : Int) : Prop:=Way m v a b /\ ∀ h,Way m h a b -> v <= h
theorem Lst.uniq {m : Msh} {a b : Nat} {u v : Int} (h : Lst m a b u) (g : Lst m a b v) : u=v:=Int.le_antisymm (h.2 _ g.1) (g.2 _ h.1)
open Classical in
noncomputable def gm (m : Msh) (a b : Nat) : Option Int:=if h : ∃ v,Lst m a b v then some (Classical.choose h) else none
theorem ly {m : Msh} {a b : Nat} {v : Int} (h : Lst m a b v) : gm m a b=some v:=by
 have hex : ∃ v,Lst m a b v:=⟨v,h⟩
 unfold gm
 rw [dif_pos hex]
 exact congrArg some ((Classical.choose_spec hex).uniq h)
theorem lx {m : Msh} {a b : Nat} (h : ∀ v,¬ Way m v a b) : gm m a b=none:=by
 unfold gm
 rw [dif_neg]
 rintro ⟨v,hv⟩
 exact h v hv.1
theorem Lst.symm {m : Msh} (hv : ap m=true) {a b : Nat} {v : Int} (h : Lst m a b v) : Lst m b a v:=⟨h.1.symm hv,fun k w=>h.2 k (w.symm hv)⟩
def mR (m : Msh) (S : List Nat) (i k : Nat) : Prop:=i < m.f.length /\ k < m.f.length /\ i ∈ S /\ k ∈ S /\ ∃ c,c < 3 /\ nbF m i c=k
structure jV (m : Msh) (P : List Nat) : Prop where
 perm : P.Perm (List.range m.f.length)
 srt : P.Pairwise fun a b=>bF m a <= bF m b
theorem jV.len {m : Msh} {P : List Nat} (h : jV m P) : P.length=m.f.length:=by
 have:=h.perm.length_eq
 simpa using this
theorem jV.lt {m : Msh} {P : List Nat} (h : jV m P) {p : Nat} (hp : p < P.length) : P[p] < m.f.length:=by
 have:=h.perm.mem_iff.1 (x0u hp)
 simpa using this
theorem jV.mem {m : Msh} {P : List Nat} (h : jV m P) {x : Nat} (hx : x < m.f.length) : x ∈ P:=h.perm.mem_iff.2 (x0H.2 hx)
theorem jV.before {m : Msh} {P : List Nat} (h : jV m P) {p x : Nat} (hp : p < P.length) (hx : x < m.f.length) (hlt : suF m x < suF m P[p]) : x ∈ P.take p:=by
 obtain ⟨q,hq,e⟩:=List.getElem_of_mem (h.mem hx)
 have hpn:=h.lt hp
 rw [ip hx,ip hpn] at hlt
 by_cases hqp : q < p
 ·have hql : q < (P.take p).length:=by rw [x0O];omega
  have e3 : (P.take p)[q]=x:=by rw [List.getElem_take];exact e
  rw [<- e3]
  exact x0u _
 ·have h2 : bF m P[p] <= bF m P[q]:=by
   by_cases e2 : p=q
   ·subst e2;exact Int.le_refl _
   ·exact List.pairwise_iff_getElem.1 h.srt p q hp hq (by omega)
  rw [e] at h2
  omega
theorem jV.upto {m : Msh} {P : List Nat} (h : jV m P) {p x : Nat} (hp : p < P.length) (hx : x ∈ P.take (p + 1)) : x < m.f.length /\ suF m x <= suF m P[p]:=by
 obtain ⟨q,hq,e⟩:=List.getElem_of_mem hx
 rw [x0O] at hq
 rw [List.getElem_take] at e
 have hqn:=h.lt (show q < P.length by omega)
 rw [e] at hqn
 refine ⟨hqn,?_⟩
 rw [ip hqn,ip (h.lt hp)]
 by_cases e2 : q=p
 ·subst e2;rw [e];exact Int.le_refl _
 ·have:=List.pairwise_iff_getElem.1 h.srt q p (by omega) hp (by omega)
  rw [e] at this
  exact this
def xb (m : Msh) (S : List Nat) (a b : Nat) : Prop:=¬ (a ∈ S /\ b ∈ S /\ Cn (mR m S) a b)
theorem xb.low {m : Msh} {P : List Nat} (hO : jV m P) {p a b : Nat} (hp : p < P.length) (ha : a < m.f.length) (hb : b < m.f.length) (hn : xb m (P.take p) a b) {h : Int} (w : Way m h a b) : suF m P[p] <= h:=by
 by_cases hlt : h < suF m P[p]
 ·exfalso
  apply hn
  refine ⟨hO.before hp ha (by have:=w.1;omega),hO.before hp hb (by have:=w.2.1;omega),w.2.2.mono ?_⟩
  rintro x y ⟨x1,y1,x2,y2,x3⟩
  exact ⟨x1,y1,hO.before hp x1 (by omega),hO.before hp y1 (by omega),x3⟩
 ·omega
theorem SB {m : Msh} {P : List Nat} (hO : jV m P) {p a b : Nat} (hp : p < P.length) (ha : a < m.f.length) (hb : b < m.f.length) (hn : xb m (P.take p) a b) (h1 : a ∈ P.take (p + 1)) (h2 : b ∈ P.take (p + 1)) (h3 : Cn (mR m (P.take (p + 1))) a b) : gm m a b=some (suF m P[p]):=by
 refine ly ⟨⟨(hO.upto hp h1).2,(hO.upto hp h2).2,h3.mono ?_⟩,fun h w=>hn.low hO hp ha hb w⟩
 rintro x y ⟨x1,y1,x2,y2,x3⟩
 exact ⟨x1,y1,(hO.upto hp x2).2,(hO.upto hp y2).2,x3⟩
theorem Sb {m : Msh} {P : List Nat} (hO : jV m P) {a b : Nat} (ha : a < m.f.length) (hb : b < m.f.length) (hn : xb m P a b) : gm m a b=none:=by
 refine lx fun v w=>hn ⟨hO.mem ha,hO.mem hb,w.2.2.mono ?_⟩
 rintro x y ⟨x1,y1,x2,y2,x3⟩
 exact ⟨x1,y1,hO.mem x1,hO.mem y1,x3⟩
end Go.Gv

namespace Go.Gv
variable {C : CC} (hC : ay prog C)
include hC
end Go.Gv

namespace Go.Gv
noncomputable def spV (m : Msh) (a b : Nat) : Int:=(gm m a b).getD 0
variable {C : CC} (hC : ay prog C)
include hC
end Go.Gv

namespace Go.Gv
def ig (m : Msh) (v : Int) : Nat:=List.countP (fun j=>decide (suF m j < v)) (List.range m.f.length)
theorem fw (m : Msh) (v : Int) : ig m v <= m.f.length:=by
 have:=List.countP_le_length (p:=fun j=>decide (suF m j < v)) (l:=List.range m.f.length)
 simpa [ig] using this
theorem sE {m : Msh} {v w : Int} {j : Nat} (hj : j < m.f.length) (h : suF m j=v) (hvw : v < w) : ig m v < ig m w:=by
 unfold ig
 have h1 : List.countP (fun x=>decide (suF m x < w)) (List.range m.f.length)=List.countP (fun x=>decide (suF m x < v)) (List.range m.f.length) + List.countP (fun x=>decide (v <= suF m x) && decide (suF m x < w)) (List.range m.f.length):=by
  induction List.range m.f.length with
  | nil=>rfl
  | cons x l ihl =>
   simp only [List.countP_cons,ihl]
   by_cases c1 : suF m x < v
   ·have c2 : suF m x < w:=by omega
    have c3 : ¬ v <= suF m x:=by omega
    simp [c1,c2,c3];omega
   ·by_cases c2 : suF m x < w
    ·have c3 : v <= suF m x:=by omega
     simp [c1,c2,c3];omega
    ·have c3 : v <= suF m x:=by omega
     simp [c1,c2,c3]
 have h2 : 0 < List.countP (fun x=>decide (v <= suF m x) && decide (suF m x < w)) (List.range m.f.length):=List.countP_pos_iff.2 ⟨j,x0H.2 hj,by simp [h,hvw]⟩
 omega
def CG (m : Msh) (rc : List Bool) (lv : List Int) (i : Nat) : Nat:=if rc.getD i false=true then ig m (lv.getD i 0) else m.f.length + 1
def qq (f : Nat -> Nat) : Nat -> Nat
 | 0=>0
 | k + 1=>qq f k + f k
theorem sN {f g : Nat -> Nat} {i : Nat} (h : ∀ j,j ≠ i -> g j=f j) (hi : g i < f i) : ∀ n,(i < n -> qq g n < qq f n) /\ (n <= i -> qq g n=qq f n)
 | 0=>⟨fun h=>by omega,fun _=>rfl⟩
 | n + 1=>by
  obtain ⟨h1,h2⟩:=sN h hi n
  refine ⟨fun h3=>?_,fun h3=>?_⟩
  ·simp only [qq]
   by_cases e : n=i
   ·subst e
    have:=h2 (x0l _)
    omega
   ·have:=h1 (by omega)
    have:=h n e
    omega
  ·simp only [qq]
   rw [h2 (by omega),h n (by omega)]
def msr (m : Msh) (rc : List Bool) (lv : List Int) : Nat:=qq (CG m rc lv) m.f.length
structure SpI (m : Msh) (a : Nat) (rc : List Bool) (lv : List Int) : Prop where
 rl : rc.length=m.f.length
 ll : lv.length=m.f.length
 un : ∀ i,i < m.f.length -> rc.getD i false=false -> lv.getD i 0=0
 way : ∀ i,i < m.f.length -> rc.getD i false=true -> Way m (lv.getD i 0) a i
 sm : ∀ i,i < m.f.length -> rc.getD i false=true -> ∃ j,j < m.f.length /\ suF m j=lv.getD i 0
 a0 : rc.getD a false=true /\ lv.getD a 0 <= suF m a
theorem SpI.init {m : Msh} {a : Nat} (ha : a < m.f.length) : SpI m a ((List.replicate m.f.length false).set a true) ((List.replicate m.f.length 0).set a (suF m a)):=by
 have g1 : ∀ i,((List.replicate m.f.length false).set a true).getD i false=if i=a then true else false:=fun i=>by
  rw [bk (by simpa using ha)]
  split
  ·rfl
  ·simp [x0T];split <;> rfl
 have g2 : ∀ i,((List.replicate m.f.length (0 : Int)).set a (suF m a)).getD i 0=if i=a then suF m a else 0:=fun i=>by
  rw [bk (by simpa using ha)]
  split
  ·rfl
  ·simp [x0T];split <;> rfl
 refine ⟨by simp,by simp,fun i _ h=>?_,fun i _ h=>?_,fun i _ h=>?_,by rw [g1,if_pos rfl],by rw [g2,if_pos rfl];exact Int.le_refl _⟩
 ·rw [g1] at h
  split at h
  ·cases h
  ·rename_i e;rw [g2,if_neg e]
 ·rw [g1] at h
  split at h
  ·rename_i e;subst e;rw [g2,if_pos rfl];exact ⟨Int.le_refl _,Int.le_refl _,.refl _⟩
  ·cases h
 ·rw [g1] at h
  split at h
  ·rename_i e;subst e;rw [g2,if_pos rfl];exact ⟨i,ha,rfl⟩
  ·cases h
theorem SpI.fall {m : Msh} (hv : ap m=true) {a i f c : Nat} {rc : List Bool} {lv : List Int} (h : SpI m a rc lv) (ha : a < m.f.length) (hi : i < m.f.length) (hc : c < 3) (hf : nbF m i c=f) (hr : rc.getD f false=true)
  (hlt : rc.getD i false=false \/ max (suF m i) (lv.getD f 0) < lv.getD i 0) : SpI m a (rc.set i true) (lv.set i (max (suF m i) (lv.getD f 0))) /\ msr m (rc.set i true) (lv.set i (max (suF m i) (lv.getD f 0))) < msr m rc lv:=by
 have hb:=cm m i c
 have hfn : f < m.f.length:=by omega
 have wf:=h.way f hfn hr
 obtain ⟨jf,hjf,ejf⟩:=h.sm f hfn hr
 obtain ⟨v,hvv⟩ : ∃ v,v=max (suF m i) (lv.getD f 0):=⟨_,rfl⟩
 rw [<- hvv] at hlt ⊢
 have g1 : ∀ k,(rc.set i true).getD k false=if k=i then true else rc.getD k false:=fun k=>bk (by rw [h.rl];exact hi)
 have g2 : ∀ k,(lv.set i v).getD k 0=if k=i then v else lv.getD k 0:=fun k=>bk (by rw [h.ll];exact hi)
 obtain ⟨c',hc',e'⟩:=ja hv hi hc (by omega)
 rw [hf] at e'
 have e'' : nbF m f c'=i:=by simpa using e'
 have wi : Way m v a i:=by
  have w:=wf.mono (k:=v) (by omega)
  exact ⟨w.1,by omega,.step w.2.2 ⟨hfn,hi,w.2.1,by omega,c',hc',e''⟩⟩
 have hsv : ∃ j,j < m.f.length /\ suF m j=v:=by
  by_cases hm : suF m i < lv.getD f 0
  ·exact ⟨jf,hjf,by omega⟩
  ·exact ⟨i,hi,by omega⟩
 refine ⟨⟨by simp [h.rl],by simp [h.ll],fun k hk hr9=>?_,fun k hk hr9=>?_,fun k hk hr9=>?_,?_,?_⟩,?_⟩
 ·rw [g1] at hr9
  split at hr9
  ·cases hr9
  ·rename_i e;rw [g2,if_neg e];exact h.un k hk hr9
 ·rw [g1] at hr9
  rw [g2]
  by_cases e : k=i
  ·rw [if_pos e,e];exact wi
  ·rw [if_neg e] at hr9 ⊢;exact h.way k hk hr9
 ·rw [g1] at hr9
  rw [g2]
  by_cases e : k=i
  ·rw [if_pos e];exact hsv
  ·rw [if_neg e] at hr9 ⊢;exact h.sm k hk hr9
 ·rw [g1];split;rfl;exact h.a0.1
 ·rw [g2]
  split
  ·rename_i e
   subst e
   rcases hlt with h1 | h1
   ·rw [h.a0.1] at h1;cases h1
   ·have:=h.a0.2;omega
  ·exact h.a0.2
 ·unfold msr
  refine (sN (i:=i) (fun j hj=>?_) ?_ m.f.length).1 hi
  ·unfold CG
   rw [g1,g2,if_neg hj,if_neg hj]
  ·unfold CG
   rw [g1,g2,if_pos rfl,if_pos rfl,if_pos rfl]
   rcases hlt with h1 | h1
   ·rw [h1,if_neg (by decide)]
    have:=fw m v
    omega
   ·cases hri : rc.getD i false
    ·rw [if_neg (by decide)]
     have:=fw m v
     omega
    ·rw [if_pos rfl]
     obtain ⟨j,hj,ej⟩:=hsv
     exact sE hj ej h1
def zA (m : Msh) (rc : List Bool) (lv : List Int) (i c : Nat) : Prop:=∀ f : Nat,nbF m i c=f -> rc.getD f false=true -> rc.getD i false=true /\ lv.getD i 0 <= max (suF m i) (lv.getD f 0)
theorem SpI.least {m : Msh} (hv : ap m=true) {a : Nat} {rc : List Bool} {lv : List Int} (h : SpI m a rc lv) (hs : ∀ i c,i < m.f.length -> c < 3 -> zA m rc lv i c) {k : Int} {b : Nat} (h0 : suF m a <= k) (w : Cn (hR m k) a b) : rc.getD b false=true /\ lv.getD b 0 <= k:=by
 induction w with
 | refl=>exact ⟨h.a0.1,by have:=h.a0.2;omega⟩
 | step _ r ih =>
  obtain ⟨r1,r2,r3,r4,c,hc,e⟩:=r
  obtain ⟨c',hc',e'⟩:=ja hv r1 hc (by omega)
  rw [e] at e'
  obtain ⟨q1,q2⟩:=hs _ c' r2 hc' _ (by simpa using e') ih.1
  exact ⟨q1,by omega⟩
theorem SpI.end {m : Msh} (hv : ap m=true) {a b : Nat} (hb : b < m.f.length) {rc : List Bool} {lv : List Int} (h : SpI m a rc lv) (hs : ∀ i c,i < m.f.length -> c < 3 -> zA m rc lv i c) :
  lv.getD b 0=spV m a b /\ rc.getD b false=(gm m a b).isSome:=by
 cases hr : rc.getD b false
 ·have hn : gm m a b=none:=lx fun v w=>by
   have:=(h.least hv hs w.1 w.2.2).1
   rw [hr] at this;cases this
  unfold spV
  rw [hn]
  exact ⟨h.un b hb hr,rfl⟩
 ·have hl : Lst m a b (lv.getD b 0):=⟨h.way b hb hr,fun k w=>(h.least hv hs w.1 w.2.2).2⟩
  unfold spV
  rw [ly hl]
  exact ⟨rfl,rfl⟩
end Go.Gv

namespace Go.Gv
def inl (w : List Int) (f : Nat) : Int:=dS (fun x=>decide (x=(f : Int))) w
theorem qZ (w : List Int) (f : Nat) : -1 <= inl w f /\ inl w f < w.length:=oB _ _
inductive TrR (m : Msh) (w : List Int) : Nat -> Option Int -> List Nat -> Prop
 | inlet {f : Nat} : inl w f ≠ -1 -> TrR m w f none []
 | off {f : Nat} : inl w f=-1 -> cS m f=-1 -> TrR m w f none []
 | run {f g : Nat} {l : List Nat} : inl w f=-1 -> cS m f=g -> TrR m w g none l -> TrR m w f none (g::l)
 | lake {f : Nat} {l : List Nat} : inl w f=-1 -> cS m f=-2 -> TrR m w f (some (spF m f)) l -> TrR m w f none l
 | low {f : Nat} {h : Int} {l : List Nat} : spF m f < h -> TrR m w f none l -> TrR m w f (some h) l
 | stay {f : Nat} {h : Int} : h <= spF m f -> ouF m f=-1 -> TrR m w f (some h) []
 | hit {f g : Nat} {h : Int} : h <= spF m f -> ouF m f=g -> inl w g ≠ -1 -> TrR m w f (some h) [g]
 | out {f g : Nat} {h : Int} {l : List Nat} : h <= spF m f -> ouF m f=g -> inl w g=-1 -> TrR m w g (some h) l -> TrR m w f (some h) (g::l)
theorem TrR.uniq {m : Msh} {w : List Int} {f : Nat} {L : Option Int} {l l' : List Nat} (h : TrR m w f L l) : TrR m w f L l' -> l=l':=by
 induction h generalizing l' with
 | inlet h1 =>
  intro g
  cases g with
  | inlet _=>rfl
  | off g1 _=>exact absurd g1 h1
  | run g1 _ _=>exact absurd g1 h1
  | lake g1 _ _=>exact absurd g1 h1
 | off h1 h2 =>
  intro g
  cases g with
  | inlet g1=>rfl
  | off _ _=>rfl
  | run _ g2 _=>omega
  | lake _ g2 _=>omega
 | run h1 h2 _ ih =>
  intro g
  cases g with
  | inlet g1=>exact absurd h1 g1
  | off _ g2=>omega
  | @run _ g' _ _ g2 g3 =>
   have : g'=_:=Int.ofNat.inj (g2.symm.trans h2)
   subst this
   rw [ih g3]
  | lake _ g2 _=>omega
 | lake h1 h2 _ ih =>
  intro g
  cases g with
  | inlet g1=>exact absurd h1 g1
  | off _ g2=>omega
  | run _ g2 _=>omega
  | lake _ _ g3=>exact ih g3
 | low h1 _ ih =>
  intro g
  cases g with
  | low _ g2=>exact ih g2
  | stay g1 _=>omega
  | hit g1 _ _=>omega
  | out g1 _ _ _=>omega
 | stay h1 h2 =>
  intro g
  cases g with
  | low g1 _=>omega
  | stay _ _=>rfl
  | hit _ g2 _=>omega
  | out _ g2 _ _=>omega
 | hit h1 h2 h3 =>
  intro g
  cases g with
  | low g1 _=>omega
  | stay _ g2=>omega
  | @hit _ g' _ _ g2 _ =>
   have : g'=_:=Int.ofNat.inj (g2.symm.trans h2)
   rw [this]
  | @out _ g' _ _ _ g2 g3 _ =>
   have : g'=_:=Int.ofNat.inj (g2.symm.trans h2)
   subst this
   exact absurd g3 h3
 | out h1 h2 h3 _ ih =>
  intro g
  cases g with
  | low g1 _=>omega
  | stay _ g2=>omega
  | @hit _ g' _ _ g2 g3 =>
   have : g'=_:=Int.ofNat.inj (g2.symm.trans h2)
   subst this
   exact absurd h3 g3
  | @out _ g' _ _ _ g2 _ g4 =>
   have : g'=_:=Int.ofNat.inj (g2.symm.trans h2)
   subst this
   rw [ih g4]
def dst (ou : List Int) : Nat -> Nat -> Nat
 | 0,_=>0
 | k + 1,a=>if ou.getD a 0=-1 then 0 else dst ou k (ou.getD a 0).toNat + 1
theorem lF {n : Nat} {ou : List Int} {rc : List Bool} : ∀ {d a : Nat},lU n ou rc d a -> ∀ k,d <= k -> dst ou k a=d
 | 0,a,h,k,_=>by
  cases k with
  | zero=>rfl
  | succ k =>
   have h : ou.getD a 0=-1:=h
   simp only [dst,h,if_true]
 | d + 1,a,⟨b,_,e1,_,e3⟩,k,hk=>by
  cases k with
  | zero=>omega
  | succ k =>
   simp only [dst,e1]
   rw [if_neg (by omega)]
   simp only [x1q]
   rw [lF e3 k (by omega)]
def dsF (m : Msh) (a : Nat) : Nat:=dst (aV m).ou m.f.length a
theorem om {m : Msh} (hv : ap m=true) {a : Nat} (ha : a < m.f.length) : dsF m a <= m.f.length:=by
 obtain ⟨d,hd,he⟩:=gc hv ha
 unfold dsF
 rw [lF he _ hd]
 exact hd
theorem l9 {m : Msh} (hv : ap m=true) {a b : Nat} (ha : a < m.f.length) (e : ouF m a=b) : dsF m b < dsF m a /\ b < m.f.length:=by
 obtain ⟨d,hd,he⟩:=gc hv ha
 cases d with
 | zero =>
  have e2 : ouF m a=-1:=he
  omega
 | succ d =>
  obtain ⟨c,hc,e1,_,e3⟩:=id he
  have e2 : ouF m a=c:=e1
  have : c=b:=by omega
  subst this
  unfold dsF
  rw [lF he _ hd,lF e3 _ (by omega)]
  exact ⟨by omega,hc⟩
theorem o5 {m : Msh} (hv : ap m=true) {a : Nat} (ha : a < m.f.length) : ∃ j,j < m.f.length /\ suF m j=spF m a:=by
 have key : ∀ (d a : Nat),a < m.f.length -> lU m.f.length (aV m).ou (cr m).rc d a -> ∃ j,j < m.f.length /\ suF m j=spF m a:=by
  intro d
  induction d with
  | zero =>
   intro a ha he
   have e : ouF m a=-1:=he
   have hb : bsd m a (-1)=true:=by
    cases h : bsd m a (-1)
    ·obtain ⟨z,_,h2,_⟩:=iJ hv ha h
     omega
    ·rfl
   exact ⟨a,ha,(iI hv ha hb).1.symm⟩
  | succ d ih =>
   intro a ha ⟨b,hb,e1,_,e3⟩
   obtain ⟨j,hj,ej⟩:=ih b hb e3
   have e : ouF m a=b:=e1
   cases h : bsd m a (-1)
   ·obtain ⟨z,_,h5,_,h6⟩:=iJ hv ha h
    have : z=b:=by omega
    subst this
    by_cases hm : suF m a < spF m z
    ·exact ⟨j,hj,by omega⟩
    ·exact ⟨a,ha,by omega⟩
   ·have:=(iI hv ha h).2
    omega
 obtain ⟨d,_,he⟩:=gc hv ha
 exact key d a ha he
theorem AR {m : Msh} (hv : ap m=true) {a b : Nat} (ha : a < m.f.length) (e : ouF m a=b) : spF m b <= spF m a:=by
 cases h : bsd m a (-1)
 ·obtain ⟨z,_,h5,_,h6⟩:=iJ hv ha h
  have : z=b:=by omega
  subst this
  omega
 ·have:=(iI hv ha h).2
  omega
theorem wc {m : Msh} (hv : ap m=true) {a b : Nat} (ha : a < m.f.length) (e : cS m a=b) : b < m.f.length /\ suF m b < suF m a /\ spF m b <= spF m a:=by
 rcases o4 m a with h | h | ⟨h1,h2,h3⟩
 ·omega
 ·omega
 ·have hbn : b < m.f.length:=by omega
  rw [e] at h3
  simp only [x1q] at h3
  obtain ⟨c,hc,ec⟩:=C1 (m:=m) (i:=a) (by omega)
  rw [e] at ec
  obtain ⟨c',hc',e'⟩:=ja hv ha hc (by omega)
  rw [ec] at e'
  have hle:=wC hv hbn hc' (x:=a) (by simpa using e')
  have hge:=LV hv ha
  rw [<- ip hbn,<- ip ha] at h3
  exact ⟨hbn,h3,by omega⟩
theorem iF {m : Msh} {v w : Int} (hj : ∃ j,j < m.f.length /\ suF m j=v) (h : v < w) : ig m v < ig m w:=by
 obtain ⟨j,hj,ej⟩:=hj
 exact sE hj ej h
def trM (m : Msh) (f : Nat) : Option Int -> Nat
 | none=>(ig m (spF m f) * 3 + 1) * (m.f.length + 2) + ig m (suF m f)
 | some h=>if spF m f < h then (ig m (spF m f) * 3 + 2) * (m.f.length + 2) else (ig m (spF m f) * 3) * (m.f.length + 2) + dsF m f
theorem nq {a b N x y : Nat} (h : a < b) (hx : x < N) : a * N + x < b * N + y:=by
 have : (a + 1) * N <= b * N:=x0n _ h
 rw [x0D] at this
 omega
theorem TrR.ex {m : Msh} (hv : ap m=true) (w : List Int) : ∀ (k f : Nat) (L : Option Int),f < m.f.length -> trM m f L=k -> ∃ l,TrR m w f L l /\ (∀ x ∈ l,x < m.f.length) /\ l.length <= k:=by
 intro k
 induction k using Nat.strongRecOn with
 | _ k ih =>
  intro f L hf hk
  have b1:=fw m (suF m f)
  have b2:=om hv hf
  cases L with
  | none =>
   by_cases hi : inl w f=-1
   ·rcases o4 m f with h | h | ⟨h1,h2,h3⟩
    ·exact ⟨[],.off hi h,by simp,by simp⟩
    ·have hlt : trM m f (some (spF m f)) < k:=by
      rw [<- hk]
      simp only [trM]
      rw [if_neg (by omega)]
      exact nq (by omega) (by omega)
     obtain ⟨l,h4,h5,h6⟩:=ih _ hlt f _ hf rfl
     exact ⟨l,.lake hi h h4,h5,by omega⟩
    ·obtain ⟨g,hg⟩ : ∃ g : Nat,cS m f=g:=⟨(cS m f).toNat,by omega⟩
     obtain ⟨g1,g2,g3⟩:=wc hv hf hg
     have hlt : trM m g none < k:=by
      rw [<- hk]
      simp only [trM]
      have b3:=fw m (suF m g)
      by_cases e : spF m g=spF m f
      ·rw [e]
       have:=iF (m:=m) ⟨g,g1,rfl⟩ g2
       omega
      ·have:=iF (m:=m) (o5 hv g1) (show spF m g < spF m f by omega)
       exact nq (by omega) (by omega)
     obtain ⟨l,h4,h5,h6⟩:=ih _ hlt g _ g1 rfl
     exact ⟨g::l,.run hi hg h4,fun x hx=>by rcases x0K.1 hx with e | e;rw [e];exact g1;exact h5 x e,by simp only [x0N];omega⟩
   ·exact ⟨[],.inlet hi,by simp,by simp⟩
  | some h =>
   by_cases hlow : spF m f < h
   ·have hlt : trM m f none < k:=by
     rw [<- hk]
     simp only [trM]
     rw [if_pos hlow]
     exact nq (a:=ig m (spF m f) * 3 + 1) (b:=ig m (spF m f) * 3 + 2) (N:=m.f.length + 2) (y:=0) (by omega) (by omega)
    obtain ⟨l,h4,h5,h6⟩:=ih _ hlt f _ hf rfl
    exact ⟨l,.low hlow h4,h5,by omega⟩
   ·obtain ⟨d,hd,he⟩:=gc hv hf
    cases d with
    | zero=>exact ⟨[],.stay (by omega) he,by simp,by simp⟩
    | succ d =>
     obtain ⟨g,hg,e1,_,e3⟩:=he
     have e2 : ouF m f=g:=e1
     by_cases hig : inl w g=-1
     ·obtain ⟨q1,q2⟩:=l9 hv hf e2
      have q3:=AR hv hf e2
      have b3:=om hv hg
      have hlt : trM m g (some h) < k:=by
       rw [<- hk]
       simp only [trM]
       rw [if_neg hlow]
       by_cases e : spF m g=spF m f
       ·rw [e,if_neg hlow]
        omega
       ·have:=iF (m:=m) (o5 hv hg) (show spF m g < spF m f by omega)
        split
        ·exact nq (x:=0) (by omega) (by omega)
        ·exact nq (by omega) (by omega)
      obtain ⟨l,h4,h5,h6⟩:=ih _ hlt g _ hg rfl
      exact ⟨g::l,.out (by omega) e2 hig h4,fun x hx=>by rcases x0K.1 hx with e | e;rw [e];exact hg;exact h5 x e,by simp only [x0N];omega⟩
     ·obtain ⟨q1,_⟩:=l9 hv hf e2
      refine ⟨[g],.hit (by omega) e2 hig,fun x hx=>by simp at hx;rw [hx];exact hg,?_⟩
      rw [<- hk]
      simp only [trM]
      rw [if_neg hlow]
      simp only [List.length_singleton]
      omega
open Classical in
noncomputable def trF (m : Msh) (w : List Int) (f : Nat) : List Nat:=if h : ∃ l,TrR m w f none l then Classical.choose h else []
theorem wE {m : Msh} {w : List Int} {f : Nat} {l : List Nat} (h : TrR m w f none l) : trF m w f=l:=by
 have hex : ∃ l,TrR m w f none l:=⟨l,h⟩
 unfold trF
 rw [dif_pos hex]
 exact (Classical.choose_spec hex).uniq h
theorem ir {m : Msh} (hv : ap m=true) (w : List Int) {f : Nat} (hf : f < m.f.length) : TrR m w f none (trF m w f) /\ (∀ x ∈ trF m w f,x < m.f.length) /\ (trF m w f).length <= trM m f none:=by
 obtain ⟨l,h1,h2,h3⟩:=TrR.ex hv w _ f none hf rfl
 rw [wE h1]
 exact ⟨h1,h2,h3⟩
noncomputable def laF (m : Msh) (w : List Int) (f : Nat) : Nat:=(f::trF m w f).getLast (by simp)
noncomputable def enF (m : Msh) (w : List Int) (f : Nat) : Int:=inl w (laF m w f)
theorem B7 {m : Msh} (hv : ap m=true) (w : List Int) {f : Nat} (hf : f < m.f.length) : laF m w f < m.f.length:=by
 have h:=List.getLast_mem (l:=f::trF m w f) (by simp)
 rcases x0K.1 h with e | e
 ·unfold laF;rw [e];exact hf
 ·exact (ir hv w hf).2.1 _ e
theorem o7 {m : Msh} (hv : ap m=true) (f : Nat) : trM m f none <= 50000000:=by
 have h1:=(cy hv).2
 have h2:=fw m (spF m f)
 have h3:=fw m (suF m f)
 simp only [trM]
 have h4 : (ig m (spF m f) * 3 + 1) * (m.f.length + 2) <= 12001 * 4002:=Nat.mul_le_mul (by omega) (by omega)
 omega
end Go.Gv

namespace Go.Gv
theorem nE {d : Array Int} (hs : ∀ j,0 < j -> j < d.size -> d[j - 1]! <= d[j]!) : ∀ m,m <= d.size -> (Lib.compactUpTo d m).Pairwise (· < ·) /\ (∀ x,x ∈ Lib.compactUpTo d m ↔ ∃ j,j < m /\ d[j]! = x) /\ ∀ x ∈ Lib.compactUpTo d m,x <= d[m - 1]!
 | 0,_=>by simp [Lib.compactUpTo]
 | m + 1,hm=>by
  obtain ⟨h1,h2,h3⟩:=nE hs m (by omega)
  rw [Lib.compactUpTo_succ]
  by_cases hk : Lib.keeps d m=true
  ·rw [if_pos hk]
   have hlt : ∀ x ∈ Lib.compactUpTo d m,x < d[m]!:=fun x hx=>by
    have h4:=h3 x hx
    simp only [Lib.keeps,x0g] at hk
    rcases hk with rfl | hk
    ·obtain ⟨j,hj,_⟩:=(h2 x).1 hx;omega
    ·rcases x0P m with h0 | h0
     ·subst h0;obtain ⟨j,hj,_⟩:=(h2 x).1 hx;omega
     ·have:=hs m h0 (by omega);omega
   refine ⟨List.pairwise_append.2 ⟨h1,by simp,fun a ha b hb=>by simp at hb;subst hb;exact hlt a ha⟩,fun x=>?_,fun x hx=>?_⟩
   ·simp only [x0m,x07,h2]
    constructor
    ·rintro (⟨j,hj,rfl⟩ | rfl)
     ·exact ⟨j,by omega,rfl⟩
     ·exact ⟨m,by omega,rfl⟩
    ·rintro ⟨j,hj,rfl⟩
     by_cases e : j=m
     ·exact .inr (by rw [e])
     ·exact .inl ⟨j,by omega,rfl⟩
   ·simp only [x0m,x07] at hx
    rcases hx with hx | hx
    ·exact Int.le_of_lt (hlt x hx)
    ·rw [hx];exact Int.le_refl _
  ·rw [if_neg hk,List.append_nil]
   have hm0 : 0 < m:=by
    rcases x0P m with h | h
    ·subst h;exact absurd (Lib.keeps_lt_one d 0 (by omega)) hk
    ·exact h
   have he : d[m]! = d[m - 1]!:=by
    apply Classical.byContradiction
    intro h
    exact hk (Lib.keeps_pos h)
   refine ⟨h1,fun x=>?_,fun x hx=>?_⟩
   ·rw [h2]
    constructor
    ·rintro ⟨j,hj,rfl⟩;exact ⟨j,by omega,rfl⟩
    ·rintro ⟨j,hj,rfl⟩
     by_cases e : j=m
     ·subst e;exact ⟨j - 1,by omega,he.symm⟩
     ·exact ⟨j,by omega,rfl⟩
   ·have:=h3 x hx
    simp only [Nat.add_sub_cancel,he]
    exact this
theorem fq : ∀ {l k : List Int},l.Nodup -> (∀ x ∈ l,x ∈ k) -> l.length <= k.length /\ (l.length=k.length -> k.Nodup)
 | [],k,_,_=>⟨by simp,fun h=>by
  have : k=[]:=x0v (by simpa using h.symm)
  rw [this];exact List.nodup_nil⟩
 | x::l,k,hn,hs=>by
  have hx : x ∈ k:=hs x (by simp)
  have hp:=List.perm_cons_erase hx
  have hxl : x ∉ l:=(x1H.1 hn).1
  obtain ⟨h1,h2⟩:=fq (l:=l) (k:=k.erase x) (x1H.1 hn).2 fun y hy=>(List.mem_erase_of_ne (fun e=>hxl (by rw [<- e];exact hy))).2 (hs y (by simp [hy]))
  have hl:=hp.length_eq
  simp only [x0N] at hl ⊢
  refine ⟨by omega,fun h=>?_⟩
  have h3:=h2 (by omega)
  have h4 : (x::k.erase x).Nodup:=x1H.2 ⟨fun hc=>?_,h3⟩
  ·exact (hp.nodup_iff).2 h4
  ·
   have hp2:=List.perm_cons_erase hc
   have hl2:=hp2.length_eq
   simp only [x0N] at hl2
   obtain ⟨q1,_⟩:=fq (l:=l) (k:=(k.erase x).erase x) (x1H.1 hn).2 fun y hy=>by
    have hne : y ≠ x:=fun e=>hxl (by rw [<- e];exact hy)
    exact (List.mem_erase_of_ne hne).2 ((List.mem_erase_of_ne hne).2 (hs y (by simp [hy])))
   omega
theorem qE (zs : List Int) : (Lib.compact (zs.mergeSort fun x y=>decide (x <= y))).length < zs.length ↔ ¬ zs.Nodup:=by
 obtain ⟨ys,hy⟩ : ∃ ys,ys=zs.mergeSort fun x y=>decide (x <= y):=⟨_,rfl⟩
 rw [<- hy]
 have hpm : ys.Perm zs:=by rw [hy];exact List.mergeSort_perm zs _
 have hp : ys.Pairwise (· <= ·):=by
  have h:=List.pairwise_mergeSort (le:=fun x y : Int=>decide (x <= y)) (fun a b c h1 h2=>by simp at *;omega) (fun a b=>by simp;omega) zs
  rw [<- hy] at h
  exact h.imp fun h=>by simpa using h
 have hs : ∀ j,0 < j -> j < ys.toArray.size -> ys.toArray[j - 1]! <= ys.toArray[j]!:=fun j h1 h2=>by
  have h3 : j < ys.length:=by simpa using h2
  rw [x02 ys.toArray (j - 1) (by simpa using (by omega : j - 1 < ys.length)),x02 ys.toArray j h2]
  exact List.pairwise_iff_getElem.1 hp (j - 1) j (by omega) h3 (by omega)
 obtain ⟨h1,h2,_⟩:=nE hs ys.length (by simp)
 have hmem : ∀ x,x ∈ Lib.compact ys ↔ x ∈ ys:=fun x=>by
  unfold Lib.compact
  rw [h2]
  constructor
  ·rintro ⟨j,hj,rfl⟩
   rw [x02 ys.toArray j (by simpa using hj)]
   exact x0u (l:=ys) hj
  ·intro hx
   obtain ⟨j,hj,e⟩:=x0L.1 hx
   exact ⟨j,hj,by rw [x02 ys.toArray j (by simpa using hj)];simpa using e⟩
 have hnd : (Lib.compact ys).Nodup:=by
  unfold Lib.compact
  exact h1.imp fun h=>by omega
 obtain ⟨q1,q2⟩:=fq hnd fun x hx=>(hmem x).1 hx
 rw [<- hpm.length_eq,<- hpm.nodup_iff]
 constructor
 ·intro hlt hn
  obtain ⟨q3,_⟩:=fq hn fun x hx=>(hmem x).2 hx
  omega
 ·intro hn
  by_cases he : (Lib.compact ys).length=ys.length
  ·exact absurd (q2 he) hn
  ·omega
end Go.Gv

namespace Go.Gv
@[simp] theorem Lp (l : List (List Nat)) : (Lo l).length=l.length:=by simp [Lo]
variable {C : CC} (hC : ay prog C)
include hC
end Go.Gv

namespace Go.Gv
structure SlW (C : CC) : Prop where
 sort : ∀ zs : List Int,zs.length < 2 ^ 40 -> C 366 [.own 1 (zs.map fun n=>[.int .i64 n])] .any [.own 1 ((zs.mergeSort fun x y=>decide (x <= y)).map fun n=>[.int .i64 n]),.nilp]
 compact : ∀ zs : List Int,zs.length < 2 ^ 40 -> C 523 [.own 1 (zs.map fun n=>[.int .i64 n])] .any [.own 1 ((Lib.compact zs).map fun n=>[.int .i64 n]),.nils,.nils]
def inM (m : Msh) (x : Int) : Bool:=decide (0 <= x) && decide (x < m.f.length)
def gvE (m : Msh) (l ks : List Int) : Int :=
 if ap m=false then 1 else if 300 < l.length then 4 else if (l.any fun x=>!inM m x)=true then 2 else if (ks.any fun k=>!dT l.length k)=true then 2 else if l.Nodup then 0 else 10
def rj (m : Msh) (l : List Int) : Bool:=decide (40 < m.s.length /\ m.s.length <= 2000) || decide (60 < m.f.length /\ m.f.length <= 4000) || decide (2050 < m.s.length) || decide (4050 < m.f.length) || decide (30 < l.length /\ l.length <= 300) || decide (600 < l.length)
theorem mG {l : List Int} : l.Nodup ↔ ∀ i (h : i < l.length),dS (fun x=>decide (x=l[i])) (l.take i)=-1:=by
 constructor
 ·intro hn i hi
  refine dC fun j hj=>?_
  rw [x0O] at hj
  rw [List.getElem_take,x0p]
  intro e
  have:=(List.getElem_inj hn).1 e
  omega
 ·intro h
  rw [List.nodup_iff_pairwise_ne,List.pairwise_iff_getElem]
  intro i j hi hj hij e
  have h1:=h j hj
  have hit : i < (l.take j).length:=by rw [x0O];omega
  have h2 : 0 <= dS (fun x=>decide (x=l[j])) (l.take j):=by
   have h3 : decide (0 <= dS (fun x=>decide (x=l[j])) (l.take j))=true:=by
    rw [jw,x0x]
    exact ⟨l[i],by rw [<- List.getElem_take (h:=hit)];exact x0u _,by simp [e]⟩
   simpa using h3
  omega
section
variable {C : CC} (hC : ay prog C)
include hC
theorem oR (b : Bool) (l : List Int) (x : Int) (hl : l.length < 2 ^ 40) : C 877 [slx b (l.map fun n=>[.int .i64 n]),.int .i64 x] (.int .i64 (dS (fun y=>decide (y=x)) l)) []:=by
 obtain ⟨R,hR⟩ : ∃ R,R=dS (fun y=>decide (y=x)) l:=⟨_,rfl⟩
 rw [<- hR]
 refine aw hC (nf:=N877) rfl rfl ?_
 simp [N877]
 refine av Nat (fun i=>[(0,slx b (l.map fun n=>[.int .i64 n])),(1,.int .i64 x),(5,.int .i64 i)]) (fun i=>i <= l.length /\ ∀ (j : Nat) (h : j < l.length),j < i -> l[j] ≠ x) (fun i=>l.length - i) 0 (by simp) (by simp) ?_
 rintro i ⟨hi,hok⟩
 have hw : IntKind.wrap .i64 ((i : Int) + 1)=((i + 1 : Nat) : Int):=af (by omega) (by omega)
 simp
 refine aj (fun g1=>?_) (fun g1=>?_) <;> simp at g1 <;> simp [g1]
 ·by_cases h2 : l[i]=x
  ·have e:=dD (p:=fun y=>decide (y=x)) (xs:=l) (i:=i) (fun j h hj=>decide_eq_false (hok j h hj)) g1 (decide_eq_true h2)
   rw [e] at hR
   simp [h2,hR]
  ·simp [h2]
   refine ⟨i + 1,⟨by omega,fun j h hj=>?_⟩,by omega,hw⟩
   rcases x0C.1 hj with h5 | rfl
   ·exact hok j h h5
   ·exact h2
 ·rw [hR]
  exact (dC (p:=fun y=>decide (y=x)) (xs:=l) fun j hj=>decide_eq_false (hok j hj (by omega))).symm
theorem tC (m : Msh) (b : Bool) (l : List Int) : C 857 [.agg (aW m),slx b (l.map fun n=>[.int .i64 n])] (.bool (rj m l)) []:=by
 obtain ⟨R,hR⟩ : ∃ R,R=rj m l:=⟨_,rfl⟩
 rw [<- hR]
 refine aw hC (nf:=N857) rfl rfl ?_
 simp [N857,ab]
 have yes : (40 < m.s.length /\ m.s.length <= 2000) \/ (60 < m.f.length /\ m.f.length <= 4000) \/ 2050 < m.s.length \/ 4050 < m.f.length \/ (30 < l.length /\ l.length <= 300) \/ 600 < l.length -> R=true:=fun h=>by
  rw [hR]
  simp only [rj,x05,x0g]
  omega
 have no : ¬ ((40 < m.s.length /\ m.s.length <= 2000) \/ (60 < m.f.length /\ m.f.length <= 4000) \/ 2050 < m.s.length \/ 4050 < m.f.length \/ (30 < l.length /\ l.length <= 300) \/ 600 < l.length) -> R=false:=fun h=>by
  rw [hR,<- Bool.not_eq_true]
  simp only [rj,x05,x0g]
  omega
 clear hR
 by_cases s1 : 40 < m.s.length /\ m.s.length <= 2000
 ·simp [show (40 : Int) < m.s.length by omega,show (m.s.length : Int) <= 2000 by omega,yes (.inl s1)]
 by_cases f1 : 60 < m.f.length /\ m.f.length <= 4000
 ·have hy:=yes (.inr (.inl f1))
  by_cases s2 : (40 : Int) < m.s.length
  ·simp [s2,show ¬ (m.s.length : Int) <= 2000 by omega,show (60 : Int) < m.f.length by omega,show (m.f.length : Int) <= 4000 by omega,hy]
  ·simp [s2,show (60 : Int) < m.f.length by omega,show (m.f.length : Int) <= 4000 by omega,hy]
 by_cases s3 : (2050 : Int) < m.s.length
 ·have hy:=yes (.inr (.inr (.inl (by omega))))
  by_cases f2 : (60 : Int) < m.f.length
  ·simp [show (40 : Int) < m.s.length by omega,show ¬ (m.s.length : Int) <= 2000 by omega,f2,show ¬ (m.f.length : Int) <= 4000 by omega,s3,hy]
  ·simp [show (40 : Int) < m.s.length by omega,show ¬ (m.s.length : Int) <= 2000 by omega,f2,s3,hy]
 have cs : ((40 : Int) < m.s.length /\ ¬ (m.s.length : Int) <= 2000) \/ ¬ (40 : Int) < m.s.length:=by omega
 have cf : ((60 : Int) < m.f.length /\ ¬ (m.f.length : Int) <= 4000) \/ ¬ (60 : Int) < m.f.length:=by omega
 rcases cs with ⟨a1,a2⟩ | a1 <;> rcases cf with ⟨b1,b2⟩ | b1
 case' inl.inl=>simp [a1,a2,b1,b2,s3]
 case' inl.inr=>simp [a1,a2,b1,s3]
 case' inr.inl=>simp [a1,b1,b2,s3]
 case' inr.inr=>simp [a1,b1,s3]
 all_goals
  refine aj (fun g4=>?_) (fun g4=>?_) <;> simp at g4
  ·have hy:=yes (.inr (.inr (.inr (.inl (by omega)))))
   simp [g4,hy]
  ·by_cases l1 : 30 < l.length /\ l.length <= 300
   ·have hy:=yes (.inr (.inr (.inr (.inr (.inl (by omega))))))
    simp [g4,show (30 : Int) < l.length by omega,show (l.length : Int) <= 300 by omega,hy]
   ·by_cases l3 : (600 : Int) < l.length
    ·have hy:=yes (.inr (.inr (.inr (.inr (.inr (by omega))))))
     simp [g4,show (30 : Int) < l.length by omega,show ¬ (l.length : Int) <= 300 by omega,l3,hy]
    ·have hn:=no (by omega)
     by_cases l2 : (30 : Int) < l.length
     ·simp [g4,l2,show ¬ (l.length : Int) <= 300 by omega,l3,hn]
     ·simp [g4,l2,l3,hn]
end
end Go.Gv

namespace Go.Gv
theorem iy {m : Msh} {x : Int} : inM m x=false ↔ x < 0 \/ (m.f.length : Int) <= x:=by
 unfold inM
 rw [<- Bool.not_eq_true]
 simp only [x0a,x0g]
 omega
theorem pN {m : Msh} {x : Int} : inM m x=true ↔ 0 <= x /\ x < m.f.length:=by
 unfold inM
 simp only [x0a,x0g]
theorem iz {n : Nat} {x : Int} : dT n x=true ↔ 0 <= x /\ x < n:=by
 unfold dT
 simp only [x0a,x0g]
theorem ut {m : Msh} {l : List Int} {i : Nat} (h : i < l.length) (hb : inM m l[i]=false) : (l.any fun x=>!inM m x)=true:=by
 rw [x0x]
 exact ⟨l[i],x0u _,by simp [hb]⟩
theorem vb {m : Msh} {l : List Int} (h : ∀ i (h : i < l.length),inM m l[i]=true) : (l.any fun x=>!inM m x)=false:=by
 rw [<- Bool.not_eq_true,x0x]
 rintro ⟨x,hx,e⟩
 obtain ⟨i,hi,rfl⟩:=List.getElem_of_mem hx
 simp [h i hi] at e
theorem xX (l : List Int) : ∀ e ∈ inR l,e.length=1:=by
 intro e he
 obtain ⟨x,_,rfl⟩:=x0s.1 he
 rfl
section
variable {C : CC} (hC : ay prog C)
include hC
set_option maxHeartbeats 2000000 in
theorem mP (m : Msh) (hz : bV m=true -> m.s.length <= 100 /\ m.f.length <= 100) (b : Bool) (l : List Int) (hl : l.length < 2 ^ 40) (k : Int) (ck : Bool) : C 859 [.agg (aW m),slx b (inR l),.int .i64 k,.bool ck] (.int .i64 (gvE m l (if ck then [k] else []))) []:=by
 have k1:=vR hC m hz
 simp only [ab] at k1
 obtain ⟨R,hR⟩ : ∃ R,R=gvE m l (if ck then [k] else []):=⟨_,rfl⟩
 rw [<- hR]
 unfold gvE at hR
 refine aw hC (nf:=N859) rfl rfl ?_
 simp [N859,ab]
 refine aa k1 (.inl rfl) ?_
 cases hv : ap m
 ·rw [if_pos hv] at hR
  simp [hR]
 ·rw [if_neg (by simp [hv])] at hR
  have hsz:=(cy hv).2
  simp
  by_cases h3 : (300 : Int) < l.length
  ·rw [if_pos (by omega)] at hR
   simp [h3,hR]
  ·rw [if_neg (by omega)] at hR
   simp [h3]
   refine av Nat (fun i=>[(1,slx b (inR l)),(2,.int .i64 k),(3,.bool ck),(4,.ptr [slx m.sn (List.map eN m.s),slx m.fn (List.map br m.f)]),(9,.int .i64 i)])
    (fun i=>i <= l.length /\ ∀ (j : Nat) (h : j < l.length),j < i -> inM m l[j]=true) (fun i=>l.length - i) 0 (by simp) (by simp) ?_
   rintro i ⟨hi,hok⟩
   have hw : IntKind.wrap .i64 ((i : Int) + 1)=((i + 1 : Nat) : Int):=af (by omega) (by omega)
   simp
   refine aj (fun g1=>?_) (fun g1=>?_) <;> simp at g1 <;> simp [g1]
   ·obtain ⟨x,hx⟩ : ∃ x,x=l[i]:=⟨_,rfl⟩
    have hxg : (inR l)[i]? = some [.int .i64 x]:=by rw [cI g1,hx];simp [g1]
    by_cases c1 : x < 0
    ·rw [if_pos (ut g1 (iy.2 (.inl (by rw [<- hx];exact c1))))] at hR
     simp [aq hxg,c1,hR]
     exact ai (by decide +kernel)
    ·by_cases c2 : (m.f.length : Int) <= x
     ·rw [if_pos (ut g1 (iy.2 (.inr (by rw [<- hx];exact c2))))] at hR
      simp [aq hxg,c1,c2,hR]
      exact ai (by decide +kernel)
     ·simp [aq hxg,c1,c2]
      refine ⟨ai (by decide +kernel),i + 1,⟨by omega,fun j h hj=>?_⟩,by omega,hw⟩
      rcases x0C.1 hj with h5 | rfl
      ·exact hok j h h5
      ·exact pN.2 ⟨by omega,by omega⟩
   ·rw [if_neg (by rw [vb fun j hj=>hok j hj (by omega)];decide)] at hR
    have hbad : ck=true -> (k < 0 \/ (l.length : Int) <= k) -> R=2:=fun h1 h2=>by
     subst h1
     rw [hR,if_pos]
     simp only [if_true,x1A,x1o,Bool.or_false,x0r]
     rw [<- Bool.not_eq_true,iz]
     omega
    have hgood : (ck=true -> 0 <= k /\ k < l.length) -> R=if l.Nodup then 0 else 10:=fun h=>by
     rw [hR,if_neg]
     cases ck
     ·simp
     ·simp only [if_true,x1A,x1o,Bool.or_false,x0r]
      rw [iz.2 (h rfl)]
      decide
    clear hR
    have tl : ∀ (P : Prop),(R=2 -> P) -> P -> P:=fun _ _ h=>h
    by_cases c3 : ck=true /\ (k < 0 \/ (l.length : Int) <= k)
    ·obtain ⟨c4,c5⟩:=c3
     have:=hbad c4 c5
     subst c4
     rcases Int.lt_or_le k 0 with c6 | c6
     ·simp [c6,this]
     ·simp [x0S.2 c6,show (l.length : Int) <= k by omega,this]
    ·have hg:=hgood fun h=>by
      have : ¬ (k < 0 \/ (l.length : Int) <= k):=fun h2=>c3 ⟨h,h2⟩
      omega
     cases hck : ck
     case' false=>simp
     case' true =>
      have c7 : ¬ (k < 0 \/ (l.length : Int) <= k):=fun h2=>c3 ⟨hck,h2⟩
      simp [show ¬ k < 0 by omega,show ¬ (l.length : Int) <= k by omega]
     all_goals
      refine av Nat (fun i=>[(1,slx b (inR l)),(10,.int .i64 i)]) (fun i=>i <= l.length /\ ∀ (j : Nat) (h : j < l.length),j < i -> dS (fun x=>decide (x=l[j])) (l.take j)=-1) (fun i=>l.length - i) 0 (by simp) (by simp) ?_
      rintro i ⟨hi,hok⟩
      have hw : IntKind.wrap .i64 ((i : Int) + 1)=((i + 1 : Nat) : Int):=af (by omega) (by omega)
      simp
      refine aj (fun g1=>?_) (fun g1=>?_) <;> simp at g1 <;> simp [g1]
      ·obtain ⟨x,hx⟩ : ∃ x,x=l[i]:=⟨_,rfl⟩
       have hxg : (inR l)[i]? = some [.int .i64 x]:=by rw [cI g1,hx];simp [g1]
       have kf:=oR hC false (l.take i) x (by rw [x0O];omega)
       rw [<- eZ] at kf
       have hsl : slx b (inR l)=.sl (inR l):=by
        have h9 : 0 < (inR l).length:=by rw [xW];omega
        cases h : inR l with
        | nil=>rw [h] at h9;simp at h9
        | cons e r=>cases b <;> rfl
       have htk : List.take i (inR l)=inR (l.take i):=by simp [inR]
       rw [hsl]
       obtain ⟨F,hF⟩ : ∃ F,F=dS (fun y=>decide (y=x)) (l.take i):=⟨_,rfl⟩
       rw [<- hF] at kf
       simp only [ce] at kf
       simp
       refine ⟨xX l,hi,?_⟩
       rw [htk]
       simp [aq hxg]
       refine aa kf (.inl rfl) ?_
       have hFb:=(oB (fun y=>decide (y=x)) (l.take i)).1
       rw [<- hF] at hFb
       by_cases hF0 : 0 <= F
       ·rw [if_neg (fun hn=>by have:=mG.1 hn i g1;rw [<- hx,<- hF] at this;omega)] at hg
        simp [hF0,hg]
        exact ai (by decide +kernel)
       ·simp [hF0]
        refine ⟨ai (by decide +kernel),i + 1,⟨by omega,fun j h hj=>?_⟩,by omega,hw⟩
        rcases x0C.1 hj with h5 | h5
        ·exact hok j h h5
        ·subst h5
         rw [<- hx,<- hF]
         omega
      ·rw [hg,if_pos (mG.2 fun j hj=>hok j hj (by omega))]
end
end Go.Gv

namespace Go.Gv
section
variable {C : CC} (hC : ay prog C)
include hC
theorem Ij (m : Msh) (x : Int) : C 882 [.int .i64 x,.ptr [slx m.sn (m.s.map eN),slx m.fn (m.f.map br)]] (.bool (!inM m x)) []:=by
 obtain ⟨R,hR⟩ : ∃ R,R=inM m x:=⟨_,rfl⟩
 rw [<- hR]
 refine aw hC (nf:=N882) rfl rfl ?_
 simp [N882]
 by_cases c1 : x < 0
 ·have : R=false:=hR.trans (iy.2 (.inl c1))
  simp [c1,this]
 ·by_cases c2 : (m.f.length : Int) <= x
  ·have : R=false:=hR.trans (iy.2 (.inr c2))
   simp [c1,c2,this]
  ·have : R=true:=hR.trans (pN.2 ⟨by omega,by omega⟩)
   simp [c1,c2,this]
theorem Ik (b : Bool) (l : List Int) (x : Int) : C 883 [.int .i64 x,.ptr [slx b (inR l)]] (.bool (!dT l.length x)) []:=by
 obtain ⟨R,hR⟩ : ∃ R,R=dT l.length x:=⟨_,rfl⟩
 rw [<- hR]
 have hf : (x < 0 \/ (l.length : Int) <= x) -> R=false:=fun h=>by
  rw [hR,<- Bool.not_eq_true,iz]
  omega
 refine aw hC (nf:=N883) rfl rfl ?_
 simp [N883]
 by_cases c1 : x < 0
 ·simp [c1,hf (.inl c1)]
 ·by_cases c2 : (l.length : Int) <= x
  ·simp [c1,c2,hf (.inr c2)]
  ·have : R=true:=hR.trans (iz.2 ⟨by omega,by omega⟩)
   simp [c1,c2,this]
set_option maxHeartbeats 2000000 in
theorem ki (hW : SlW C) (dec : Nat -> List UInt8) (hI : ∀ n : Nat,n < 100 -> C 127 [.int .i64 n] (.str (dec n)) []) (m : Msh) (hz : bV m=true -> m.s.length <= 100 /\ m.f.length <= 100) (b b' : Bool) (l ks : List Int) (hl : l.length < 2 ^ 40) (hk : ks.length < 2 ^ 40) :
  C 874 [.agg (aW m),slx b (inR l),slx b' (inR ks)] (.int .i64 (gvE m l ks)) []:=by
 have k1:=mw hC dec hI m hz
 have k2:=mh hC (b:=b) (xs:=l) (g:=882) (cs:=[.ptr [slx m.sn (m.s.map eN),slx m.fn (m.f.map br)]]) (fun x=>!inM m x) (by omega) (fun x _=>Ij hC m x)
 have k3:=mh hC (b:=b') (xs:=ks) (g:=883) (cs:=[.ptr [slx b (inR l)]]) (fun x=>!dT l.length x) (by omega) (fun x _=>Ik hC b l x)
 have k4:=rU hC b l hl
 have k5:=hW.sort l hl
 obtain ⟨s,hs⟩ : ∃ s,s=l.mergeSort fun x y=>decide (x <= y):=⟨_,rfl⟩
 have hsl : s.length=l.length:=by rw [hs,List.length_mergeSort]
 have k6:=hW.compact s (by omega)
 have hcn:=qE l
 rw [<- hs] at k5 hcn
 rw [<- eZ] at k2 k3 k4
 rw [<- eZ,<- eZ] at k5 k6
 simp only [ab] at k1
 obtain ⟨R,hR⟩ : ∃ R,R=gvE m l ks:=⟨_,rfl⟩
 rw [<- hR]
 unfold gvE at hR
 obtain ⟨B2,hB2⟩ : ∃ B2,B2=l.any fun x=>!inM m x:=⟨_,rfl⟩
 obtain ⟨B3,hB3⟩ : ∃ B2,B2=ks.any fun x=>!dT l.length x:=⟨_,rfl⟩
 rw [<- hB2] at hR k2
 rw [<- hB3] at hR k3
 refine aw hC (nf:=N874) rfl rfl ?_
 simp [N874,ab]
 refine aa k1 (.inl rfl) ?_
 cases hv : ap m
 ·rw [if_pos hv] at hR
  simp [hR]
 ·rw [if_neg (by simp [hv])] at hR
  simp
  by_cases h3 : (300 : Int) < l.length
  ·rw [if_pos (by omega)] at hR
   simp [h3,hR]
  ·rw [if_neg (by omega)] at hR
   simp [h3]
   refine aa k2 (.inl rfl) ?_
   cases B2
   ·rw [if_neg (by decide)] at hR
    simp
    refine aa k3 (.inl rfl) ?_
    cases B3
    ·rw [if_neg (by decide)] at hR
     simp
     refine j4 k4 ?_
     simp
     refine ⟨fun e he c hc=>(jx l e he).2 c hc,tf k5 (.inl rfl) (by simp [hsl]) (jx s) ?_⟩
     simp [hsl]
     have et : List.take l.length (inR s)=inR s:=by rw [x0q];simp [hsl]
     rw [et]
     refine ⟨mq s,xz k6 (fun e he=>⟨(jx _ e he).1,mq _ e he⟩) ?_⟩
     by_cases hn : l.Nodup
     ·rw [if_pos hn] at hR
      have : ¬ (Lib.compact s).length < l.length:=fun hh=>(hcn.1 hh) hn
      simp [hR,this]
      exact ai (by decide +kernel)
     ·rw [if_neg hn] at hR
      have:=hcn.2 hn
      simp [hR,this]
      exact ai (by decide +kernel)
    ·rw [if_pos rfl] at hR
     simp [hR]
   ·rw [if_pos rfl] at hR
    simp [hR]
end
end Go.Gv

namespace Go.Gv
def lD (m : Msh) (w : List Int) : List Int:=(List.range m.f.length).map fun f=>inl w f
def twL (m : Msh) : List Int:=(List.range m.f.length).map fun f=>twF m f
def woW (l : List Int) (d : Int) : List Int:=(List.range l.length).map fun (i : Nat)=>if (i : Int)=d then -1 else l.getD i 0
@[simp] theorem ID (m : Msh) (w : List Int) : (lD m w).length=m.f.length:=by simp [lD]
@[simp] theorem QZ (m : Msh) : (twL m).length=m.f.length:=by simp [twL]
@[simp] theorem sV (l : List Int) (d : Int) : (woW l d).length=l.length:=by simp [woW]
theorem vi {w : List Int} {f : Nat} (h : ∀ x ∈ w,x ≠ (f : Int)) : inl w f=-1:=dC fun j hj=>by simp [h _ (x0u hj)]
theorem xY (w : List Int) (x : Int) (f : Nat) : inl (w++[x]) f=if inl w f=-1 then (if x=f then (w.length : Int) else -1) else inl w f:=by
 unfold inl dS
 rw [List.findIdx?_append]
 cases h : w.findIdx? fun x=>decide (x=(f : Int)) with
 | none =>
  by_cases hx : x=(f : Int) <;> simp [hx]
 | some i =>
  simp
def tbR (f : Nat -> Int) (i : Nat) : List (List D):=inR ((List.range i).map f)
theorem iq (f : Nat -> Int) (i : Nat) : tbR f i=(List.range i).map fun j=>[.int .i64 (f j)]:=by simp [tbR,inR]
@[simp] theorem y8 (f : Nat -> Int) (i : Nat) : (tbR f i).length=i:=by simp [tbR]
@[simp] theorem wD (f : Nat -> Int) (i : Nat) : List.take i (tbR f i)=tbR f i:=x0q (by simp)
@[simp] theorem SH (f : Nat -> Int) : tbR f 0=[]:=rfl
theorem gr (f : Nat -> Int) (i : Nat) : tbR f i++[[.int .i64 (f i)]]=tbR f (i + 1):=by simp [iq,x1e]
@[simp] theorem QW (f : Nat -> Int) (i : Nat) (x : List D) : (∀ e,e ∈ tbR f i \/ e=x -> ∀ c,c ∈ e -> aK c=true)=∀ c,c ∈ x -> aK c=true:=by
 apply propext
 constructor
 ·exact fun h=>h x (.inr rfl)
 ·rintro h e (he | rfl)
  ·exact (jx _ e he).2
  ·exact h
theorem uy (f : Nat -> Int) (i : Nat) : cN 1 (tbR f (i + 1))=.own 1 (tbR f (i + 1)):=by
 have : (tbR f (i + 1)).length=i + 1:=by simp
 cases h : tbR f (i + 1) with
 | nil=>rw [h] at this;simp at this
 | cons e r=>rfl
theorem oj (f : Nat -> Int) {i : Nat} (h : i ≠ 0) : cN 1 (tbR f i)=.own 1 (tbR f i):=by
 obtain ⟨j,rfl⟩ : ∃ j,i=j + 1:=⟨i - 1,by omega⟩
 exact uy f j
theorem sP {f g : Nat -> Int} {n x : Nat} {v : Int} (hv : g x=v) (h : ∀ j,j ≠ x -> g j=f j) : (tbR f n).set x [.int .i64 v]=tbR g n:=by
 refine x1m (by simp) fun j h1 h2=>?_
 simp only [List.getElem_set,iq,x1u,List.getElem_range]
 by_cases c : x=j
 ·rw [if_pos c,<- c,hv]
 ·rw [if_neg c,h j (fun e=>c e.symm)]
theorem pe {l : List Int} {d : Int} {i : Nat} (h : i < l.length) : (woW l d)[i]'(by simp [h])=if (i : Int)=d then -1 else l[i]:=by
 simp [woW,h]
theorem ra {l : List Int} {d : Int} {i : Nat} (h : i < l.length) (f : Nat) : inl ((woW l d).take (i + 1)) f=if inl ((woW l d).take i) f=-1 then (if (if (i : Int)=d then -1 else l[i])=(f : Int) then (i : Int) else -1) else inl ((woW l d).take i) f:=by
 have e : (woW l d).take (i + 1)=(woW l d).take i++[if (i : Int)=d then -1 else l[i]]:=by
  rw [<- pe h,x1C]
 rw [e,xY,x0O,sV,Nat.min_eq_left (by omega)]
theorem pO {l : List Int} {d : Int} {i x : Nat} (hn : l.Nodup) (h : i < l.length) (e : l[i]=(x : Int)) : inl ((woW l d).take i) x=-1:=by
 refine vi fun y hy=>?_
 obtain ⟨j,hj,rfl⟩:=x0L.1 hy
 simp only [x0O,sV] at hj
 rw [List.getElem_take,pe (by omega)]
 split
 ·omega
 ·rw [<- e]
  intro e2
  have:=(List.getElem_inj hn).1 e2
  omega
variable {C : CC} (hC : ay prog C)
include hC
set_option maxRecDepth 8000 in
set_option maxHeartbeats 2000000 in
theorem my (dec : Nat -> List UInt8) (hI : ∀ n : Nat,n < 100 -> C 127 [.int .i64 n] (.str (dec n)) []) (m : Msh) (hz : bV m=true -> m.s.length <= 100 /\ m.f.length <= 100) (hv : ap m=true) (b : Bool) (l : List Int) (hl : l.length <= 300) (hin : ∀ x ∈ l,inM m x=true) (hn : l.Nodup) (d : Int) :
  C 875 [.agg (aW m),slx b (inR l),.int .i64 d] (.tup [.ptr [.sl (inR (cQ m)),.sl (inR (aV m).sp),.sl (inR (aV m).ou),slx true (inR (lD m (woW l d))),slx true (inR (twL m))],.int .i64 0]) []:=by
 have k1:=A8 hC dec hI m hz
 have k2:=A7 hC dec hI m hz
 have k3:=sZ hC dec hI m hz
 simp [hv] at k1 k2 k3
 have hsz:=cy hv
 simp only [ab] at k1 k2 k3
 refine aw hC (nf:=N875) rfl rfl ?_
 simp [N875,ab]
 refine aa k1 (.inr rfl) ?_
 simp
 refine aa k2 (.inr rfl) ?_
 simp
 refine aa k3 (.inr rfl) ?_
 simp
 refine av Nat (fun i=>[(1,slx b (inR l)),(2,.int .i64 d),(3,.ptr (aW m)),(8,.adr (.r 10256) 0 0),(52,.int .i64 m.f.length),(53,.int .i64 i),(10256,.blk 5 [[.sl (inR (cQ m)),.sl (inR (aV m).sp),.sl (inR (aV m).ou),cN 1 (tbR (fun _=>-1) i),cN 1 (tbR (twF m) i)]])]) (fun i=>i <= m.f.length) (fun i=>m.f.length - i) 0 (by simp) (by simp [ab,cN]) ?_
 intro i hi
 simp
 refine aj (fun h=>?_) (fun h=>?_) <;> simp at h
 ·have hw : IntKind.wrap .i64 ((i : Int) + 1)=((i + 1 : Nat) : Int):=af (by omega) (by omega)
  have k4:=xc hC dec hI m hz hv i h
  simp only [ab] at k4
  simp [h,ab]
  refine aa k4 (.inr rfl) ?_
  simp
  cases i with
  | zero =>
   have e1:=gr (fun _=>-1) 0
   have e2:=gr (twF m) 0
   simp at e1 e2
   simp [cN]
   exact ⟨1,by omega,by omega,by simp [ab,az,<- e1,<- e2]⟩
  | succ j =>
   have e1:=gr (fun _=>-1) (j + 1)
   have e2:=gr (twF m) (j + 1)
   simp [uy]
   have hw' : IntKind.wrap .i64 ((j : Int) + 1 + 1)=(j : Int) + 1 + 1:=af rfl (by omega)
   exact ⟨by omega,j + 1 + 1,by omega,by omega,by simp [ab,uy,e1,e2,hw']⟩
 ·have ei : i=m.f.length:=by omega
  subst ei
  simp [h]
  refine av Nat (fun i=>[(2,.int .i64 d),(8,.adr (.r 10256) 0 0),(85,slx b (inR l)),(86,.int .i64 l.length),(87,.int .i64 i),(10256,.blk 5 [[.sl (inR (cQ m)),.sl (inR (aV m).sp),.sl (inR (aV m).ou),cN 1 (tbR (inl ((woW l d).take i)) m.f.length),cN 1 (tbR (twF m) m.f.length)]])]) (fun i=>i <= l.length) (fun i=>l.length - i) 0 (by simp) (by simp;rfl) ?_
  intro i hi
  simp
  refine aj (fun h=>?_) (fun h=>?_) <;> simp at h
  ·have hw : IntKind.wrap .i64 ((i : Int) + 1)=((i + 1 : Nat) : Int):=af (by omega) (by omega)
   have hx:=hin l[i] (x0u h)
   simp [inM] at hx
   obtain ⟨x,hxe⟩ : ∃ x : Nat,l[i]=(x : Int):=⟨l[i].toNat,by omega⟩
   have hn0 : m.f.length ≠ 0:=by omega
   have hg : (inR l)[i]? = some [.int .i64 (x : Int)]:=by simp [inR,x0d h,hxe]
   rw [oj _ hn0,oj _ hn0]
   simp [h,aq hg]
   refine aj (fun c=>?_) (fun c=>?_)
   ·simp at c
    have es : (tbR (inl ((woW l d).take i)) m.f.length).set x [.int .i64 i]=tbR (inl ((woW l d).take (i + 1))) m.f.length:=by
     refine sP ?_ fun j hj=>?_
     ·rw [ra h,pO hn h hxe,if_neg c]
      simp [hxe]
     ·rw [ra h,if_neg c]
      have : ¬ l[i]=(j : Int):=by omega
      simp [this]
      exact fun h=>h.symm
    have hx2 : x < m.f.length:=by omega
    have hg2 : (tbR (inl ((woW l d).take i)) m.f.length)[x]? = some [.int .i64 (inl ((woW l d).take i) x)]:=by simp [iq,hx2]
    have hg3 : (tbR (inl ((woW l d).take i)) m.f.length)[x]'(by simpa using hx2)=[.int .i64 (inl ((woW l d).take i) x)]:=by simp [iq]
    simp [hx2,aq hg2,a8 hg2,hg2,hg3]
    exact ⟨i + 1,by omega,by omega,by omega,by rw [es,oj _ hn0]⟩
   ·simp at c
    have es : inl ((woW l d).take (i + 1))=inl ((woW l d).take i):=by
     funext j
     rw [ra h,if_pos c]
     have : ¬ (-1 : Int)=(j : Int):=by omega
     simp [this]
     exact fun h=>h.symm
    simp
    exact ⟨i + 1,by omega,by omega,by omega,by rw [es,oj _ hn0]⟩
  ·have ei : i=l.length:=by omega
   subst ei
   simp [h]
   rw [x0q (by simp)]
   exact ⟨rfl,rfl⟩
end Go.Gv

namespace Go.Gv
theorem qr {m : Msh} (hv : ap m=true) {f : Nat} (hf : f < m.f.length) : trM m f (some (spF m f)) < trM m f none:=by
 have b2:=om hv hf
 simp only [trM]
 rw [if_neg (by omega)]
 exact nq (by omega) (by omega)
theorem sS {m : Msh} (hv : ap m=true) {f g : Nat} (hf : f < m.f.length) (hg : cS m f=g) : g < m.f.length /\ trM m g none < trM m f none:=by
 obtain ⟨g1,g2,g3⟩:=wc hv hf hg
 refine ⟨g1,?_⟩
 simp only [trM]
 have b3:=fw m (suF m g)
 by_cases e : spF m g=spF m f
 ·rw [e]
  have:=iF (m:=m) ⟨g,g1,rfl⟩ g2
  omega
 ·have:=iF (m:=m) (o5 hv g1) (show spF m g < spF m f by omega)
  exact nq (by omega) (by omega)
theorem sQ {m : Msh} {f : Nat} {h : Int} (hlow : spF m f < h) : trM m f none < trM m f (some h):=by
 have b1:=fw m (suF m f)
 simp only [trM]
 rw [if_pos hlow]
 exact nq (a:=ig m (spF m f) * 3 + 1) (b:=ig m (spF m f) * 3 + 2) (N:=m.f.length + 2) (y:=0) (by omega) (by omega)
theorem sR {m : Msh} (hv : ap m=true) {f g : Nat} {h : Int} (hf : f < m.f.length) (hlow : ¬ spF m f < h) (e2 : ouF m f=g) : g < m.f.length /\ trM m g (some h) < trM m f (some h):=by
 obtain ⟨q1,q2⟩:=l9 hv hf e2
 have q3:=AR hv hf e2
 have b3:=om hv q2
 refine ⟨q2,?_⟩
 simp only [trM]
 rw [if_neg hlow]
 by_cases e : spF m g=spF m f
 ·rw [e,if_neg hlow]
  omega
 ·have:=iF (m:=m) (o5 hv q2) (show spF m g < spF m f by omega)
  split
  ·exact nq (x:=0) (by omega) (by omega)
  ·exact nq (by omega) (by omega)
def nR (t : List Nat) : List (List D):=inR (t.map fun (x : Nat)=>(x : Int))
@[simp] theorem Se (t : List Nat) : (nR t).length=t.length:=by simp [nR]
@[simp] theorem Qd (t : List Nat) : List.take t.length (nR t)=nR t:=x0q (by simp)
theorem vy (x : Nat) : [[D.int .i64 (x : Int)]]=nR [x]:=rfl
theorem mE (t : List Nat) (x : Nat) : nR t++[[.int .i64 (x : Int)]]=nR (t++[x]):=by simp [nR,inR]
@[simp] theorem SI (t : List Nat) : List.map (fun e=>List.map bq e) (nR t)=nR t:=vh _
@[simp] theorem Sd (t : List Nat) (x : List D) : (∀ e,e ∈ nR t \/ e=x -> ∀ c,c ∈ e -> aK c=true)=∀ c,c ∈ x -> aK c=true:=by
 apply propext
 constructor
 ·exact fun h=>h x (.inr rfl)
 ·rintro h e (he | rfl)
  ·exact (jx _ e he).2
  ·exact h
theorem fE {l : List Int} {i : Nat} (h : i < l.length) : (inR l)[i]? = some [.int .i64 (l.getD i 0)]:=by simp [inR,h]
def bsC (m : Msh) (w : List Int) : List D:=[.sl (inR (cQ m)),.sl (inR (aV m).sp),.sl (inR (aV m).ou),slx true (inR (lD m w)),slx true (inR (twL m))]
theorem lW (m : Msh) (w : List Int) : bsC m w=[.sl (inR (cQ m)),.sl (inR (aV m).sp),.sl (inR (aV m).ou),slx true (inR (lD m w)),slx true (inR (twL m))]:=zR
variable {C : CC} (hC : ay prog C)
include hC
set_option maxRecDepth 8000 in
set_option maxHeartbeats 4000000 in
theorem y9 (m : Msh) (hv : ap m=true) (w : List Int) (f0 : Nat) (h0 : f0 < m.f.length) :
  C 881 [.ptr (bsC m w),.int .i64 f0] (.sl (nR (f0::trF m w f0))) []:=by
 obtain ⟨d0,_,dl⟩:=ir hv w h0
 have bl:=o7 hv f0
 obtain ⟨T,hT⟩ : ∃ T,T=f0::trF m w f0:=⟨_,rfl⟩
 have hTl : T.length <= 60000000:=by rw [hT,x0N];omega
 rw [<- hT]
 have W:=lI m
 have gF : ∀ {f : Nat},f < m.f.length -> (inR (cQ m))[f]? = some [.int .i64 (cS m f)]:=fun h=>by rw [fE (by simp [cQ,h])];simp [cQ,h]
 have gS : ∀ {f : Nat},f < m.f.length -> (inR (aV m).sp)[f]? = some [.int .i64 (spF m f)]:=fun h=>by rw [fE (by rw [W.sp];exact h)];rfl
 have gO : ∀ {f : Nat},f < m.f.length -> (inR (aV m).ou)[f]? = some [.int .i64 (ouF m f)]:=fun h=>by rw [fE (by rw [W.ou];exact h)];rfl
 have gI : ∀ {f : Nat},f < m.f.length -> (inR (lD m w))[f]? = some [.int .i64 (inl w f)]:=fun h=>by rw [fE (by simp [h])];simp [lD,h]
 obtain ⟨xf,hxf⟩ : ∃ x,x=inR (cQ m):=⟨_,rfl⟩
 obtain ⟨xs,hxs⟩ : ∃ x,x=inR (aV m).sp:=⟨_,rfl⟩
 obtain ⟨xo,hxo⟩ : ∃ x,x=inR (aV m).ou:=⟨_,rfl⟩
 obtain ⟨xi,hxi⟩ : ∃ x,x=inR (lD m w):=⟨_,rfl⟩
 have gFl : xf.length=m.f.length:=by rw [hxf];simp [cQ]
 have gSl : xs.length=m.f.length:=by rw [hxs];simp [W.sp]
 have gOl : xo.length=m.f.length:=by rw [hxo];simp [W.ou]
 have gIl : xi.length=m.f.length:=by rw [hxi];simp
 rw [<- hxf] at gF
 rw [<- hxs] at gS
 rw [<- hxo] at gO
 rw [<- hxi] at gI
 obtain ⟨x4,hx4⟩ : ∃ x,x=slx true (inR (twL m)):=⟨_,rfl⟩
 refine aw hC (nf:=N881) rfl rfl ?_
 simp only [lW,<- hxf,<- hxs,<- hxo,<- hxi,<- hx4]
 simp [N881]
 refine av (Nat × List Nat × List Nat) (fun s=>[(0,.ptr [.sl xf,.sl xs,.sl xo,slx true xi,x4]),(1,.int .i64 s.1),(5,.ref (.r 10080) 0 s.2.1.length),(10080,.blk 1 (nR s.2.1))]) (fun s=>s.1 < m.f.length /\ TrR m w s.1 none s.2.2 /\ s.2.1++s.2.2=T) (fun s=>trM m s.1 none) (f0,[f0],trF m w f0) ⟨h0,d0,hT.symm⟩ (by simp [vy]) ?_
 rintro ⟨f,p,l⟩ ⟨hf,hd,hp⟩
 simp only at hf hd hp
 have hpl : p.length + l.length=T.length:=by rw [<- hp,x0I]
 simp [gIl,hf,aq (gI hf)]
 refine aj (fun c=>?_) (fun c=>?_)
 ·simp at c
  simp [gFl,hf,aq (gF hf)]
  by_cases c1 : cS m f=-1
  ·have : l=[]:=hd.uniq (.off c c1)
   subst this
   simp at hp
   simp [c1,hp]
  ·by_cases c2 : cS m f=-2
   ·obtain ⟨hd2,hml⟩ : TrR m w f (some (spF m f)) l /\ trM m f (some (spF m f)) < trM m f none:=by
     refine ⟨?_,qr hv hf⟩
     cases hd with
     | inlet h=>exact absurd c h
     | off _ h=>exact absurd h c1
     | run _ h _=>omega
     | lake _ _ h=>exact h
    obtain ⟨h,hh⟩ : ∃ h,h=spF m f:=⟨_,rfl⟩
    rw [<- hh] at hd2 hml
    simp [c1,c2,gSl,hf,aq (gS hf),<- hh]
    refine av (Nat × List Nat × List Nat) (fun s=>[(0,.ptr [.sl xf,.sl xs,.sl xo,slx true xi,x4]),(1,.int .i64 s.1),(5,.ref (.r 10080) 0 s.2.1.length),(6,.int .i64 h),(10080,.blk 1 (nR s.2.1))]) (fun s=>s.1 < m.f.length /\ TrR m w s.1 (some h) s.2.2 /\ s.2.1++s.2.2=T /\ inl w s.1=-1 /\ trM m s.1 (some h) < trM m f none) (fun s=>trM m s.1 (some h)) (f,p,l) ⟨hf,hd2,hp,c,hml⟩ (by simp) ?_
    rintro ⟨g,p,l⟩ ⟨hf,hd,hp,c,hml⟩
    simp only at hf hd hp c hml
    have hpl : p.length + l.length=T.length:=by rw [<- hp,x0I]
    simp [gSl,hf,aq (gS hf)]
    by_cases c3 : h <= spF m g
    ·simp [c3,gOl,hf,aq (gO hf)]
     by_cases c4 : ouF m g=-1
     ·have : l=[]:=hd.uniq (.stay c3 c4)
      subst this
      simp at hp
      simp [c4,hp]
     ·obtain ⟨k,hk⟩ : ∃ k : Nat,ouF m g=k:=by
       cases hd with
       | low h _=>omega
       | stay _ h=>exact absurd h c4
       | hit _ h _=>exact ⟨_,h⟩
       | out _ h _ _=>exact ⟨_,h⟩
      obtain ⟨hk2,hk3⟩:=sR hv hf (show ¬ spF m g < h by omega) hk
      by_cases c5 : inl w k=-1
      ·obtain ⟨l',rfl,hd'⟩ : ∃ l',l=k::l' /\ TrR m w k (some h) l':=by
        cases hd with
        | low h _=>omega
        | stay _ h=>exact absurd h c4
        | hit _ h h2 =>
         have:=Int.ofNat.inj (h.symm.trans hk)
         subst this
         exact absurd c5 h2
        | out _ h _ h4 =>
         have:=Int.ofNat.inj (h.symm.trans hk)
         subst this
         exact ⟨_,rfl,h4⟩
       have hpl2 : p.length < 60000000:=by simp at hpl;omega
       simp [c4,hk,gOl,hf,aq (gO hf),mE,gIl,hk2,aq (gI hk2),c5]
       exact ⟨by omega,k,p++[k],⟨hk2,l',hd',by rw [<- hp];simp,c5,by omega⟩,by omega,rfl,by simp,rfl⟩
      ·have : l=[k]:=hd.uniq (.hit c3 hk c5)
       subst this
       have hpl2 : p.length < 60000000:=by simp at hpl;omega
       simp [c4,hk,gOl,hf,aq (gO hf),mE,gIl,hk2,aq (gI hk2),c5]
       rw [<- hp]
       exact ⟨by omega,x0q (by simp)⟩
    ·simp [c3]
     have hd' : TrR m w g none l:=by
      cases hd with
      | low _ h=>exact h
      | stay h _=>exact absurd h c3
      | hit h _ _=>exact absurd h c3
      | out h _ _ _=>exact absurd h c3
     have:=sQ (m:=m) (show spF m g < h by omega)
     exact ⟨g,p,⟨hf,l,hd',hp⟩,by omega,rfl,rfl,rfl⟩
   ·obtain ⟨k,l',hk,rfl,hd'⟩ : ∃ (k : Nat) (l' : List Nat),cS m f=(k : Int) /\ l=k::l' /\ TrR m w k none l':=by
     cases hd with
     | inlet h=>exact absurd c h
     | off _ h=>exact absurd h c1
     | run _ h h2=>exact ⟨_,_,h,rfl,h2⟩
     | lake _ h _=>exact absurd h c2
    obtain ⟨hk2,hk3⟩:=sS hv hf hk
    have hpl2 : p.length < 60000000:=by simp at hpl;omega
    have hk4 : ¬ (k : Int)=-1:=by omega
    have hk5 : ¬ (k : Int)=-2:=by omega
    simp [hk,hk4,hk5,gFl,hf,aq (gF hf),mE]
    exact ⟨by omega,k,p++[k],⟨hk2,l',hd',by rw [<- hp];simp⟩,by omega,rfl,by simp,rfl⟩
 ·simp at c
  have : l=[]:=hd.uniq (.inlet c)
  subst this
  simp at hp
  simp [hp]
end Go.Gv

namespace Go.Gv
theorem vm (m : Msh) (w : List Int) (f : Nat) : (nR (f::trF m w f))[(trF m w f).length]? = some [.int .i64 (laF m w f : Nat)]:=by
 have : (f::trF m w f)[(trF m w f).length]? = some (laF m w f):=by
  unfold laF
  rw [List.getLast_eq_getElem,x0d (by simp)]
  simp
 unfold nR inR
 simp only [x0y,this,x06]
noncomputable def enL (m : Msh) (w : List Int) : List Int:=(List.range m.f.length).map (enF m w)
def tzR (f : Nat -> Int) (n i : Nat) : List (List D):=if i=0 then List.replicate n [.int .i64 0] else tbR f i
theorem L7 (f : Nat -> Int) (n : Nat) : tzR f n 0=List.replicate n [.int .i64 0]:=rfl
theorem wG (f : Nat -> Int) (n i : Nat) : List.take i (tzR f n i)=tbR f i:=by
 cases i with
 | zero=>rfl
 | succ i=>exact wD f (i + 1)
theorem sT (f : Nat -> Int) {n i : Nat} (h : i <= n) : i <= (tzR f n i).length:=by
 cases i with
 | zero=>omega
 | succ i=>exact Nat.le_of_eq (y8 f (i + 1)).symm
theorem L8 (f : Nat -> Int) (n i : Nat) : tbR f (i + 1)=tzR f n (i + 1):=rfl
@[simp] theorem Df (f : Nat -> Int) (n : Nat) : List.map (fun e=>List.map bq e) (tbR f n)=tbR f n:=vh _
variable {C : CC} (hC : ay prog C)
include hC
set_option maxHeartbeats 1000000 in
theorem CL (m : Msh) (hv : ap m=true) (w : List Int) : C 876 [.ptr (bsC m w)] (.sl (inR (enL m w))) []:=by
 have hsz:=cy hv
 have k:=fun (f : Nat) (hf : f < m.f.length)=>y9 hC m hv w f hf
 have gI : ∀ {f : Nat},f < m.f.length -> (inR (lD m w))[f]? = some [.int .i64 (inl w f)]:=fun h=>by rw [fE (by simp [h])];simp [lD,h]
 have gFl : (inR (cQ m)).length=m.f.length:=by simp [cQ]
 obtain ⟨xf,hxf⟩ : ∃ x,x=inR (cQ m):=⟨_,rfl⟩
 obtain ⟨xs,hxs⟩ : ∃ x,x=inR (aV m).sp:=⟨_,rfl⟩
 obtain ⟨xo,hxo⟩ : ∃ x,x=inR (aV m).ou:=⟨_,rfl⟩
 obtain ⟨xi,hxi⟩ : ∃ x,x=inR (lD m w):=⟨_,rfl⟩
 have gIl : xi.length=m.f.length:=by rw [hxi];simp
 rw [<- hxi] at gI
 rw [<- hxf] at gFl
 obtain ⟨x4,hx4⟩ : ∃ x,x=slx true (inR (twL m)):=⟨_,rfl⟩
 simp only [lW,<- hxf,<- hxs,<- hxo,<- hxi,<- hx4] at k ⊢
 refine aw hC (nf:=N876) rfl rfl ?_
 simp [N876]
 refine ⟨by omega,av Nat (fun i=>[(0,.ptr [.sl xf,.sl xs,.sl xo,slx true xi,x4]),(3,.ref (.r 10048) 0 i),(16,.int .i64 xf.length),(17,.int .i64 i),(10048,.blk 1 (tzR (enF m w) m.f.length i))]) (fun i=>i <= m.f.length) (fun i=>m.f.length - i) 0 (by simp) (by simp [L7,gFl]) ?_⟩
 intro i hi
 simp
 refine aj (fun h=>?_) (fun h=>?_) <;> simp at h
 ·rw [gFl] at h
  have k2:=k i h
  have bl:=(ir hv w h).2.2
  have bl2:=o7 hv i
  have hla:=B7 hv w h
  have e1:=vm m w i
  obtain ⟨X,hX⟩ : ∃ X,X=nR (i::trF m w i):=⟨_,rfl⟩
  have hXl : X.length=(trF m w i).length + 1:=by rw [hX];simp
  rw [<- hX] at k2 e1
  have hw : IntKind.wrap .i64 (((trF m w i).length : Int))=((trF m w i).length : Int):=af (by omega) (by omega)
  simp [h,gFl]
  refine aa k2 (.inr rfl) ?_
  simp [hXl,hw,aq e1,gIl,hla,aq (gI hla)]
  have ht:=sT (enF m w) hi
  have hw2 : IntKind.wrap .i64 ((i : Int) + 1)=((i + 1 : Nat) : Int):=af (by omega) (by omega)
  refine ⟨by omega,by omega,ai (by decide +kernel),i + 1,by omega,by omega,rfl,gFl.symm ▸ rfl,hw2,?_⟩
  rw [wG,<- L8]
  exact gr _ _
 ·have ei : i=m.f.length:=by omega
  subst ei
  simp [gFl]
  rw [<- List.map_take,wG,Df]
  exact ⟨sT _ (by omega),rfl⟩
end Go.Gv

namespace Go.Gv
theorem Dl {l : List Int} {d : Int} (h : ∀ i : Nat,i < l.length -> (i : Int) ≠ d) : woW l d=l:=by
 refine x1m (by simp) fun i h1 h2=>?_
 rw [pe h2,if_neg (h i h2)]
theorem sW (l : List Int) : woW l (-1)=l:=Dl fun i _=>by omega
theorem pI {m : Msh} {l ks : List Int} (h : gvE m l ks=0) : ap m=true /\ l.length <= 300 /\ (∀ x ∈ l,inM m x=true) /\ (∀ k ∈ ks,dT l.length k=true) /\ l.Nodup:=by
 unfold gvE at h
 split at h
 ·omega
 ·split at h
  ·omega
  ·split at h
   ·omega
   ·split at h
    ·omega
    ·split at h
     ·refine ⟨by simp_all,by omega,?_,?_,by assumption⟩ <;> simp_all
     ·omega
noncomputable def ofV (m : Msh) (l ks : List Int) (w : List Int) : D:=if gvE m l ks=0 then .tup [.sl (inR (enL m w)),.int .i64 0] else .tup [.nils,.int .i64 (gvE m l ks)]
variable {C : CC} (hC : ay prog C)
include hC
theorem Ba (hW : SlW C) (dec : Nat -> List UInt8) (hI : ∀ n : Nat,n < 100 -> C 127 [.int .i64 n] (.str (dec n)) []) (m : Msh) (hz : bV m=true -> m.s.length <= 100 /\ m.f.length <= 100) (b : Bool) (l : List Int) (hl : l.length < 2 ^ 40) :
  C 856 [.agg (aW m),slx b (inR l)] (ofV m l [] l) []:=by
 have k1:=ki hC hW dec hI m hz b true l [] hl (by simp)
 obtain ⟨R,hR⟩ : ∃ R,R=ofV m l [] l:=⟨_,rfl⟩
 rw [<- hR]
 unfold ofV at hR
 obtain ⟨E,hE⟩ : ∃ E,E=gvE m l []:=⟨_,rfl⟩
 rw [<- hE] at hR k1
 refine aw hC (nf:=N856) rfl rfl ?_
 simp only [ab] at k1
 simp at k1
 simp [N856,ab]
 refine aa k1 (.inl rfl) ?_
 by_cases e : E=0
 ·rw [if_pos e] at hR
  rw [e] at hE
  obtain ⟨hv,h1,h2,_,h3⟩:=pI hE.symm
  have k2:=my hC dec hI m hz hv b l h1 h2 h3 (-1)
  rw [sW] at k2
  have k3:=CL hC m hv l
  simp only [lW] at k3
  simp only [ab] at k2
  simp [e]
  refine aa k2 (.inr rfl) ?_
  simp
  refine aa k3 (.inr rfl) ?_
  simp [hR]
 ·rw [if_neg e] at hR
  simp [e,hR]
theorem xa (hW : SlW C) (dec : Nat -> List UInt8) (hI : ∀ n : Nat,n < 100 -> C 127 [.int .i64 n] (.str (dec n)) []) (m : Msh) (hz : bV m=true -> m.s.length <= 100 /\ m.f.length <= 100) (b : Bool) (l : List Int) (hl : l.length < 2 ^ 40) (d : Int) :
  C 858 [.agg (aW m),slx b (inR l),.int .i64 d] (ofV m l [d] (woW l d)) []:=by
 have k1:=ki hC hW dec hI m hz b false l [d] hl (by simp)
 obtain ⟨R,hR⟩ : ∃ R,R=ofV m l [d] (woW l d):=⟨_,rfl⟩
 rw [<- hR]
 unfold ofV at hR
 obtain ⟨E,hE⟩ : ∃ E,E=gvE m l [d]:=⟨_,rfl⟩
 rw [<- hE] at hR k1
 refine aw hC (nf:=N858) rfl rfl ?_
 simp only [ab] at k1
 simp [inR] at k1
 simp [N858,ab]
 refine aa k1 (.inl rfl) ?_
 by_cases e : E=0
 ·rw [if_pos e] at hR
  rw [e] at hE
  obtain ⟨hv,h1,h2,_,h3⟩:=pI hE.symm
  have k2:=my hC dec hI m hz hv b l h1 h2 h3 d
  have k3:=CL hC m hv (woW l d)
  simp only [lW] at k3
  simp only [ab] at k2
  simp [e]
  refine aa k2 (.inr rfl) ?_
  simp
  refine aa k3 (.inr rfl) ?_
  simp [hR]
 ·rw [if_neg e] at hR
  simp [e,hR]
end Go.Gv

namespace Go.Gv
def wtC (m : Msh) : List D:=[.sl (inR (cQ m)),.sl (inR (aV m).sp),.sl (inR (aV m).ou)]
theorem rS (m : Msh) : wtC m=[.sl (inR (cQ m)),.sl (inR (aV m).sp),.sl (inR (aV m).ou)]:=zR
variable {C : CC} (hC : ay prog C)
include hC
theorem Lt (m : Msh) (hv : ap m=true) (hm : m.f.length <= 100) : C 878 [.agg (aW m)] (.agg (wtC m)) []:=by
 have k1:=vP hC m hv hm
 obtain ⟨f1,f2⟩:=fO hv
 rw [<- f1,<- f2] at k1
 have k2:=ym hC m hv hm
 simp only [ab] at k1 k2
 refine aw hC (nf:=N878) rfl rfl ?_
 simp [N878,ab]
 refine aa k1 (.inr rfl) ?_
 simp
 refine aa k2 (.inr rfl) ?_
 simp [rS]
set_option maxHeartbeats 4000000 in
theorem vQ (m : Msh) (hv : ap m=true) (b : Bool) (w : List Int) (hw : w.length < 2 ^ 40) (f0 : Nat) (h0 : f0 < m.f.length) :
  C 879 [.agg (wtC m),slx b (inR w),.int .i64 f0] (.sl (nR (f0::trF m w f0))) []:=by
 obtain ⟨d0,_,dl⟩:=ir hv w h0
 have bl:=o7 hv f0
 obtain ⟨T,hT⟩ : ∃ T,T=f0::trF m w f0:=⟨_,rfl⟩
 have hTl : T.length <= 60000000:=by rw [hT,x0N];omega
 rw [<- hT]
 have W:=lI m
 have kF:=fun (f : Nat)=>oR hC b w f hw
 rw [<- eZ] at kF
 have eF : ∀ f : Nat,dS (fun y=>decide (y=(f : Int))) w=inl w f:=fun _=>rfl
 simp only [eF] at kF
 have gF : ∀ {f : Nat},f < m.f.length -> (inR (cQ m))[f]? = some [.int .i64 (cS m f)]:=fun h=>by rw [fE (by simp [cQ,h])];simp [cQ,h]
 have gS : ∀ {f : Nat},f < m.f.length -> (inR (aV m).sp)[f]? = some [.int .i64 (spF m f)]:=fun h=>by rw [fE (by rw [W.sp];exact h)];rfl
 have gO : ∀ {f : Nat},f < m.f.length -> (inR (aV m).ou)[f]? = some [.int .i64 (ouF m f)]:=fun h=>by rw [fE (by rw [W.ou];exact h)];rfl
 obtain ⟨xf,hxf⟩ : ∃ x,x=inR (cQ m):=⟨_,rfl⟩
 obtain ⟨xs,hxs⟩ : ∃ x,x=inR (aV m).sp:=⟨_,rfl⟩
 obtain ⟨xo,hxo⟩ : ∃ x,x=inR (aV m).ou:=⟨_,rfl⟩
 obtain ⟨xw,hxw⟩ : ∃ x,x=inR w:=⟨_,rfl⟩
 have gFl : xf.length=m.f.length:=by rw [hxf];simp [cQ]
 have gSl : xs.length=m.f.length:=by rw [hxs];simp [W.sp]
 have gOl : xo.length=m.f.length:=by rw [hxo];simp [W.ou]
 rw [<- hxf] at gF
 rw [<- hxs] at gS
 rw [<- hxo] at gO
 rw [<- hxw] at kF ⊢
 refine aw hC (nf:=N879) rfl rfl ?_
 simp only [rS,<- hxf,<- hxs,<- hxo]
 simp [N879]
 refine av (Nat × List Nat × List Nat) (fun s=>[(1,slx b xw),(2,.int .i64 s.1),(3,.ptr [.sl xf,.sl xs,.sl xo]),(7,.ref (.r 10112) 0 s.2.1.length),(10112,.blk 1 (nR s.2.1))]) (fun s=>s.1 < m.f.length /\ TrR m w s.1 none s.2.2 /\ s.2.1++s.2.2=T) (fun s=>if inl w s.1=-1 then trM m s.1 none + 1 else 0) (f0,[f0],trF m w f0) ⟨h0,d0,hT.symm⟩ (by simp [vy]) ?_
 rintro ⟨f,p,l⟩ ⟨hf,hd,hp⟩
 simp only at hf hd hp
 have hpl : p.length + l.length=T.length:=by rw [<- hp,x0I]
 simp
 refine aa (kF f) (.inl rfl) ?_
 simp
 obtain ⟨ib,_⟩:=qZ w f
 refine aj (fun c=>?_) (fun c=>?_)
 ·simp at c
  have c : inl w f=-1:=by omega
  have cf:=c
  simp [gFl,hf,aq (gF hf),c]
  by_cases c0 : 0 <= cS m f
  ·obtain ⟨k,l',hk,rfl,hd'⟩ : ∃ (k : Nat) (l' : List Nat),cS m f=(k : Int) /\ l=k::l' /\ TrR m w k none l':=by
    cases hd with
    | inlet h=>exact absurd c h
    | off _ h=>omega
    | run _ h h2=>exact ⟨_,_,h,rfl,h2⟩
    | lake _ h _=>omega
   obtain ⟨hk2,hk3⟩:=sS hv hf hk
   have hpl2 : p.length < 60000000:=by simp at hpl;omega
   simp [hk,gFl,hf,aq (gF hf),mE]
   exact ⟨by omega,k,p++[k],⟨hk2,l',hd',by rw [<- hp];simp⟩,by rw [if_pos cf];split <;> omega,rfl,by simp,rfl⟩
  ·simp [c0,gFl,hf,aq (gF hf)]
   by_cases c1 : cS m f=-1
   ·have : l=[]:=hd.uniq (.off c c1)
    subst this
    simp at hp
    simp [c1,hp]
   ·have c2 : cS m f=-2:=by rcases o4 m f with h | h | h <;> omega
    obtain ⟨hd2,hml⟩ : TrR m w f (some (spF m f)) l /\ trM m f (some (spF m f)) < trM m f none:=by
     refine ⟨?_,qr hv hf⟩
     cases hd with
     | inlet h=>exact absurd c h
     | off _ h=>exact absurd h c1
     | run _ h _=>omega
     | lake _ _ h=>exact h
    obtain ⟨h,hh⟩ : ∃ h,h=spF m f:=⟨_,rfl⟩
    rw [<- hh] at hd2 hml
    simp [c1,gSl,hf,aq (gS hf),<- hh]
    refine av (Nat × List Nat × List Nat) (fun s=>[(1,slx b xw),(2,.int .i64 s.1),(3,.ptr [.sl xf,.sl xs,.sl xo]),(7,.ref (.r 10112) 0 s.2.1.length),(8,.int .i64 h),(10112,.blk 1 (nR s.2.1))]) (fun s=>s.1 < m.f.length /\ s.2.1++s.2.2=T /\ (inl w s.1=-1 /\ TrR m w s.1 (some h) s.2.2 /\ trM m s.1 (some h) < trM m f none \/ inl w s.1 ≠ -1 /\ s.2.2=[])) (fun s=>if inl w s.1=-1 then trM m s.1 (some h) + 1 else 0) (f,p,l) ⟨hf,hp,.inl ⟨c,hd2,hml⟩⟩ (by simp) ?_
    rintro ⟨g,p,l⟩ ⟨hf,hp,hq⟩
    simp only at hf hp hq
    have hpl : p.length + l.length=T.length:=by rw [<- hp,x0I]
    obtain ⟨ib,_⟩:=qZ w g
    simp [gSl,hf,aq (gS hf)]
    by_cases c3 : h <= spF m g
    ·simp [c3]
     refine aa (kF g) (.inl rfl) ?_
     simp
     refine aj (fun c=>?_) (fun c=>?_)
     ·simp at c
      have c : inl w g=-1:=by omega
      obtain ⟨_,hd,hml⟩ | ⟨h1,_⟩:=hq
      ·simp [gOl,hf,aq (gO hf)]
       by_cases c4 : ouF m g=-1
       ·have : l=[]:=hd.uniq (.stay c3 c4)
        subst this
        simp at hp
        simp [c4,hp]
       ·obtain ⟨k,hk⟩ : ∃ k : Nat,ouF m g=k:=by
         cases hd with
         | low h _=>omega
         | stay _ h=>exact absurd h c4
         | hit _ h _=>exact ⟨_,h⟩
         | out _ h _ _=>exact ⟨_,h⟩
        obtain ⟨hk2,hk3⟩:=sR hv hf (show ¬ spF m g < h by omega) hk
        obtain ⟨l',rfl,hd'⟩ : ∃ l',l=k::l' /\ (inl w k=-1 /\ TrR m w k (some h) l' \/ inl w k ≠ -1 /\ l'=[]):=by
         cases hd with
         | low h _=>omega
         | stay _ h=>exact absurd h c4
         | hit _ h h2 =>
          have:=Int.ofNat.inj (h.symm.trans hk)
          subst this
          exact ⟨[],rfl,.inr ⟨h2,rfl⟩⟩
         | out _ h h3 h4 =>
          have:=Int.ofNat.inj (h.symm.trans hk)
          subst this
          exact ⟨_,rfl,.inl ⟨h3,h4⟩⟩
        have hpl2 : p.length < 60000000:=by simp at hpl;omega
        have hk4 : ¬ (k : Int) < 0:=by omega
        simp [c,hk,hk4,gOl,hf,aq (gO hf),mE]
        refine ⟨by omega,k,p++[k],⟨hk2,l',by rw [<- hp];simp,?_⟩,by split <;> omega,rfl,by simp,rfl⟩
        rcases hd' with ⟨h1,h2⟩ | h
        ·exact .inl ⟨h1,h2,by omega⟩
        ·exact .inr h
      ·exact absurd c h1
     ·simp at c
      have hl : l=[]:=by
       obtain ⟨h1,_⟩ | ⟨_,h1⟩:=hq
       ·omega
       ·exact h1
      simp
      exact ⟨g,p,⟨hf,l,hl ▸ .inlet (by omega),hp⟩,by rw [if_pos cf,if_neg (by omega)];omega,rfl,rfl,rfl⟩
    ·have hd' : TrR m w g none l:=by
      obtain ⟨_,hd,_⟩ | ⟨h1,rfl⟩:=hq
      ·cases hd with
       | low _ h=>exact h
       | stay h _=>exact absurd h c3
       | hit h _ _=>exact absurd h c3
       | out h _ _ _=>exact absurd h c3
      ·exact .inlet h1
     have hm' : inl w g=-1 -> trM m g none < trM m f none:=fun h1=>by
      have:=sQ (m:=m) (show spF m g < h by omega)
      obtain ⟨_,_,h2⟩ | ⟨h2,_⟩:=hq
      ·omega
      ·exact absurd h1 h2
     simp [c3]
     refine ⟨g,p,⟨hf,l,hd',hp⟩,?_,rfl,rfl,rfl⟩
     rw [if_pos cf]
     split
     ·have:=hm' (by assumption)
      omega
     ·omega
 ·simp at c
  have : l=[]:=hd.uniq (.inlet (by omega))
  subst this
  simp at hp
  simp [hp]
end Go.Gv

namespace Go.Gv
noncomputable def arF (m : Msh) (w : List Int) (n : Nat) (k : Int) : Int:=Dd (fun f=>if enF m w f=k then twF m f else 0) n
theorem kX (m : Msh) (w : List Int) (n : Nat) (k : Int) : arF m w (n + 1) k=arF m w n k + if enF m w n=k then twF m n else 0:=rfl
theorem qz {m : Msh} (hv : ap m=true) (w : List Int) (k : Int) : ∀ {n : Nat},n <= m.f.length -> 0 <= arF m w n k /\ arF m w n k <= n * 2251799813685248
 | 0,_=>by simp [arF,Dd]
 | n + 1,h=>by
  have ih:=qz hv w k (n:=n) (by omega)
  have:=A3 hv (i:=n) (by omega)
  rw [kX]
  split <;> omega
noncomputable def arL (m : Msh) (l : List Int) : List Int:=(List.range l.length).map fun (k : Nat)=>arF m l m.f.length k
noncomputable def suV (m : Msh) (l : List Int) : D:=if gvE m l []=0 then .tup [.sl (inR (arL m l)),.int .i64 (arF m l m.f.length (-1)),.int .i64 0] else .tup [.nils,.int .i64 0,.int .i64 (gvE m l [])]
theorem BA (m : Msh) (w : List Int) (f : Nat) : -1 <= enF m w f /\ enF m w f < w.length:=qZ _ _
variable {C : CC} (hC : ay prog C)
include hC
set_option maxHeartbeats 1000000 in
theorem De (hW : SlW C) (dec : Nat -> List UInt8) (hI : ∀ n : Nat,n < 100 -> C 127 [.int .i64 n] (.str (dec n)) []) (m : Msh) (hz : bV m=true -> m.s.length <= 100 /\ m.f.length <= 100) (b : Bool) (l : List Int) (hl : l.length < 2 ^ 40) :
  C 880 [.agg (aW m),slx b (inR l)] (suV m l) []:=by
 have k1:=ki hC hW dec hI m hz b true l [] hl (by simp)
 obtain ⟨R,hR⟩ : ∃ R,R=suV m l:=⟨_,rfl⟩
 rw [<- hR]
 unfold suV at hR
 obtain ⟨E,hE⟩ : ∃ E,E=gvE m l []:=⟨_,rfl⟩
 rw [<- hE] at hR k1
 refine aw hC (nf:=N880) rfl rfl ?_
 simp only [ab] at k1
 simp at k1
 simp [N880,ab]
 refine aa k1 (.inl rfl) ?_
 by_cases e : E=0
 ·rw [if_pos e] at hR
  rw [e] at hE
  obtain ⟨hv,h1,h2,_,h3⟩:=pI hE.symm
  have hsz:=cy hv
  have k2:=my hC dec hI m hz hv b l h1 h2 h3 (-1)
  rw [sW] at k2
  have k3:=CL hC m hv l
  simp only [lW] at k3
  simp only [ab] at k2
  obtain ⟨xf,hxf⟩ : ∃ x,x=D.sl (inR (cQ m)):=⟨_,rfl⟩
  obtain ⟨xs,hxs⟩ : ∃ x,x=D.sl (inR (aV m).sp):=⟨_,rfl⟩
  obtain ⟨xo,hxo⟩ : ∃ x,x=D.sl (inR (aV m).ou):=⟨_,rfl⟩
  obtain ⟨xi,hxi⟩ : ∃ x,x=slx true (inR (lD m l)):=⟨_,rfl⟩
  obtain ⟨x4,hx4⟩ : ∃ x,x=inR (twL m):=⟨_,rfl⟩
  have g4l : x4.length=m.f.length:=by rw [hx4];simp
  have g4 : ∀ {f : Nat},f < m.f.length -> x4[f]? = some [.int .i64 (twF m f)]:=fun h=>by rw [hx4,fE (by simp [h])];simp [twL,h]
  obtain ⟨xe,hxe⟩ : ∃ x,x=inR (enL m l):=⟨_,rfl⟩
  have gel : xe.length=m.f.length:=by rw [hxe];simp [enL]
  have ge : ∀ {f : Nat},f < m.f.length -> xe[f]? = some [.int .i64 (enF m l f)]:=fun h=>by rw [hxe,fE (by simp [enL,h])];simp [enL,h]
  rw [<- hxf,<- hxs,<- hxo,<- hxi,<- hx4] at k2 k3
  rw [<- hxe] at k3
  simp [e]
  refine aa k2 (.inr rfl) ?_
  simp
  refine ⟨by omega,aa k3 (.inr rfl) ?_⟩
  have e0 : List.replicate l.length [D.int .i64 0]=tbR (fun (k : Nat)=>arF m l 0 k) l.length:=by
   rw [iq]
   exact (List.eq_replicate_iff.2 ⟨by simp,fun b hb=>by obtain ⟨j,_,rfl⟩:=x0s.1 hb;rfl⟩).symm
  simp
  refine av Nat (fun i=>[(4,.ref (.r 10064) 0 l.length),(5,.int .i64 (arF m l i (-1))),(8,.ptr [xf,xs,xo,xi,slx true x4]),(30,.sl xe),(31,.int .i64 xe.length),(32,.int .i64 i),(10064,.blk 1 (tbR (fun (k : Nat)=>arF m l i k) l.length))]) (fun i=>i <= m.f.length) (fun i=>m.f.length - i) 0 (by simp) (by simp [e0];rfl) ?_
  intro i hi
  simp
  refine aj (fun h=>?_) (fun h=>?_) <;> simp at h
  ·rw [gel] at h
   have hw : IntKind.wrap .i64 ((i : Int) + 1)=((i + 1 : Nat) : Int):=af (by omega) (by omega)
   obtain ⟨q1,q2⟩:=BA m l i
   have tb:=A3 hv h
   simp [gel,h,aq (ge h)]
   by_cases c : enF m l i=-1
   ·have b1:=qz hv l (-1) hi
    have a1 : arF m l (i + 1) (-1)=arF m l i (-1) + twF m i:=by rw [kX,if_pos c]
    have w1 : IntKind.wrap .i64 (arF m l i (-1) + twF m i)=arF m l (i + 1) (-1):=af a1.symm (by omega)
    have a2 : tbR (fun (k : Nat)=>arF m l (i + 1) k) l.length=tbR (fun (k : Nat)=>arF m l i k) l.length:=by
     simp only [iq]
     refine x0o fun j _=>?_
     rw [kX,if_neg (by omega),Int.add_zero]
    simp [c,g4l,h,aq (g4 h),w1]
    exact ⟨i + 1,by omega,by omega,rfl,by omega,hw,a2.symm⟩
   ·obtain ⟨k,hk⟩ : ∃ k : Nat,enF m l i=k:=⟨(enF m l i).toNat,by omega⟩
    have hk2 : k < l.length:=by omega
    have b1:=qz hv l k hi
    have a1 : arF m l (i + 1) k=arF m l i k + twF m i:=by rw [kX,if_pos hk]
    have w1 : IntKind.wrap .i64 (arF m l i k + twF m i)=arF m l (i + 1) k:=af a1.symm (by omega)
    have a2 : (tbR (fun (k : Nat)=>arF m l i k) l.length).set k [.int .i64 (arF m l (i + 1) k)]=tbR (fun (k : Nat)=>arF m l (i + 1) k) l.length:=by
     refine sP rfl fun j hj=>?_
     rw [kX,if_neg (by omega),Int.add_zero]
    have a3 : arF m l i (-1)=arF m l (i + 1) (-1):=by rw [kX,if_neg (by omega),Int.add_zero]
    have ga : (tbR (fun (k : Nat)=>arF m l i k) l.length)[k]? = some [.int .i64 (arF m l i k)]:=by simp [iq,hk2]
    have ga' : (tbR (fun (k : Nat)=>arF m l i k) l.length)[k]'(by simpa using hk2)=[.int .i64 (arF m l i k)]:=by simp [iq]
    simp [c,hk,hk2,g4l,h,aq (g4 h),a8 ga,aq ga,ga,ga',w1]
    exact ⟨ai (by decide +kernel),i + 1,by omega,by omega,a3,by omega,hw,a2⟩
  ·have ei : i=m.f.length:=by omega
   subst ei
   simp [gel]
   exact hR
 ·rw [if_neg e] at hR
  simp [e,hR]
end Go.Gv

namespace Go.Gv
variable {C : CC} (hC : ay prog C)
include hC
theorem wY (hW : SlW C) (dec : Nat -> List UInt8) (hI : ∀ n : Nat,n < 100 -> C 127 [.int .i64 n] (.str (dec n)) []) (m : Msh) (hz : bV m=true -> m.s.length <= 100 /\ m.f.length <= 100) (b : Bool) (l : List Int) (hl : l.length < 2 ^ 40) :
  C 862 [.agg (aW m),slx b (inR l)] (if gvE m l []=0 then .tup [.sl (inR (arL m l)),.int .i64 0] else .tup [.nils,.int .i64 (gvE m l [])]) []:=by
 have k1:=De hC hW dec hI m hz b l hl
 unfold suV at k1
 obtain ⟨E,hE⟩ : ∃ E,E=gvE m l []:=⟨_,rfl⟩
 rw [<- hE] at k1 ⊢
 refine aw hC (nf:=N862) rfl rfl ?_
 simp only [ab] at k1
 simp [N862,ab]
 by_cases e : E=0
 ·rw [if_pos e] at k1 ⊢
  refine aa k1 (.inr rfl) ?_
  simp
 ·rw [if_neg e] at k1 ⊢
  refine aa k1 (.inr rfl) ?_
  simp
end Go.Gv

namespace Go.Gv
def woF (l : List Int) (d : Int) (j : Nat) : Int:=(woW l d).getD j 0
theorem zu (l : List Int) (d : Int) : tbR (woF l d) l.length=inR (woW l d):=by
 unfold tbR
 refine congrArg inR (x1m (by simp) fun i h1 h2=>?_)
 simp only [x1G,List.length_range] at h1
 simp only [x1u,List.getElem_range,woF]
 simp [h1]
variable {C : CC} (hC : ay prog C)
include hC
set_option maxHeartbeats 1000000 in
theorem sA (m : Msh) (hv : ap m=true) (hm : m.f.length <= 100) (b : Bool) (w : List Int) (hw : w.length < 2 ^ 40) : C 860 [.agg (aW m),slx b (inR w)] (.sl (inR (enL m w))) []:=by
 have k1:=Lt hC m hv hm
 have k2:=fun (f : Nat) (hf : f < m.f.length)=>vQ hC m hv b w hw f hf
 have kF:=fun (f : Nat)=>oR hC b w f hw
 rw [<- eZ] at kF
 have eF : ∀ f : Nat,dS (fun y=>decide (y=(f : Int))) w=inl w f:=fun _=>rfl
 simp only [eF] at kF
 obtain ⟨xf,hxf⟩ : ∃ x,x=inR (cQ m):=⟨_,rfl⟩
 obtain ⟨xs,hxs⟩ : ∃ x,x=inR (aV m).sp:=⟨_,rfl⟩
 obtain ⟨xo,hxo⟩ : ∃ x,x=inR (aV m).ou:=⟨_,rfl⟩
 obtain ⟨xw,hxw⟩ : ∃ x,x=inR w:=⟨_,rfl⟩
 have W:=lI m
 have gSl : xs.length=m.f.length:=by rw [hxs];simp [W.sp]
 rw [<- hxw] at kF k2 ⊢
 simp only [ab] at k1
 simp only [rS,<- hxf,<- hxs,<- hxo] at k1 k2
 refine aw hC (nf:=N860) rfl rfl ?_
 simp [N860,ab]
 refine aa k1 (.inr rfl) ?_
 simp
 refine av Nat (fun i=>[(1,slx b xw),(2,.ptr (aW m)),(5,.adr (.r 10080) 0 0),(6,.ref (.r 10096) 0 i),(7,.int .i64 i),(10080,.blk 3 [[.sl xf,.sl xs,.sl xo]]),(10096,.blk 1 (tbR (enF m w) i))]) (fun i=>i <= m.f.length) (fun i=>m.f.length - i) 0 (by simp) (by simp [ab]) ?_
 intro i hi
 simp [ab]
 refine aj (fun h=>?_) (fun h=>?_) <;> simp at h
 ·have hw : IntKind.wrap .i64 ((i : Int) + 1)=((i + 1 : Nat) : Int):=af (by omega) (by omega)
  have k4:=k2 i h
  have bl:=(ir hv w h).2.2
  have bl2:=o7 hv i
  have e1:=vm m w i
  obtain ⟨X,hX⟩ : ∃ X,X=nR (i::trF m w i):=⟨_,rfl⟩
  have hXl : X.length=(trF m w i).length + 1:=by rw [hX];simp
  rw [<- hX] at k4 e1
  have hw2 : IntKind.wrap .i64 ((trF m w i).length : Int)=((trF m w i).length : Int):=af (by omega) (by omega)
  have he : inl w (laF m w i)=enF m w i:=rfl
  have k5:=kF (laF m w i)
  rw [he] at k5
  simp [h]
  refine aa k4 (.inr rfl) ?_
  simp [hXl,hw2,aq e1]
  refine aa k5 (.inl rfl) ?_
  simp [gr]
  exact ⟨by omega,i + 1,by omega,by omega,by rw [ab],rfl,by omega,rfl⟩
 ·have ei : i=m.f.length:=by omega
  subst ei
  simp
  rfl
set_option maxHeartbeats 1000000 in
theorem ry (b : Bool) (l : List Int) (hl : l.length < 2 ^ 40) (d : Int) : C 861 [slx b (inR l),.int .i64 d] (.sl (inR (woW l d))) []:=by
 refine aw hC (nf:=N861) rfl rfl ?_
 simp [N861]
 refine av Nat (fun i=>[(0,slx b (inR l)),(1,.int .i64 d),(5,.ref (.r 10080) 0 i),(6,.int .i64 i),(10080,.blk 1 (tbR (woF l d) i))]) (fun i=>i <= l.length) (fun i=>l.length - i) 0 (by simp) (by simp) ?_
 intro i hi
 simp
 refine aj (fun h=>?_) (fun h=>?_) <;> simp at h
 ·have hw : IntKind.wrap .i64 ((i : Int) + 1)=((i + 1 : Nat) : Int):=af (by omega) (by omega)
  have e:=gr (woF l d) i
  have e2 : woF l d i=if (i : Int)=d then -1 else l[i]:=by unfold woF;rw [<- pe h];simp [h]
  simp [h]
  by_cases c : (i : Int)=d
  ·rw [if_pos c] at e2
   simp only [e2] at e
   simp [c,e]
   exact ⟨by omega,i + 1,by omega,by omega,rfl,by rw [<- c];exact hw,rfl⟩
  ·rw [if_neg c] at e2
   simp only [e2] at e
   have hg : (inR l)[i]? = some [.int .i64 l[i]]:=by simp [inR,h]
   simp [c,h,aq hg,e]
   exact ⟨by omega,i + 1,by omega,by omega,rfl,hw,rfl⟩
 ·have ei : i=l.length:=by omega
  subst ei
  simp
  exact zu l d
end Go.Gv

namespace Go.Gv
variable {C : CC} (hC : ay prog C)
include hC
end Go.Gv

namespace Go.Gv
def exW : Msh:=⟨false,[⟨0,0,5⟩,⟨30,0,9⟩,⟨30,30,5⟩,⟨0,30,0⟩],false,[⟨0,1,2,0⟩,⟨0,2,3,0⟩]⟩
theorem Ia : ap exW=true:=by decide +kernel
theorem H0 : cS exW 0=1 /\ cS exW 1=-1:=by decide +kernel
theorem uW : twF exW 0=900 /\ twF exW 1=900:=by decide +kernel
theorem gN : inl [1] 0=-1 /\ inl [1] 1=0 /\ inl [1,0] 0=1 /\ inl [1,0] 1=0:=by decide +kernel
theorem oE {m : Msh} {w : List Int} {f : Nat} {l : List Nat} (h : TrR m w f none l) : laF m w f=(f::l).getLast (by simp):=by
 unfold laF
 simp only [wE h]
theorem ov : enF exW [1] 0=0 /\ enF exW [1] 1=0:=by
 have h1 : TrR exW [1] 1 none []:=.inlet (by rw [gN.2.1];decide)
 have h0 : TrR exW [1] 0 none [1]:=.run gN.1 H0.1 h1
 unfold enF
 rw [oE h0,oE h1]
 exact ⟨gN.2.1,gN.2.1⟩
theorem uV : enF exW [1,0] 0=1 /\ enF exW [1,0] 1=0:=by
 have h1 : TrR exW [1,0] 1 none []:=.inlet (by rw [gN.2.2.2];decide)
 have h0 : TrR exW [1,0] 0 none []:=.inlet (by rw [gN.2.2.1];decide)
 unfold enF
 rw [oE h0,oE h1]
 exact ⟨gN.2.2.1,gN.2.2.2⟩
theorem Ak : gvE exW [1] []=0 /\ gvE exW [1,0] []=0:=by
 unfold gvE
 rw [Ia]
 decide +kernel
theorem Aj : enL exW [1]=[0,0] /\ enL exW [1,0]=[1,0]:=by
 constructor
 ·show [enF exW [1] 0,enF exW [1] 1]=_
  rw [ov.1,ov.2]
 ·show [enF exW [1,0] 0,enF exW [1,0] 1]=_
  rw [uV.1,uV.2]
theorem HZ : arL exW [1]=[1800]:=by
 show [arF exW [1] 2 0]=_
 rw [kX,kX,ov.1,ov.2,uW.1,uW.2]
 rfl
theorem tG {m : Msh} {l : List Int} (h : rj m l=false) : l.length <= 600 /\ (bV m=true -> m.s.length <= 100 /\ m.f.length <= 100):=by
 simp [rj,bV] at *
 omega
variable {C : CC} (hC : ay prog C)
include hC
set_option maxHeartbeats 2000000 in
theorem td (hW : SlW C) (dec : Nat -> List UInt8) (hI : ∀ n : Nat,n < 100 -> C 127 [.int .i64 n] (.str (dec n)) []) : C 854 [] (.bool true) []:=by
 have hz : bV exW=true -> exW.s.length <= 100 /\ exW.f.length <= 100:=fun _=>by simp [exW]
 have k1:=Ba hC hW dec hI exW hz false [1] (by simp)
 have k2:=Ba hC hW dec hI exW hz false [1,0] (by simp)
 have k3:=wY hC hW dec hI exW hz false [1] (by simp)
 have q1:=pA hC false false [0,0] [0,0] (by simp) (by simp)
 have q2:=pA hC false false [1,0] [1,0] (by simp) (by simp)
 have q3:=pA hC false false [1800] [1800] (by simp) (by simp)
 unfold ofV at k1 k2
 rw [Ak.1] at k1 k3
 rw [Ak.2] at k2
 rw [Aj.1] at k1
 rw [Aj.2] at k2
 rw [HZ] at k3
 simp only [ab] at k1 k2 k3
 simp [exW,eZ,eN,br] at k1 k2 k3 q1 q2 q3
 refine aw hC (nf:=N854) rfl rfl ?_
 simp (maxSteps:=2000000) [N854]
 refine aa k1 (.inr rfl) ?_
 simp
 refine aa k2 (.inr rfl) ?_
 simp
 refine aa k3 (.inr rfl) ?_
 simp
 refine aa q1 (.inl rfl) ?_
 simp
 refine aa q2 (.inl rfl) ?_
 simp
 refine aa q3 (.inl rfl) ?_
 simp
end Go.Gv

namespace Go.Gv
theorem pd {m : Msh} (hv : ap m=true) : bV m=true:=by
 unfold ap at hv
 simp only [x0a] at hv
 exact hv.1
theorem BL {m : Msh} {l ks : List Int} (hv : ap m=true) (h1 : l.length <= 300) (h2 : ∀ x ∈ l,inM m x=true) (h3 : ∀ k ∈ ks,dT l.length k=true) (h4 : l.Nodup) : gvE m l ks=0:=by
 unfold gvE
 rw [if_neg (by simp [hv]),if_neg (by omega),if_neg (by simpa using h2),if_neg (by simpa using h3),if_pos h4]
variable {C : CC} (hC : ay prog C)
include hC
set_option maxHeartbeats 4000000 in
theorem jj (hW : SlW C) (dec : Nat -> List UInt8) (hI : ∀ n : Nat,n < 100 -> C 127 [.int .i64 n] (.str (dec n)) []) (m : Msh) (b : Bool) (l : List Int) (d : Int) : C 849 [.agg (aW m),slx b (inR l),.int .i64 d] (.bool true) []:=by
 have ka:=td hC hW dec hI
 have kl:=tC hC m b l
 rw [<- eZ] at kl
 simp only [ab] at kl
 refine aw hC (nf:=N849) rfl rfl ?_
 simp [N849,ab]
 refine aa ka (.inl rfl) ?_
 simp
 refine aa kl (.inl rfl) ?_
 cases hL : rj m l
 ·obtain ⟨h1,hz⟩:=tG hL
  have k1:=Ba hC hW dec hI m hz b l (by omega)
  have k2:=xa hC hW dec hI m hz b l (by omega) d
  have k3:=mP hC m hz b l (by omega) 0 false
  have k4:=mP hC m hz b l (by omega) d true
  unfold ofV at k1 k2
  simp only [ab] at k1 k2 k3 k4
  simp at k3 k4 ⊢
  obtain ⟨E1,hE1⟩ : ∃ E,E=gvE m l []:=⟨_,rfl⟩
  obtain ⟨E2,hE2⟩ : ∃ E,E=gvE m l [d]:=⟨_,rfl⟩
  rw [<- hE1] at k1 k3
  rw [<- hE2] at k2 k4
  by_cases c1 : E1=0
  ·obtain ⟨hv,h2,h3,_,h4⟩:=pI (hE1.symm.trans c1)
   have hm : m.f.length <= 100:=(hz (pd hv)).2
   have r1:=sA hC m hv hm b l (by omega)
   have q1:=pA hC false false (enL m l) (enL m l) (by simp [enL];omega) (by simp [enL];omega)
   rw [<- eZ] at q1
   simp only [ab] at r1
   simp at q1
   obtain ⟨xe,hxe⟩ : ∃ x,x=inR (enL m l):=⟨_,rfl⟩
   rw [<- hxe] at k1 r1 q1
   rw [if_pos c1] at k1
   refine aa k1 (.inr rfl) ?_
   simp
   by_cases c2 : E2=0
   ·have r2:=ry hC b l (by omega) d
    have r3:=sA hC m hv hm false (woW l d) (by simp;omega)
    have q2:=pA hC false false (enL m (woW l d)) (enL m (woW l d)) (by simp [enL];omega) (by simp [enL];omega)
    rw [<- eZ] at q2
    simp only [ab] at r3
    simp at q2 r3
    obtain ⟨xw,hxw⟩ : ∃ x,x=inR (enL m (woW l d)):=⟨_,rfl⟩
    rw [<- hxw] at k2 r3 q2
    rw [if_pos c2] at k2
    refine aa k2 (.inr rfl) ?_
    simp
    refine aa k3 (.inl rfl) ?_
    simp [c1]
    refine aa r1 (.inr rfl) ?_
    simp
    refine aa q1 (.inl rfl) ?_
    simp
    refine aa k4 (.inl rfl) ?_
    simp [c2]
    refine aa r2 (.inr rfl) ?_
    simp
    refine aa r3 (.inr rfl) ?_
    simp
    refine aa q2 (.inl rfl) ?_
    simp
    exact ai (by decide +kernel)
   ·rw [if_neg c2] at k2
    refine aa k2 (.inr rfl) ?_
    simp
    refine aa k3 (.inl rfl) ?_
    simp [c1]
    refine aa r1 (.inr rfl) ?_
    simp
    refine aa q1 (.inl rfl) ?_
    simp
    refine aa k4 (.inl rfl) ?_
    simp [c2]
  ·rw [if_neg c1] at k1
   refine aa k1 (.inr rfl) ?_
   simp
   have c2 : E2 ≠ 0:=fun h=>by
    obtain ⟨h1,h2,h3,_,h4⟩:=pI (hE2.symm.trans h)
    exact c1 (hE1.trans (BL h1 h2 h3 (by simp) h4))
   rw [if_neg c2] at k2
   refine aa k2 (.inr rfl) ?_
   simp
   refine aa k3 (.inl rfl) ?_
   simp [c1]
   refine aa k4 (.inl rfl) ?_
   simp [c2]
 ·simp
end Go.Gv
