/-
  Texts of the proof: PF2, V1, V2, V3, V4, PF3, PF4, PF5, PT3, PT5, I3, I1, I2, I4, H13, H14, H15, I5, I6, L10, L11, J29, L12, L15, L16, L19, RF1, SF1, SF2, PT6, PL1, M3, M4, P3, Z1, Z2, Z3, Z4, Z5, Z6, PV1, RF2, LF1, SL1, PV2, PM1, PL2, HT1, HT3, SH1, RP4, WP1, WG0, SM0, WG1, WG2, WG3, WM1, WT1, WT2, WT3, WR1, WT4, WT5, WR2, WR3, WL1, WL2.
-/
import Derived.Test.YtibmdjdddnkomaaGreatDoorX7
import Derived.Test.YtibmdjdddnkomaaGreatDoorX4
import Derived.Lib.SlicesCompact
set_option linter.all false
namespace Go.Gv
theorem om (m : Msh) : ∀ i,(rf0 m i).1=(fl0 m i).2
 | 0=>rfl
 | i + 1=>by
  unfold rf0 fl0
  split
  ·simp only [om m i]
  ·exact om m i
theorem fb (m : Msh) : ∀ i,(rf0 m i).1.length=m.f.length /\ (rf0 m i).2.length=m.f.length
 | 0=>by simp [rf0]
 | i + 1=>by
  obtain ⟨h1,h2⟩:=fb m i
  unfold rf0
  split
  ·simp [h1,h2]
  ·exact ⟨h1,h2⟩
theorem iV (m : Msh) : ∀ i,gw (bN m) (fl0 m i).1 (fl0 m i).1.length
 | 0=>by intro i h0 hi;simp [fl0] at hi
 | i + 1=>by
  unfold fl0
  split
  ·exact (jX (iV m i)).1
  ·exact iV m i
theorem qX (m : Msh) : ∀ i,i <= m.f.length -> ∀ a,(fl0 m i).1.count a=if (fl0 m i).2.getD a false=true then 1 else 0
 | 0,_,a=>by
  rw [m7 m 0 a (by omega)]
  simp [fl0]
 | i + 1,h,a=>by
  have ih:=qX m i (by omega) a
  have hl:=(iW m i).1
  unfold fl0
  split
  ·simp only [(jX (iV m i)).2.1,ih]
   rw [bf (by omega)]
   by_cases e : a=i
   ·subst e
    rw [m7 m a a (x0l _)]
    simp
   ·simp only [if_neg e]
    simp
  ·exact ih
theorem ol (m : Msh) : ∀ i,i <= m.f.length -> ∀ a,(rf0 m i).1.getD a false=true -> (rf0 m i).2.getD a 0=(bN m).getD a 0
 | 0,_,a,h=>by
  have:=m7 m 0 a (by omega)
  simp only [fl0] at this
  simp only [rf0] at h
  rw [this] at h;cases h
 | i + 1,hi,a,h=>by
  obtain ⟨h1,h2⟩:=fb m i
  unfold rf0 at h ⊢
  split at h
  ·rename_i hb
   simp only [hb,if_true] at h ⊢
   rw [bf (by omega)] at h ⊢
   by_cases e : a=i
   ·rw [if_pos e,e]
   ·rw [if_neg e] at h ⊢
    exact ol m i (by omega) a h
  ·rename_i hb
   simp only [hb] at h ⊢
   exact ol m i (by omega) a h
theorem fM.init (m : Msh) : fM m (dB m) (d8 m):=by
 have hf : ∀ a,(List.replicate m.f.length false).getD a false=false:=fun a=>by
  simp [x0R]
  split <;> rfl
 refine ⟨(om m _).symm,rfl,iV m _,fun a=>?_,fun a ha=>?_,fun a _=>rfl,fun a ha=>?_,?_⟩
 ·have:=qX m m.f.length (x0l _) a
  simp only [dB,act,d8,hf,om]
  simpa using this
 ·exact (ol m _ (x0l _) a ha).symm
 ·simp only [d8] at ha
  rw [hf] at ha;cases ha
 ·simp [d8,(fb m _).2]
def rfN (m : Msh) : Nat -> RF -> RF
 | 0,r=>r
 | k + 1,r=>rfN m k (de m r)
def cH (m : Msh) : RF:=rfN m (3 * m.f.length) (d8 m)
theorem fM.run {m : Msh} : ∀ (k : Nat) {s : Fl} {r : RF},fM m s r -> FlW m s -> fM m (flN m k s) (rfN m k r)
 | 0,_,_,h,_=>h
 | k + 1,_,_,h,W=>fM.run k (h.step W).1 (fz W).1
theorem oT {m : Msh} : ∀ (k : Nat) {s : Fl},FlW m s -> flM (flN m k s) + k <= flM s \/ (flN m k s).q.length=0
 | 0,s,_=>.inl (x0l _)
 | k + 1,s,W=>by
  simp only [flN]
  by_cases h0 : s.q.length=0
  ·right
   have : dL m s=s:=by unfold dL;rw [if_pos h0]
   rw [this,ly m h0];exact h0
  ·obtain ⟨W1,h1⟩:=fz W
   have h2:=h1 (by omega)
   rcases oT k W1 with h3 | h3
   ·left;omega
   ·exact .inr h3
theorem p6 (m : Msh) : (a6 m).q.length=0:=by
 obtain ⟨W,h⟩:=iX m
 rcases oT (3 * m.f.length) W with h1 | h1
 ·have h2 : flM (a6 m) + 3 * m.f.length <= flM (dB m):=h1
  have h3 : (a6 m).q.length <= flM (a6 m):=by unfold flM;omega
  omega
 ·exact h1
theorem m8 (m : Msh) : fM m (a6 m) (cH m):=(fM.init m).run _ (iX m).1
theorem rb (m : Msh) : FlW m (a6 m):=yE _ (iX m).1
theorem kK (m : Msh) (a : Nat) (h : (cH m).rc.getD a false=true) : (cH m).lf.getD a false=true:=by
 have h1:=(m8 m).cnt a
 have h2 : (a6 m).q=[]:=x0v (p6 m)
 rw [h2] at h1
 simp only [List.count_nil,act,h,x1H] at h1
 cases e : (cH m).lf.getD a false
 ·rw [e] at h1;simp at h1
 ·rfl
theorem tW (m : Msh) (hall : ∀ a,a < m.f.length -> (cH m).rc.getD a false=true) : (a6 m).sp=(cH m).lv /\ (a6 m).ou=(cH m).ou:=by
 have h:=m8 m
 have W:=rb m
 refine ⟨x1B (by rw [W.sp,h.len.2]) fun i h1 h2=>?_,h.ou⟩
 have:=h.lv i (hall i (by rw [<- W.sp];exact h1))
 simpa [h1,h2] using this
end Go.Gv

namespace Go.Gv
open Go.Lib
variable {C : CC} (hC : aq prog C)
include hC
end Go.Gv

namespace Go.Gv
variable {C : CC} (hC : aq prog C)
include hC
end Go.Gv

namespace Go.Gv
variable {C : CC} (hC : aq prog C)
include hC
end Go.Gv

namespace Go.Gv
theorem wA {α : Type} {p : α -> Bool} {xs : List α} {i : Nat} (h : d3 p xs=(i : Int)) : ∃ h : i < xs.length,p xs[i]=true:=by
 unfold d3 at h
 cases e : xs.findIdx? p with
 | none=>rw [e] at h;simp at h
 | some k =>
  rw [e] at h
  have h : k=i:=by have h : (k : Int)=(i : Int):=h;omega
  subst h
  rw [x1w] at e
  exact ⟨e.1,e.2.1⟩
theorem rj {m : Msh} {i k : Nat} (h : 0 <= nbF m i k) : ∃ c,c < 3 /\ crn (fce m (nbF m i k).toNat) c=crn (fce m i) (k + 1) /\ crn (fce m (nbF m i k).toNat) (c + 1)=crn (fce m i) k:=by
 have e : nbF m i k=((nbF m i k).toNat : Int):=by omega
 have h2 : d3 (fun f=>cm f (crn (fce m i) (k + 1)) (crn (fce m i) k)) m.f=((nbF m i k).toNat : Int):=e
 obtain ⟨h3,h4⟩:=wA h2
 rw [mY] at h4
 simp only [cm,x0y,x0G,x0a,x0g] at h4
 exact h4
end Go.Gv

namespace Go.Gv
theorem iH {m : Msh} (hv : ap m=true) {i k : Nat} (hi : i < m.f.length) (hk : k < 3) (h : 0 <= nbF m i k) : ∃ c,c < 3 /\ nbF m (nbF m i k).toNat c=i:=by
 obtain ⟨c,hc,c1,c2⟩:=rj h
 refine ⟨c,hc,?_⟩
 unfold nbF at c1 c2 ⊢
 rw [c1,c2]
 have hs : cm (fce m i) (crn (fce m i) k) (crn (fce m i) (k + 1))=true:=by
  simp only [cm,x0y,x0G,x0a,x0g]
  exact ⟨k,hk,rfl,rfl⟩
 refine eD (fun j hj hji=>?_) hi (by rw [mY];exact hs)
 rw [mY]
 cases e : cm (fce m j) (crn (fce m i) k) (crn (fce m i) (k + 1))
 ·rfl
 ·have:=jI hv hj hi e hs
  omega
def crs (a b : Pnt) : Int:=a.1 * b.2 - a.2 * b.1
theorem vW (a b : Pnt) : crs b a=-crs a b:=by
 unfold crs
 rw [Int.mul_comm b.1,Int.mul_comm b.2]
 omega
theorem vn (a b c : Pnt) : cG a b c=crs a b + crs b c + crs c a:=by
 obtain ⟨a1,a2⟩:=a
 obtain ⟨b1,b2⟩:=b
 obtain ⟨c1,c2⟩:=c
 simp only [cG,crs,Int.sub_mul,Int.mul_sub]
 have e1:=Int.mul_comm a1 a2
 have e2:=Int.mul_comm b2 a1
 have e5:=Int.mul_comm a2 b1
 have e3:=Int.mul_comm c1 a2
 have e4:=Int.mul_comm c2 a1
 omega
def gE (m : Msh) (e : Int × Int) : Int:=crs (ptS (spt m e.1.toNat)) (ptS (spt m e.2.toNat))
theorem sK {l l' : List Int} (h : l.Perm l') : l.sum=l'.sum:=by
 induction h with
 | nil=>rfl
 | cons x _ ih=>simp [ih]
 | swap x y l=>simp;omega
 | trans _ _ ih1 ih2=>exact ih1.trans ih2
theorem tt (m : Msh) : ∀ (n : Nat) (E : List (Int × Int)),E.length <= n -> E.Nodup -> (∀ e ∈ E,e.1 ≠ e.2) -> (∀ e ∈ E,(e.2,e.1) ∈ E) -> (E.map (gE m)).sum=0
 | _,[],_,_,_,_=>rfl
 | 0,e::T,h,_,_,_=>by simp at h
 | n + 1,e::T,h,hn,hd,hs=>by
  have hne : (e.2,e.1) ≠ e:=fun he=>hd e (by simp) (by rw [<- he];simp at he ⊢;have:=congrArg Prod.fst he;have:=congrArg Prod.snd he;simp_all)
  have hmem : (e.2,e.1) ∈ T:=by
   rcases x0I.1 (hs e (by simp)) with h1 | h1
   ·exact absurd h1 hne
   ·exact h1
  rw [x1F] at hn
  have hp:=List.perm_cons_erase hmem
  have h1:=sK (hp.map (gE m))
  have hel : (T.erase (e.2,e.1)).length + 1=T.length:=by
   have:=hp.length_eq
   simpa using this.symm
  have h2:=tt m n (T.erase (e.2,e.1)) (by simp at h;omega) (hn.2.erase _) (fun x hx=>hd x (List.mem_cons_of_mem _ (List.mem_of_mem_erase hx))) (fun x hx=>by
   rw [hn.2.mem_erase_iff] at hx ⊢
   have h3:=hs x (List.mem_cons_of_mem _ hx.2)
   refine ⟨fun h4=>?_,?_⟩
   ·have : x=e:=by
     have a1:=congrArg Prod.fst h4
     have a2:=congrArg Prod.snd h4
     simp at a1 a2
     exact Prod.ext a2 a1
    exact hn.1 (this ▸ hx.2)
   ·rcases x0I.1 h3 with h4 | h4
    ·exfalso
     refine hx.1 ?_
     rw [<- h4]
    ·exact h4)
  have h3 : gE m (e.2,e.1)=-gE m e:=vW _ _
  simp only [x0D,List.sum_cons] at h1 ⊢
  omega
def sdE (m : Msh) (i : Nat) : List (Int × Int):=[(crn (fce m i) 0,crn (fce m i) 1),(crn (fce m i) 1,crn (fce m i) 2),(crn (fce m i) 2,crn (fce m i) 3)]
theorem la {m : Msh} {i : Nat} {e : Int × Int} : e ∈ sdE m i ↔ cm (fce m i) e.1 e.2=true:=by
 simp only [sdE,x0I,x07,or_false,cm,x0y,x0G,x0a,x0g]
 constructor
 ·rintro (rfl | rfl | rfl)
  ·exact ⟨0,by omega,rfl,rfl⟩
  ·exact ⟨1,by omega,rfl,rfl⟩
  ·exact ⟨2,by omega,rfl,rfl⟩
 ·rintro ⟨c,hc,c1,c2⟩
  rcases (by omega : c=0 \/ c=1 \/ c=2) with rfl | rfl | rfl
  ·exact .inl (Prod.ext c1.symm c2.symm)
  ·exact .inr (.inl (Prod.ext c1.symm c2.symm))
  ·exact .inr (.inr (Prod.ext c1.symm c2.symm))
theorem oV {α β : Type} (F : α -> List β) (g : β -> Int) : ∀ l : List α,((l.flatMap F).map g).sum=(l.map fun x=>((F x).map g).sum).sum
 | []=>rfl
 | x::l=>by simp [oV F g l]
theorem rG {α : Type} (g : α -> Int) : ∀ l : List α,(∀ x ∈ l,0 < g x) -> l ≠ [] -> 0 < (l.map g).sum
 | [],_,h=>absurd rfl h
 | [x],h,_=>by have:=h x (by simp);simpa using this
 | x::y::l,h,_=>by
  have h1:=h x (by simp)
  have h2:=rG g (y::l) (fun z hz=>h z (by simp [hz])) (by simp)
  simp only [x0D,List.sum_cons] at h2 ⊢
  omega
theorem sF {m : Msh} (hv : ap m=true) (u : Nat -> Bool) (hcl : ∀ i k,i < m.f.length -> k < 3 -> u i=true -> 0 <= nbF m i k /\ u (nbF m i k).toNat=true) : ∀ i,i < m.f.length -> u i=false:=by
 intro i hi
 cases hu : u i
 ·rfl
 exfalso
 obtain ⟨U,hU⟩ : ∃ U,U=(List.range m.f.length).filter u:=⟨_,rfl⟩
 have hmU : ∀ x,x ∈ U ↔ x < m.f.length /\ u x=true:=fun x=>by rw [hU,List.mem_filter,x0G]
 have hnU : U.Pairwise (· ≠ ·):=by rw [hU];exact List.Pairwise.filter _ List.nodup_range
 have hcor : ∀ x,x < m.f.length -> (fce m x).a ≠ (fce m x).b /\ (fce m x).b ≠ (fce m x).c /\ (fce m x).c ≠ (fce m x).a:=fun x hx=>by
  have:=(io hv hx).1
  simp only [okF,okc,x0a,x0g] at this
  exact ⟨this.1.1.1.1.1.2,this.1.1.1.2.1.2,this.1.1.2.1.2⟩
 have hE:=tt m _ (U.flatMap (sdE m)) (x0l _) (by
  rw [List.Nodup,List.pairwise_flatMap]
  refine ⟨fun x hx=>?_,hnU.imp_of_mem fun {x y} hx hy hxy e he e' he' h=>?_⟩
  ·obtain ⟨k1,k2,k3⟩:=hcor x ((hmU x).1 hx).1
   simp only [sdE,crn,List.pairwise_cons,x0I,x07,or_false,forall_eq_or_imp,forall_eq,List.Pairwise.nil,and_true,ne_eq,Prod.mk.injEq,not_and,false_imp_iff,implies_true]
   exact ⟨⟨fun h=>absurd h k1,fun h=>absurd h.symm k3⟩,fun h=>absurd h k2⟩
  ·subst h
   exact hxy (jI hv ((hmU x).1 hx).1 ((hmU y).1 hy).1 (la.1 he) (la.1 he'))) (fun e he=>by
  obtain ⟨x,hx,hex⟩:=x1l.1 he
  obtain ⟨k1,k2,k3⟩:=hcor x ((hmU x).1 hx).1
  simp only [sdE,crn,x0I,x07,or_false] at hex
  rcases hex with rfl | rfl | rfl
  ·exact k1
  ·exact k2
  ·exact k3) (fun e he=>by
  obtain ⟨x,hx,hex⟩:=x1l.1 he
  have hxl:=(hmU x).1 hx
  have hh:=la.1 hex
  simp only [cm,x0y,x0G,x0a,x0g] at hh
  obtain ⟨k,hk,k1,k2⟩:=hh
  obtain ⟨h1,h2⟩:=hcl x k hxl.1 hk hxl.2
  obtain ⟨c,hc,c1,c2⟩:=rj h1
  have hb:=dc m x k
  refine x1l.2 ⟨(nbF m x k).toNat,(hmU _).2 ⟨by omega,h2⟩,la.2 ?_⟩
  simp only [cm,x0y,x0G,x0a,x0g]
  exact ⟨c,hc,by rw [c1,k2],by rw [c2,k1]⟩)
 rw [oV] at hE
 have hpos:=rG (fun x=>((sdE m x).map (gE m)).sum) U (fun x hx=>by
  have:=(io hv ((hmU x).1 hx).1).2
  have e : ix (aP m (fce m x))=((sdE m x).map (gE m)).sum:=by
   unfold ix
   rw [vn]
   simp only [sdE,x0D,x0U,List.sum_cons,List.sum_nil,gE,aP,crn]
   omega
  rw [<- e];exact this) (by
  intro h
  have:=(hmU i).2 ⟨hi,hu⟩
  rw [h] at this;cases this)
 omega
end Go.Gv

namespace Go.Gv
theorem uL {m : Msh} {i : Nat} {r : RF} {k : Int} : (d9 m i r k).rc.length=r.rc.length /\ (d9 m i r k).lf=r.lf:=by
 unfold d9
 split
 ·simp
 ·exact ⟨rfl,rfl⟩
theorem ji {m : Msh} {i : Nat} {r : RF} : ∀ j,(rfI m i r j).rc.length=r.rc.length /\ (rfI m i r j).lf=r.lf
 | 0=>⟨rfl,rfl⟩
 | j + 1=>by
  obtain ⟨h1,h2⟩:=ji (m:=m) (i:=i) (r:=r) j
  obtain ⟨h3,h4⟩:=uL (m:=m) (i:=i) (r:=rfI m i r j) (k:=nbF m i j)
  exact ⟨h3.trans h1,h4.trans h2⟩
theorem me {m : Msh} {i a : Nat} {r : RF} (h : r.rc.getD a false=true) : ∀ j,(rfI m i r j).rc.getD a false=true
 | 0=>h
 | j + 1=>oo (me h j)
theorem nz {m : Msh} {i : Nat} {r : RF} (hl : r.rc.length=m.f.length) : ∀ j c,c < j -> 0 <= nbF m i c -> (rfI m i r j).rc.getD (nbF m i c).toNat false=true
 | 0,c,h,_=>by omega
 | j + 1,c,h,h0=>by
  by_cases e : c=j
  ·subst e
   show (d9 m i (rfI m i r c) (nbF m i c)).rc.getD _ false=true
   have hb:=dc m i c
   unfold d9
   cases e2 : (rfI m i r c).rc.getD (nbF m i c).toNat false
   ·rw [if_pos ⟨h0,rfl⟩]
    rw [bf (by rw [(ji c).1];omega),if_pos rfl]
   ·rw [if_neg (by simp)]
    exact e2
  ·exact oo (nz hl j c (by omega) h0)
structure RCl (m : Msh) (r : RF) : Prop where
 len : r.rc.length=m.f.length
 cl : ∀ a,r.lf.getD a false=true -> ∀ c,c < 3 -> 0 <= nbF m a c -> r.rc.getD (nbF m a c).toNat false=true
 bd : ∀ a,a < m.f.length -> bsd m a (-1)=true -> r.rc.getD a false=true
theorem lE {l : List Bool} {i j : Nat} (h : (l.set i true).getD j false=true) : j=i \/ l.getD j false=true:=by
 by_cases e : i < l.length
 ·rw [bf e] at h
  split at h
  ·exact .inl (by assumption)
  ·exact .inr h
 ·rw [List.set_eq_of_length_le (by omega)] at h
  exact .inr h
theorem RCl.step {m : Msh} {r : RF} (h : RCl m r) : RCl m (de m r):=by
 unfold de
 split
 ·exact h
 ·obtain ⟨h1,h2⟩:=ji (m:=m) (i:=(rat r m.f.length).toNat) (r:={ r with lf:=r.lf.set (rat r m.f.length).toNat true }) 3
  refine ⟨h1.trans h.len,fun a ha c hc h0=>?_,fun a ha hb=>me (r:={ r with lf:=r.lf.set (rat r m.f.length).toNat true }) (h.bd a ha hb) 3⟩
  rw [h2] at ha
  rcases lE ha with rfl | ha
  ·exact nz (r:={ r with lf:=r.lf.set (rat r m.f.length).toNat true }) h.len 3 c hc h0
  ·exact me (r:={ r with lf:=r.lf.set (rat r m.f.length).toNat true }) (h.cl a ha c hc h0) 3
theorem RCl.run {m : Msh} : ∀ (k : Nat) {r : RF},RCl m r -> RCl m (rfN m k r)
 | 0,_,h=>h
 | k + 1,_,h=>RCl.run k h.step
theorem qC (m : Msh) : ∀ i,i <= m.f.length -> ∀ a,a < i -> bsd m a (-1)=true -> (rf0 m i).1.getD a false=true
 | 0,_,a,h,_=>by omega
 | i + 1,hi,a,h,hb=>by
  have hl:=(fb m i).1
  unfold rf0
  by_cases e : a=i
  ·subst e
   rw [if_pos hb]
   simp only
   rw [bf (by omega),if_pos rfl]
  ·have ih:=qC m i (by omega) a (by omega) hb
   split
   ·simp only
    rw [bf (by omega),if_neg e]
    exact ih
   ·exact ih
theorem RCl.init (m : Msh) : RCl m (d8 m):=by
 refine ⟨(fb m _).1,fun a ha=>?_,fun a ha hb=>qC m _ (x0l _) a ha hb⟩
 have hf : (List.replicate m.f.length false).getD a false=false:=by
  simp [x0R]
  split <;> rfl
 simp only [d8] at ha
 rw [hf] at ha;cases ha
theorem dS {m : Msh} (hv : ap m=true) : ∀ a,a < m.f.length -> (cH m).rc.getD a false=true:=by
 have hc : RCl m (cH m):=(RCl.init m).run _
 intro a ha
 have:=sF hv (fun i=>!(cH m).rc.getD i false) (fun i k hi hk hu=>?_) a ha
 ·simpa using this
 ·simp only [x0s] at hu ⊢
  have hb:=dc m i k
  have h0 : 0 <= nbF m i k:=by
   by_cases e : nbF m i k=-1
   ·exfalso
    have h1 : bsd m i (-1)=true:=by
     rcases (by omega : k=0 \/ k=1 \/ k=2) with rfl | rfl | rfl <;> simp [bsd,e]
    rw [hc.bd i hi h1] at hu;cases hu
   ·omega
  refine ⟨h0,?_⟩
  cases e : (cH m).rc.getD (nbF m i k).toNat false
  ·rfl
  ·exfalso
   have h1:=kK m _ e
   obtain ⟨c,hc1,hc2⟩:=iH hv hi hk h0
   have h2:=hc.cl _ h1 c hc1 (by omega)
   rw [hc2] at h2
   simp only [x1t] at h2
   rw [h2] at hu;cases hu
theorem gX {m : Msh} (hv : ap m=true) : (a6 m).sp=(cH m).lv /\ (a6 m).ou=(cH m).ou:=tW m (dS hv)
end Go.Gv

namespace Go.Gv
def lj (n : Nat) (ou : List Int) (rc : List Bool) : Nat -> Nat -> Prop
 | 0,a=>ou.getD a 0=-1
 | d + 1,a=>∃ b : Nat,b < n /\ ou.getD a 0=b /\ rc.getD b false=true /\ lj n ou rc d b
structure OuI (m : Msh) (r : RF) : Prop where
 rc : r.rc.length=m.f.length
 ou : r.ou.length=m.f.length
 e : ∀ a,a < m.f.length -> r.rc.getD a false=true -> ∃ d,d <= r.rc.count true /\ lj m.f.length r.ou r.rc d a
theorem lj.mono {n : Nat} {ou ou' : List Int} {rc rc' : List Bool} (h1 : ∀ a,rc.getD a false=true -> rc'.getD a false=true /\ ou'.getD a 0=ou.getD a 0) : ∀ {d a : Nat},rc.getD a false=true -> lj n ou rc d a -> lj n ou' rc' d a
 | 0,a,ha,h=>by
  show ou'.getD a 0=-1
  rw [(h1 a ha).2];exact h
 | d + 1,a,ha,⟨b,hb,e1,e2,e3⟩=>⟨b,hb,by rw [(h1 a ha).2];exact e1,(h1 b e2).1,lj.mono h1 e2 e3⟩
theorem oN {l : List Bool} {i : Nat} (h : i < l.length) (hf : l.getD i false=false) : (l.set i true).count true=l.count true + 1:=by
 have h1 : l[i]=false:=by simpa [h] using hf
 rw [List.count_set h,h1]
 simp
theorem OuI.p1 {m : Msh} {i : Nat} {r : RF} {k : Int} (h : OuI m r) (hi : i < m.f.length) (hr : r.rc.getD i false=true) (hk : k < m.f.length) : OuI m (d9 m i r k):=by
 unfold d9
 split
 ·rename_i hc
  have hkl : k.toNat < m.f.length:=by omega
  have hrc:=fun j=>bf (l:=r.rc) (i:=k.toNat) (j:=j) (x:=true) (d:=false) (by rw [h.rc];omega)
  have hou:=fun j (x : Int)=>bf (l:=r.ou) (i:=k.toNat) (j:=j) (x:=x) (d:=(0 : Int)) (by rw [h.ou];omega)
  have hm : ∀ a,r.rc.getD a false=true -> (r.rc.set k.toNat true).getD a false=true /\ (r.ou.set k.toNat (i : Int)).getD a 0=r.ou.getD a 0:=fun a ha=>by
   have hne : a ≠ k.toNat:=fun e=>by rw [e,hc.2] at ha;cases ha
   rw [hrc,hou,if_neg hne,if_neg hne]
   exact ⟨ha,rfl⟩
  have hct:=oN (l:=r.rc) (i:=k.toNat) (by rw [h.rc];omega) hc.2
  refine ⟨by simp [h.rc],by simp [h.ou],fun a ha har=>?_⟩
  simp only at har ⊢
  rw [hct]
  by_cases e : a=k.toNat
  ·obtain ⟨d,hd,he⟩:=h.e i hi hr
   refine ⟨d + 1,by omega,i,hi,?_,(hm i hr).1,lj.mono hm hr he⟩
   rw [hou,if_pos e]
  ·rw [hrc,if_neg e] at har
   obtain ⟨d,hd,he⟩:=h.e a ha har
   exact ⟨d,by omega,lj.mono hm har he⟩
 ·exact h
theorem OuI.i {m : Msh} {i : Nat} {r : RF} (h : OuI m r) (hi : i < m.f.length) (hr : r.rc.getD i false=true) : ∀ j,OuI m (rfI m i r j)
 | 0=>h
 | j + 1=>(OuI.i h hi hr j).p1 hi (me hr j) (dc m i j).2
theorem OuI.step {m : Msh} {r : RF} (h : OuI m r) : OuI m (de m r):=by
 unfold de
 split
 ·exact h
 ·rename_i h0
  rcases fE r m.f.length with ⟨h1,_⟩ | ⟨a,h1,h2,h3,_⟩
  ·omega
  ·rw [h1]
   simp only [act,x0a] at h3
   exact OuI.i (r:={ r with lf:=r.lf.set a true }) ⟨h.rc,h.ou,h.e⟩ h2 h3.1 3
theorem OuI.run {m : Msh} : ∀ (k : Nat) {r : RF},OuI m r -> OuI m (rfN m k r)
 | 0,_,h=>h
 | k + 1,_,h=>OuI.run k h.step
theorem OuI.init (m : Msh) : OuI m (d8 m):=by
 refine ⟨(fb m _).1,by simp [d8],fun a ha _=>⟨0,by omega,?_⟩⟩
 show (List.replicate m.f.length (-1 : Int)).getD a 0=-1
 simp [x0R,ha]
theorem fQ {m : Msh} (hv : ap m=true) {a : Nat} (ha : a < m.f.length) : ∃ d,d <= m.f.length /\ lj m.f.length (a6 m).ou (cH m).rc d a:=by
 have h : OuI m (cH m):=(OuI.init m).run _
 obtain ⟨d,hd,he⟩:=h.e a ha (dS hv a ha)
 refine ⟨d,?_,by rw [(gX hv).2];exact he⟩
 have:=List.count_le_length (a:=true) (l:=(cH m).rc)
 have:=h.rc
 omega
end Go.Gv

namespace Go.Gv
def xV (m : Msh) (i : Nat) : Bool:=decide ((bN m).getD i 0 < (a6 m).sp.getD i 0)
def PS (m : Msh) (i k : Nat) : Prop:=i < m.f.length /\ k < m.f.length /\ xV m i=true /\ xV m k=true /\ (a6 m).sp.getD i 0=(a6 m).sp.getD k 0 /\ ∃ j,j < 3 /\ nbF m i j=k
theorem Cn.wet {m : Msh} {a b : Nat} (h : Cn (PS m) a b) : xV m a=xV m b /\ (a6 m).sp.getD a 0=(a6 m).sp.getD b 0:=by
 induction h with
 | refl=>exact ⟨rfl,rfl⟩
 | step _ r ih =>
  obtain ⟨_,_,h3,h4,h5,_⟩:=r
  exact ⟨ih.1.trans (h3.trans h4.symm),ih.2.trans h5⟩
end Go.Gv

namespace Go.Gv
def J7 (l : List (List Nat)) : List (List D):=l.map fun p=>[.sl (nfR p)]
section
variable {C : Nat -> List D -> D -> List D -> Prop} (hC : aq prog C)
include hC
end
end Go.Gv

namespace Go.Gv
def nbT (m : Msh) (i : Nat) : List (List D):=(List.range i).map fun j=>[.int .i64 (nbF m j 0),.int .i64 (nbF m j 1),.int .i64 (nbF m j 2)]
@[simp] theorem O2 (m : Msh) (i : Nat) : (nbT m i).length=i:=by simp [nbT]
@[simp] theorem Ju (m : Msh) (i : Nat) : List.take i (nbT m i)=nbT m i:=x0u (by simp)
@[simp] theorem Q3 (m : Msh) (i : Nat) : List.map (fun e=>List.map bj e) (nbT m i)=nbT m i:=by simp [nbT]
variable {C : CC} (hC : aq prog C)
include hC
end Go.Gv

namespace Go.Gv
open Go.Lib
variable {C : CC} (hC : aq prog C)
include hC
end Go.Gv

namespace Go.Gv
variable {C : CC} (hC : aq prog C)
include hC
end Go.Gv

namespace Go.Gv
variable {C : CC} (hC : aq prog C)
include hC
end Go.Gv

namespace Go.Gv
variable {C : CC} (hC : aq prog C)
include hC
theorem tN (b b' : Bool) (xs ys : List Int) (hx : xs.length < 2 ^ 62) (hy : ys.length < 2 ^ 62) : C 19 [slx b (xs.map fun n=>[.int .i64 n]),slx b' (ys.map fun n=>[.int .i64 n])] (.bool (decide (xs=ys))) []:=by
 refine aE hC (nf:=N19) rfl rfl ?_
 simp [N19]
 refine al (fun h=>?_) (fun h=>?_) <;> simp at h <;> simp [h]
 ·rintro rfl;exact h rfl
 have h' : xs.length=ys.length:=by omega
 refine az Nat (fun i=>[(0,slx b (xs.map fun n=>[.int .i64 n])),(1,slx b' (ys.map fun n=>[.int .i64 n])),(12,.int .i64 ys.length),(13,.int .i64 i)])
  (fun i=>i <= ys.length /\ ∀ k,k < i -> xs[k]? = ys[k]?) (fun i=>ys.length - i) 0 (by simp) (by simp) ?_
 rintro i ⟨hi,hok⟩
 simp
 refine al (fun h1=>?_) (fun h1=>?_) <;> simp at h1 <;> simp [h1]
 ·have hw : IntKind.wrap .i64 ((i : Int) + 1)=((i + 1 : Nat) : Int):=ah (by omega) (by omega)
  have hx1 : i < xs.length:=by omega
  simp [h1,hx1]
  refine ⟨ai (by decide +kernel),?_⟩
  refine al (fun h2=>?_) (fun h2=>?_) <;> simp [h1,hx1] at h2 <;> simp [h1,hx1,h2,hw]
  ·rintro rfl
   exact h2 rfl
  ·refine ⟨i + 1,⟨by omega,fun k hk=>?_⟩,by omega,rfl⟩
   rcases x0H.1 hk with h5 | rfl
   ·exact hok k h5
   ·rw [x0d h1,x0d hx1,h2]
 ·refine List.ext_getElem? fun k=>?_
  rcases x1a k i with h2 | h2
  ·exact hok k h2
  ·rw [x0K (by omega),x0K (by omega)]
end Go.Gv

namespace Go.Gv
variable {C : CC} (hC : aq prog C)
include hC
end Go.Gv

namespace Go.Gv
variable {C : CC} (hC : aq prog C)
include hC
end Go.Gv

namespace Go.Gv
def qfl (m : Msh) (i : Nat) : List Int:=(List.range i).map fun j=>cW m j
@[simp] theorem Ka (m : Msh) (i : Nat) : List.take i (inR (qfl m i))=inR (qfl m i):=x0u (by simp [qfl])
@[simp] theorem PB (m : Msh) (i : Nat) : (qfl m i).length=i:=by simp [qfl]
variable {C : CC} (hC : aq prog C)
include hC
end Go.Gv

namespace Go.Gv
variable {C : CC} (hC : aq prog C)
include hC
end Go.Gv

namespace Go.Gv
def B4 (f : Nat -> Int) : Nat -> Int
 | 0=>0
 | n + 1=>B4 f n + f n
def twF (m : Msh) (i : Nat) : Int:=ix (aP m (fce m i))
theorem zJ {m : Msh} (hv : ap m=true) {i : Nat} (hi : i < m.f.length) : 0 <= twF m i /\ twF m i <= 2251799813685248:=by
 have h:=(io hv hi).2
 have ht:=rJ hv hi
 unfold okT at ht
 simp only [x0a] at ht
 have:=oz ht.1.1 ht.1.2 ht.2
 unfold twF
 unfold ix cG at *
 omega
end Go.Gv

namespace Go.Gv
structure Ord (m : Msh) (P : List Nat) : Prop where
 perm : P.Perm (List.range m.f.length)
 srt : P.Pairwise fun a b=>ce m b <= ce m a
theorem Ord.len {m : Msh} {P : List Nat} (h : Ord m P) : P.length=m.f.length:=by
 have:=h.perm.length_eq
 simpa using this
theorem Ord.lt {m : Msh} {P : List Nat} (h : Ord m P) {p : Nat} (hp : p < P.length) : P[p] < m.f.length:=by
 have:=h.perm.mem_iff.1 (x0t hp)
 simpa using this
end Go.Gv

set_option maxRecDepth 4000
namespace Go.Gv
def mvS (x y z : Int) (s : Spt) : Spt:=⟨s.x + x,s.y + y,s.z + z⟩
def mvM (m : Msh) (x y z : Int) : Msh:=⟨false,m.s.map (mvS x y z),false,m.f⟩
variable {C : CC} (hC : aq prog C)
include hC
end Go.Gv

namespace Go.Gv
section
variable {m : Msh} {x y z : Int} (hv : ap m=true) (hr : ∀ i,i < m.s.length -> aT (mvS x y z (spt m i))=true)
theorem qq (m : Msh) (x y z : Int) {i : Nat} (h : i < m.s.length) : spt (mvM m x y z) i=mvS x y z (spt m i):=by
 unfold spt mvM
 simp only
 rw [x0Z _ i (by simpa using h),x0Z _ i h,x1A]
theorem Jm (m : Msh) (x y z : Int) : (mvM m x y z).f=m.f:=rfl
include hv hr
omit hr
theorem Jn {i : Nat} (hi : i < m.f.length) : spA (mvM m x y z) i=mvS x y z (spA m i) /\ spB (mvM m x y z) i=mvS x y z (spB m i) /\ spC (mvM m x y z) i=mvS x y z (spC m i):=by
 obtain ⟨⟨_,h1⟩,⟨_,h2⟩,⟨_,h3⟩⟩:=jL (fJ hv hi)
 exact ⟨qq m x y z h1,qq m x y z h2,qq m x y z h3⟩
theorem Bt {i : Nat} (hi : i < m.f.length) : ce (mvM m x y z) i=ce m i + 3 * z:=by
 obtain ⟨h1,h2,h3⟩:=Jn (x:=x) (y:=y) (z:=z) hv hi
 unfold ce
 rw [h1,h2,h3]
 simp only [mvS]
 omega
omit hv in
end
end Go.Gv

set_option maxRecDepth 4000
namespace Go.Gv
theorem iY (l : List Int) : ∀ e ∈ inR l,e.length=1 /\ ∀ c ∈ e,aC c=true:=by
 intro e he
 obtain ⟨x,_,rfl⟩:=x0q.1 he
 simp
variable {C : CC} (hC : aq prog C)
include hC
theorem ut (m : Msh) (hv : ap m=true) (i : Nat) (hi : i < m.f.length) : C 376 [.agg (bi m),.agg (bk (fce m i))] (.int .i64 (twF m i)) []:=by
 have ht:=rJ hv hi
 have k1:=ur hC m (fce m i) (fJ hv hi)
 unfold okT at ht
 simp only [x0a] at ht
 have k2:=n7 hC ht.1.1 ht.1.2 ht.2
 have e : cG (aP m (fce m i)).1 (aP m (fce m i)).2.1 (aP m (fce m i)).2.2=twF m i:=rfl
 rw [e] at k2
 generalize aP m (fce m i)=t at *
 simp only [ae,aH,bZ] at k1
 simp only [ptD] at k2
 refine aE hC (nf:=N376) rfl rfl ?_
 simp [N376,ae,aH]
 refine aa k1 (.inl rfl) ?_
 simp
 refine aa k2 (.inl rfl) ?_
 simp
theorem ug (m : Msh) (x : Int) : C 377 [.agg (bi m),.int .i64 x] (.bool (dN m.f.length x)) []:=by
 refine aE hC (nf:=N377) rfl rfl ?_
 unfold dN
 simp [N377,ae]
 by_cases h : 0 <= x
 ·simp [h]
 ·simp [h]
theorem vK (dec : Nat -> List UInt8) (hI : ∀ n : Nat,n < 100 -> C 127 [.int .i64 n] (.str (dec n)) []) (m : Msh) (hz : bY m=true -> m.s.length <= 100 /\ m.f.length <= 100) (hv : ap m=true) (i : Nat) (hi : i < m.f.length) : C 373 [.agg (bi m),.int .i64 i] (.tup [.int .i64 (twF m i),.int .i64 0]) []:=by
 have k1:=lN hC dec hI m hz
 rw [hv] at k1
 have k2:=ug hC m i
 have e : dN m.f.length (i : Int)=true:=by simp [dN,hi]
 rw [e] at k2
 have k3:=ut hC m hv i hi
 simp only [ae,aH] at k1 k2 k3
 refine aE hC (nf:=N373) rfl rfl ?_
 simp [N373,ae]
 refine aa k1 (.inl rfl) ?_
 simp
 refine aa k2 (.inl rfl) ?_
 simp [hi,aH]
 refine aa k3 (.inl rfl) ?_
 simp
 exact ai (by decide +kernel)
end Go.Gv

set_option maxRecDepth 4000
namespace Go.Gv
variable {C : CC} (hC : aq prog C)
include hC
end Go.Gv

set_option maxRecDepth 4000
namespace Go.Gv
variable {C : CC} (hC : aq prog C)
include hC
end Go.Gv

namespace Go.Gv
structure RFW (m : Msh) (r : RF) : Prop where
 rc : r.rc.length=m.f.length
 lf : r.lf.length=m.f.length
 lv : r.lv.length=m.f.length
 ou : r.ou.length=m.f.length
theorem RFW.p1 {m : Msh} {i : Nat} {r : RF} {k : Int} (h : RFW m r) : RFW m (d9 m i r k):=by
 unfold d9
 split
 ·exact ⟨by simp [h.rc],h.lf,by simp [h.lv],by simp [h.ou]⟩
 ·exact h
theorem RFW.i {m : Msh} {i : Nat} {r : RF} (h : RFW m r) : ∀ j,RFW m (rfI m i r j)
 | 0=>h
 | j + 1=>(RFW.i h j).p1
section
variable {C : Nat -> List D -> D -> List D -> Prop} (hC : aq prog C)
include hC
end
end Go.Gv

namespace Go.Gv
section
variable {C : Nat -> List D -> D -> List D -> Prop} (hC : aq prog C)
include hC
theorem zO (dec : Nat -> List UInt8) (hI : ∀ n : Nat,n < 100 -> C 127 [.int .i64 n] (.str (dec n)) []) (m : Msh) (hz : bY m=true -> m.s.length <= 100 /\ m.f.length <= 100) :
  C 243 [.agg (bi m)] (if ap m then .tup [.sl (inR (a6 m).sp),.int .i64 0] else .tup [.nils,.int .i64 1]) []:=by
 have k:=m9 hC dec hI m hz
 simp only [ae] at k
 refine aE hC (nf:=N243) rfl rfl ?_
 simp [N243,ae]
 refine aa k (.inr rfl) ?_
 cases hv : ap m
 ·simp
 ·simp [lA]
theorem rO (dec : Nat -> List UInt8) (hI : ∀ n : Nat,n < 100 -> C 127 [.int .i64 n] (.str (dec n)) []) (m : Msh) (hz : bY m=true -> m.s.length <= 100 /\ m.f.length <= 100) :
  C 244 [.agg (bi m)] (if ap m then .tup [.sl (inR (a6 m).ou),.int .i64 0] else .tup [.nils,.int .i64 1]) []:=by
 have k:=m9 hC dec hI m hz
 simp only [ae] at k
 refine aE hC (nf:=N244) rfl rfl ?_
 simp [N244,ae]
 refine aa k (.inr rfl) ?_
 cases hv : ap m
 ·simp
 ·simp [lA]
end
end Go.Gv

namespace Go.Gv
section
variable {C : Nat -> List D -> D -> List D -> Prop} (hC : aq prog C)
include hC
end
end Go.Gv

namespace Go.Gv
section
variable {C : Nat -> List D -> D -> List D -> Prop} (hC : aq prog C)
include hC
end
end Go.Gv

namespace Go.Gv
structure LvI (m : Msh) (r : RF) (P : Nat -> Nat -> Prop) : Prop where
 rcl : r.rc.length=m.f.length
 lfl : r.lf.length=m.f.length
 lvl : r.lv.length=m.f.length
 oul : r.ou.length=m.f.length
 l1 : ∀ a,r.lf.getD a false=true -> r.rc.getD a false=true
 l2 : ∀ a b,r.lf.getD a false=true -> r.rc.getD b false=true -> r.lf.getD b false=false -> r.lv.getD a 0 <= r.lv.getD b 0
 bd : ∀ a,a < m.f.length -> bsd m a (-1)=true -> r.rc.getD a false=true
 l3 : ∀ a,a < m.f.length -> r.rc.getD a false=true -> (bsd m a (-1)=true /\ r.ou.getD a 0=-1 /\ r.lv.getD a 0=(bN m).getD a 0) \/
  (bsd m a (-1)=false /\ ∃ z : Nat,z < m.f.length /\ r.ou.getD a 0=z /\ r.lf.getD z false=true /\ (∃ c,c < 3 /\ nbF m a c=z) /\ r.lv.getD a 0=max ((bN m).getD a 0) (r.lv.getD z 0))
 l4 : ∀ y,r.lf.getD y false=true -> ∀ c,c < 3 -> P y c -> ∀ x : Nat,nbF m y c=x -> r.rc.getD x false=true /\ r.lv.getD x 0 <= max ((bN m).getD x 0) (r.lv.getD y 0)
theorem LvI.p1 {m : Msh} (hv : ap m=true) {a j : Nat} {r : RF} (ha : a < m.f.length) (hj : j < 3) (hla : r.lf.getD a false=true) (hat : ∀ z,r.lf.getD z false=true -> r.lv.getD z 0 <= r.lv.getD a 0) {P : Nat -> Nat -> Prop} (h : LvI m r P) :
  LvI m (d9 m a r (nbF m a j)) (fun y c=>P y c \/ (y=a /\ c=j)) /\ (d9 m a r (nbF m a j)).lf=r.lf /\ ∀ z,r.lf.getD z false=true -> (d9 m a r (nbF m a j)).lv.getD z 0=r.lv.getD z 0:=by
 have hb:=dc m a j
 unfold d9
 split
 ·rename_i hc
  obtain ⟨x0,hx0⟩ : ∃ x0 : Nat,nbF m a j=x0:=⟨(nbF m a j).toNat,by omega⟩
  rw [hx0] at hc hb ⊢
  simp only [x1t] at hc ⊢
  have hxn : x0 < m.f.length:=by omega
  obtain ⟨v,hvv⟩ : ∃ v,v=(if r.lv.getD a 0 < (bN m).getD x0 0 then (bN m).getD x0 0 else r.lv.getD a 0):=⟨_,rfl⟩
  have hv1 : v=max ((bN m).getD x0 0) (r.lv.getD a 0):=by rw [hvv];split <;> omega
  rw [<- hvv]
  have grc : ∀ i,(r.rc.set x0 true).getD i false=if i=x0 then true else r.rc.getD i false:=fun i=>bf (by rw [h.rcl];exact hxn)
  have glv : ∀ i,(r.lv.set x0 v).getD i 0=if i=x0 then v else r.lv.getD i 0:=fun i=>bf (by rw [h.lvl];exact hxn)
  have gou : ∀ i,(r.ou.set x0 (a : Int)).getD i 0=if i=x0 then (a : Int) else r.ou.getD i 0:=fun i=>bf (by rw [h.oul];exact hxn)
  have hne : ∀ i,r.rc.getD i false=true -> i ≠ x0:=fun i hi e=>by rw [e,hc.2] at hi;cases hi
  have hmono : ∀ i,r.rc.getD i false=true -> (r.rc.set x0 true).getD i false=true:=fun i hi=>by rw [grc,if_neg (hne i hi)];exact hi
  have hkeep : ∀ z,r.lf.getD z false=true -> (r.lv.set x0 v).getD z 0=r.lv.getD z 0:=fun z hz=>by rw [glv,if_neg (hne z (h.l1 z hz))]
  refine ⟨⟨by simp [h.rcl],h.lfl,by simp [h.lvl],by simp [h.oul],fun i hi=>hmono i (h.l1 i hi),fun i k hi hk hk2=>?_,fun i hi hbi=>hmono i (h.bd i hi hbi),fun i hi hir=>?_,fun y hy c hc3 hP x hx=>?_⟩,trivial,hkeep⟩
  ·simp only at hi hk hk2 ⊢
   rw [hkeep i hi,glv]
   split
   ·have:=hat i hi
    omega
   ·rename_i e
    rw [grc,if_neg e] at hk
    exact h.l2 i k hi hk hk2
  ·simp only at hir ⊢
   by_cases e : i=x0
   ·subst e
    right
    have hnb : bsd m i (-1)=false:=by
     cases hh : bsd m i (-1)
     ·rfl
     ·have:=h.bd i hi hh
      rw [hc.2] at this
      cases this
    obtain ⟨c',hc',e'⟩:=iH hv ha hj (by omega)
    rw [hx0] at e'
    refine ⟨hnb,a,ha,by rw [gou,if_pos rfl],hla,⟨c',hc',by simpa using e'⟩,?_⟩
    rw [glv,if_pos rfl,hkeep a hla,hv1]
   ·rw [grc,if_neg e] at hir
    rw [gou,if_neg e,glv,if_neg e]
    rcases h.l3 i hi hir with h5 | ⟨h5,z,hz,h6,h7,h8,h9⟩
    ·exact .inl h5
    ·exact .inr ⟨h5,z,hz,h6,h7,h8,by rw [hkeep z h7];exact h9⟩
  ·simp only at hy ⊢
   rw [hkeep y hy]
   rcases hP with hP | ⟨rfl,rfl⟩
   ·obtain ⟨h5,h6⟩:=h.l4 y hy c hc3 hP x hx
    rw [glv,if_neg (hne x h5)]
    exact ⟨hmono x h5,h6⟩
   ·have e : x=x0:=by omega
    subst e
    rw [grc,if_pos rfl,glv,if_pos rfl,hv1]
    exact ⟨by simp,Int.le_refl _⟩
 ·rename_i hc
  refine ⟨⟨h.rcl,h.lfl,h.lvl,h.oul,h.l1,h.l2,h.bd,h.l3,fun y hy c hc3 hP x hx=>?_⟩,rfl,fun _ _=>rfl⟩
  rcases hP with hP | ⟨rfl,rfl⟩
  ·exact h.l4 y hy c hc3 hP x hx
  ·have hxn : x < m.f.length:=by omega
   have hr : r.rc.getD x false=true:=by
    cases hh : r.rc.getD x false
    ·exact absurd ⟨by omega,by rw [hx];simpa using hh⟩ hc
    ·rfl
   refine ⟨hr,?_⟩
   rcases h.l3 x hxn hr with h5 | ⟨h5,z,hz,h6,h7,h8,h9⟩
   ·omega
   ·have:=hat z h7
    omega
theorem LvI.weaken {m : Msh} {r : RF} {P Q : Nat -> Nat -> Prop} (h : LvI m r P) (hPQ : ∀ y c,c < 3 -> r.lf.getD y false=true -> Q y c -> P y c) : LvI m r Q :=
 ⟨h.rcl,h.lfl,h.lvl,h.oul,h.l1,h.l2,h.bd,h.l3,fun y hy c hc hq=>h.l4 y hy c hc (hPQ y c hc hy hq)⟩
theorem LvI.i {m : Msh} (hv : ap m=true) {a : Nat} {r : RF} (ha : a < m.f.length) (hla : r.lf.getD a false=true) (hat : ∀ z,r.lf.getD z false=true -> r.lv.getD z 0 <= r.lv.getD a 0) {P : Nat -> Nat -> Prop} (h : LvI m r P) : ∀ j,j <= 3 ->
  LvI m (rfI m a r j) (fun y c=>P y c \/ (y=a /\ c < j)) /\ (rfI m a r j).lf=r.lf /\ ∀ z,r.lf.getD z false=true -> (rfI m a r j).lv.getD z 0=r.lv.getD z 0
 | 0,_=>⟨h.weaken fun y c _ _ hq=>by rcases hq with h | h;exact h;omega,rfl,fun _ _=>rfl⟩
 | j + 1,hj=>by
  obtain ⟨h1,h2,h3⟩:=LvI.i hv ha hla hat h j (by omega)
  obtain ⟨q1,q2,q3⟩:=h1.p1 hv ha (show j < 3 by omega) (by rw [h2];exact hla) (fun z hz=>by rw [h2] at hz;rw [h3 z hz,h3 a hla];exact hat z hz)
  refine ⟨q1.weaken fun y c hc _ hq=>?_,by show (d9 m a (rfI m a r j) (nbF m a j)).lf=_;rw [q2,h2],fun z hz=>by show (d9 m a (rfI m a r j) (nbF m a j)).lv.getD z 0=_;rw [q3 z (by rw [h2];exact hz),h3 z hz]⟩
  rcases hq with h | ⟨h4,h5⟩
  ·exact .inl (.inl h)
  ·by_cases e : c=j
   ·exact .inr ⟨h4,e⟩
   ·exact .inl (.inr ⟨h4,by omega⟩)
theorem LvI.step {m : Msh} (hv : ap m=true) {r : RF} (h : LvI m r fun _ _=>True) : LvI m (de m r) fun _ _=>True:=by
 unfold de
 split
 ·exact h
 ·rename_i h0
  rcases fE r m.f.length with ⟨h1,_⟩ | ⟨a,h1,h2,h3,h4⟩
  ·omega
  ·rw [h1]
   simp only [x1t]
   have h3' : r.rc.getD a false=true /\ r.lf.getD a false=false:=by simpa [act] using h3
   have glf : ∀ i,(r.lf.set a true).getD i false=if i=a then true else r.lf.getD i false:=fun i=>bf (by rw [h.lfl];exact h2)
   have hat : ∀ z,(r.lf.set a true).getD z false=true -> r.lv.getD z 0 <= r.lv.getD a 0:=fun z hz=>by
    rw [glf] at hz
    split at hz
    ·rename_i e;rw [e];exact Int.le_refl _
    ·exact h.l2 z a hz h3'.1 h3'.2
   have hI : LvI m { r with lf:=r.lf.set a true } fun y _=>y ≠ a:=by
    refine ⟨h.rcl,by simp [h.lfl],h.lvl,h.oul,fun i hi=>?_,fun i k hi hk hk2=>?_,h.bd,fun i hi hir=>?_,fun y hy c hc hne x hx=>?_⟩
    ·simp only at hi
     rw [glf] at hi
     split at hi
     ·rename_i e;rw [e];exact h3'.1
     ·exact h.l1 i hi
    ·simp only at hi hk hk2 ⊢
     rw [glf] at hk2
     split at hk2
     ·cases hk2
     ·rename_i e
      have hak : act r k=true:=by simp only [act,hk,hk2];rfl
      by_cases hkn : k < m.f.length
      ·have h5:=h4 k hkn hak
       have h6:=hat i hi
       omega
      ·have : r.rc.getD k false=false:=by
        rw [x1n,x0K (by rw [h.rcl];omega)];rfl
       rw [this] at hk;cases hk
    ·rcases h.l3 i hi hir with h5 | ⟨h5,z,hz,h6,h7,h8,h9⟩
     ·exact .inl h5
     ·refine .inr ⟨h5,z,hz,h6,?_,h8,h9⟩
      show (r.lf.set a true).getD z false=true
      rw [glf];split
      ·rfl
      ·exact h7
    ·simp only at hy
     rw [glf,if_neg hne] at hy
     exact h.l4 y hy c hc trivial x hx
   have:=(hI.i (a:=a) hv h2 (by show (r.lf.set a true).getD a false=true;rw [glf,if_pos rfl]) hat 3 (x0l _)).1
   refine this.weaken fun y c hc _ _=>?_
   by_cases e : y=a
   ·exact .inr ⟨e,hc⟩
   ·exact .inl e
theorem LvI.run {m : Msh} (hv : ap m=true) : ∀ (k : Nat) {r : RF},LvI m r (fun _ _=>True) -> LvI m (rfN m k r) fun _ _=>True
 | 0,_,h=>h
 | k + 1,_,h=>LvI.run hv k (h.step hv)
theorem jY (m : Msh) : ∀ i a,(rf0 m i).1.getD a false=true -> bsd m a (-1)=true
 | 0,a,h=>by
  simp [rf0,x0R] at h
  split at h <;> cases h
 | i + 1,a,h=>by
  unfold rf0 at h
  split at h
  ·rename_i hb
   rcases lE h with rfl | h
   ·exact hb
   ·exact jY m i a h
  ·exact jY m i a h
theorem LvI.init (m : Msh) : LvI m (d8 m) fun _ _=>True:=by
 have hf : ∀ i,(List.replicate m.f.length false).getD i false=false:=fun i=>by simp [x0R];split <;> rfl
 refine ⟨(fb m _).1,by simp [d8],(fb m _).2,by simp [d8],fun a ha=>?_,fun a b ha _ _=>?_,fun a ha hb=>qC m _ (x0l _) a ha hb,fun a ha hr=>.inl ⟨jY m _ a hr,?_,ol m _ (x0l _) a hr⟩,fun y hy=>?_⟩
 ·exact absurd ((hf a).symm.trans ha) (by decide)
 ·exact absurd ((hf a).symm.trans ha) (by decide)
 ·show (List.replicate m.f.length (-1 : Int)).getD a 0=-1
  simp [x0R,ha]
 ·exact absurd ((hf y).symm.trans hy) (by decide)
def spF (m : Msh) (a : Nat) : Int:=(a6 m).sp.getD a 0
def suF (m : Msh) (a : Nat) : Int:=(bN m).getD a 0
def ouF (m : Msh) (a : Nat) : Int:=(a6 m).ou.getD a 0
theorem jG {m : Msh} (hv : ap m=true) : LvI m (cH m) fun _ _=>True:=(LvI.init m).run hv _
theorem ig {m : Msh} (hv : ap m=true) {a : Nat} (ha : a < m.f.length) (hb : bsd m a (-1)=true) : spF m a=suF m a /\ ouF m a=-1:=by
 obtain ⟨e1,e2⟩:=gX hv
 unfold spF suF ouF
 rw [e1,e2]
 rcases (jG hv).l3 a ha (dS hv a ha) with h | ⟨h,_⟩
 ·exact ⟨h.2.2,h.2.1⟩
 ·rw [hb] at h;cases h
theorem ii {m : Msh} (hv : ap m=true) {a : Nat} (ha : a < m.f.length) (hb : bsd m a (-1)=false) : ∃ z : Nat,z < m.f.length /\ ouF m a=z /\ (∃ c,c < 3 /\ nbF m a c=z) /\ spF m a=max (suF m a) (spF m z):=by
 obtain ⟨e1,e2⟩:=gX hv
 unfold spF suF ouF
 rw [e1,e2]
 rcases (jG hv).l3 a ha (dS hv a ha) with h | ⟨_,z,h1,h2,_,h4,h5⟩
 ·rw [hb] at h;cases h.1
 ·exact ⟨z,h1,h2,h4,h5⟩
theorem vh {m : Msh} (hv : ap m=true) {a x c : Nat} (ha : a < m.f.length) (hc : c < 3) (hx : nbF m a c=x) : spF m a <= max (suF m a) (spF m x):=by
 obtain ⟨e1,_⟩:=gX hv
 have hb:=dc m a c
 have hxn : x < m.f.length:=by omega
 obtain ⟨c',hc',e⟩:=iH hv ha hc (by omega)
 rw [hx] at e
 unfold spF suF
 rw [e1]
 exact ((jG hv).l4 x (kK m x (dS hv x hxn)) c' hc' trivial a (by simpa using e)).2
theorem KA {m : Msh} (hv : ap m=true) {a : Nat} (ha : a < m.f.length) : suF m a <= spF m a:=by
 cases hb : bsd m a (-1)
 ·obtain ⟨z,_,_,_,h⟩:=ii hv ha hb
  omega
 ·have:=ig hv ha hb
  omega
end Go.Gv

namespace Go.Gv
open Go.Lib
variable {C : CC} (hC : aq prog C)
include hC
end Go.Gv

namespace Go.Gv
def DvS (x b i a q r : Nat) : Prop:=i <= 128 /\ r < b /\ ∃ c,a=c * 2 ^ i /\ c < 2 ^ (128 - i) /\ (q * b + r) * 2 ^ (128 - i) + c=x
theorem DvS.step {x b i a q r : Nat} (h : DvS x b i a q r) (hi : i < 128) (hb : 0 < b) :
  a < 340282366920938463463374607431768211456 /\ 2 * q <= x /\
  ∀ w r' a',2 * r + a / 170141183460469231731687303715884105728=w * b + r' -> r' < b -> a'=2 * a % 340282366920938463463374607431768211456 -> DvS x b (i + 1) a' (2 * q + w) r' /\ 2 * q + w <= x:=by
 obtain ⟨_,hr,c,h1,h2,h3⟩:=h
 obtain ⟨m,hm⟩ : ∃ m,m + 1=128 - i:=⟨127 - i,by omega⟩
 have hm2 : m=128 - (i + 1):=by omega
 rw [<- hm,Nat.pow_succ] at h2 h3
 obtain ⟨V,hV⟩ : ∃ V,V=2 ^ m:=⟨_,rfl⟩
 obtain ⟨W,hW⟩ : ∃ W,W=2 ^ i:=⟨_,rfl⟩
 have hVW : V * W=170141183460469231731687303715884105728:=by
  rw [hV,hW,<- Nat.pow_add,show m + i=127 by omega]
 have hVp : 0 < V:=by rw [hV];exact Nat.two_pow_pos m
 rw [<- hV] at h2 h3
 rw [<- hW] at h1
 obtain ⟨t,ht⟩ : ∃ t,t=c / V:=⟨_,rfl⟩
 obtain ⟨d,hd⟩ : ∃ d,d=c % V:=⟨_,rfl⟩
 have hc : c=t * V + d:=by rw [ht,hd,x1v];exact (Nat.div_add_mod c V).symm
 have hdV : d < V:=by rw [hd];exact Nat.mod_lt _ hVp
 have ht1 : t <= 1:=by
  have : t < 2:=by rw [ht,Nat.div_lt_iff_lt_mul hVp];omega
  omega
 have ha : a=t * 170141183460469231731687303715884105728 + d * W:=by
  rw [h1,hc,x0E,Nat.mul_assoc,hVW]
 have hdW : d * W < 170141183460469231731687303715884105728:=by
  have : (d + 1) * W <= V * W:=x0n _ hdV
  rw [hVW,x0E] at this
  have hWp : 0 < W:=by rw [hW];exact Nat.two_pow_pos i
  omega
 have hbit : a / 170141183460469231731687303715884105728=t:=by
  rw [ha];generalize d * W=z at *;omega
 have fin : ∀ w r',2 * r + t=w * b + r' -> ((2 * q + w) * b + r') * V + d=x:=fun w r' e=>by
  have e1 : (2 * q + w) * b + r'=2 * (q * b + r) + t:=by
   rw [x0E,Nat.mul_assoc]
   generalize q * b=z at *
   generalize w * b=z' at *
   omega
  rw [e1,<- h3,hc,x0E,x1v V 2,<- Nat.mul_assoc,x1v (q * b + r) 2]
  omega
 have big : ∀ w r',2 * r + t=w * b + r' -> 2 * q + w <= x:=fun w r' e=>by
  have e1:=fin w r' e
  have e2 : 2 * q + w <= (2 * q + w) * b:=Nat.le_mul_of_pos_right _ hb
  have e3 : (2 * q + w) * b + r' <= ((2 * q + w) * b + r') * V:=Nat.le_mul_of_pos_right _ hVp
  omega
 refine ⟨?_,?_,?_⟩
 ·rw [ha];generalize d * W=z at *;omega
 ·exact x1u (Nat.le_add_right _ _) (big _ _ (Nat.div_add_mod' (2 * r + t) b).symm)
 ·intro w r' a' e hr' ha'
  rw [hbit] at e
  refine ⟨⟨by omega,hr',d,?_,?_,?_⟩,big w r' e⟩
  ·rw [ha',ha,Nat.pow_succ,<- hW,x1v W 2,Nat.mul_left_comm]
   generalize d * W=z at *
   omega
  ·rw [<- hm2,<- hV];exact hdV
  ·rw [<- hm2,<- hV];exact fin w r' e
theorem DvS.last {x b a q r : Nat} (h : DvS x b 128 a q r) : q=x / b /\ r=x % b:=by
 obtain ⟨_,hr,c,h1,h2,h3⟩:=h
 simp at h2 h3
 subst h2
 simp at h3
 subst h3
 have hb : 0 < b:=by omega
 rw [x1v,Nat.mul_add_div hb,Nat.div_eq_of_lt hr,Nat.mul_add_mod,Nat.mod_eq_of_lt hr]
 exact ⟨rfl,rfl⟩
variable {C : CC} (hC : aq prog C)
include hC
end Go.Gv

namespace Go.Gv
variable {C : CC} (hC : aq prog C)
include hC
end Go.Gv

namespace Go.Gv
open Go.Lib
variable {C : CC} (hC : aq prog C)
include hC
end Go.Gv

namespace Go.Gv
open Go.Lib
variable {C : CC} (hC : aq prog C)
include hC
end Go.Gv

namespace Go.Gv
open Go.Lib
variable {C : CC} (hC : aq prog C)
include hC
end Go.Gv

namespace Go.Gv
def tn0 (m : Msh) (i : Nat) (p : Pnt) : Int:=cG (ptS (spA m i)) (ptS (spB m i)) p
def tn1 (m : Msh) (i : Nat) (p : Pnt) : Int:=cG (ptS (spB m i)) (ptS (spC m i)) p
def tn2 (m : Msh) (i : Nat) (p : Pnt) : Int:=cG (ptS (spC m i)) (ptS (spA m i)) p
@[simp] theorem PA (p : Pnt) : (ptD p).length=2:=zR
@[simp] theorem J9 (p : Pnt) : List.take 2 (ptD p)=ptD p:=zR
@[simp] theorem Rp (p : Pnt) : (∀ x,x ∈ ptD p -> isV x=true)=True:=by simp [ptD]
@[simp] theorem Ro (p : Pnt) : (∀ x,x ∈ ptD p -> aC x=true)=True:=by simp [ptD]
variable {C : CC} (hC : aq prog C)
include hC
end Go.Gv

namespace Go.Gv
variable {C : CC} (hC : aq prog C)
include hC
end Go.Gv

namespace Go.Gv
open Go.Lib
def sG (m : Msh) (i : Nat) (p : Pnt) : Int:=(spA m i).z * tn1 m i p + (spB m i).z * tn2 m i p + (spC m i).z * tn0 m i p
def oO (m : Msh) (i : Nat) : Int:=cG (ptS (spA m i)) (ptS (spB m i)) (ptS (spC m i))
theorem B7 (m : Msh) (i : Nat) (p : Pnt) : tn0 m i p + tn1 m i p + tn2 m i p=oO m i:=by
 unfold tn0 tn1 tn2 oO cG ptS
 grind
structure OnF (m : Msh) (i : Nat) (p : Pnt) : Prop where
 z0 : -4194304 <= (spA m i).z /\ (spA m i).z <= 4194304
 z1 : -4194304 <= (spB m i).z /\ (spB m i).z <= 4194304
 z2 : -4194304 <= (spC m i).z /\ (spC m i).z <= 4194304
 t0 : 0 <= tn0 m i p /\ tn0 m i p <= 2251799813685248
 t1 : 0 <= tn1 m i p /\ tn1 m i p <= 2251799813685248
 t2 : 0 <= tn2 m i p /\ tn2 m i p <= 2251799813685248
 d : 0 < oO m i /\ oO m i <= 2251799813685248
theorem n8 {z t : Int} (hz : -4194304 <= z /\ z <= 4194304) (ht : 0 <= t) : -(4194304 * t) <= z * t /\ z * t <= 4194304 * t:=by
 have h1:=Int.mul_nonneg (show 0 <= 4194304 - z by omega) ht
 have h2:=Int.mul_nonneg (show 0 <= 4194304 + z by omega) ht
 rw [Int.sub_mul] at h1
 rw [Int.add_mul] at h2
 omega
theorem OnF.num {m : Msh} {i : Nat} {p : Pnt} (h : OnF m i p) : -(4194304 * oO m i) <= sG m i p /\ sG m i p <= 4194304 * oO m i:=by
 have e:=B7 m i p
 have h1:=n8 h.z0 h.t1.1
 have h2:=n8 h.z1 h.t2.1
 have h3:=n8 h.z2 h.t0.1
 unfold sG
 rw [<- e]
 omega
theorem tA {n d k : Int} (hd : 0 < d) (h : -(k * d) <= n /\ n <= k * d) : -k <= n / d /\ n / d <= k:=by
 constructor
 ·exact (Int.le_ediv_iff_mul_le hd).2 (by rw [Int.neg_mul];exact h.1)
 ·exact Int.le_of_lt_add_one ((Int.ediv_lt_iff_lt_mul hd).2 (by rw [Int.add_mul];omega))
def loF (m : Msh) (i : Nat) (p : Pnt) : Int:=sG m i p / oO m i
def hiF (m : Msh) (i : Nat) (p : Pnt) : Int:=-(-sG m i p / oO m i)
theorem OnF.lo {m : Msh} {i : Nat} {p : Pnt} (h : OnF m i p) : -4194304 <= loF m i p /\ loF m i p <= 4194304:=tA h.d.1 h.num
theorem OnF.hi {m : Msh} {i : Nat} {p : Pnt} (h : OnF m i p) : -4194304 <= hiF m i p /\ hiF m i p <= 4194304:=by
 have:=tA (n:=-sG m i p) (k:=4194304) h.d.1 (by have:=h.num;omega)
 unfold hiF
 omega
variable {C : CC} (hC : aq prog C)
include hC
end Go.Gv

namespace Go.Gv
variable {C : CC} (hC : aq prog C)
include hC
end Go.Gv

namespace Go.Gv
section
variable {C : Nat -> List D -> D -> List D -> Prop} (hC : aq prog C)
include hC
end
end Go.Gv

namespace Go.Gv
section
variable {C : Nat -> List D -> D -> List D -> Prop} (hC : aq prog C)
include hC
end
end Go.Gv

namespace Go.Gv
section
variable {C : Nat -> List D -> D -> List D -> Prop} (hC : aq prog C)
include hC
end
end Go.Gv

namespace Go.Gv
theorem gR {m : Msh} {a : Nat} (ha : a < m.f.length) : suF m a=ce m a:=by simp [suF,bN,ha]
variable {C : CC} (hC : aq prog C)
include hC
end Go.Gv

namespace Go.Gv
structure eP (c : Int) (r s : RF) : Prop where
 rc : s.rc=r.rc
 lf : s.lf=r.lf
 ou : s.ou=r.ou
 len : s.lv.length=r.lv.length
 lv : ∀ a,r.rc.getD a false=true -> s.lv.getD a 0=r.lv.getD a 0 + c
theorem eP.act {c : Int} {r s : RF} (h : eP c r s) (a : Nat) : act s a=act r a:=by unfold Go.Gv.act;rw [h.rc,h.lf]
theorem eP.rat {c : Int} {r s : RF} (h : eP c r s) : ∀ i,rat s i=rat r i
 | 0=>rfl
 | i + 1=>by
  have ih:=eP.rat h i
  unfold Go.Gv.rat
  rw [ih,h.act]
  by_cases ha : Go.Gv.act r i=true
  ·have hi : r.rc.getD i false=true:=by
    simp only [Go.Gv.act,x0a] at ha
    exact ha.1
   by_cases h0 : Go.Gv.rat r i < 0
   ·simp only [h0,true_or,and_true]
   ·rcases fE r i with ⟨h1,_⟩ | ⟨a,h1,h2,h3,_⟩
    ·omega
    ·have h4 : r.rc.getD a false=true:=by
      simp only [Go.Gv.act,x0a] at h3
      exact h3.1
     rw [h1]
     simp only [x1t]
     have e1:=h.lv i hi
     have e2:=h.lv a h4
     by_cases hlt : r.lv.getD i 0 < r.lv.getD a 0
     ·rw [if_pos ⟨ha,.inr (by omega)⟩,if_pos ⟨ha,.inr hlt⟩]
     ·rw [if_neg (fun h9=>by omega),if_neg (fun h9=>by omega)]
  ·rw [if_neg (fun h=>ha h.1),if_neg (fun h=>ha h.1)]
section
variable {m : Msh} {x y z : Int} (hv : ap m=true) (hr : ∀ i,i < m.s.length -> aT (mvS x y z (spt m i))=true)
include hv hr
theorem Jo {a : Nat} (ha : a < m.f.length) : suF (mvM m x y z) a=suF m a + 3 * z:=by
 rw [gR (m:=mvM m x y z) (by rw [Jm];exact ha),gR ha]
 exact Bt hv ha
theorem eP.p1 {r s : RF} (h : eP (3 * z) r s) (hl : r.rc.length=m.f.length) (hl2 : r.lv.length=m.f.length) {i : Nat} (hi : r.rc.getD i false=true) {k : Int} (hk : k < m.f.length) : eP (3 * z) (d9 m i r k) (d9 (mvM m x y z) i s k):=by
 unfold d9
 rw [h.rc]
 split
 ·rename_i hc
  have hkn : k.toNat < m.f.length:=by omega
  have e1:=Jo hv hr hkn
  have e2:=h.lv i hi
  have e3 : (if s.lv.getD i 0 < (bN (mvM m x y z)).getD k.toNat 0 then (bN (mvM m x y z)).getD k.toNat 0 else s.lv.getD i 0)=(if r.lv.getD i 0 < (bN m).getD k.toNat 0 then (bN m).getD k.toNat 0 else r.lv.getD i 0) + 3 * z:=by
   unfold suF at e1
   rw [e1,e2]
   split <;> split <;> omega
  refine ⟨rfl,h.lf,by simp only;rw [h.ou],by simp only [List.length_set];exact h.len,fun a ha=>?_⟩
  simp only at ha ⊢
  rw [e3,bf (by rw [h.len,hl2];exact hkn),bf (by rw [hl2];exact hkn)]
  rw [bf (by rw [hl];exact hkn)] at ha
  split
  ·rfl
  ·rename_i e
   rw [if_neg e] at ha
   exact h.lv a ha
 ·exact h
theorem eP.i {r s : RF} (h : eP (3 * z) r s) (hl : r.rc.length=m.f.length) (hl2 : r.lv.length=m.f.length) {i : Nat} (hi : r.rc.getD i false=true) : ∀ j,eP (3 * z) (rfI m i r j) (rfI (mvM m x y z) i s j) /\ (rfI m i r j).lv.length=m.f.length
 | 0=>⟨h,hl2⟩
 | j + 1=>by
  obtain ⟨h1,h2⟩:=eP.i h hl hl2 hi j
  refine ⟨eP.p1 hv hr h1 ((ji j).1.trans hl) h2 (me hi j) (dc m i j).2,?_⟩
  show (d9 m i (rfI m i r j) (nbF m i j)).lv.length=m.f.length
  unfold d9
  split
  ·simp only [List.length_set];exact h2
  ·exact h2
theorem eP.step {r s : RF} (h : eP (3 * z) r s) (hl : r.rc.length=m.f.length) (hl2 : r.lv.length=m.f.length) : eP (3 * z) (de m r) (de (mvM m x y z) s) /\ (de m r).rc.length=m.f.length /\ (de m r).lv.length=m.f.length:=by
 unfold de
 have hrt : Go.Gv.rat s (mvM m x y z).f.length=Go.Gv.rat r m.f.length:=by rw [Jm];exact h.rat _
 rw [hrt]
 split
 ·exact ⟨h,hl,hl2⟩
 ·rename_i h0
  rcases fE r m.f.length with ⟨h1,_⟩ | ⟨a,h1,h2,h3,_⟩
  ·omega
  ·rw [h1]
   simp only [x1t]
   have h4 : r.rc.getD a false=true:=by
    simp only [Go.Gv.act,x0a] at h3
    exact h3.1
   obtain ⟨q1,q2⟩:=eP.i hv hr (r:={ r with lf:=r.lf.set a true }) (s:={ s with lf:=s.lf.set a true }) ⟨h.rc,by simp only;rw [h.lf],h.ou,h.len,h.lv⟩ hl hl2 h4 3
   exact ⟨q1,(ji (r:={ r with lf:=r.lf.set a true }) 3).1.trans hl,q2⟩
theorem eP.run : ∀ (k : Nat) {r s : RF},eP (3 * z) r s -> r.rc.length=m.f.length -> r.lv.length=m.f.length -> eP (3 * z) (rfN m k r) (rfN (mvM m x y z) k s)
 | 0,_,_,h,_,_=>h
 | k + 1,_,_,h,hl,hl2=>by
  obtain ⟨h1,h2,h3⟩:=eP.step hv hr h hl hl2
  exact eP.run k h1 h2 h3
end
end Go.Gv

namespace Go.Gv
theorem vp (m : Msh) (i : Nat) : ∀ k,upF m i k=-2 \/ ∃ c,c < k /\ nbF m i c=upF m i k
 | 0=>.inl rfl
 | k + 1=>by
  have hs : upF m i (k + 1)=dG m i (upF m i k) (nbF m i k):=rfl
  have hc : upF m i (k + 1)=upF m i k \/ upF m i (k + 1)=nbF m i k:=by
   rw [hs]
   unfold dG
   split
   ·exact .inl rfl
   ·split
    ·exact .inr rfl
    ·split
     ·exact .inr rfl
     ·exact .inl rfl
  rcases hc with h | h
  ·rcases vp m i k with h2 | ⟨c,h2,h3⟩
   ·exact .inl (by rw [h,h2])
   ·exact .inr ⟨c,by omega,by rw [h,h3]⟩
  ·exact .inr ⟨k,by omega,h.symm⟩
theorem BM {m : Msh} {i : Nat} (h : 0 <= cW m i) : ∃ c,c < 3 /\ nbF m i c=cW m i:=by
 unfold cW at h ⊢
 split at h
 ·omega
 ·rename_i hc
  rw [if_neg hc]
  rcases vp m i 3 with h2 | h2
  ·omega
  ·exact h2
end Go.Gv

namespace Go.Gv
def hR (m : Msh) (h : Int) (i k : Nat) : Prop:=i < m.f.length /\ k < m.f.length /\ suF m i <= h /\ suF m k <= h /\ ∃ c,c < 3 /\ nbF m i c=k
def Way (m : Msh) (h : Int) (a b : Nat) : Prop:=suF m a <= h /\ suF m b <= h /\ Cn (hR m h) a b
theorem wz {m : Msh} (hv : ap m=true) {h : Int} : ∀ a b,hR m h a b -> hR m h b a:=by
 rintro a b ⟨h1,h2,h3,h4,c,hc,e⟩
 obtain ⟨c',hc',e2⟩:=iH hv h1 hc (by omega)
 rw [e] at e2
 exact ⟨h2,h1,h4,h3,c',hc',by simpa using e2⟩
theorem Way.symm {m : Msh} (hv : ap m=true) {h : Int} {a b : Nat} (w : Way m h a b) : Way m h b a:=⟨w.2.1,w.1,w.2.2.symm (wz hv)⟩
theorem wy {m : Msh} {h k : Int} (hk : h <= k) : ∀ a b,hR m h a b -> hR m k a b:=by
 rintro a b ⟨h1,h2,h3,h4,h5⟩
 exact ⟨h1,h2,by omega,by omega,h5⟩
theorem Way.mono {m : Msh} {h k : Int} {a b : Nat} (hk : h <= k) (w : Way m h a b) : Way m k a b:=⟨by have:=w.1;omega,by have:=w.2.1;omega,w.2.2.mono (wy hk)⟩
theorem Way.trans {m : Msh} {h k : Int} {a b c : Nat} (w : Way m h a b) (v : Way m k b c) : Way m (max h k) a c :=
 ⟨by have:=w.1;omega,by have:=v.2.1;omega,(w.mono (k:=max h k) (by omega)).2.2.trans (v.mono (k:=max h k) (by omega)).2.2⟩
def Lst (m : Msh) (a b : Nat) (v : Int) : Prop:=Way m v a b /\ ∀ h,Way m h a b -> v <= h
theorem Lst.uniq {m : Msh} {a b : Nat} {u v : Int} (h : Lst m a b u) (g : Lst m a b v) : u=v:=Int.le_antisymm (h.2 _ g.1) (g.2 _ h.1)
open Classical in
noncomputable def fY (m : Msh) (a b : Nat) : Option Int:=if h : ∃ v,Lst m a b v then some (Classical.choose h) else none
theorem kM {m : Msh} {a b : Nat} {v : Int} (h : Lst m a b v) : fY m a b=some v:=by
 have hex : ∃ v,Lst m a b v:=⟨v,h⟩
 unfold fY
 rw [dif_pos hex]
 exact congrArg some ((Classical.choose_spec hex).uniq h)
theorem kL {m : Msh} {a b : Nat} (h : ∀ v,¬ Way m v a b) : fY m a b=none:=by
 unfold fY
 rw [dif_neg]
 rintro ⟨v,hv⟩
 exact h v hv.1
theorem Lst.symm {m : Msh} (hv : ap m=true) {a b : Nat} {v : Int} (h : Lst m a b v) : Lst m b a v:=⟨h.1.symm hv,fun k w=>h.2 k (w.symm hv)⟩
def mR (m : Msh) (S : List Nat) (i k : Nat) : Prop:=i < m.f.length /\ k < m.f.length /\ i ∈ S /\ k ∈ S /\ ∃ c,c < 3 /\ nbF m i c=k
structure ju (m : Msh) (P : List Nat) : Prop where
 perm : P.Perm (List.range m.f.length)
 srt : P.Pairwise fun a b=>ce m a <= ce m b
theorem ju.len {m : Msh} {P : List Nat} (h : ju m P) : P.length=m.f.length:=by
 have:=h.perm.length_eq
 simpa using this
theorem ju.lt {m : Msh} {P : List Nat} (h : ju m P) {p : Nat} (hp : p < P.length) : P[p] < m.f.length:=by
 have:=h.perm.mem_iff.1 (x0t hp)
 simpa using this
theorem ju.mem {m : Msh} {P : List Nat} (h : ju m P) {x : Nat} (hx : x < m.f.length) : x ∈ P:=h.perm.mem_iff.2 (x0G.2 hx)
theorem ju.before {m : Msh} {P : List Nat} (h : ju m P) {p x : Nat} (hp : p < P.length) (hx : x < m.f.length) (hlt : suF m x < suF m P[p]) : x ∈ P.take p:=by
 obtain ⟨q,hq,e⟩:=List.getElem_of_mem (h.mem hx)
 have hpn:=h.lt hp
 rw [gR hx,gR hpn] at hlt
 by_cases hqp : q < p
 ·have hql : q < (P.take p).length:=by rw [x0L];omega
  have e3 : (P.take p)[q]=x:=by rw [List.getElem_take];exact e
  rw [<- e3]
  exact x0t _
 ·have h2 : ce m P[p] <= ce m P[q]:=by
   by_cases e2 : p=q
   ·subst e2;exact Int.le_refl _
   ·exact List.pairwise_iff_getElem.1 h.srt p q hp hq (by omega)
  rw [e] at h2
  omega
theorem ju.upto {m : Msh} {P : List Nat} (h : ju m P) {p x : Nat} (hp : p < P.length) (hx : x ∈ P.take (p + 1)) : x < m.f.length /\ suF m x <= suF m P[p]:=by
 obtain ⟨q,hq,e⟩:=List.getElem_of_mem hx
 rw [x0L] at hq
 rw [List.getElem_take] at e
 have hqn:=h.lt (show q < P.length by omega)
 rw [e] at hqn
 refine ⟨hqn,?_⟩
 rw [gR hqn,gR (h.lt hp)]
 by_cases e2 : q=p
 ·subst e2;rw [e];exact Int.le_refl _
 ·have:=List.pairwise_iff_getElem.1 h.srt q p (by omega) hp (by omega)
  rw [e] at this
  exact this
def vJ (m : Msh) (S : List Nat) (a b : Nat) : Prop:=¬ (a ∈ S /\ b ∈ S /\ Cn (mR m S) a b)
theorem vJ.low {m : Msh} {P : List Nat} (hO : ju m P) {p a b : Nat} (hp : p < P.length) (ha : a < m.f.length) (hb : b < m.f.length) (hn : vJ m (P.take p) a b) {h : Int} (w : Way m h a b) : suF m P[p] <= h:=by
 by_cases hlt : h < suF m P[p]
 ·exfalso
  apply hn
  refine ⟨hO.before hp ha (by have:=w.1;omega),hO.before hp hb (by have:=w.2.1;omega),w.2.2.mono ?_⟩
  rintro x y ⟨x1,y1,x2,y2,x3⟩
  exact ⟨x1,y1,hO.before hp x1 (by omega),hO.before hp y1 (by omega),x3⟩
 ·omega
theorem Rn {m : Msh} {P : List Nat} (hO : ju m P) {p a b : Nat} (hp : p < P.length) (ha : a < m.f.length) (hb : b < m.f.length) (hn : vJ m (P.take p) a b) (h1 : a ∈ P.take (p + 1)) (h2 : b ∈ P.take (p + 1)) (h3 : Cn (mR m (P.take (p + 1))) a b) : fY m a b=some (suF m P[p]):=by
 refine kM ⟨⟨(hO.upto hp h1).2,(hO.upto hp h2).2,h3.mono ?_⟩,fun h w=>hn.low hO hp ha hb w⟩
 rintro x y ⟨x1,y1,x2,y2,x3⟩
 exact ⟨x1,y1,(hO.upto hp x2).2,(hO.upto hp y2).2,x3⟩
theorem QX {m : Msh} {P : List Nat} (hO : ju m P) {a b : Nat} (ha : a < m.f.length) (hb : b < m.f.length) (hn : vJ m P a b) : fY m a b=none:=by
 refine kL fun v w=>hn ⟨hO.mem ha,hO.mem hb,w.2.2.mono ?_⟩
 rintro x y ⟨x1,y1,x2,y2,x3⟩
 exact ⟨x1,y1,hO.mem x1,hO.mem y1,x3⟩
end Go.Gv

namespace Go.Gv
variable {C : CC} (hC : aq prog C)
include hC
end Go.Gv

namespace Go.Gv
noncomputable def spV (m : Msh) (a b : Nat) : Int:=(fY m a b).getD 0
variable {C : CC} (hC : aq prog C)
include hC
end Go.Gv

namespace Go.Gv
def gK (m : Msh) (v : Int) : Nat:=List.countP (fun j=>decide (suF m j < v)) (List.range m.f.length)
theorem fc (m : Msh) (v : Int) : gK m v <= m.f.length:=by
 have:=List.countP_le_length (p:=fun j=>decide (suF m j < v)) (l:=List.range m.f.length)
 simpa [gK] using this
theorem rr {m : Msh} {v w : Int} {j : Nat} (hj : j < m.f.length) (h : suF m j=v) (hvw : v < w) : gK m v < gK m w:=by
 unfold gK
 have h1 : List.countP (fun x=>decide (suF m x < w)) (List.range m.f.length)=List.countP (fun x=>decide (suF m x < v)) (List.range m.f.length) + List.countP (fun x=>decide (v <= suF m x) && decide (suF m x < w)) (List.range m.f.length):=by
  induction List.range m.f.length with
  | nil=>rfl
  | cons x l ihl =>
   simp only [List.countP_cons,ihl]
   by_cases c1 : suF m x < v
   ·have c2 : suF m x < w:=by omega
    have c3 : ¬ v <= suF m x:=by omega
    simp [c1,c2,c3];omega
   ·by_cases c2 : suF m x < w
    ·have c3 : v <= suF m x:=by omega
     simp [c1,c2,c3];omega
    ·have c3 : v <= suF m x:=by omega
     simp [c1,c2,c3]
 have h2 : 0 < List.countP (fun x=>decide (v <= suF m x) && decide (suF m x < w)) (List.range m.f.length):=List.countP_pos_iff.2 ⟨j,x0G.2 hj,by simp [h,hvw]⟩
 omega
def Bs (m : Msh) (rc : List Bool) (lv : List Int) (i : Nat) : Nat:=if rc.getD i false=true then gK m (lv.getD i 0) else m.f.length + 1
def pF (f : Nat -> Nat) : Nat -> Nat
 | 0=>0
 | k + 1=>pF f k + f k
theorem rF {f g : Nat -> Nat} {i : Nat} (h : ∀ j,j ≠ i -> g j=f j) (hi : g i < f i) : ∀ n,(i < n -> pF g n < pF f n) /\ (n <= i -> pF g n=pF f n)
 | 0=>⟨fun h=>by omega,fun _=>rfl⟩
 | n + 1=>by
  obtain ⟨h1,h2⟩:=rF h hi n
  refine ⟨fun h3=>?_,fun h3=>?_⟩
  ·simp only [pF]
   by_cases e : n=i
   ·subst e
    have:=h2 (x0l _)
    omega
   ·have:=h1 (by omega)
    have:=h n e
    omega
  ·simp only [pF]
   rw [h2 (by omega),h n (by omega)]
def msr (m : Msh) (rc : List Bool) (lv : List Int) : Nat:=pF (Bs m rc lv) m.f.length
structure SpI (m : Msh) (a : Nat) (rc : List Bool) (lv : List Int) : Prop where
 rl : rc.length=m.f.length
 ll : lv.length=m.f.length
 un : ∀ i,i < m.f.length -> rc.getD i false=false -> lv.getD i 0=0
 way : ∀ i,i < m.f.length -> rc.getD i false=true -> Way m (lv.getD i 0) a i
 sm : ∀ i,i < m.f.length -> rc.getD i false=true -> ∃ j,j < m.f.length /\ suF m j=lv.getD i 0
 a0 : rc.getD a false=true /\ lv.getD a 0 <= suF m a
theorem SpI.init {m : Msh} {a : Nat} (ha : a < m.f.length) : SpI m a ((List.replicate m.f.length false).set a true) ((List.replicate m.f.length 0).set a (suF m a)):=by
 have g1 : ∀ i,((List.replicate m.f.length false).set a true).getD i false=if i=a then true else false:=fun i=>by
  rw [bf (by simpa using ha)]
  split
  ·rfl
  ·simp [x0R];split <;> rfl
 have g2 : ∀ i,((List.replicate m.f.length (0 : Int)).set a (suF m a)).getD i 0=if i=a then suF m a else 0:=fun i=>by
  rw [bf (by simpa using ha)]
  split
  ·rfl
  ·simp [x0R];split <;> rfl
 refine ⟨by simp,by simp,fun i _ h=>?_,fun i _ h=>?_,fun i _ h=>?_,by rw [g1,if_pos rfl],by rw [g2,if_pos rfl];exact Int.le_refl _⟩
 ·rw [g1] at h
  split at h
  ·cases h
  ·rename_i e;rw [g2,if_neg e]
 ·rw [g1] at h
  split at h
  ·rename_i e;subst e;rw [g2,if_pos rfl];exact ⟨Int.le_refl _,Int.le_refl _,.refl _⟩
  ·cases h
 ·rw [g1] at h
  split at h
  ·rename_i e;subst e;rw [g2,if_pos rfl];exact ⟨i,ha,rfl⟩
  ·cases h
theorem SpI.fall {m : Msh} (hv : ap m=true) {a i f c : Nat} {rc : List Bool} {lv : List Int} (h : SpI m a rc lv) (ha : a < m.f.length) (hi : i < m.f.length) (hc : c < 3) (hf : nbF m i c=f) (hr : rc.getD f false=true)
  (hlt : rc.getD i false=false \/ max (suF m i) (lv.getD f 0) < lv.getD i 0) : SpI m a (rc.set i true) (lv.set i (max (suF m i) (lv.getD f 0))) /\ msr m (rc.set i true) (lv.set i (max (suF m i) (lv.getD f 0))) < msr m rc lv:=by
 have hb:=dc m i c
 have hfn : f < m.f.length:=by omega
 have wf:=h.way f hfn hr
 obtain ⟨jf,hjf,ejf⟩:=h.sm f hfn hr
 obtain ⟨v,hvv⟩ : ∃ v,v=max (suF m i) (lv.getD f 0):=⟨_,rfl⟩
 rw [<- hvv] at hlt ⊢
 have g1 : ∀ k,(rc.set i true).getD k false=if k=i then true else rc.getD k false:=fun k=>bf (by rw [h.rl];exact hi)
 have g2 : ∀ k,(lv.set i v).getD k 0=if k=i then v else lv.getD k 0:=fun k=>bf (by rw [h.ll];exact hi)
 obtain ⟨c',hc',e'⟩:=iH hv hi hc (by omega)
 rw [hf] at e'
 have e'' : nbF m f c'=i:=by simpa using e'
 have wi : Way m v a i:=by
  have w:=wf.mono (k:=v) (by omega)
  exact ⟨w.1,by omega,.step w.2.2 ⟨hfn,hi,w.2.1,by omega,c',hc',e''⟩⟩
 have hsv : ∃ j,j < m.f.length /\ suF m j=v:=by
  by_cases hm : suF m i < lv.getD f 0
  ·exact ⟨jf,hjf,by omega⟩
  ·exact ⟨i,hi,by omega⟩
 refine ⟨⟨by simp [h.rl],by simp [h.ll],fun k hk hr9=>?_,fun k hk hr9=>?_,fun k hk hr9=>?_,?_,?_⟩,?_⟩
 ·rw [g1] at hr9
  split at hr9
  ·cases hr9
  ·rename_i e;rw [g2,if_neg e];exact h.un k hk hr9
 ·rw [g1] at hr9
  rw [g2]
  by_cases e : k=i
  ·rw [if_pos e,e];exact wi
  ·rw [if_neg e] at hr9 ⊢;exact h.way k hk hr9
 ·rw [g1] at hr9
  rw [g2]
  by_cases e : k=i
  ·rw [if_pos e];exact hsv
  ·rw [if_neg e] at hr9 ⊢;exact h.sm k hk hr9
 ·rw [g1];split;rfl;exact h.a0.1
 ·rw [g2]
  split
  ·rename_i e
   subst e
   rcases hlt with h1 | h1
   ·rw [h.a0.1] at h1;cases h1
   ·have:=h.a0.2;omega
  ·exact h.a0.2
 ·unfold msr
  refine (rF (i:=i) (fun j hj=>?_) ?_ m.f.length).1 hi
  ·unfold Bs
   rw [g1,g2,if_neg hj,if_neg hj]
  ·unfold Bs
   rw [g1,g2,if_pos rfl,if_pos rfl,if_pos rfl]
   rcases hlt with h1 | h1
   ·rw [h1,if_neg (by decide)]
    have:=fc m v
    omega
   ·cases hri : rc.getD i false
    ·rw [if_neg (by decide)]
     have:=fc m v
     omega
    ·rw [if_pos rfl]
     obtain ⟨j,hj,ej⟩:=hsv
     exact rr hj ej h1
def xX (m : Msh) (rc : List Bool) (lv : List Int) (i c : Nat) : Prop:=∀ f : Nat,nbF m i c=f -> rc.getD f false=true -> rc.getD i false=true /\ lv.getD i 0 <= max (suF m i) (lv.getD f 0)
theorem SpI.least {m : Msh} (hv : ap m=true) {a : Nat} {rc : List Bool} {lv : List Int} (h : SpI m a rc lv) (hs : ∀ i c,i < m.f.length -> c < 3 -> xX m rc lv i c) {k : Int} {b : Nat} (h0 : suF m a <= k) (w : Cn (hR m k) a b) : rc.getD b false=true /\ lv.getD b 0 <= k:=by
 induction w with
 | refl=>exact ⟨h.a0.1,by have:=h.a0.2;omega⟩
 | step _ r ih =>
  obtain ⟨r1,r2,r3,r4,c,hc,e⟩:=r
  obtain ⟨c',hc',e'⟩:=iH hv r1 hc (by omega)
  rw [e] at e'
  obtain ⟨q1,q2⟩:=hs _ c' r2 hc' _ (by simpa using e') ih.1
  exact ⟨q1,by omega⟩
theorem SpI.end {m : Msh} (hv : ap m=true) {a b : Nat} (hb : b < m.f.length) {rc : List Bool} {lv : List Int} (h : SpI m a rc lv) (hs : ∀ i c,i < m.f.length -> c < 3 -> xX m rc lv i c) :
  lv.getD b 0=spV m a b /\ rc.getD b false=(fY m a b).isSome:=by
 cases hr : rc.getD b false
 ·have hn : fY m a b=none:=kL fun v w=>by
   have:=(h.least hv hs w.1 w.2.2).1
   rw [hr] at this;cases this
  unfold spV
  rw [hn]
  exact ⟨h.un b hb hr,rfl⟩
 ·have hl : Lst m a b (lv.getD b 0):=⟨h.way b hb hr,fun k w=>(h.least hv hs w.1 w.2.2).2⟩
  unfold spV
  rw [kM hl]
  exact ⟨rfl,rfl⟩
end Go.Gv

namespace Go.Gv
def inl (w : List Int) (f : Nat) : Int:=d3 (fun x=>decide (x=(f : Int))) w
theorem ud (w : List Int) (f : Nat) : -1 <= inl w f /\ inl w f < w.length:=nX _ _
inductive TrR (m : Msh) (w : List Int) : Nat -> Option Int -> List Nat -> Prop
 | inlet {f : Nat} : inl w f ≠ -1 -> TrR m w f none []
 | off {f : Nat} : inl w f=-1 -> cW m f=-1 -> TrR m w f none []
 | run {f g : Nat} {l : List Nat} : inl w f=-1 -> cW m f=g -> TrR m w g none l -> TrR m w f none (g::l)
 | lake {f : Nat} {l : List Nat} : inl w f=-1 -> cW m f=-2 -> TrR m w f (some (spF m f)) l -> TrR m w f none l
 | low {f : Nat} {h : Int} {l : List Nat} : spF m f < h -> TrR m w f none l -> TrR m w f (some h) l
 | stay {f : Nat} {h : Int} : h <= spF m f -> ouF m f=-1 -> TrR m w f (some h) []
 | hit {f g : Nat} {h : Int} : h <= spF m f -> ouF m f=g -> inl w g ≠ -1 -> TrR m w f (some h) [g]
 | out {f g : Nat} {h : Int} {l : List Nat} : h <= spF m f -> ouF m f=g -> inl w g=-1 -> TrR m w g (some h) l -> TrR m w f (some h) (g::l)
theorem TrR.uniq {m : Msh} {w : List Int} {f : Nat} {L : Option Int} {l l' : List Nat} (h : TrR m w f L l) : TrR m w f L l' -> l=l':=by
 induction h generalizing l' with
 | inlet h1 =>
  intro g
  cases g with
  | inlet _=>rfl
  | off g1 _=>exact absurd g1 h1
  | run g1 _ _=>exact absurd g1 h1
  | lake g1 _ _=>exact absurd g1 h1
 | off h1 h2 =>
  intro g
  cases g with
  | inlet g1=>rfl
  | off _ _=>rfl
  | run _ g2 _=>omega
  | lake _ g2 _=>omega
 | run h1 h2 _ ih =>
  intro g
  cases g with
  | inlet g1=>exact absurd h1 g1
  | off _ g2=>omega
  | @run _ g' _ _ g2 g3 =>
   have : g'=_:=Int.ofNat.inj (g2.symm.trans h2)
   subst this
   rw [ih g3]
  | lake _ g2 _=>omega
 | lake h1 h2 _ ih =>
  intro g
  cases g with
  | inlet g1=>exact absurd h1 g1
  | off _ g2=>omega
  | run _ g2 _=>omega
  | lake _ _ g3=>exact ih g3
 | low h1 _ ih =>
  intro g
  cases g with
  | low _ g2=>exact ih g2
  | stay g1 _=>omega
  | hit g1 _ _=>omega
  | out g1 _ _ _=>omega
 | stay h1 h2 =>
  intro g
  cases g with
  | low g1 _=>omega
  | stay _ _=>rfl
  | hit _ g2 _=>omega
  | out _ g2 _ _=>omega
 | hit h1 h2 h3 =>
  intro g
  cases g with
  | low g1 _=>omega
  | stay _ g2=>omega
  | @hit _ g' _ _ g2 _ =>
   have : g'=_:=Int.ofNat.inj (g2.symm.trans h2)
   rw [this]
  | @out _ g' _ _ _ g2 g3 _ =>
   have : g'=_:=Int.ofNat.inj (g2.symm.trans h2)
   subst this
   exact absurd g3 h3
 | out h1 h2 h3 _ ih =>
  intro g
  cases g with
  | low g1 _=>omega
  | stay _ g2=>omega
  | @hit _ g' _ _ g2 g3 =>
   have : g'=_:=Int.ofNat.inj (g2.symm.trans h2)
   subst this
   exact absurd h3 g3
  | @out _ g' _ _ _ g2 _ g4 =>
   have : g'=_:=Int.ofNat.inj (g2.symm.trans h2)
   subst this
   rw [ih g4]
def dst (ou : List Int) : Nat -> Nat -> Nat
 | 0,_=>0
 | k + 1,a=>if ou.getD a 0=-1 then 0 else dst ou k (ou.getD a 0).toNat + 1
theorem kV {n : Nat} {ou : List Int} {rc : List Bool} : ∀ {d a : Nat},lj n ou rc d a -> ∀ k,d <= k -> dst ou k a=d
 | 0,a,h,k,_=>by
  cases k with
  | zero=>rfl
  | succ k =>
   have h : ou.getD a 0=-1:=h
   simp only [dst,h,if_true]
 | d + 1,a,⟨b,_,e1,_,e3⟩,k,hk=>by
  cases k with
  | zero=>omega
  | succ k =>
   simp only [dst,e1]
   rw [if_neg (by omega)]
   simp only [x1t]
   rw [kV e3 k (by omega)]
def dsF (m : Msh) (a : Nat) : Nat:=dst (a6 m).ou m.f.length a
theorem nL {m : Msh} (hv : ap m=true) {a : Nat} (ha : a < m.f.length) : dsF m a <= m.f.length:=by
 obtain ⟨d,hd,he⟩:=fQ hv ha
 unfold dsF
 rw [kV he _ hd]
 exact hd
theorem lx {m : Msh} (hv : ap m=true) {a b : Nat} (ha : a < m.f.length) (e : ouF m a=b) : dsF m b < dsF m a /\ b < m.f.length:=by
 obtain ⟨d,hd,he⟩:=fQ hv ha
 cases d with
 | zero =>
  have e2 : ouF m a=-1:=he
  omega
 | succ d =>
  obtain ⟨c,hc,e1,_,e3⟩:=id he
  have e2 : ouF m a=c:=e1
  have : c=b:=by omega
  subst this
  unfold dsF
  rw [kV he _ hd,kV e3 _ (by omega)]
  exact ⟨by omega,hc⟩
theorem ow {m : Msh} (hv : ap m=true) {a : Nat} (ha : a < m.f.length) : ∃ j,j < m.f.length /\ suF m j=spF m a:=by
 have key : ∀ (d a : Nat),a < m.f.length -> lj m.f.length (a6 m).ou (cH m).rc d a -> ∃ j,j < m.f.length /\ suF m j=spF m a:=by
  intro d
  induction d with
  | zero =>
   intro a ha he
   have e : ouF m a=-1:=he
   have hb : bsd m a (-1)=true:=by
    cases h : bsd m a (-1)
    ·obtain ⟨z,_,h2,_⟩:=ii hv ha h
     omega
    ·rfl
   exact ⟨a,ha,(ig hv ha hb).1.symm⟩
  | succ d ih =>
   intro a ha ⟨b,hb,e1,_,e3⟩
   obtain ⟨j,hj,ej⟩:=ih b hb e3
   have e : ouF m a=b:=e1
   cases h : bsd m a (-1)
   ·obtain ⟨z,_,h5,_,h6⟩:=ii hv ha h
    have : z=b:=by omega
    subst this
    by_cases hm : suF m a < spF m z
    ·exact ⟨j,hj,by omega⟩
    ·exact ⟨a,ha,by omega⟩
   ·have:=(ig hv ha h).2
    omega
 obtain ⟨d,_,he⟩:=fQ hv ha
 exact key d a ha he
theorem zj {m : Msh} (hv : ap m=true) {a b : Nat} (ha : a < m.f.length) (e : ouF m a=b) : spF m b <= spF m a:=by
 cases h : bsd m a (-1)
 ·obtain ⟨z,_,h5,_,h6⟩:=ii hv ha h
  have : z=b:=by omega
  subst this
  omega
 ·have:=(ig hv ha h).2
  omega
theorem qG {m : Msh} (hv : ap m=true) {a b : Nat} (ha : a < m.f.length) (e : cW m a=b) : b < m.f.length /\ suF m b < suF m a /\ spF m b <= spF m a:=by
 rcases ov m a with h | h | ⟨h1,h2,h3⟩
 ·omega
 ·omega
 ·have hbn : b < m.f.length:=by omega
  rw [e] at h3
  simp only [x1t] at h3
  obtain ⟨c,hc,ec⟩:=BM (m:=m) (i:=a) (by omega)
  rw [e] at ec
  obtain ⟨c',hc',e'⟩:=iH hv ha hc (by omega)
  rw [ec] at e'
  have hle:=vh hv hbn hc' (x:=a) (by simpa using e')
  have hge:=KA hv ha
  rw [<- gR hbn,<- gR ha] at h3
  exact ⟨hbn,h3,by omega⟩
theorem ia {m : Msh} {v w : Int} (hj : ∃ j,j < m.f.length /\ suF m j=v) (h : v < w) : gK m v < gK m w:=by
 obtain ⟨j,hj,ej⟩:=hj
 exact rr hj ej h
def trM (m : Msh) (f : Nat) : Option Int -> Nat
 | none=>(gK m (spF m f) * 3 + 1) * (m.f.length + 2) + gK m (suF m f)
 | some h=>if spF m f < h then (gK m (spF m f) * 3 + 2) * (m.f.length + 2) else (gK m (spF m f) * 3) * (m.f.length + 2) + dsF m f
theorem mC {a b N x y : Nat} (h : a < b) (hx : x < N) : a * N + x < b * N + y:=by
 have : (a + 1) * N <= b * N:=x0n _ h
 rw [x0E] at this
 omega
theorem TrR.ex {m : Msh} (hv : ap m=true) (w : List Int) : ∀ (k f : Nat) (L : Option Int),f < m.f.length -> trM m f L=k -> ∃ l,TrR m w f L l /\ (∀ x ∈ l,x < m.f.length) /\ l.length <= k:=by
 intro k
 induction k using Nat.strongRecOn with
 | _ k ih =>
  intro f L hf hk
  have b1:=fc m (suF m f)
  have b2:=nL hv hf
  cases L with
  | none =>
   by_cases hi : inl w f=-1
   ·rcases ov m f with h | h | ⟨h1,h2,h3⟩
    ·exact ⟨[],.off hi h,by simp,by simp⟩
    ·have hlt : trM m f (some (spF m f)) < k:=by
      rw [<- hk]
      simp only [trM]
      rw [if_neg (by omega)]
      exact mC (by omega) (by omega)
     obtain ⟨l,h4,h5,h6⟩:=ih _ hlt f _ hf rfl
     exact ⟨l,.lake hi h h4,h5,by omega⟩
    ·obtain ⟨g,hg⟩ : ∃ g : Nat,cW m f=g:=⟨(cW m f).toNat,by omega⟩
     obtain ⟨g1,g2,g3⟩:=qG hv hf hg
     have hlt : trM m g none < k:=by
      rw [<- hk]
      simp only [trM]
      have b3:=fc m (suF m g)
      by_cases e : spF m g=spF m f
      ·rw [e]
       have:=ia (m:=m) ⟨g,g1,rfl⟩ g2
       omega
      ·have:=ia (m:=m) (ow hv g1) (show spF m g < spF m f by omega)
       exact mC (by omega) (by omega)
     obtain ⟨l,h4,h5,h6⟩:=ih _ hlt g _ g1 rfl
     exact ⟨g::l,.run hi hg h4,fun x hx=>by rcases x0I.1 hx with e | e;rw [e];exact g1;exact h5 x e,by simp only [x0O];omega⟩
   ·exact ⟨[],.inlet hi,by simp,by simp⟩
  | some h =>
   by_cases hlow : spF m f < h
   ·have hlt : trM m f none < k:=by
     rw [<- hk]
     simp only [trM]
     rw [if_pos hlow]
     exact mC (a:=gK m (spF m f) * 3 + 1) (b:=gK m (spF m f) * 3 + 2) (N:=m.f.length + 2) (y:=0) (by omega) (by omega)
    obtain ⟨l,h4,h5,h6⟩:=ih _ hlt f _ hf rfl
    exact ⟨l,.low hlow h4,h5,by omega⟩
   ·obtain ⟨d,hd,he⟩:=fQ hv hf
    cases d with
    | zero=>exact ⟨[],.stay (by omega) he,by simp,by simp⟩
    | succ d =>
     obtain ⟨g,hg,e1,_,e3⟩:=he
     have e2 : ouF m f=g:=e1
     by_cases hig : inl w g=-1
     ·obtain ⟨q1,q2⟩:=lx hv hf e2
      have q3:=zj hv hf e2
      have b3:=nL hv hg
      have hlt : trM m g (some h) < k:=by
       rw [<- hk]
       simp only [trM]
       rw [if_neg hlow]
       by_cases e : spF m g=spF m f
       ·rw [e,if_neg hlow]
        omega
       ·have:=ia (m:=m) (ow hv hg) (show spF m g < spF m f by omega)
        split
        ·exact mC (x:=0) (by omega) (by omega)
        ·exact mC (by omega) (by omega)
      obtain ⟨l,h4,h5,h6⟩:=ih _ hlt g _ hg rfl
      exact ⟨g::l,.out (by omega) e2 hig h4,fun x hx=>by rcases x0I.1 hx with e | e;rw [e];exact hg;exact h5 x e,by simp only [x0O];omega⟩
     ·obtain ⟨q1,_⟩:=lx hv hf e2
      refine ⟨[g],.hit (by omega) e2 hig,fun x hx=>by simp at hx;rw [hx];exact hg,?_⟩
      rw [<- hk]
      simp only [trM]
      rw [if_neg hlow]
      simp only [List.length_singleton]
      omega
open Classical in
noncomputable def trF (m : Msh) (w : List Int) (f : Nat) : List Nat:=if h : ∃ l,TrR m w f none l then Classical.choose h else []
theorem vj {m : Msh} {w : List Int} {f : Nat} {l : List Nat} (h : TrR m w f none l) : trF m w f=l:=by
 have hex : ∃ l,TrR m w f none l:=⟨l,h⟩
 unfold trF
 rw [dif_pos hex]
 exact (Classical.choose_spec hex).uniq h
theorem jq {m : Msh} (hv : ap m=true) (w : List Int) {f : Nat} (hf : f < m.f.length) : TrR m w f none (trF m w f) /\ (∀ x ∈ trF m w f,x < m.f.length) /\ (trF m w f).length <= trM m f none:=by
 obtain ⟨l,h1,h2,h3⟩:=TrR.ex hv w _ f none hf rfl
 rw [vj h1]
 exact ⟨h1,h2,h3⟩
noncomputable def laF (m : Msh) (w : List Int) (f : Nat) : Nat:=(f::trF m w f).getLast (by simp)
noncomputable def enF (m : Msh) (w : List Int) (f : Nat) : Int:=inl w (laF m w f)
theorem AV {m : Msh} (hv : ap m=true) (w : List Int) {f : Nat} (hf : f < m.f.length) : laF m w f < m.f.length:=by
 have h:=List.getLast_mem (l:=f::trF m w f) (by simp)
 rcases x0I.1 h with e | e
 ·unfold laF;rw [e];exact hf
 ·exact (jq hv w hf).2.1 _ e
theorem vm {m : Msh} (hv : ap m=true) (f : Nat) : trM m f none <= 50000000:=by
 have h1:=(b5 hv).2
 have h2:=fc m (spF m f)
 have h3:=fc m (suF m f)
 simp only [trM]
 have h4 : (gK m (spF m f) * 3 + 1) * (m.f.length + 2) <= 12001 * 4002:=Nat.mul_le_mul (by omega) (by omega)
 omega
end Go.Gv

namespace Go.Gv
theorem mP {d : Array Int} (hs : ∀ j,0 < j -> j < d.size -> d[j - 1]! <= d[j]!) : ∀ m,m <= d.size -> (Lib.compactUpTo d m).Pairwise (· < ·) /\ (∀ x,x ∈ Lib.compactUpTo d m ↔ ∃ j,j < m /\ d[j]! = x) /\ ∀ x ∈ Lib.compactUpTo d m,x <= d[m - 1]!
 | 0,_=>by simp [Lib.compactUpTo]
 | m + 1,hm=>by
  obtain ⟨h1,h2,h3⟩:=mP hs m (by omega)
  rw [Lib.compactUpTo_succ]
  by_cases hk : Lib.keeps d m=true
  ·rw [if_pos hk]
   have hlt : ∀ x ∈ Lib.compactUpTo d m,x < d[m]!:=fun x hx=>by
    have h4:=h3 x hx
    simp only [Lib.keeps,x0g] at hk
    rcases hk with rfl | hk
    ·obtain ⟨j,hj,_⟩:=(h2 x).1 hx;omega
    ·rcases x0N m with h0 | h0
     ·subst h0;obtain ⟨j,hj,_⟩:=(h2 x).1 hx;omega
     ·have:=hs m h0 (by omega);omega
   refine ⟨List.pairwise_append.2 ⟨h1,by simp,fun a ha b hb=>by simp at hb;subst hb;exact hlt a ha⟩,fun x=>?_,fun x hx=>?_⟩
   ·simp only [x0m,x05,h2]
    constructor
    ·rintro (⟨j,hj,rfl⟩ | rfl)
     ·exact ⟨j,by omega,rfl⟩
     ·exact ⟨m,by omega,rfl⟩
    ·rintro ⟨j,hj,rfl⟩
     by_cases e : j=m
     ·exact .inr (by rw [e])
     ·exact .inl ⟨j,by omega,rfl⟩
   ·simp only [x0m,x05] at hx
    rcases hx with hx | hx
    ·exact Int.le_of_lt (hlt x hx)
    ·rw [hx];exact Int.le_refl _
  ·rw [if_neg hk,List.append_nil]
   have hm0 : 0 < m:=by
    rcases x0N m with h | h
    ·subst h;exact absurd (Lib.keeps_lt_one d 0 (by omega)) hk
    ·exact h
   have he : d[m]! = d[m - 1]!:=by
    apply Classical.byContradiction
    intro h
    exact hk (Lib.keeps_pos h)
   refine ⟨h1,fun x=>?_,fun x hx=>?_⟩
   ·rw [h2]
    constructor
    ·rintro ⟨j,hj,rfl⟩;exact ⟨j,by omega,rfl⟩
    ·rintro ⟨j,hj,rfl⟩
     by_cases e : j=m
     ·subst e;exact ⟨j - 1,by omega,he.symm⟩
     ·exact ⟨j,by omega,rfl⟩
   ·have:=h3 x hx
    simp only [Nat.add_sub_cancel,he]
    exact this
theorem eX : ∀ {l k : List Int},l.Nodup -> (∀ x ∈ l,x ∈ k) -> l.length <= k.length /\ (l.length=k.length -> k.Nodup)
 | [],k,_,_=>⟨by simp,fun h=>by
  have : k=[]:=x0v (by simpa using h.symm)
  rw [this];exact List.nodup_nil⟩
 | x::l,k,hn,hs=>by
  have hx : x ∈ k:=hs x (by simp)
  have hp:=List.perm_cons_erase hx
  have hxl : x ∉ l:=(x1F.1 hn).1
  obtain ⟨h1,h2⟩:=eX (l:=l) (k:=k.erase x) (x1F.1 hn).2 fun y hy=>(List.mem_erase_of_ne (fun e=>hxl (by rw [<- e];exact hy))).2 (hs y (by simp [hy]))
  have hl:=hp.length_eq
  simp only [x0O] at hl ⊢
  refine ⟨by omega,fun h=>?_⟩
  have h3:=h2 (by omega)
  have h4 : (x::k.erase x).Nodup:=x1F.2 ⟨fun hc=>?_,h3⟩
  ·exact (hp.nodup_iff).2 h4
  ·
   have hp2:=List.perm_cons_erase hc
   have hl2:=hp2.length_eq
   simp only [x0O] at hl2
   obtain ⟨q1,_⟩:=eX (l:=l) (k:=(k.erase x).erase x) (x1F.1 hn).2 fun y hy=>by
    have hne : y ≠ x:=fun e=>hxl (by rw [<- e];exact hy)
    exact (List.mem_erase_of_ne hne).2 ((List.mem_erase_of_ne hne).2 (hs y (by simp [hy])))
   omega
theorem pQ (zs : List Int) : (Lib.compact (zs.mergeSort fun x y=>decide (x <= y))).length < zs.length ↔ ¬ zs.Nodup:=by
 obtain ⟨ys,hy⟩ : ∃ ys,ys=zs.mergeSort fun x y=>decide (x <= y):=⟨_,rfl⟩
 rw [<- hy]
 have hpm : ys.Perm zs:=by rw [hy];exact List.mergeSort_perm zs _
 have hp : ys.Pairwise (· <= ·):=by
  have h:=List.pairwise_mergeSort (le:=fun x y : Int=>decide (x <= y)) (fun a b c h1 h2=>by simp at *;omega) (fun a b=>by simp;omega) zs
  rw [<- hy] at h
  exact h.imp fun h=>by simpa using h
 have hs : ∀ j,0 < j -> j < ys.toArray.size -> ys.toArray[j - 1]! <= ys.toArray[j]!:=fun j h1 h2=>by
  have h3 : j < ys.length:=by simpa using h2
  rw [x0Z ys.toArray (j - 1) (by simpa using (by omega : j - 1 < ys.length)),x0Z ys.toArray j h2]
  exact List.pairwise_iff_getElem.1 hp (j - 1) j (by omega) h3 (by omega)
 obtain ⟨h1,h2,_⟩:=mP hs ys.length (by simp)
 have hmem : ∀ x,x ∈ Lib.compact ys ↔ x ∈ ys:=fun x=>by
  unfold Lib.compact
  rw [h2]
  constructor
  ·rintro ⟨j,hj,rfl⟩
   rw [x0Z ys.toArray j (by simpa using hj)]
   exact x0t (l:=ys) hj
  ·intro hx
   obtain ⟨j,hj,e⟩:=x0J.1 hx
   exact ⟨j,hj,by rw [x0Z ys.toArray j (by simpa using hj)];simpa using e⟩
 have hnd : (Lib.compact ys).Nodup:=by
  unfold Lib.compact
  exact h1.imp fun h=>by omega
 obtain ⟨q1,q2⟩:=eX hnd fun x hx=>(hmem x).1 hx
 rw [<- hpm.length_eq,<- hpm.nodup_iff]
 constructor
 ·intro hlt hn
  obtain ⟨q3,_⟩:=eX hn fun x hx=>(hmem x).2 hx
  omega
 ·intro hn
  by_cases he : (Lib.compact ys).length=ys.length
  ·exact absurd (q2 he) hn
  ·omega
end Go.Gv

namespace Go.Gv
@[simp] theorem J8 (l : List (List Nat)) : (J7 l).length=l.length:=by simp [J7]
variable {C : CC} (hC : aq prog C)
include hC
end Go.Gv

namespace Go.Gv
structure SlW (C : CC) : Prop where
 sort : ∀ zs : List Int,zs.length < 2 ^ 40 -> C 366 [.own 1 (zs.map fun n=>[.int .i64 n])] .any [.own 1 ((zs.mergeSort fun x y=>decide (x <= y)).map fun n=>[.int .i64 n]),.nilp]
 compact : ∀ zs : List Int,zs.length < 2 ^ 40 -> C 523 [.own 1 (zs.map fun n=>[.int .i64 n])] .any [.own 1 ((Lib.compact zs).map fun n=>[.int .i64 n]),.nils,.nils]
def inM (m : Msh) (x : Int) : Bool:=decide (0 <= x) && decide (x < m.f.length)
def gvE (m : Msh) (l ks : List Int) : Int :=
 if ap m=false then 1 else if 300 < l.length then 4 else if (l.any fun x=>!inM m x)=true then 2 else if (ks.any fun k=>!dN l.length k)=true then 2 else if l.Nodup then 0 else 10
def nY (m : Msh) (l : List Int) : Bool:=decide (40 < m.s.length /\ m.s.length <= 2000) || decide (60 < m.f.length /\ m.f.length <= 4000) || decide (2050 < m.s.length) || decide (4050 < m.f.length) || decide (30 < l.length /\ l.length <= 300) || decide (600 < l.length)
theorem lT {l : List Int} : l.Nodup ↔ ∀ i (h : i < l.length),d3 (fun x=>decide (x=l[i])) (l.take i)=-1:=by
 constructor
 ·intro hn i hi
  refine dM fun j hj=>?_
  rw [x0L] at hj
  rw [List.getElem_take,x0p]
  intro e
  have:=(List.getElem_inj hn).1 e
  omega
 ·intro h
  rw [List.nodup_iff_pairwise_ne,List.pairwise_iff_getElem]
  intro i j hi hj hij e
  have h1:=h j hj
  have hit : i < (l.take j).length:=by rw [x0L];omega
  have h2 : 0 <= d3 (fun x=>decide (x=l[j])) (l.take j):=by
   have h3 : decide (0 <= d3 (fun x=>decide (x=l[j])) (l.take j))=true:=by
    rw [gz,x0y]
    exact ⟨l[i],by rw [<- List.getElem_take (h:=hit)];exact x0t _,by simp [e]⟩
   simpa using h3
  omega
section
variable {C : CC} (hC : aq prog C)
include hC
theorem wX (b : Bool) (l : List Int) (x : Int) (hl : l.length < 2 ^ 40) : C 877 [slx b (l.map fun n=>[.int .i64 n]),.int .i64 x] (.int .i64 (d3 (fun y=>decide (y=x)) l)) []:=by
 obtain ⟨R,hR⟩ : ∃ R,R=d3 (fun y=>decide (y=x)) l:=⟨_,rfl⟩
 rw [<- hR]
 refine aE hC (nf:=N877) rfl rfl ?_
 simp [N877]
 refine az Nat (fun i=>[(0,slx b (l.map fun n=>[.int .i64 n])),(1,.int .i64 x),(5,.int .i64 i)]) (fun i=>i <= l.length /\ ∀ (j : Nat) (h : j < l.length),j < i -> l[j] ≠ x) (fun i=>l.length - i) 0 (by simp) (by simp) ?_
 rintro i ⟨hi,hok⟩
 have hw : IntKind.wrap .i64 ((i : Int) + 1)=((i + 1 : Nat) : Int):=ah (by omega) (by omega)
 simp
 refine al (fun g1=>?_) (fun g1=>?_) <;> simp at g1 <;> simp [g1]
 ·by_cases h2 : l[i]=x
  ·have e:=eD (p:=fun y=>decide (y=x)) (xs:=l) (i:=i) (fun j h hj=>decide_eq_false (hok j h hj)) g1 (decide_eq_true h2)
   rw [e] at hR
   simp [h2,hR]
  ·simp [h2]
   refine ⟨i + 1,⟨by omega,fun j h hj=>?_⟩,by omega,hw⟩
   rcases x0H.1 hj with h5 | rfl
   ·exact hok j h h5
   ·exact h2
 ·rw [hR]
  exact (dM (p:=fun y=>decide (y=x)) (xs:=l) fun j hj=>decide_eq_false (hok j hj (by omega))).symm
theorem sB (m : Msh) (b : Bool) (l : List Int) : C 857 [.agg (bi m),slx b (l.map fun n=>[.int .i64 n])] (.bool (nY m l)) []:=by
 obtain ⟨R,hR⟩ : ∃ R,R=nY m l:=⟨_,rfl⟩
 rw [<- hR]
 refine aE hC (nf:=N857) rfl rfl ?_
 simp [N857,ae]
 have yes : (40 < m.s.length /\ m.s.length <= 2000) \/ (60 < m.f.length /\ m.f.length <= 4000) \/ 2050 < m.s.length \/ 4050 < m.f.length \/ (30 < l.length /\ l.length <= 300) \/ 600 < l.length -> R=true:=fun h=>by
  rw [hR]
  simp only [nY,x02,x0g]
  omega
 have no : ¬ ((40 < m.s.length /\ m.s.length <= 2000) \/ (60 < m.f.length /\ m.f.length <= 4000) \/ 2050 < m.s.length \/ 4050 < m.f.length \/ (30 < l.length /\ l.length <= 300) \/ 600 < l.length) -> R=false:=fun h=>by
  rw [hR,<- Bool.not_eq_true]
  simp only [nY,x02,x0g]
  omega
 clear hR
 by_cases s1 : 40 < m.s.length /\ m.s.length <= 2000
 ·simp [show (40 : Int) < m.s.length by omega,show (m.s.length : Int) <= 2000 by omega,yes (.inl s1)]
 by_cases f1 : 60 < m.f.length /\ m.f.length <= 4000
 ·have hy:=yes (.inr (.inl f1))
  by_cases s2 : (40 : Int) < m.s.length
  ·simp [s2,show ¬ (m.s.length : Int) <= 2000 by omega,show (60 : Int) < m.f.length by omega,show (m.f.length : Int) <= 4000 by omega,hy]
  ·simp [s2,show (60 : Int) < m.f.length by omega,show (m.f.length : Int) <= 4000 by omega,hy]
 by_cases s3 : (2050 : Int) < m.s.length
 ·have hy:=yes (.inr (.inr (.inl (by omega))))
  by_cases f2 : (60 : Int) < m.f.length
  ·simp [show (40 : Int) < m.s.length by omega,show ¬ (m.s.length : Int) <= 2000 by omega,f2,show ¬ (m.f.length : Int) <= 4000 by omega,s3,hy]
  ·simp [show (40 : Int) < m.s.length by omega,show ¬ (m.s.length : Int) <= 2000 by omega,f2,s3,hy]
 have cs : ((40 : Int) < m.s.length /\ ¬ (m.s.length : Int) <= 2000) \/ ¬ (40 : Int) < m.s.length:=by omega
 have cf : ((60 : Int) < m.f.length /\ ¬ (m.f.length : Int) <= 4000) \/ ¬ (60 : Int) < m.f.length:=by omega
 rcases cs with ⟨a1,a2⟩ | a1 <;> rcases cf with ⟨b1,b2⟩ | b1
 case' inl.inl=>simp [a1,a2,b1,b2,s3]
 case' inl.inr=>simp [a1,a2,b1,s3]
 case' inr.inl=>simp [a1,b1,b2,s3]
 case' inr.inr=>simp [a1,b1,s3]
 all_goals
  refine al (fun g4=>?_) (fun g4=>?_) <;> simp at g4
  ·have hy:=yes (.inr (.inr (.inr (.inl (by omega)))))
   simp [g4,hy]
  ·by_cases l1 : 30 < l.length /\ l.length <= 300
   ·have hy:=yes (.inr (.inr (.inr (.inr (.inl (by omega))))))
    simp [g4,show (30 : Int) < l.length by omega,show (l.length : Int) <= 300 by omega,hy]
   ·by_cases l3 : (600 : Int) < l.length
    ·have hy:=yes (.inr (.inr (.inr (.inr (.inr (by omega))))))
     simp [g4,show (30 : Int) < l.length by omega,show ¬ (l.length : Int) <= 300 by omega,l3,hy]
    ·have hn:=no (by omega)
     by_cases l2 : (30 : Int) < l.length
     ·simp [g4,l2,show ¬ (l.length : Int) <= 300 by omega,l3,hn]
     ·simp [g4,l2,l3,hn]
end
end Go.Gv

namespace Go.Gv
theorem gY {m : Msh} {x : Int} : inM m x=false ↔ x < 0 \/ (m.f.length : Int) <= x:=by
 unfold inM
 rw [<- Bool.not_eq_true]
 simp only [x0a,x0g]
 omega
theorem o6 {m : Msh} {x : Int} : inM m x=true ↔ 0 <= x /\ x < m.f.length:=by
 unfold inM
 simp only [x0a,x0g]
theorem gZ {n : Nat} {x : Int} : dN n x=true ↔ 0 <= x /\ x < n:=by
 unfold dN
 simp only [x0a,x0g]
theorem tm {m : Msh} {l : List Int} {i : Nat} (h : i < l.length) (hb : inM m l[i]=false) : (l.any fun x=>!inM m x)=true:=by
 rw [x0y]
 exact ⟨l[i],x0t _,by simp [hb]⟩
theorem t6 {m : Msh} {l : List Int} (h : ∀ i (h : i < l.length),inM m l[i]=true) : (l.any fun x=>!inM m x)=false:=by
 rw [<- Bool.not_eq_true,x0y]
 rintro ⟨x,hx,e⟩
 obtain ⟨i,hi,rfl⟩:=List.getElem_of_mem hx
 simp [h i hi] at e
theorem wE (l : List Int) : ∀ e ∈ inR l,e.length=1:=by
 intro e he
 obtain ⟨x,_,rfl⟩:=x0q.1 he
 rfl
section
variable {C : CC} (hC : aq prog C)
include hC
set_option maxHeartbeats 2000000 in
theorem qx (m : Msh) (hz : bY m=true -> m.s.length <= 100 /\ m.f.length <= 100) (b : Bool) (l : List Int) (hl : l.length < 2 ^ 40) (k : Int) (ck : Bool) : C 859 [.agg (bi m),slx b (inR l),.int .i64 k,.bool ck] (.int .i64 (gvE m l (if ck then [k] else []))) []:=by
 have k1:=uI hC m hz
 simp only [ae] at k1
 obtain ⟨R,hR⟩ : ∃ R,R=gvE m l (if ck then [k] else []):=⟨_,rfl⟩
 rw [<- hR]
 unfold gvE at hR
 refine aE hC (nf:=N859) rfl rfl ?_
 simp [N859,ae]
 refine aa k1 (.inl rfl) ?_
 cases hv : ap m
 ·rw [if_pos hv] at hR
  simp [hR]
 ·rw [if_neg (by simp [hv])] at hR
  have hsz:=(b5 hv).2
  simp
  by_cases h3 : (300 : Int) < l.length
  ·rw [if_pos (by omega)] at hR
   simp [h3,hR]
  ·rw [if_neg (by omega)] at hR
   simp [h3]
   refine az Nat (fun i=>[(1,slx b (inR l)),(2,.int .i64 k),(3,.bool ck),(4,.ptr [slx m.sn (List.map ez m.s),slx m.fn (List.map bk m.f)]),(9,.int .i64 i)])
    (fun i=>i <= l.length /\ ∀ (j : Nat) (h : j < l.length),j < i -> inM m l[j]=true) (fun i=>l.length - i) 0 (by simp) (by simp) ?_
   rintro i ⟨hi,hok⟩
   have hw : IntKind.wrap .i64 ((i : Int) + 1)=((i + 1 : Nat) : Int):=ah (by omega) (by omega)
   simp
   refine al (fun g1=>?_) (fun g1=>?_) <;> simp at g1 <;> simp [g1]
   ·obtain ⟨x,hx⟩ : ∃ x,x=l[i]:=⟨_,rfl⟩
    have hxg : (inR l)[i]? = some [.int .i64 x]:=by rw [fm g1,hx];simp [g1]
    by_cases c1 : x < 0
    ·rw [if_pos (tm g1 (gY.2 (.inl (by rw [<- hx];exact c1))))] at hR
     simp [ay hxg,c1,hR]
     exact ai (by decide +kernel)
    ·by_cases c2 : (m.f.length : Int) <= x
     ·rw [if_pos (tm g1 (gY.2 (.inr (by rw [<- hx];exact c2))))] at hR
      simp [ay hxg,c1,c2,hR]
      exact ai (by decide +kernel)
     ·simp [ay hxg,c1,c2]
      refine ⟨ai (by decide +kernel),i + 1,⟨by omega,fun j h hj=>?_⟩,by omega,hw⟩
      rcases x0H.1 hj with h5 | rfl
      ·exact hok j h h5
      ·exact o6.2 ⟨by omega,by omega⟩
   ·rw [if_neg (by rw [t6 fun j hj=>hok j hj (by omega)];decide)] at hR
    have hbad : ck=true -> (k < 0 \/ (l.length : Int) <= k) -> R=2:=fun h1 h2=>by
     subst h1
     rw [hR,if_pos]
     simp only [if_true,x1x,x1m,Bool.or_false,x0s]
     rw [<- Bool.not_eq_true,gZ]
     omega
    have hgood : (ck=true -> 0 <= k /\ k < l.length) -> R=if l.Nodup then 0 else 10:=fun h=>by
     rw [hR,if_neg]
     cases ck
     ·simp
     ·simp only [if_true,x1x,x1m,Bool.or_false,x0s]
      rw [gZ.2 (h rfl)]
      decide
    clear hR
    have tl : ∀ (P : Prop),(R=2 -> P) -> P -> P:=fun _ _ h=>h
    by_cases c3 : ck=true /\ (k < 0 \/ (l.length : Int) <= k)
    ·obtain ⟨c4,c5⟩:=c3
     have:=hbad c4 c5
     subst c4
     rcases Int.lt_or_le k 0 with c6 | c6
     ·simp [c6,this]
     ·simp [x03.2 c6,show (l.length : Int) <= k by omega,this]
    ·have hg:=hgood fun h=>by
      have : ¬ (k < 0 \/ (l.length : Int) <= k):=fun h2=>c3 ⟨h,h2⟩
      omega
     cases hck : ck
     case' false=>simp
     case' true =>
      have c7 : ¬ (k < 0 \/ (l.length : Int) <= k):=fun h2=>c3 ⟨hck,h2⟩
      simp [show ¬ k < 0 by omega,show ¬ (l.length : Int) <= k by omega]
     all_goals
      refine az Nat (fun i=>[(1,slx b (inR l)),(10,.int .i64 i)]) (fun i=>i <= l.length /\ ∀ (j : Nat) (h : j < l.length),j < i -> d3 (fun x=>decide (x=l[j])) (l.take j)=-1) (fun i=>l.length - i) 0 (by simp) (by simp) ?_
      rintro i ⟨hi,hok⟩
      have hw : IntKind.wrap .i64 ((i : Int) + 1)=((i + 1 : Nat) : Int):=ah (by omega) (by omega)
      simp
      refine al (fun g1=>?_) (fun g1=>?_) <;> simp at g1 <;> simp [g1]
      ·obtain ⟨x,hx⟩ : ∃ x,x=l[i]:=⟨_,rfl⟩
       have hxg : (inR l)[i]? = some [.int .i64 x]:=by rw [fm g1,hx];simp [g1]
       have kf:=wX hC false (l.take i) x (by rw [x0L];omega)
       rw [<- gA] at kf
       have hsl : slx b (inR l)=.sl (inR l):=by
        have h9 : 0 < (inR l).length:=by rw [wD];omega
        cases h : inR l with
        | nil=>rw [h] at h9;simp at h9
        | cons e r=>cases b <;> rfl
       have htk : List.take i (inR l)=inR (l.take i):=by simp [inR]
       rw [hsl]
       obtain ⟨F,hF⟩ : ∃ F,F=d3 (fun y=>decide (y=x)) (l.take i):=⟨_,rfl⟩
       rw [<- hF] at kf
       simp only [b6] at kf
       simp
       refine ⟨wE l,hi,?_⟩
       rw [htk]
       simp [ay hxg]
       refine aa kf (.inl rfl) ?_
       have hFb:=(nX (fun y=>decide (y=x)) (l.take i)).1
       rw [<- hF] at hFb
       by_cases hF0 : 0 <= F
       ·rw [if_neg (fun hn=>by have:=lT.1 hn i g1;rw [<- hx,<- hF] at this;omega)] at hg
        simp [hF0,hg]
        exact ai (by decide +kernel)
       ·simp [hF0]
        refine ⟨ai (by decide +kernel),i + 1,⟨by omega,fun j h hj=>?_⟩,by omega,hw⟩
        rcases x0H.1 hj with h5 | h5
        ·exact hok j h h5
        ·subst h5
         rw [<- hx,<- hF]
         omega
      ·rw [hg,if_pos (lT.2 fun j hj=>hok j hj (by omega))]
end
end Go.Gv

namespace Go.Gv
section
variable {C : CC} (hC : aq prog C)
include hC
theorem G2 (m : Msh) (x : Int) : C 882 [.int .i64 x,.ptr [slx m.sn (m.s.map ez),slx m.fn (m.f.map bk)]] (.bool (!inM m x)) []:=by
 obtain ⟨R,hR⟩ : ∃ R,R=inM m x:=⟨_,rfl⟩
 rw [<- hR]
 refine aE hC (nf:=N882) rfl rfl ?_
 simp [N882]
 by_cases c1 : x < 0
 ·have : R=false:=hR.trans (gY.2 (.inl c1))
  simp [c1,this]
 ·by_cases c2 : (m.f.length : Int) <= x
  ·have : R=false:=hR.trans (gY.2 (.inr c2))
   simp [c1,c2,this]
  ·have : R=true:=hR.trans (o6.2 ⟨by omega,by omega⟩)
   simp [c1,c2,this]
theorem G3 (b : Bool) (l : List Int) (x : Int) : C 883 [.int .i64 x,.ptr [slx b (inR l)]] (.bool (!dN l.length x)) []:=by
 obtain ⟨R,hR⟩ : ∃ R,R=dN l.length x:=⟨_,rfl⟩
 rw [<- hR]
 have hf : (x < 0 \/ (l.length : Int) <= x) -> R=false:=fun h=>by
  rw [hR,<- Bool.not_eq_true,gZ]
  omega
 refine aE hC (nf:=N883) rfl rfl ?_
 simp [N883]
 by_cases c1 : x < 0
 ·simp [c1,hf (.inl c1)]
 ·by_cases c2 : (l.length : Int) <= x
  ·simp [c1,c2,hf (.inr c2)]
  ·have : R=true:=hR.trans (gZ.2 ⟨by omega,by omega⟩)
   simp [c1,c2,this]
set_option maxHeartbeats 2000000 in
theorem na (hW : SlW C) (dec : Nat -> List UInt8) (hI : ∀ n : Nat,n < 100 -> C 127 [.int .i64 n] (.str (dec n)) []) (m : Msh) (hz : bY m=true -> m.s.length <= 100 /\ m.f.length <= 100) (b b' : Bool) (l ks : List Int) (hl : l.length < 2 ^ 40) (hk : ks.length < 2 ^ 40) :
  C 874 [.agg (bi m),slx b (inR l),slx b' (inR ks)] (.int .i64 (gvE m l ks)) []:=by
 have k1:=lN hC dec hI m hz
 have k2:=lF hC (b:=b) (xs:=l) (g:=882) (cs:=[.ptr [slx m.sn (m.s.map ez),slx m.fn (m.f.map bk)]]) (fun x=>!inM m x) (by omega) (fun x _=>G2 hC m x)
 have k3:=lF hC (b:=b') (xs:=ks) (g:=883) (cs:=[.ptr [slx b (inR l)]]) (fun x=>!dN l.length x) (by omega) (fun x _=>G3 hC b l x)
 have k4:=qO hC b l hl
 have k5:=hW.sort l hl
 obtain ⟨s,hs⟩ : ∃ s,s=l.mergeSort fun x y=>decide (x <= y):=⟨_,rfl⟩
 have hsl : s.length=l.length:=by rw [hs,List.length_mergeSort]
 have k6:=hW.compact s (by omega)
 have hcn:=pQ l
 rw [<- hs] at k5 hcn
 rw [<- gA] at k2 k3 k4
 rw [<- gA,<- gA] at k5 k6
 simp only [ae] at k1
 obtain ⟨R,hR⟩ : ∃ R,R=gvE m l ks:=⟨_,rfl⟩
 rw [<- hR]
 unfold gvE at hR
 obtain ⟨B2,hB2⟩ : ∃ B2,B2=l.any fun x=>!inM m x:=⟨_,rfl⟩
 obtain ⟨B3,hB3⟩ : ∃ B2,B2=ks.any fun x=>!dN l.length x:=⟨_,rfl⟩
 rw [<- hB2] at hR k2
 rw [<- hB3] at hR k3
 refine aE hC (nf:=N874) rfl rfl ?_
 simp [N874,ae]
 refine aa k1 (.inl rfl) ?_
 cases hv : ap m
 ·rw [if_pos hv] at hR
  simp [hR]
 ·rw [if_neg (by simp [hv])] at hR
  simp
  by_cases h3 : (300 : Int) < l.length
  ·rw [if_pos (by omega)] at hR
   simp [h3,hR]
  ·rw [if_neg (by omega)] at hR
   simp [h3]
   refine aa k2 (.inl rfl) ?_
   cases B2
   ·rw [if_neg (by decide)] at hR
    simp
    refine aa k3 (.inl rfl) ?_
    cases B3
    ·rw [if_neg (by decide)] at hR
     simp
     refine jB k4 ?_
     simp
     refine ⟨fun e he c hc=>(iY l e he).2 c hc,rZ k5 (.inl rfl) (by simp [hsl]) (iY s) ?_⟩
     simp [hsl]
     have et : List.take l.length (inR s)=inR s:=by rw [x0u];simp [hsl]
     rw [et]
     refine ⟨lK s,vZ k6 (fun e he=>⟨(iY _ e he).1,lK _ e he⟩) ?_⟩
     by_cases hn : l.Nodup
     ·rw [if_pos hn] at hR
      have : ¬ (Lib.compact s).length < l.length:=fun hh=>(hcn.1 hh) hn
      simp [hR,this]
      exact ai (by decide +kernel)
     ·rw [if_neg hn] at hR
      have:=hcn.2 hn
      simp [hR,this]
      exact ai (by decide +kernel)
    ·rw [if_pos rfl] at hR
     simp [hR]
   ·rw [if_pos rfl] at hR
    simp [hR]
end
end Go.Gv

namespace Go.Gv
def kS (m : Msh) (w : List Int) : List Int:=(List.range m.f.length).map fun f=>inl w f
def twL (m : Msh) : List Int:=(List.range m.f.length).map fun f=>twF m f
def woW (l : List Int) (d : Int) : List Int:=(List.range l.length).map fun (i : Nat)=>if (i : Int)=d then -1 else l.getD i 0
@[simp] theorem Hl (m : Msh) (w : List Int) : (kS m w).length=m.f.length:=by simp [kS]
@[simp] theorem PL (m : Msh) : (twL m).length=m.f.length:=by simp [twL]
@[simp] theorem rK (l : List Int) (d : Int) : (woW l d).length=l.length:=by simp [woW]
theorem ue {w : List Int} {f : Nat} (h : ∀ x ∈ w,x ≠ (f : Int)) : inl w f=-1:=dM fun j hj=>by simp [h _ (x0t hj)]
theorem wF (w : List Int) (x : Int) (f : Nat) : inl (w++[x]) f=if inl w f=-1 then (if x=f then (w.length : Int) else -1) else inl w f:=by
 unfold inl d3
 rw [List.findIdx?_append]
 cases h : w.findIdx? fun x=>decide (x=(f : Int)) with
 | none =>
  by_cases hx : x=(f : Int) <;> simp [hx]
 | some i =>
  simp
def tbR (f : Nat -> Int) (i : Nat) : List (List D):=inR ((List.range i).map f)
theorem gT (f : Nat -> Int) (i : Nat) : tbR f i=(List.range i).map fun j=>[.int .i64 (f j)]:=by simp [tbR,inR]
@[simp] theorem xN (f : Nat -> Int) (i : Nat) : (tbR f i).length=i:=by simp [tbR]
@[simp] theorem vi (f : Nat -> Int) (i : Nat) : List.take i (tbR f i)=tbR f i:=x0u (by simp)
@[simp] theorem Ru (f : Nat -> Int) : tbR f 0=[]:=rfl
theorem jp (f : Nat -> Int) (i : Nat) : tbR f i++[[.int .i64 (f i)]]=tbR f (i + 1):=by simp [gT,x1G]
@[simp] theorem PI (f : Nat -> Int) (i : Nat) (x : List D) : (∀ e,e ∈ tbR f i \/ e=x -> ∀ c,c ∈ e -> aC c=true)=∀ c,c ∈ x -> aC c=true:=by
 apply propext
 constructor
 ·exact fun h=>h x (.inr rfl)
 ·rintro h e (he | rfl)
  ·exact (iY _ e he).2
  ·exact h
theorem tq (f : Nat -> Int) (i : Nat) : cN 1 (tbR f (i + 1))=.own 1 (tbR f (i + 1)):=by
 have : (tbR f (i + 1)).length=i + 1:=by simp
 cases h : tbR f (i + 1) with
 | nil=>rw [h] at this;simp at this
 | cons e r=>rfl
theorem nH (f : Nat -> Int) {i : Nat} (h : i ≠ 0) : cN 1 (tbR f i)=.own 1 (tbR f i):=by
 obtain ⟨j,rfl⟩ : ∃ j,i=j + 1:=⟨i - 1,by omega⟩
 exact tq f j
theorem rH {f g : Nat -> Int} {n x : Nat} {v : Int} (hv : g x=v) (h : ∀ j,j ≠ x -> g j=f j) : (tbR f n).set x [.int .i64 v]=tbR g n:=by
 refine x1B (by simp) fun j h1 h2=>?_
 simp only [List.getElem_set,gT,x1A,List.getElem_range]
 by_cases c : x=j
 ·rw [if_pos c,<- c,hv]
 ·rw [if_neg c,h j (fun e=>c e.symm)]
theorem qM {l : List Int} {d : Int} {i : Nat} (h : i < l.length) : (woW l d)[i]'(by simp [h])=if (i : Int)=d then -1 else l[i]:=by
 simp [woW,h]
theorem qj {l : List Int} {d : Int} {i : Nat} (h : i < l.length) (f : Nat) : inl ((woW l d).take (i + 1)) f=if inl ((woW l d).take i) f=-1 then (if (if (i : Int)=d then -1 else l[i])=(f : Int) then (i : Int) else -1) else inl ((woW l d).take i) f:=by
 have e : (woW l d).take (i + 1)=(woW l d).take i++[if (i : Int)=d then -1 else l[i]]:=by
  rw [<- qM h,x1z]
 rw [e,wF,x0L,rK,Nat.min_eq_left (by omega)]
theorem o7 {l : List Int} {d : Int} {i x : Nat} (hn : l.Nodup) (h : i < l.length) (e : l[i]=(x : Int)) : inl ((woW l d).take i) x=-1:=by
 refine ue fun y hy=>?_
 obtain ⟨j,hj,rfl⟩:=x0J.1 hy
 simp only [x0L,rK] at hj
 rw [List.getElem_take,qM (by omega)]
 split
 ·omega
 ·rw [<- e]
  intro e2
  have:=(List.getElem_inj hn).1 e2
  omega
variable {C : CC} (hC : aq prog C)
include hC
set_option maxRecDepth 8000 in
set_option maxHeartbeats 2000000 in
theorem pe (dec : Nat -> List UInt8) (hI : ∀ n : Nat,n < 100 -> C 127 [.int .i64 n] (.str (dec n)) []) (m : Msh) (hz : bY m=true -> m.s.length <= 100 /\ m.f.length <= 100) (hv : ap m=true) (b : Bool) (l : List Int) (hl : l.length <= 300) (hin : ∀ x ∈ l,inM m x=true) (hn : l.Nodup) (d : Int) :
  C 875 [.agg (bi m),slx b (inR l),.int .i64 d] (.tup [.ptr [.sl (inR (di m)),.sl (inR (a6 m).sp),.sl (inR (a6 m).ou),slx true (inR (kS m (woW l d))),slx true (inR (twL m))],.int .i64 0]) []:=by
 have k1:=s6 hC dec hI m hz
 have k2:=zO hC dec hI m hz
 have k3:=rO hC dec hI m hz
 simp [hv] at k1 k2 k3
 have hsz:=b5 hv
 simp only [ae] at k1 k2 k3
 refine aE hC (nf:=N875) rfl rfl ?_
 simp [N875,ae]
 refine aa k1 (.inr rfl) ?_
 simp
 refine aa k2 (.inr rfl) ?_
 simp
 refine aa k3 (.inr rfl) ?_
 simp
 refine az Nat (fun i=>[(1,slx b (inR l)),(2,.int .i64 d),(3,.ptr (bi m)),(8,.adr (.r 10256) 0 0),(52,.int .i64 m.f.length),(53,.int .i64 i),(10256,.blk 5 [[.sl (inR (di m)),.sl (inR (a6 m).sp),.sl (inR (a6 m).ou),cN 1 (tbR (fun _=>-1) i),cN 1 (tbR (twF m) i)]])]) (fun i=>i <= m.f.length) (fun i=>m.f.length - i) 0 (by simp) (by simp [ae,cN]) ?_
 intro i hi
 simp
 refine al (fun h=>?_) (fun h=>?_) <;> simp at h
 ·have hw : IntKind.wrap .i64 ((i : Int) + 1)=((i + 1 : Nat) : Int):=ah (by omega) (by omega)
  have k4:=vK hC dec hI m hz hv i h
  simp only [ae] at k4
  simp [h,ae]
  refine aa k4 (.inr rfl) ?_
  simp
  cases i with
  | zero =>
   have e1:=jp (fun _=>-1) 0
   have e2:=jp (twF m) 0
   simp at e1 e2
   simp [cN]
   exact ⟨1,by omega,by omega,by simp [ae,aK,<- e1,<- e2]⟩
  | succ j =>
   have e1:=jp (fun _=>-1) (j + 1)
   have e2:=jp (twF m) (j + 1)
   simp [tq]
   have hw' : IntKind.wrap .i64 ((j : Int) + 1 + 1)=(j : Int) + 1 + 1:=ah rfl (by omega)
   exact ⟨by omega,j + 1 + 1,by omega,by omega,by simp [ae,tq,e1,e2,hw']⟩
 ·have ei : i=m.f.length:=by omega
  subst ei
  simp [h]
  refine az Nat (fun i=>[(2,.int .i64 d),(8,.adr (.r 10256) 0 0),(85,slx b (inR l)),(86,.int .i64 l.length),(87,.int .i64 i),(10256,.blk 5 [[.sl (inR (di m)),.sl (inR (a6 m).sp),.sl (inR (a6 m).ou),cN 1 (tbR (inl ((woW l d).take i)) m.f.length),cN 1 (tbR (twF m) m.f.length)]])]) (fun i=>i <= l.length) (fun i=>l.length - i) 0 (by simp) (by simp;rfl) ?_
  intro i hi
  simp
  refine al (fun h=>?_) (fun h=>?_) <;> simp at h
  ·have hw : IntKind.wrap .i64 ((i : Int) + 1)=((i + 1 : Nat) : Int):=ah (by omega) (by omega)
   have hx:=hin l[i] (x0t h)
   simp [inM] at hx
   obtain ⟨x,hxe⟩ : ∃ x : Nat,l[i]=(x : Int):=⟨l[i].toNat,by omega⟩
   have hn0 : m.f.length ≠ 0:=by omega
   have hg : (inR l)[i]? = some [.int .i64 (x : Int)]:=by simp [inR,x0d h,hxe]
   rw [nH _ hn0,nH _ hn0]
   simp [h,ay hg]
   refine al (fun c=>?_) (fun c=>?_)
   ·simp at c
    have es : (tbR (inl ((woW l d).take i)) m.f.length).set x [.int .i64 i]=tbR (inl ((woW l d).take (i + 1))) m.f.length:=by
     refine rH ?_ fun j hj=>?_
     ·rw [qj h,o7 hn h hxe,if_neg c]
      simp [hxe]
     ·rw [qj h,if_neg c]
      have : ¬ l[i]=(j : Int):=by omega
      simp [this]
      exact fun h=>h.symm
    have hx2 : x < m.f.length:=by omega
    have hg2 : (tbR (inl ((woW l d).take i)) m.f.length)[x]? = some [.int .i64 (inl ((woW l d).take i) x)]:=by simp [gT,hx2]
    have hg3 : (tbR (inl ((woW l d).take i)) m.f.length)[x]'(by simpa using hx2)=[.int .i64 (inl ((woW l d).take i) x)]:=by simp [gT]
    simp [hx2,ay hg2,bx hg2,hg2,hg3]
    exact ⟨i + 1,by omega,by omega,by omega,by rw [es,nH _ hn0]⟩
   ·simp at c
    have es : inl ((woW l d).take (i + 1))=inl ((woW l d).take i):=by
     funext j
     rw [qj h,if_pos c]
     have : ¬ (-1 : Int)=(j : Int):=by omega
     simp [this]
     exact fun h=>h.symm
    simp
    exact ⟨i + 1,by omega,by omega,by omega,by rw [es,nH _ hn0]⟩
  ·have ei : i=l.length:=by omega
   subst ei
   simp [h]
   rw [x0u (by simp)]
   exact ⟨rfl,rfl⟩
end Go.Gv

namespace Go.Gv
theorem vk {m : Msh} (hv : ap m=true) {f : Nat} (hf : f < m.f.length) : trM m f (some (spF m f)) < trM m f none:=by
 have b2:=nL hv hf
 simp only [trM]
 rw [if_neg (by omega)]
 exact mC (by omega) (by omega)
theorem xQ {m : Msh} (hv : ap m=true) {f g : Nat} (hf : f < m.f.length) (hg : cW m f=g) : g < m.f.length /\ trM m g none < trM m f none:=by
 obtain ⟨g1,g2,g3⟩:=qG hv hf hg
 refine ⟨g1,?_⟩
 simp only [trM]
 have b3:=fc m (suF m g)
 by_cases e : spF m g=spF m f
 ·rw [e]
  have:=ia (m:=m) ⟨g,g1,rfl⟩ g2
  omega
 ·have:=ia (m:=m) (ow hv g1) (show spF m g < spF m f by omega)
  exact mC (by omega) (by omega)
theorem xO {m : Msh} {f : Nat} {h : Int} (hlow : spF m f < h) : trM m f none < trM m f (some h):=by
 have b1:=fc m (suF m f)
 simp only [trM]
 rw [if_pos hlow]
 exact mC (a:=gK m (spF m f) * 3 + 1) (b:=gK m (spF m f) * 3 + 2) (N:=m.f.length + 2) (y:=0) (by omega) (by omega)
theorem xP {m : Msh} (hv : ap m=true) {f g : Nat} {h : Int} (hf : f < m.f.length) (hlow : ¬ spF m f < h) (e2 : ouF m f=g) : g < m.f.length /\ trM m g (some h) < trM m f (some h):=by
 obtain ⟨q1,q2⟩:=lx hv hf e2
 have q3:=zj hv hf e2
 have b3:=nL hv q2
 refine ⟨q2,?_⟩
 simp only [trM]
 rw [if_neg hlow]
 by_cases e : spF m g=spF m f
 ·rw [e,if_neg hlow]
  omega
 ·have:=ia (m:=m) (ow hv q2) (show spF m g < spF m f by omega)
  split
  ·exact mC (x:=0) (by omega) (by omega)
  ·exact mC (by omega) (by omega)
def nR (t : List Nat) : List (List D):=inR (t.map fun (x : Nat)=>(x : Int))
@[simp] theorem Q1 (t : List Nat) : (nR t).length=t.length:=by simp [nR]
@[simp] theorem OZ (t : List Nat) : List.take t.length (nR t)=nR t:=x0u (by simp)
theorem Bu (x : Nat) : [[D.int .i64 (x : Int)]]=nR [x]:=rfl
theorem qr (t : List Nat) (x : Nat) : nR t++[[.int .i64 (x : Int)]]=nR (t++[x]):=by simp [nR,inR]
@[simp] theorem Rv (t : List Nat) : List.map (fun e=>List.map bj e) (nR t)=nR t:=uc _
@[simp] theorem Q0 (t : List Nat) (x : List D) : (∀ e,e ∈ nR t \/ e=x -> ∀ c,c ∈ e -> aC c=true)=∀ c,c ∈ x -> aC c=true:=by
 apply propext
 constructor
 ·exact fun h=>h x (.inr rfl)
 ·rintro h e (he | rfl)
  ·exact (iY _ e he).2
  ·exact h
theorem fS {l : List Int} {i : Nat} (h : i < l.length) : (inR l)[i]? = some [.int .i64 (l.getD i 0)]:=by simp [inR,h]
def bsC (m : Msh) (w : List Int) : List D:=[.sl (inR (di m)),.sl (inR (a6 m).sp),.sl (inR (a6 m).ou),slx true (inR (kS m w)),slx true (inR (twL m))]
theorem nG (m : Msh) (w : List Int) : bsC m w=[.sl (inR (di m)),.sl (inR (a6 m).sp),.sl (inR (a6 m).ou),slx true (inR (kS m w)),slx true (inR (twL m))]:=zR
variable {C : CC} (hC : aq prog C)
include hC
set_option maxRecDepth 8000 in
set_option maxHeartbeats 4000000 in
theorem xR (m : Msh) (hv : ap m=true) (w : List Int) (f0 : Nat) (h0 : f0 < m.f.length) :
  C 881 [.ptr (bsC m w),.int .i64 f0] (.sl (nR (f0::trF m w f0))) []:=by
 obtain ⟨d0,_,dl⟩:=jq hv w h0
 have bl:=vm hv f0
 obtain ⟨T,hT⟩ : ∃ T,T=f0::trF m w f0:=⟨_,rfl⟩
 have hTl : T.length <= 60000000:=by rw [hT,x0O];omega
 rw [<- hT]
 have W:=rb m
 have gF : ∀ {f : Nat},f < m.f.length -> (inR (di m))[f]? = some [.int .i64 (cW m f)]:=fun h=>by rw [fS (by simp [di,h])];simp [di,h]
 have gS : ∀ {f : Nat},f < m.f.length -> (inR (a6 m).sp)[f]? = some [.int .i64 (spF m f)]:=fun h=>by rw [fS (by rw [W.sp];exact h)];rfl
 have gO : ∀ {f : Nat},f < m.f.length -> (inR (a6 m).ou)[f]? = some [.int .i64 (ouF m f)]:=fun h=>by rw [fS (by rw [W.ou];exact h)];rfl
 have gI : ∀ {f : Nat},f < m.f.length -> (inR (kS m w))[f]? = some [.int .i64 (inl w f)]:=fun h=>by rw [fS (by simp [h])];simp [kS,h]
 obtain ⟨xf,hxf⟩ : ∃ x,x=inR (di m):=⟨_,rfl⟩
 obtain ⟨xs,hxs⟩ : ∃ x,x=inR (a6 m).sp:=⟨_,rfl⟩
 obtain ⟨xo,hxo⟩ : ∃ x,x=inR (a6 m).ou:=⟨_,rfl⟩
 obtain ⟨xi,hxi⟩ : ∃ x,x=inR (kS m w):=⟨_,rfl⟩
 have gFl : xf.length=m.f.length:=by rw [hxf];simp [di]
 have gSl : xs.length=m.f.length:=by rw [hxs];simp [W.sp]
 have gOl : xo.length=m.f.length:=by rw [hxo];simp [W.ou]
 have gIl : xi.length=m.f.length:=by rw [hxi];simp
 rw [<- hxf] at gF
 rw [<- hxs] at gS
 rw [<- hxo] at gO
 rw [<- hxi] at gI
 obtain ⟨x4,hx4⟩ : ∃ x,x=slx true (inR (twL m)):=⟨_,rfl⟩
 refine aE hC (nf:=N881) rfl rfl ?_
 simp only [nG,<- hxf,<- hxs,<- hxo,<- hxi,<- hx4]
 simp [N881]
 refine az (Nat × List Nat × List Nat) (fun s=>[(0,.ptr [.sl xf,.sl xs,.sl xo,slx true xi,x4]),(1,.int .i64 s.1),(5,.ref (.r 10080) 0 s.2.1.length),(10080,.blk 1 (nR s.2.1))]) (fun s=>s.1 < m.f.length /\ TrR m w s.1 none s.2.2 /\ s.2.1++s.2.2=T) (fun s=>trM m s.1 none) (f0,[f0],trF m w f0) ⟨h0,d0,hT.symm⟩ (by simp [Bu]) ?_
 rintro ⟨f,p,l⟩ ⟨hf,hd,hp⟩
 simp only at hf hd hp
 have hpl : p.length + l.length=T.length:=by rw [<- hp,x0M]
 simp [gIl,hf,ay (gI hf)]
 refine al (fun c=>?_) (fun c=>?_)
 ·simp at c
  simp [gFl,hf,ay (gF hf)]
  by_cases c1 : cW m f=-1
  ·have : l=[]:=hd.uniq (.off c c1)
   subst this
   simp at hp
   simp [c1,hp]
  ·by_cases c2 : cW m f=-2
   ·obtain ⟨hd2,hml⟩ : TrR m w f (some (spF m f)) l /\ trM m f (some (spF m f)) < trM m f none:=by
     refine ⟨?_,vk hv hf⟩
     cases hd with
     | inlet h=>exact absurd c h
     | off _ h=>exact absurd h c1
     | run _ h _=>omega
     | lake _ _ h=>exact h
    obtain ⟨h,hh⟩ : ∃ h,h=spF m f:=⟨_,rfl⟩
    rw [<- hh] at hd2 hml
    simp [c1,c2,gSl,hf,ay (gS hf),<- hh]
    refine az (Nat × List Nat × List Nat) (fun s=>[(0,.ptr [.sl xf,.sl xs,.sl xo,slx true xi,x4]),(1,.int .i64 s.1),(5,.ref (.r 10080) 0 s.2.1.length),(6,.int .i64 h),(10080,.blk 1 (nR s.2.1))]) (fun s=>s.1 < m.f.length /\ TrR m w s.1 (some h) s.2.2 /\ s.2.1++s.2.2=T /\ inl w s.1=-1 /\ trM m s.1 (some h) < trM m f none) (fun s=>trM m s.1 (some h)) (f,p,l) ⟨hf,hd2,hp,c,hml⟩ (by simp) ?_
    rintro ⟨g,p,l⟩ ⟨hf,hd,hp,c,hml⟩
    simp only at hf hd hp c hml
    have hpl : p.length + l.length=T.length:=by rw [<- hp,x0M]
    simp [gSl,hf,ay (gS hf)]
    by_cases c3 : h <= spF m g
    ·simp [c3,gOl,hf,ay (gO hf)]
     by_cases c4 : ouF m g=-1
     ·have : l=[]:=hd.uniq (.stay c3 c4)
      subst this
      simp at hp
      simp [c4,hp]
     ·obtain ⟨k,hk⟩ : ∃ k : Nat,ouF m g=k:=by
       cases hd with
       | low h _=>omega
       | stay _ h=>exact absurd h c4
       | hit _ h _=>exact ⟨_,h⟩
       | out _ h _ _=>exact ⟨_,h⟩
      obtain ⟨hk2,hk3⟩:=xP hv hf (show ¬ spF m g < h by omega) hk
      by_cases c5 : inl w k=-1
      ·obtain ⟨l',rfl,hd'⟩ : ∃ l',l=k::l' /\ TrR m w k (some h) l':=by
        cases hd with
        | low h _=>omega
        | stay _ h=>exact absurd h c4
        | hit _ h h2 =>
         have:=Int.ofNat.inj (h.symm.trans hk)
         subst this
         exact absurd c5 h2
        | out _ h _ h4 =>
         have:=Int.ofNat.inj (h.symm.trans hk)
         subst this
         exact ⟨_,rfl,h4⟩
       have hpl2 : p.length < 60000000:=by simp at hpl;omega
       simp [c4,hk,gOl,hf,ay (gO hf),qr,gIl,hk2,ay (gI hk2),c5]
       exact ⟨by omega,k,p++[k],⟨hk2,l',hd',by rw [<- hp];simp,c5,by omega⟩,by omega,rfl,by simp,rfl⟩
      ·have : l=[k]:=hd.uniq (.hit c3 hk c5)
       subst this
       have hpl2 : p.length < 60000000:=by simp at hpl;omega
       simp [c4,hk,gOl,hf,ay (gO hf),qr,gIl,hk2,ay (gI hk2),c5]
       rw [<- hp]
       exact ⟨by omega,x0u (by simp)⟩
    ·simp [c3]
     have hd' : TrR m w g none l:=by
      cases hd with
      | low _ h=>exact h
      | stay h _=>exact absurd h c3
      | hit h _ _=>exact absurd h c3
      | out h _ _ _=>exact absurd h c3
     have:=xO (m:=m) (show spF m g < h by omega)
     exact ⟨g,p,⟨hf,l,hd',hp⟩,by omega,rfl,rfl,rfl⟩
   ·obtain ⟨k,l',hk,rfl,hd'⟩ : ∃ (k : Nat) (l' : List Nat),cW m f=(k : Int) /\ l=k::l' /\ TrR m w k none l':=by
     cases hd with
     | inlet h=>exact absurd c h
     | off _ h=>exact absurd h c1
     | run _ h h2=>exact ⟨_,_,h,rfl,h2⟩
     | lake _ h _=>exact absurd h c2
    obtain ⟨hk2,hk3⟩:=xQ hv hf hk
    have hpl2 : p.length < 60000000:=by simp at hpl;omega
    have hk4 : ¬ (k : Int)=-1:=by omega
    have hk5 : ¬ (k : Int)=-2:=by omega
    simp [hk,hk4,hk5,gFl,hf,ay (gF hf),qr]
    exact ⟨by omega,k,p++[k],⟨hk2,l',hd',by rw [<- hp];simp⟩,by omega,rfl,by simp,rfl⟩
 ·simp at c
  have : l=[]:=hd.uniq (.inlet c)
  subst this
  simp at hp
  simp [hp]
end Go.Gv

namespace Go.Gv
theorem AU (m : Msh) (w : List Int) (f : Nat) : (nR (f::trF m w f))[(trF m w f).length]? = some [.int .i64 (laF m w f : Nat)]:=by
 have : (f::trF m w f)[(trF m w f).length]? = some (laF m w f):=by
  unfold laF
  rw [List.getLast_eq_getElem,x0d (by simp)]
  simp
 unfold nR inR
 simp only [x0x,this,x04]
noncomputable def enL (m : Msh) (w : List Int) : List Int:=(List.range m.f.length).map (enF m w)
def tzR (f : Nat -> Int) (n i : Nat) : List (List D):=if i=0 then List.replicate n [.int .i64 0] else tbR f i
theorem KG (f : Nat -> Int) (n : Nat) : tzR f n 0=List.replicate n [.int .i64 0]:=rfl
theorem vo (f : Nat -> Int) (n i : Nat) : List.take i (tzR f n i)=tbR f i:=by
 cases i with
 | zero=>rfl
 | succ i=>exact vi f (i + 1)
theorem rI (f : Nat -> Int) {n i : Nat} (h : i <= n) : i <= (tzR f n i).length:=by
 cases i with
 | zero=>omega
 | succ i=>exact Nat.le_of_eq (xN f (i + 1)).symm
theorem KH (f : Nat -> Int) (n i : Nat) : tbR f (i + 1)=tzR f n (i + 1):=rfl
@[simp] theorem B6 (f : Nat -> Int) (n : Nat) : List.map (fun e=>List.map bj e) (tbR f n)=tbR f n:=uc _
variable {C : CC} (hC : aq prog C)
include hC
set_option maxHeartbeats 1000000 in
theorem JR (m : Msh) (hv : ap m=true) (w : List Int) : C 876 [.ptr (bsC m w)] (.sl (inR (enL m w))) []:=by
 have hsz:=b5 hv
 have k:=fun (f : Nat) (hf : f < m.f.length)=>xR hC m hv w f hf
 have gI : ∀ {f : Nat},f < m.f.length -> (inR (kS m w))[f]? = some [.int .i64 (inl w f)]:=fun h=>by rw [fS (by simp [h])];simp [kS,h]
 have gFl : (inR (di m)).length=m.f.length:=by simp [di]
 obtain ⟨xf,hxf⟩ : ∃ x,x=inR (di m):=⟨_,rfl⟩
 obtain ⟨xs,hxs⟩ : ∃ x,x=inR (a6 m).sp:=⟨_,rfl⟩
 obtain ⟨xo,hxo⟩ : ∃ x,x=inR (a6 m).ou:=⟨_,rfl⟩
 obtain ⟨xi,hxi⟩ : ∃ x,x=inR (kS m w):=⟨_,rfl⟩
 have gIl : xi.length=m.f.length:=by rw [hxi];simp
 rw [<- hxi] at gI
 rw [<- hxf] at gFl
 obtain ⟨x4,hx4⟩ : ∃ x,x=slx true (inR (twL m)):=⟨_,rfl⟩
 simp only [nG,<- hxf,<- hxs,<- hxo,<- hxi,<- hx4] at k ⊢
 refine aE hC (nf:=N876) rfl rfl ?_
 simp [N876]
 refine ⟨by omega,az Nat (fun i=>[(0,.ptr [.sl xf,.sl xs,.sl xo,slx true xi,x4]),(3,.ref (.r 10048) 0 i),(16,.int .i64 xf.length),(17,.int .i64 i),(10048,.blk 1 (tzR (enF m w) m.f.length i))]) (fun i=>i <= m.f.length) (fun i=>m.f.length - i) 0 (by simp) (by simp [KG,gFl]) ?_⟩
 intro i hi
 simp
 refine al (fun h=>?_) (fun h=>?_) <;> simp at h
 ·rw [gFl] at h
  have k2:=k i h
  have bl:=(jq hv w h).2.2
  have bl2:=vm hv i
  have hla:=AV hv w h
  have e1:=AU m w i
  obtain ⟨X,hX⟩ : ∃ X,X=nR (i::trF m w i):=⟨_,rfl⟩
  have hXl : X.length=(trF m w i).length + 1:=by rw [hX];simp
  rw [<- hX] at k2 e1
  have hw : IntKind.wrap .i64 (((trF m w i).length : Int))=((trF m w i).length : Int):=ah (by omega) (by omega)
  simp [h,gFl]
  refine aa k2 (.inr rfl) ?_
  simp [hXl,hw,ay e1,gIl,hla,ay (gI hla)]
  have ht:=rI (enF m w) hi
  have hw2 : IntKind.wrap .i64 ((i : Int) + 1)=((i + 1 : Nat) : Int):=ah (by omega) (by omega)
  refine ⟨by omega,by omega,ai (by decide +kernel),i + 1,by omega,by omega,rfl,gFl.symm ▸ rfl,hw2,?_⟩
  rw [vo,<- KH]
  exact jp _ _
 ·have ei : i=m.f.length:=by omega
  subst ei
  simp [gFl]
  rw [<- List.map_take,vo,B6]
  exact ⟨rI _ (by omega),rfl⟩
end Go.Gv

namespace Go.Gv
theorem Cc {l : List Int} {d : Int} (h : ∀ i : Nat,i < l.length -> (i : Int) ≠ d) : woW l d=l:=by
 refine x1B (by simp) fun i h1 h2=>?_
 rw [qM h2,if_neg (h i h2)]
theorem rL (l : List Int) : woW l (-1)=l:=Cc fun i _=>by omega
theorem t7 {m : Msh} {l ks : List Int} (h : gvE m l ks=0) : ap m=true /\ l.length <= 300 /\ (∀ x ∈ l,inM m x=true) /\ (∀ k ∈ ks,dN l.length k=true) /\ l.Nodup:=by
 unfold gvE at h
 split at h
 ·omega
 ·split at h
  ·omega
  ·split at h
   ·omega
   ·split at h
    ·omega
    ·split at h
     ·refine ⟨by simp_all,by omega,?_,?_,by assumption⟩ <;> simp_all
     ·omega
noncomputable def ofV (m : Msh) (l ks : List Int) (w : List Int) : D:=if gvE m l ks=0 then .tup [.sl (inR (enL m w)),.int .i64 0] else .tup [.nils,.int .i64 (gvE m l ks)]
variable {C : CC} (hC : aq prog C)
include hC
theorem zS (hW : SlW C) (dec : Nat -> List UInt8) (hI : ∀ n : Nat,n < 100 -> C 127 [.int .i64 n] (.str (dec n)) []) (m : Msh) (hz : bY m=true -> m.s.length <= 100 /\ m.f.length <= 100) (b : Bool) (l : List Int) (hl : l.length < 2 ^ 40) :
  C 856 [.agg (bi m),slx b (inR l)] (ofV m l [] l) []:=by
 have k1:=na hC hW dec hI m hz b true l [] hl (by simp)
 obtain ⟨R,hR⟩ : ∃ R,R=ofV m l [] l:=⟨_,rfl⟩
 rw [<- hR]
 unfold ofV at hR
 obtain ⟨E,hE⟩ : ∃ E,E=gvE m l []:=⟨_,rfl⟩
 rw [<- hE] at hR k1
 refine aE hC (nf:=N856) rfl rfl ?_
 simp only [ae] at k1
 simp at k1
 simp [N856,ae]
 refine aa k1 (.inl rfl) ?_
 by_cases e : E=0
 ·rw [if_pos e] at hR
  rw [e] at hE
  obtain ⟨hv,h1,h2,_,h3⟩:=t7 hE.symm
  have k2:=pe hC dec hI m hz hv b l h1 h2 h3 (-1)
  rw [rL] at k2
  have k3:=JR hC m hv l
  simp only [nG] at k3
  simp only [ae] at k2
  simp [e]
  refine aa k2 (.inr rfl) ?_
  simp
  refine aa k3 (.inr rfl) ?_
  simp [hR]
 ·rw [if_neg e] at hR
  simp [e,hR]
end Go.Gv

namespace Go.Gv
variable {C : CC} (hC : aq prog C)
include hC
end Go.Gv

namespace Go.Gv
noncomputable def arF (m : Msh) (w : List Int) (n : Nat) (k : Int) : Int:=B4 (fun f=>if enF m w f=k then twF m f else 0) n
theorem kq (m : Msh) (w : List Int) (n : Nat) (k : Int) : arF m w (n + 1) k=arF m w n k + if enF m w n=k then twF m n else 0:=rfl
theorem pM {m : Msh} (hv : ap m=true) (w : List Int) (k : Int) : ∀ {n : Nat},n <= m.f.length -> 0 <= arF m w n k /\ arF m w n k <= n * 2251799813685248
 | 0,_=>by simp [arF,B4]
 | n + 1,h=>by
  have ih:=pM hv w k (n:=n) (by omega)
  have:=zJ hv (i:=n) (by omega)
  rw [kq]
  split <;> omega
noncomputable def arL (m : Msh) (l : List Int) : List Int:=(List.range l.length).map fun (k : Nat)=>arF m l m.f.length k
noncomputable def suV (m : Msh) (l : List Int) : D:=if gvE m l []=0 then .tup [.sl (inR (arL m l)),.int .i64 (arF m l m.f.length (-1)),.int .i64 0] else .tup [.nils,.int .i64 0,.int .i64 (gvE m l [])]
theorem Ap (m : Msh) (w : List Int) (f : Nat) : -1 <= enF m w f /\ enF m w f < w.length:=ud _ _
variable {C : CC} (hC : aq prog C)
include hC
set_option maxHeartbeats 1000000 in
theorem B5 (hW : SlW C) (dec : Nat -> List UInt8) (hI : ∀ n : Nat,n < 100 -> C 127 [.int .i64 n] (.str (dec n)) []) (m : Msh) (hz : bY m=true -> m.s.length <= 100 /\ m.f.length <= 100) (b : Bool) (l : List Int) (hl : l.length < 2 ^ 40) :
  C 880 [.agg (bi m),slx b (inR l)] (suV m l) []:=by
 have k1:=na hC hW dec hI m hz b true l [] hl (by simp)
 obtain ⟨R,hR⟩ : ∃ R,R=suV m l:=⟨_,rfl⟩
 rw [<- hR]
 unfold suV at hR
 obtain ⟨E,hE⟩ : ∃ E,E=gvE m l []:=⟨_,rfl⟩
 rw [<- hE] at hR k1
 refine aE hC (nf:=N880) rfl rfl ?_
 simp only [ae] at k1
 simp at k1
 simp [N880,ae]
 refine aa k1 (.inl rfl) ?_
 by_cases e : E=0
 ·rw [if_pos e] at hR
  rw [e] at hE
  obtain ⟨hv,h1,h2,_,h3⟩:=t7 hE.symm
  have hsz:=b5 hv
  have k2:=pe hC dec hI m hz hv b l h1 h2 h3 (-1)
  rw [rL] at k2
  have k3:=JR hC m hv l
  simp only [nG] at k3
  simp only [ae] at k2
  obtain ⟨xf,hxf⟩ : ∃ x,x=D.sl (inR (di m)):=⟨_,rfl⟩
  obtain ⟨xs,hxs⟩ : ∃ x,x=D.sl (inR (a6 m).sp):=⟨_,rfl⟩
  obtain ⟨xo,hxo⟩ : ∃ x,x=D.sl (inR (a6 m).ou):=⟨_,rfl⟩
  obtain ⟨xi,hxi⟩ : ∃ x,x=slx true (inR (kS m l)):=⟨_,rfl⟩
  obtain ⟨x4,hx4⟩ : ∃ x,x=inR (twL m):=⟨_,rfl⟩
  have g4l : x4.length=m.f.length:=by rw [hx4];simp
  have g4 : ∀ {f : Nat},f < m.f.length -> x4[f]? = some [.int .i64 (twF m f)]:=fun h=>by rw [hx4,fS (by simp [h])];simp [twL,h]
  obtain ⟨xe,hxe⟩ : ∃ x,x=inR (enL m l):=⟨_,rfl⟩
  have gel : xe.length=m.f.length:=by rw [hxe];simp [enL]
  have ge : ∀ {f : Nat},f < m.f.length -> xe[f]? = some [.int .i64 (enF m l f)]:=fun h=>by rw [hxe,fS (by simp [enL,h])];simp [enL,h]
  rw [<- hxf,<- hxs,<- hxo,<- hxi,<- hx4] at k2 k3
  rw [<- hxe] at k3
  simp [e]
  refine aa k2 (.inr rfl) ?_
  simp
  refine ⟨by omega,aa k3 (.inr rfl) ?_⟩
  have e0 : List.replicate l.length [D.int .i64 0]=tbR (fun (k : Nat)=>arF m l 0 k) l.length:=by
   rw [gT]
   exact (List.eq_replicate_iff.2 ⟨by simp,fun b hb=>by obtain ⟨j,_,rfl⟩:=x0q.1 hb;rfl⟩).symm
  simp
  refine az Nat (fun i=>[(4,.ref (.r 10064) 0 l.length),(5,.int .i64 (arF m l i (-1))),(8,.ptr [xf,xs,xo,xi,slx true x4]),(30,.sl xe),(31,.int .i64 xe.length),(32,.int .i64 i),(10064,.blk 1 (tbR (fun (k : Nat)=>arF m l i k) l.length))]) (fun i=>i <= m.f.length) (fun i=>m.f.length - i) 0 (by simp) (by simp [e0];rfl) ?_
  intro i hi
  simp
  refine al (fun h=>?_) (fun h=>?_) <;> simp at h
  ·rw [gel] at h
   have hw : IntKind.wrap .i64 ((i : Int) + 1)=((i + 1 : Nat) : Int):=ah (by omega) (by omega)
   obtain ⟨q1,q2⟩:=Ap m l i
   have tb:=zJ hv h
   simp [gel,h,ay (ge h)]
   by_cases c : enF m l i=-1
   ·have b1:=pM hv l (-1) hi
    have a1 : arF m l (i + 1) (-1)=arF m l i (-1) + twF m i:=by rw [kq,if_pos c]
    have w1 : IntKind.wrap .i64 (arF m l i (-1) + twF m i)=arF m l (i + 1) (-1):=ah a1.symm (by omega)
    have a2 : tbR (fun (k : Nat)=>arF m l (i + 1) k) l.length=tbR (fun (k : Nat)=>arF m l i k) l.length:=by
     simp only [gT]
     refine x0o fun j _=>?_
     rw [kq,if_neg (by omega),Int.add_zero]
    simp [c,g4l,h,ay (g4 h),w1]
    exact ⟨i + 1,by omega,by omega,rfl,by omega,hw,a2.symm⟩
   ·obtain ⟨k,hk⟩ : ∃ k : Nat,enF m l i=k:=⟨(enF m l i).toNat,by omega⟩
    have hk2 : k < l.length:=by omega
    have b1:=pM hv l k hi
    have a1 : arF m l (i + 1) k=arF m l i k + twF m i:=by rw [kq,if_pos hk]
    have w1 : IntKind.wrap .i64 (arF m l i k + twF m i)=arF m l (i + 1) k:=ah a1.symm (by omega)
    have a2 : (tbR (fun (k : Nat)=>arF m l i k) l.length).set k [.int .i64 (arF m l (i + 1) k)]=tbR (fun (k : Nat)=>arF m l (i + 1) k) l.length:=by
     refine rH rfl fun j hj=>?_
     rw [kq,if_neg (by omega),Int.add_zero]
    have a3 : arF m l i (-1)=arF m l (i + 1) (-1):=by rw [kq,if_neg (by omega),Int.add_zero]
    have ga : (tbR (fun (k : Nat)=>arF m l i k) l.length)[k]? = some [.int .i64 (arF m l i k)]:=by simp [gT,hk2]
    have ga' : (tbR (fun (k : Nat)=>arF m l i k) l.length)[k]'(by simpa using hk2)=[.int .i64 (arF m l i k)]:=by simp [gT]
    simp [c,hk,hk2,g4l,h,ay (g4 h),bx ga,ay ga,ga,ga',w1]
    exact ⟨ai (by decide +kernel),i + 1,by omega,by omega,a3,by omega,hw,a2⟩
  ·have ei : i=m.f.length:=by omega
   subst ei
   simp [gel]
   exact hR
 ·rw [if_neg e] at hR
  simp [e,hR]
end Go.Gv

namespace Go.Gv
variable {C : CC} (hC : aq prog C)
include hC
theorem vG (hW : SlW C) (dec : Nat -> List UInt8) (hI : ∀ n : Nat,n < 100 -> C 127 [.int .i64 n] (.str (dec n)) []) (m : Msh) (hz : bY m=true -> m.s.length <= 100 /\ m.f.length <= 100) (b : Bool) (l : List Int) (hl : l.length < 2 ^ 40) :
  C 862 [.agg (bi m),slx b (inR l)] (if gvE m l []=0 then .tup [.sl (inR (arL m l)),.int .i64 0] else .tup [.nils,.int .i64 (gvE m l [])]) []:=by
 have k1:=B5 hC hW dec hI m hz b l hl
 unfold suV at k1
 obtain ⟨E,hE⟩ : ∃ E,E=gvE m l []:=⟨_,rfl⟩
 rw [<- hE] at k1 ⊢
 refine aE hC (nf:=N862) rfl rfl ?_
 simp only [ae] at k1
 simp [N862,ae]
 by_cases e : E=0
 ·rw [if_pos e] at k1 ⊢
  refine aa k1 (.inr rfl) ?_
  simp
 ·rw [if_neg e] at k1 ⊢
  refine aa k1 (.inr rfl) ?_
  simp
end Go.Gv

namespace Go.Gv
variable {C : CC} (hC : aq prog C)
include hC
end Go.Gv

namespace Go.Gv
variable {C : CC} (hC : aq prog C)
include hC
end Go.Gv

namespace Go.Gv
def exW : Msh:=⟨false,[⟨0,0,5⟩,⟨30,0,9⟩,⟨30,30,5⟩,⟨0,30,0⟩],false,[⟨0,1,2,0⟩,⟨0,2,3,0⟩]⟩
theorem GT : ap exW=true:=by decide +kernel
theorem GS : cW exW 0=1 /\ cW exW 1=-1:=by decide +kernel
theorem tQ : twF exW 0=900 /\ twF exW 1=900:=by decide +kernel
theorem gl : inl [1] 0=-1 /\ inl [1] 1=0 /\ inl [1,0] 0=1 /\ inl [1,0] 1=0:=by decide +kernel
theorem jM {m : Msh} {w : List Int} {f : Nat} {l : List Nat} (h : TrR m w f none l) : laF m w f=(f::l).getLast (by simp):=by
 unfold laF
 simp only [vj h]
theorem nP : enF exW [1] 0=0 /\ enF exW [1] 1=0:=by
 have h1 : TrR exW [1] 1 none []:=.inlet (by rw [gl.2.1];decide)
 have h0 : TrR exW [1] 0 none [1]:=.run gl.1 GS.1 h1
 unfold enF
 rw [jM h0,jM h1]
 exact ⟨gl.2.1,gl.2.1⟩
theorem tP : enF exW [1,0] 0=1 /\ enF exW [1,0] 1=0:=by
 have h1 : TrR exW [1,0] 1 none []:=.inlet (by rw [gl.2.2.2];decide)
 have h0 : TrR exW [1,0] 0 none []:=.inlet (by rw [gl.2.2.1];decide)
 unfold enF
 rw [jM h0,jM h1]
 exact ⟨gl.2.2.1,gl.2.2.2⟩
theorem yC : gvE exW [1] []=0 /\ gvE exW [1,0] []=0:=by
 unfold gvE
 rw [GT]
 decide +kernel
theorem yB : enL exW [1]=[0,0] /\ enL exW [1,0]=[1,0]:=by
 constructor
 ·show [enF exW [1] 0,enF exW [1] 1]=_
  rw [nP.1,nP.2]
 ·show [enF exW [1,0] 0,enF exW [1,0] 1]=_
  rw [tP.1,tP.2]
theorem GR : arL exW [1]=[1800]:=by
 show [arF exW [1] 2 0]=_
 rw [kq,kq,nP.1,nP.2,tQ.1,tQ.2]
 rfl
theorem ng {m : Msh} {l : List Int} (h : nY m l=false) : l.length <= 600 /\ (bY m=true -> m.s.length <= 100 /\ m.f.length <= 100):=by
 simp [nY,bY] at *
 omega
variable {C : CC} (hC : aq prog C)
include hC
set_option maxHeartbeats 2000000 in
theorem rX (hW : SlW C) (dec : Nat -> List UInt8) (hI : ∀ n : Nat,n < 100 -> C 127 [.int .i64 n] (.str (dec n)) []) : C 854 [] (.bool true) []:=by
 have hz : bY exW=true -> exW.s.length <= 100 /\ exW.f.length <= 100:=fun _=>by simp [exW]
 have k1:=zS hC hW dec hI exW hz false [1] (by simp)
 have k2:=zS hC hW dec hI exW hz false [1,0] (by simp)
 have k3:=vG hC hW dec hI exW hz false [1] (by simp)
 have q1:=tN hC false false [0,0] [0,0] (by simp) (by simp)
 have q2:=tN hC false false [1,0] [1,0] (by simp) (by simp)
 have q3:=tN hC false false [1800] [1800] (by simp) (by simp)
 unfold ofV at k1 k2
 rw [yC.1] at k1 k3
 rw [yC.2] at k2
 rw [yB.1] at k1
 rw [yB.2] at k2
 rw [GR] at k3
 simp only [ae] at k1 k2 k3
 simp [exW,gA,ez,bk] at k1 k2 k3 q1 q2 q3
 refine aE hC (nf:=N854) rfl rfl ?_
 simp (maxSteps:=2000000) [N854]
 refine aa k1 (.inr rfl) ?_
 simp
 refine aa k2 (.inr rfl) ?_
 simp
 refine aa k3 (.inr rfl) ?_
 simp
 refine aa q1 (.inl rfl) ?_
 simp
 refine aa q2 (.inl rfl) ?_
 simp
 refine aa q3 (.inl rfl) ?_
 simp
theorem sN (m : Msh) (b : Bool) (l : List Int) : C 855 [.agg (bi m),slx b (inR l)] (.bool (!nY m l && decide (gvE m l []=0))) []:=by
 have k1:=sB hC m b l
 rw [<- gA] at k1
 simp only [ae] at k1
 refine aE hC (nf:=N855) rfl rfl ?_
 simp [N855,ae]
 refine aa k1 (.inl rfl) ?_
 cases hL : nY m l
 ·obtain ⟨h1,h2⟩:=ng hL
  have k2:=qx hC m h2 b l (by omega) 0 false
  simp only [ae] at k2
  simp at k2
  simp
  refine aa k2 (.inl rfl) ?_
  simp
 ·simp
end Go.Gv

namespace Go.Gv
theorem v8 {m : Msh} (hv : ap m=true) {w : List Int} {f g : Nat} (hf : f < m.f.length) (hi : inl w f=-1) (hg : cW m f=g) : enF m w f=enF m w g:=by
 have hg2:=(qG hv hf hg).1
 have h:=TrR.run hi hg (jq hv w hg2).1
 unfold enF
 rw [jM h]
 unfold laF
 rw [List.getLast_cons (by simp)]
theorem v7 {m : Msh} {w : List Int} {f : Nat} (hi : inl w f=-1) (hg : cW m f=-1) : enF m w f=-1:=by
 unfold enF
 rw [jM (.off hi hg)]
 exact hi
theorem vL (w : List Int) (f : Nat) : (w.any fun x=>decide ((f : Int)=x))=decide (inl w f ≠ -1):=by
 have h:=gz (fun x=>decide (x=(f : Int))) w
 have h2:=(ud w f).1
 have e : (w.any fun x=>decide ((f : Int)=x))=w.any fun x=>decide (x=(f : Int)):=by
  congr 1
  funext x
  simp [eq_comm]
 rw [e,<- h]
 show decide (0 <= inl w f)=_
 by_cases c : inl w f=-1
 ·simp [c]
 ·rw [decide_eq_true (by omega),decide_eq_true c]
variable {C : CC} (hC : aq prog C)
include hC
set_option maxHeartbeats 4000000 in
theorem kP (hW : SlW C) (dec : Nat -> List UInt8) (hI : ∀ n : Nat,n < 100 -> C 127 [.int .i64 n] (.str (dec n)) []) (m : Msh) (b : Bool) (l : List Int) : C 848 [.agg (bi m),slx b (inR l)] (.bool true) []:=by
 have ka:=rX hC hW dec hI
 have kr:=sN hC m b l
 simp only [ae] at kr
 refine aE hC (nf:=N848) rfl rfl ?_
 simp [N848,ae]
 refine aa ka (.inl rfl) ?_
 simp
 refine aa kr (.inl rfl) ?_
 cases hL : nY m l
 ·obtain ⟨h1,hz⟩:=ng hL
  by_cases hg : gvE m l []=0
  ·obtain ⟨hv,h2,h3,_,h4⟩:=t7 hg
   have hsz:=b5 hv
   have k1:=zS hC hW dec hI m hz b l (by omega)
   unfold ofV at k1
   rw [if_pos hg] at k1
   have k2:=s6 hC dec hI m hz
   simp [hv] at k2
   have k3:=fun f : Nat=>nV hC (b:=b) (xs:=l) (f : Int) (by omega)
   rw [<- gA] at k3
   simp only [vL] at k3
   simp only [ae] at k1 k2
   obtain ⟨xe,hxe⟩ : ∃ x,x=inR (enL m l):=⟨_,rfl⟩
   have gel : xe.length=m.f.length:=by rw [hxe];simp [enL]
   have ge : ∀ {f : Nat},f < m.f.length -> xe[f]? = some [.int .i64 (enF m l f)]:=fun h=>by rw [hxe,fS (by simp [enL,h])];simp [enL,h]
   obtain ⟨xf,hxf⟩ : ∃ x,x=inR (di m):=⟨_,rfl⟩
   have gFl : xf.length=m.f.length:=by rw [hxf];simp [di]
   have gF : ∀ {f : Nat},f < m.f.length -> xf[f]? = some [.int .i64 (cW m f)]:=fun h=>by rw [hxf,fS (by simp [di,h])];simp [di,h]
   rw [<- hxe] at k1
   rw [<- hxf] at k2
   simp [hg]
   refine aa k1 (.inr rfl) ?_
   simp
   refine aa k2 (.inr rfl) ?_
   simp [gel,gFl]
   refine az Nat (fun i=>[(1,slx b (inR l)),(5,.sl xe),(41,.sl xf),(42,.int .i64 xf.length),(43,.int .i64 i)]) (fun i=>i <= m.f.length) (fun i=>m.f.length - i) 0 (by simp) (by simp [gFl]) ?_
   intro i hi
   simp
   refine al (fun h=>?_) (fun h=>?_) <;> simp at h
   ·rw [gFl] at h
    have hw : IntKind.wrap .i64 ((i : Int) + 1)=((i + 1 : Nat) : Int):=ah (by omega) (by omega)
    simp [h,gFl,ay (gF h)]
    refine aa (k3 i) (.inl rfl) ?_
    by_cases c : inl l i=-1
    ·simp [c]
     rcases ov m i with r | r | ⟨r1,r2,r3⟩
     ·have e1:=v7 c r
      simp [r,gel,h,ay (ge h),e1]
      exact ⟨ai (by decide +kernel),i + 1,by omega,by omega,by omega,hw⟩
     ·simp [r]
      exact ⟨ai (by decide +kernel),i + 1,by omega,by omega,by omega,hw⟩
     ·obtain ⟨g,hg⟩ : ∃ g : Nat,cW m i=g:=⟨(cW m i).toNat,by omega⟩
      have hg2 : g < m.f.length:=by omega
      have e1:=v8 hv h c hg
      have hg3 : ¬ (g : Int)=-1:=by omega
      have hg4 : ¬ m.f.length <= g:=by omega
      simp [hg,hg2,hg3,hg4,gel,h,ay (ge h),ay (ge hg2),e1]
      exact ⟨ai (by decide +kernel),i + 1,by omega,by omega,by omega,hw⟩
    ·simp [c]
     exact ⟨i + 1,by omega,by omega,by omega,hw⟩
   ·have ei : i=m.f.length:=by omega
    subst ei
    simp [gFl]
  ·simp [hg]
 ·simp
end Go.Gv
