/-
  Texts of the proof: PF2, V1, V2, V3, V4, PF3, PF4, PF5, PT3, PT5, I3, I1, I2, I4, H13, H14, H15, I5, I6, L10, L11, J29, L12, L15, L16, L19, RF1, SF1, SF2, PT6, PL1, M3, M4, P3, Z1, Z2, Z3, Z4, Z5, Z6, PV1, RF2, LF1, SL1, PV2, HT1, GvT, GvT3, HT2, PL2, RP1, RP2, RP3.
-/
import Derived.Test.YtelkdhkalifeiaaGreatDoorX7
import Derived.Test.YtelkdhkalifeiaaGreatDoorX4
import Derived.Sort.Row
import Derived.Sort.Grow
import Derived.Shelf.SlSortCmp.Whole1
import Derived.Shelf.SlSortCmp.NoneTotal
set_option linter.all false
namespace Go.Gv
theorem pM (m : Msh) : ∀ i,(rf0 m i).1=(fl0 m i).2
 | 0=>rfl
 | i + 1=>by
  unfold rf0 fl0
  split
  ·simp only [pM m i]
  ·exact pM m i
theorem fA (m : Msh) : ∀ i,(rf0 m i).1.length=m.f.length /\ (rf0 m i).2.length=m.f.length
 | 0=>by simp [rf0]
 | i + 1=>by
  obtain ⟨h1,h2⟩:=fA m i
  unfold rf0
  split
  ·simp [h1,h2]
  ·exact ⟨h1,h2⟩
theorem ki (m : Msh) : ∀ i,iM (aS m) (fl0 m i).1 (fl0 m i).1.length
 | 0=>by intro i h0 hi;simp [fl0] at hi
 | i + 1=>by
  unfold fl0
  split
  ·exact (lD (ki m i)).1
  ·exact ki m i
theorem s9 (m : Msh) : ∀ i,i <= m.f.length -> ∀ a,(fl0 m i).1.count a=if (fl0 m i).2.getD a false=true then 1 else 0
 | 0,_,a=>by
  rw [oz m 0 a (by omega)]
  simp [fl0]
 | i + 1,h,a=>by
  have ih:=s9 m i (by omega) a
  have hl:=(kj m i).1
  unfold fl0
  split
  ·simp only [(lD (ki m i)).2.1,ih]
   rw [a8 (by omega)]
   by_cases e : a=i
   ·subst e
    rw [oz m a a (x0j _)]
    simp
   ·simp only [if_neg e]
    simp
  ·exact ih
theorem pL (m : Msh) : ∀ i,i <= m.f.length -> ∀ a,(rf0 m i).1.getD a false=true -> (rf0 m i).2.getD a 0=(aS m).getD a 0
 | 0,_,a,h=>by
  have:=oz m 0 a (by omega)
  simp only [fl0] at this
  simp only [rf0] at h
  rw [this] at h;cases h
 | i + 1,hi,a,h=>by
  obtain ⟨h1,h2⟩:=fA m i
  unfold rf0 at h ⊢
  split at h
  ·rename_i hb
   simp only [hb,if_true] at h ⊢
   rw [a8 (by omega)] at h ⊢
   by_cases e : a=i
   ·rw [if_pos e,e]
   ·rw [if_neg e] at h ⊢
    exact pL m i (by omega) a h
  ·rename_i hb
   simp only [hb] at h ⊢
   exact pL m i (by omega) a h
theorem gY.init (m : Msh) : gY m (dX m) (cT m):=by
 have hf : ∀ a,(List.replicate m.f.length false).getD a false=false:=fun a=>by
  simp [x0N]
  split <;> rfl
 refine ⟨(pM m _).symm,rfl,ki m _,fun a=>?_,fun a ha=>?_,fun a _=>rfl,fun a ha=>?_,?_⟩
 ·have:=s9 m m.f.length (x0j _) a
  simp only [dX,act,cT,hf,pM]
  simpa using this
 ·exact (pL m _ (x0j _) a ha).symm
 ·simp only [cT] at ha
  rw [hf] at ha;cases ha
 ·simp [cT,(fA m _).2]
def rfN (m : Msh) : Nat -> RF -> RF
 | 0,r=>r
 | k + 1,r=>rfN m k (dL m r)
theorem pO (m : Msh) : ∀ (k j : Nat) (r : RF),rfN m (k + j) r=rfN m j (rfN m k r)
 | 0,j,r=>by simp [rfN]
 | k + 1,j,r=>by rw [Nat.succ_add];simp only [rfN];exact pO m k j _
theorem rk (m : Msh) {r : RF} (h : rat r m.f.length < 0) : ∀ j,rfN m j r=r
 | 0=>rfl
 | j + 1=>by simp only [rfN,dL,if_pos h];exact rk m h j
def b8 (m : Msh) : RF:=rfN m (3 * m.f.length) (cT m)
theorem gY.run {m : Msh} : ∀ (k : Nat) {s : Fl} {r : RF},gY m s r -> FlW m s -> gY m (flN m k s) (rfN m k r)
 | 0,_,_,h,_=>h
 | k + 1,_,_,h,W=>gY.run k (h.step W).1 (gG W).1
theorem qz {m : Msh} : ∀ (k : Nat) {s : Fl},FlW m s -> flM (flN m k s) + k <= flM s \/ (flN m k s).q.length=0
 | 0,s,_=>.inl (x0j _)
 | k + 1,s,W=>by
  simp only [flN]
  by_cases h0 : s.q.length=0
  ·right
   have : ew m s=s:=by unfold ew;rw [if_pos h0]
   rw [this,mO m h0];exact h0
  ·obtain ⟨W1,h1⟩:=gG W
   have h2:=h1 (by omega)
   rcases qz k W1 with h3 | h3
   ·left;omega
   ·exact .inr h3
theorem rY (m : Msh) : (aU m).q.length=0:=by
 obtain ⟨W,h⟩:=km m
 rcases qz (3 * m.f.length) W with h1 | h1
 ·have h2 : flM (aU m) + 3 * m.f.length <= flM (dX m):=h1
  have h3 : (aU m).q.length <= flM (aU m):=by unfold flM;omega
  omega
 ·exact h1
theorem oB (m : Msh) : gY m (aU m) (b8 m):=(gY.init m).run _ (km m).1
theorem jp (m : Msh) : FlW m (aU m):=Bn _ (km m).1
theorem rn (m : Msh) (a : Nat) (h : (b8 m).rc.getD a false=true) : (b8 m).lf.getD a false=true:=by
 have h1:=(oB m).cnt a
 have h2 : (aU m).q=[]:=x0H (rY m)
 rw [h2] at h1
 simp only [List.count_nil,act,h,x09] at h1
 cases e : (b8 m).lf.getD a false
 ·rw [e] at h1;simp at h1
 ·rfl
theorem wg (m : Msh) (hall : ∀ a,a < m.f.length -> (b8 m).rc.getD a false=true) : (aU m).sp=(b8 m).lv /\ (aU m).ou=(b8 m).ou:=by
 have h:=oB m
 have W:=jp m
 refine ⟨x0G (by rw [W.sp,h.len.2]) fun i h1 h2=>?_,h.ou⟩
 have:=h.lv i (hall i (by rw [<- W.sp];exact h1))
 simpa [h1,h2] using this
end Go.Gv

namespace Go.Gv
open Go.Lib
def wiS (v : Int) : D:=.agg [.int .i64 (v / 1152921504606846976),.int .i64 (v % 1152921504606846976)]
theorem mH (p : Nat) : wiS p=wiD p:=by simp [wiS,wiD]
variable {C : CC} (hC : aD prog C)
include hC
theorem rF (n : Nat) (h0 : 0 < n) (h : n < 9223372036854775808) : C 112 [.int .i64 (-(n : Int))] (.int .u64 (n : Int)) []:=by
 have e1 : IntKind.u64.wrap (-(n : Int))=((18446744073709551616 - n : Nat) : Int):=uw (by omega) (by omega)
 have e2 : IntKind.u64.wrap (-((18446744073709551616 - n : Nat) : Int))=(n : Int):=uw (by omega) (by omega)
 have h1 : (-(n : Int)) < 0:=by omega
 refine aq hC (nf:=N112) rfl rfl ?_
 obtain ⟨z,hz⟩ : ∃ z,z=-(n : Int):=⟨_,rfl⟩
 obtain ⟨y,hy⟩ : ∃ y,y=((18446744073709551616 - n : Nat) : Int):=⟨_,rfl⟩
 rw [<- hz] at e1 h1 ⊢
 rw [<- hy] at e1 e2
 simp [N112,h1,e1,e2]
theorem oP (p : Nat) (h0 : 0 < p) (h : p < 1329227995784915872903807060280344576) : C 105 [cF p true] (.tup [wiS (-(p : Int)),.int .i64 0]) []:=by
 obtain ⟨ph,hph⟩ : ∃ z,z=p / 1152921504606846976:=⟨_,rfl⟩
 obtain ⟨pl,hpl⟩ : ∃ z,z=p % 1152921504606846976:=⟨_,rfl⟩
 obtain ⟨zh,hzh⟩ : ∃ z,z=p / 18446744073709551616:=⟨_,rfl⟩
 obtain ⟨zl,hzl⟩ : ∃ z,z=p % 18446744073709551616:=⟨_,rfl⟩
 obtain ⟨qh,hqh⟩ : ∃ z,z=(-(p : Int)) / 1152921504606846976:=⟨_,rfl⟩
 obtain ⟨ql,hql⟩ : ∃ z,z=(-(p : Int)) % 1152921504606846976:=⟨_,rfl⟩
 rw [wiS,cF,<- hzh,<- hzl,<- hqh,<- hql]
 obtain ⟨zt,hzt⟩ : ∃ z,z=zl / 1152921504606846976:=⟨_,rfl⟩
 have h1 : ¬ (72057594037927936 : Int) < zh:=by omega
 have h2 : ¬ (zh : Int)=72057594037927936:=by omega
 have e1:=MQ zh (zh * 16) (by omega)
 have e2:=BX zl
 rw [<- hzt] at e2
 have e3:=Ms zh zt (by omega) (by omega)
 have e4 : IntKind.i64.wrap ((zh * 16 + zt : Nat) : Int)=(ph : Int):=af (by omega) (by omega)
 have e5:=wG zl (by omega)
 have e6 : IntKind.i64.wrap ((zl % 1152921504606846976 : Nat) : Int)=(pl : Int):=af (by omega) (by omega)
 have e7 : IntKind.i64.wrap (-(ph : Int))=-(ph : Int):=af rfl (by omega)
 have e8 : IntKind.i64.wrap (-(ph : Int) - 1)=-(ph : Int) - 1:=af rfl (by omega)
 have e9 : IntKind.i64.wrap (1152921504606846976 - (pl : Int))=1152921504606846976 - (pl : Int):=af rfl (by omega)
 refine aq hC (nf:=N105) rfl rfl ?_
 simp [N105,h1,h2,e2,-Int.natCast_mul,-Int.natCast_emod]
 refine ⟨ai (by decide +kernel),?_⟩
 rw [e1,e3,e4,e5,e6]
 simp
 refine aj (fun c1=>?_) (fun c1=>?_) <;> simp at c1
 ·simp [c1,e7]
  omega
 ·simp [c1,e7,e8,e9]
  omega
theorem lO (v : Int) (h : -1329227995784915872903807060280344576 <= v /\ v < 1329227995784915872903807060280344576) : C 106 [wiS v] (.bool true) []:=by
 obtain ⟨ph,hph⟩ : ∃ z,z=v / 1152921504606846976:=⟨_,rfl⟩
 obtain ⟨pl,hpl⟩ : ∃ z,z=v % 1152921504606846976:=⟨_,rfl⟩
 rw [wiS,<- hph,<- hpl]
 have h1 : (-1152921504606846976 : Int) <= ph:=by omega
 have h2 : ph < 1152921504606846976:=by omega
 have h3 : 0 <= pl:=by omega
 have h4 : pl < 1152921504606846976:=by omega
 refine aq hC (nf:=N106) rfl rfl ?_
 simp [N106,h1,h2,h3,h4]
end Go.Gv

namespace Go.Gv
variable {C : CC} (hC : aD prog C)
include hC
theorem u9 (x y : Nat) (hx0 : 0 < x) (hx : x < 9223372036854775808) (hy : y < 9223372036854775808) : C 103 [.int .i64 (-(x : Int)),.int .i64 y] (cF (x * y) (decide (x * y ≠ 0))) []:=by
 have h0 : (-(x : Int)) < 0:=by omega
 have h1 : ¬ (y : Int) < 0:=by omega
 have hm:=o5 hC x y (by omega) (by omega)
 have k1:=rF hC x hx0 hx
 have k2:=kY hC y hy
 rw [cF]
 obtain ⟨Z,hZ⟩ : ∃ Z,Z=x * y:=⟨_,rfl⟩
 rw [<- hZ] at hm ⊢
 obtain ⟨zh,hzh⟩ : ∃ zh,zh=Z / 18446744073709551616:=⟨_,rfl⟩
 obtain ⟨zl,hzl⟩ : ∃ zl,zl=Z % 18446744073709551616:=⟨_,rfl⟩
 have k3:=jh hC zh zl true
 rw [show (true && (!decide ((zh : Int)=0) || !decide ((zl : Int)=0)))=decide (Z ≠ 0) by
  rw [x0v];simp;omega] at k3
 rw [<- hzh,<- hzl] at hm ⊢
 obtain ⟨z,hz⟩ : ∃ z,z=-(x : Int):=⟨_,rfl⟩
 rw [<- hz] at k1 h0 ⊢
 obtain ⟨b,hb⟩ : ∃ b,b=decide (Z ≠ 0):=⟨_,rfl⟩
 rw [<- hb] at k3 ⊢
 refine aq hC (nf:=N103) rfl rfl ?_
 simp [N103]
 refine aa k1 (.inl rfl) ?_
 simp
 refine aa k2 (.inl rfl) ?_
 simp
 refine aa hm (.inl rfl) ?_
 simp [h0,h1]
 refine aa k3 (.inl rfl) ?_
 simp
theorem rH (x : Int) (y : Nat) (hx : -9223372036854775808 < x /\ x < 9223372036854775808) (hy : y < 9223372036854775808) (h : x.natAbs * y < 1329227995784915872903807060280344576) : C 99 [.int .i64 x,.int .i64 y] (.tup [wiS (x * y),.int .i64 0]) []:=by
 by_cases h0 : x < 0
 ·obtain ⟨n,rfl⟩ : ∃ n : Nat,x=-(n : Int):=⟨x.natAbs,by omega⟩
  rw [Int.natAbs_neg,Int.natAbs_natCast] at h
  have k1:=u9 hC n y (by omega) (by omega) hy
  have e : -(n : Int) * (y : Int)=-((n * y : Nat) : Int):=by rw [Int.neg_mul,Int.natCast_mul]
  rw [e]
  obtain ⟨Z,hZ⟩ : ∃ Z,Z=n * y:=⟨_,rfl⟩
  rw [<- hZ] at k1 h ⊢
  have k2 : C 105 [cF Z (decide (Z ≠ 0))] (.tup [wiS (-(Z : Int)),.int .i64 0]) []:=by
   by_cases z0 : Z=0
   ·subst z0
    have:=nv hC 0 (by omega)
    rw [<- mH] at this
    simpa using this
   ·rw [decide_eq_true z0]
    exact oP hC Z (by omega) h
  obtain ⟨c1,c2,e3⟩ : ∃ a b : Int,wiS (-(Z : Int))=.agg [.int .i64 a,.int .i64 b]:=⟨_,_,rfl⟩
  obtain ⟨i1,i2,i3,e7⟩ : ∃ a b c,cF Z (decide (Z ≠ 0))=.agg [.int .u64 a,.int .u64 b,.bool c]:=⟨_,_,_,rfl⟩
  rw [e7] at k1 k2
  rw [e3] at k2 ⊢
  obtain ⟨z,hz⟩ : ∃ z,z=-(n : Int):=⟨_,rfl⟩
  rw [<- hz] at k1 ⊢
  refine aq hC (nf:=N99) rfl rfl ?_
  simp [N99]
  refine aa k1 (.inl rfl) ?_
  simp
  refine aa k2 (.inr rfl) ?_
  simp
 ·obtain ⟨n,rfl⟩ : ∃ n : Nat,x=(n : Int):=⟨x.natAbs,by omega⟩
  rw [Int.natAbs_natCast] at h
  have k:=tN hC n y (by omega) hy h
  rw [<- mH] at k
  simpa using k
end Go.Gv

namespace Go.Gv
variable {C : CC} (hC : aD prog C)
include hC
end Go.Gv

namespace Go.Gv
theorem y6 {α : Type} {p : α -> Bool} {xs : List α} {i : Nat} (h : iP p xs=(i : Int)) : ∃ h : i < xs.length,p xs[i]=true:=by
 unfold iP at h
 cases e : xs.findIdx? p with
 | none=>rw [e] at h;simp at h
 | some k =>
  rw [e] at h
  have h : k=i:=by have h : (k : Int)=(i : Int):=h;omega
  subst h
  rw [x1A] at e
  exact ⟨e.1,e.2.1⟩
theorem tk {m : Msh} {i k : Nat} (h : 0 <= nbF m i k) : ∃ c,c < 3 /\ crn (fce m (nbF m i k).toNat) c=crn (fce m i) (k + 1) /\ crn (fce m (nbF m i k).toNat) (c + 1)=crn (fce m i) k:=by
 have e : nbF m i k=((nbF m i k).toNat : Int):=by omega
 have h2 : iP (fun f=>bT f (crn (fce m i) (k + 1)) (crn (fce m i) k)) m.f=((nbF m i k).toNat : Int):=e
 obtain ⟨h3,h4⟩:=y6 h2
 rw [j9] at h4
 simp only [bT,x0C,x0D,x0a,x0f] at h4
 exact h4
end Go.Gv

namespace Go.Gv
theorem iX {m : Msh} (hv : au m=true) {i k : Nat} (hi : i < m.f.length) (hk : k < 3) (h : 0 <= nbF m i k) : ∃ c,c < 3 /\ nbF m (nbF m i k).toNat c=i:=by
 obtain ⟨c,hc,c1,c2⟩:=tk h
 refine ⟨c,hc,?_⟩
 unfold nbF at c1 c2 ⊢
 rw [c1,c2]
 have hs : bT (fce m i) (crn (fce m i) k) (crn (fce m i) (k + 1))=true:=by
  simp only [bT,x0C,x0D,x0a,x0f]
  exact ⟨k,hk,rfl,rfl⟩
 refine ez (fun j hj hji=>?_) hi (by rw [j9];exact hs)
 rw [j9]
 cases e : bT (fce m j) (crn (fce m i) k) (crn (fce m i) (k + 1))
 ·rfl
 ·have:=lq hv hj hi e hs
  omega
def crs (a b : Pnt) : Int:=a.1 * b.2 - a.2 * b.1
theorem yD (a b : Pnt) : crs b a=-crs a b:=by
 unfold crs
 rw [Int.mul_comm b.1,Int.mul_comm b.2]
 omega
theorem xX (a b c : Pnt) : da a b c=crs a b + crs b c + crs c a:=by
 obtain ⟨a1,a2⟩:=a
 obtain ⟨b1,b2⟩:=b
 obtain ⟨c1,c2⟩:=c
 simp only [da,crs,Int.sub_mul,Int.mul_sub]
 have e1:=Int.mul_comm a1 a2
 have e2:=Int.mul_comm b2 a1
 have e5:=Int.mul_comm a2 b1
 have e3:=Int.mul_comm c1 a2
 have e4:=Int.mul_comm c2 a1
 omega
def gE (m : Msh) (e : Int × Int) : Int:=crs (ptS (spt m e.1.toNat)) (ptS (spt m e.2.toNat))
theorem uF {l l' : List Int} (h : l.Perm l') : l.sum=l'.sum:=by
 induction h with
 | nil=>rfl
 | cons x _ ih=>simp [ih]
 | swap x y l=>simp;omega
 | trans _ _ ih1 ih2=>exact ih1.trans ih2
theorem vB (m : Msh) : ∀ (n : Nat) (E : List (Int × Int)),E.length <= n -> E.Nodup -> (∀ e ∈ E,e.1 ≠ e.2) -> (∀ e ∈ E,(e.2,e.1) ∈ E) -> (E.map (gE m)).sum=0
 | _,[],_,_,_,_=>rfl
 | 0,e::T,h,_,_,_=>by simp at h
 | n + 1,e::T,h,hn,hd,hs=>by
  have hne : (e.2,e.1) ≠ e:=fun he=>hd e (by simp) (by rw [<- he];simp at he ⊢;have:=congrArg Prod.fst he;have:=congrArg Prod.snd he;simp_all)
  have hmem : (e.2,e.1) ∈ T:=by
   rcases x0M.1 (hs e (by simp)) with h1 | h1
   ·exact absurd h1 hne
   ·exact h1
  rw [List.nodup_cons] at hn
  have hp:=List.perm_cons_erase hmem
  have h1:=uF (hp.map (gE m))
  have hel : (T.erase (e.2,e.1)).length + 1=T.length:=by
   have:=hp.length_eq
   simpa using this.symm
  have h2:=vB m n (T.erase (e.2,e.1)) (by simp at h;omega) (hn.2.erase _) (fun x hx=>hd x (List.mem_cons_of_mem _ (List.mem_of_mem_erase hx))) (fun x hx=>by
   rw [hn.2.mem_erase_iff] at hx ⊢
   have h3:=hs x (List.mem_cons_of_mem _ hx.2)
   refine ⟨fun h4=>?_,?_⟩
   ·have : x=e:=by
     have a1:=congrArg Prod.fst h4
     have a2:=congrArg Prod.snd h4
     simp at a1 a2
     exact Prod.ext a2 a1
    exact hn.1 (this ▸ hx.2)
   ·rcases x0M.1 h3 with h4 | h4
    ·exfalso
     refine hx.1 ?_
     rw [<- h4]
    ·exact h4)
  have h3 : gE m (e.2,e.1)=-gE m e:=yD _ _
  simp only [x0B,List.sum_cons] at h1 ⊢
  omega
def sdE (m : Msh) (i : Nat) : List (Int × Int):=[(crn (fce m i) 0,crn (fce m i) 1),(crn (fce m i) 1,crn (fce m i) 2),(crn (fce m i) 2,crn (fce m i) 3)]
theorem mF {m : Msh} {i : Nat} {e : Int × Int} : e ∈ sdE m i ↔ bT (fce m i) e.1 e.2=true:=by
 simp only [sdE,x0M,x08,or_false,bT,x0C,x0D,x0a,x0f]
 constructor
 ·rintro (rfl | rfl | rfl)
  ·exact ⟨0,by omega,rfl,rfl⟩
  ·exact ⟨1,by omega,rfl,rfl⟩
  ·exact ⟨2,by omega,rfl,rfl⟩
 ·rintro ⟨c,hc,c1,c2⟩
  rcases (by omega : c=0 \/ c=1 \/ c=2) with rfl | rfl | rfl
  ·exact .inl (Prod.ext c1.symm c2.symm)
  ·exact .inr (.inl (Prod.ext c1.symm c2.symm))
  ·exact .inr (.inr (Prod.ext c1.symm c2.symm))
theorem qC {α β : Type} (F : α -> List β) (g : β -> Int) : ∀ l : List α,((l.flatMap F).map g).sum=(l.map fun x=>((F x).map g).sum).sum
 | []=>rfl
 | x::l=>by simp [qC F g l]
theorem tH {α : Type} (g : α -> Int) : ∀ l : List α,(∀ x ∈ l,0 < g x) -> l ≠ [] -> 0 < (l.map g).sum
 | [],_,h=>absurd rfl h
 | [x],h,_=>by have:=h x (by simp);simpa using this
 | x::y::l,h,_=>by
  have h1:=h x (by simp)
  have h2:=tH g (y::l) (fun z hz=>h z (by simp [hz])) (by simp)
  simp only [x0B,List.sum_cons] at h2 ⊢
  omega
theorem uy {m : Msh} (hv : au m=true) (u : Nat -> Bool) (hcl : ∀ i k,i < m.f.length -> k < 3 -> u i=true -> 0 <= nbF m i k /\ u (nbF m i k).toNat=true) : ∀ i,i < m.f.length -> u i=false:=by
 intro i hi
 cases hu : u i
 ·rfl
 exfalso
 obtain ⟨U,hU⟩ : ∃ U,U=(List.range m.f.length).filter u:=⟨_,rfl⟩
 have hmU : ∀ x,x ∈ U ↔ x < m.f.length /\ u x=true:=fun x=>by rw [hU,List.mem_filter,x0D]
 have hnU : U.Pairwise (· ≠ ·):=by rw [hU];exact List.Pairwise.filter _ List.nodup_range
 have hcor : ∀ x,x < m.f.length -> (fce m x).a ≠ (fce m x).b /\ (fce m x).b ≠ (fce m x).c /\ (fce m x).c ≠ (fce m x).a:=fun x hx=>by
  have:=(ip hv hx).1
  simp only [okF,okc,x0a,x0f] at this
  exact ⟨this.1.1.1.1.1.2,this.1.1.1.2.1.2,this.1.1.2.1.2⟩
 have hE:=vB m _ (U.flatMap (sdE m)) (x0j _) (by
  rw [List.Nodup,List.pairwise_flatMap]
  refine ⟨fun x hx=>?_,hnU.imp_of_mem fun {x y} hx hy hxy e he e' he' h=>?_⟩
  ·obtain ⟨k1,k2,k3⟩:=hcor x ((hmU x).1 hx).1
   simp only [sdE,crn,List.pairwise_cons,x0M,x08,or_false,forall_eq_or_imp,forall_eq,List.Pairwise.nil,and_true,ne_eq,Prod.mk.injEq,not_and,false_imp_iff,implies_true]
   exact ⟨⟨fun h=>absurd h k1,fun h=>absurd h.symm k3⟩,fun h=>absurd h k2⟩
  ·subst h
   exact hxy (lq hv ((hmU x).1 hx).1 ((hmU y).1 hy).1 (mF.1 he) (mF.1 he'))) (fun e he=>by
  obtain ⟨x,hx,hex⟩:=x1h.1 he
  obtain ⟨k1,k2,k3⟩:=hcor x ((hmU x).1 hx).1
  simp only [sdE,crn,x0M,x08,or_false] at hex
  rcases hex with rfl | rfl | rfl
  ·exact k1
  ·exact k2
  ·exact k3) (fun e he=>by
  obtain ⟨x,hx,hex⟩:=x1h.1 he
  have hxl:=(hmU x).1 hx
  have hh:=mF.1 hex
  simp only [bT,x0C,x0D,x0a,x0f] at hh
  obtain ⟨k,hk,k1,k2⟩:=hh
  obtain ⟨h1,h2⟩:=hcl x k hxl.1 hk hxl.2
  obtain ⟨c,hc,c1,c2⟩:=tk h1
  have hb:=cS m x k
  refine x1h.2 ⟨(nbF m x k).toNat,(hmU _).2 ⟨by omega,h2⟩,mF.2 ?_⟩
  simp only [bT,x0C,x0D,x0a,x0f]
  exact ⟨c,hc,by rw [c1,k2],by rw [c2,k1]⟩)
 rw [qC] at hE
 have hpos:=tH (fun x=>((sdE m x).map (gE m)).sum) U (fun x hx=>by
  have:=(ip hv ((hmU x).1 hx).1).2
  have e : jI (aR m (fce m x))=((sdE m x).map (gE m)).sum:=by
   unfold jI
   rw [xX]
   simp only [sdE,x0B,x0V,List.sum_cons,List.sum_nil,gE,aR,crn]
   omega
  rw [<- e];exact this) (by
  intro h
  have:=(hmU i).2 ⟨hi,hu⟩
  rw [h] at this;cases this)
 omega
end Go.Gv

namespace Go.Gv
theorem xp {m : Msh} {i : Nat} {r : RF} {k : Int} : (fB m i r k).rc.length=r.rc.length /\ (fB m i r k).lf=r.lf:=by
 unfold fB
 split
 ·simp
 ·exact ⟨rfl,rfl⟩
theorem mD {m : Msh} {i : Nat} {r : RF} : ∀ j,(rfI m i r j).rc.length=r.rc.length /\ (rfI m i r j).lf=r.lf
 | 0=>⟨rfl,rfl⟩
 | j + 1=>by
  obtain ⟨h1,h2⟩:=mD (m:=m) (i:=i) (r:=r) j
  obtain ⟨h3,h4⟩:=xp (m:=m) (i:=i) (r:=rfI m i r j) (k:=nbF m i j)
  exact ⟨h3.trans h1,h4.trans h2⟩
theorem pN {m : Msh} {i a : Nat} {r : RF} (h : r.rc.getD a false=true) : ∀ j,(rfI m i r j).rc.getD a false=true
 | 0=>h
 | j + 1=>pP (pN h j)
theorem oY {m : Msh} {i : Nat} {r : RF} (hl : r.rc.length=m.f.length) : ∀ j c,c < j -> 0 <= nbF m i c -> (rfI m i r j).rc.getD (nbF m i c).toNat false=true
 | 0,c,h,_=>by omega
 | j + 1,c,h,h0=>by
  by_cases e : c=j
  ·subst e
   show (fB m i (rfI m i r c) (nbF m i c)).rc.getD _ false=true
   have hb:=cS m i c
   unfold fB
   cases e2 : (rfI m i r c).rc.getD (nbF m i c).toNat false
   ·rw [if_pos ⟨h0,rfl⟩]
    rw [a8 (by rw [(mD c).1];omega),if_pos rfl]
   ·rw [if_neg (by simp)]
    exact e2
  ·exact pP (oY hl j c (by omega) h0)
structure RCl (m : Msh) (r : RF) : Prop where
 len : r.rc.length=m.f.length
 cl : ∀ a,r.lf.getD a false=true -> ∀ c,c < 3 -> 0 <= nbF m a c -> r.rc.getD (nbF m a c).toNat false=true
 bd : ∀ a,a < m.f.length -> bsd m a (-1)=true -> r.rc.getD a false=true
theorem mW {l : List Bool} {i j : Nat} (h : (l.set i true).getD j false=true) : j=i \/ l.getD j false=true:=by
 by_cases e : i < l.length
 ·rw [a8 e] at h
  split at h
  ·exact .inl (by assumption)
  ·exact .inr h
 ·rw [List.set_eq_of_length_le (by omega)] at h
  exact .inr h
theorem RCl.step {m : Msh} {r : RF} (h : RCl m r) : RCl m (dL m r):=by
 unfold dL
 split
 ·exact h
 ·obtain ⟨h1,h2⟩:=mD (m:=m) (i:=(rat r m.f.length).toNat) (r:={ r with lf:=r.lf.set (rat r m.f.length).toNat true }) 3
  refine ⟨h1.trans h.len,fun a ha c hc h0=>?_,fun a ha hb=>pN (r:={ r with lf:=r.lf.set (rat r m.f.length).toNat true }) (h.bd a ha hb) 3⟩
  rw [h2] at ha
  rcases mW ha with rfl | ha
  ·exact oY (r:={ r with lf:=r.lf.set (rat r m.f.length).toNat true }) h.len 3 c hc h0
  ·exact pN (r:={ r with lf:=r.lf.set (rat r m.f.length).toNat true }) (h.cl a ha c hc h0) 3
theorem RCl.run {m : Msh} : ∀ (k : Nat) {r : RF},RCl m r -> RCl m (rfN m k r)
 | 0,_,h=>h
 | k + 1,_,h=>RCl.run k h.step
theorem sE (m : Msh) : ∀ i,i <= m.f.length -> ∀ a,a < i -> bsd m a (-1)=true -> (rf0 m i).1.getD a false=true
 | 0,_,a,h,_=>by omega
 | i + 1,hi,a,h,hb=>by
  have hl:=(fA m i).1
  unfold rf0
  by_cases e : a=i
  ·subst e
   rw [if_pos hb]
   simp only
   rw [a8 (by omega),if_pos rfl]
  ·have ih:=sE m i (by omega) a (by omega) hb
   split
   ·simp only
    rw [a8 (by omega),if_neg e]
    exact ih
   ·exact ih
theorem RCl.init (m : Msh) : RCl m (cT m):=by
 refine ⟨(fA m _).1,fun a ha=>?_,fun a ha hb=>sE m _ (x0j _) a ha hb⟩
 have hf : (List.replicate m.f.length false).getD a false=false:=by
  simp [x0N]
  split <;> rfl
 simp only [cT] at ha
 rw [hf] at ha;cases ha
theorem gf {m : Msh} (hv : au m=true) : ∀ a,a < m.f.length -> (b8 m).rc.getD a false=true:=by
 have hc : RCl m (b8 m):=(RCl.init m).run _
 intro a ha
 have:=uy hv (fun i=>!(b8 m).rc.getD i false) (fun i k hi hk hu=>?_) a ha
 ·simpa using this
 ·simp only [x0t] at hu ⊢
  have hb:=cS m i k
  have h0 : 0 <= nbF m i k:=by
   by_cases e : nbF m i k=-1
   ·exfalso
    have h1 : bsd m i (-1)=true:=by
     rcases (by omega : k=0 \/ k=1 \/ k=2) with rfl | rfl | rfl <;> simp [bsd,e]
    rw [hc.bd i hi h1] at hu;cases hu
   ·omega
  refine ⟨h0,?_⟩
  cases e : (b8 m).rc.getD (nbF m i k).toNat false
  ·rfl
  ·exfalso
   have h1:=rn m _ e
   obtain ⟨c,hc1,hc2⟩:=iX hv hi hk h0
   have h2:=hc.cl _ h1 c hc1 (by omega)
   rw [hc2] at h2
   simp only [x0L] at h2
   rw [h2] at hu;cases hu
theorem fI {m : Msh} (hv : au m=true) : (aU m).sp=(b8 m).lv /\ (aU m).ou=(b8 m).ou:=wg m (gf hv)
end Go.Gv

namespace Go.Gv
def jW (n : Nat) (ou : List Int) (rc : List Bool) : Nat -> Nat -> Prop
 | 0,a=>ou.getD a 0=-1
 | d + 1,a=>∃ b : Nat,b < n /\ ou.getD a 0=b /\ rc.getD b false=true /\ jW n ou rc d b
structure OuI (m : Msh) (r : RF) : Prop where
 rc : r.rc.length=m.f.length
 ou : r.ou.length=m.f.length
 e : ∀ a,a < m.f.length -> r.rc.getD a false=true -> ∃ d,d <= r.rc.count true /\ jW m.f.length r.ou r.rc d a
theorem jW.mono {n : Nat} {ou ou' : List Int} {rc rc' : List Bool} (h1 : ∀ a,rc.getD a false=true -> rc'.getD a false=true /\ ou'.getD a 0=ou.getD a 0) : ∀ {d a : Nat},rc.getD a false=true -> jW n ou rc d a -> jW n ou' rc' d a
 | 0,a,ha,h=>by
  show ou'.getD a 0=-1
  rw [(h1 a ha).2];exact h
 | d + 1,a,ha,⟨b,hb,e1,e2,e3⟩=>⟨b,hb,by rw [(h1 a ha).2];exact e1,(h1 b e2).1,jW.mono h1 e2 e3⟩
theorem qu {l : List Bool} {i : Nat} (h : i < l.length) (hf : l.getD i false=false) : (l.set i true).count true=l.count true + 1:=by
 have h1 : l[i]=false:=by simpa [h] using hf
 rw [List.count_set h,h1]
 simp
theorem OuI.p1 {m : Msh} {i : Nat} {r : RF} {k : Int} (h : OuI m r) (hi : i < m.f.length) (hr : r.rc.getD i false=true) (hk : k < m.f.length) : OuI m (fB m i r k):=by
 unfold fB
 split
 ·rename_i hc
  have hkl : k.toNat < m.f.length:=by omega
  have hrc:=fun j=>a8 (l:=r.rc) (i:=k.toNat) (j:=j) (x:=true) (d:=false) (by rw [h.rc];omega)
  have hou:=fun j (x : Int)=>a8 (l:=r.ou) (i:=k.toNat) (j:=j) (x:=x) (d:=(0 : Int)) (by rw [h.ou];omega)
  have hm : ∀ a,r.rc.getD a false=true -> (r.rc.set k.toNat true).getD a false=true /\ (r.ou.set k.toNat (i : Int)).getD a 0=r.ou.getD a 0:=fun a ha=>by
   have hne : a ≠ k.toNat:=fun e=>by rw [e,hc.2] at ha;cases ha
   rw [hrc,hou,if_neg hne,if_neg hne]
   exact ⟨ha,rfl⟩
  have hct:=qu (l:=r.rc) (i:=k.toNat) (by rw [h.rc];omega) hc.2
  refine ⟨by simp [h.rc],by simp [h.ou],fun a ha har=>?_⟩
  simp only at har ⊢
  rw [hct]
  by_cases e : a=k.toNat
  ·obtain ⟨d,hd,he⟩:=h.e i hi hr
   refine ⟨d + 1,by omega,i,hi,?_,(hm i hr).1,jW.mono hm hr he⟩
   rw [hou,if_pos e]
  ·rw [hrc,if_neg e] at har
   obtain ⟨d,hd,he⟩:=h.e a ha har
   exact ⟨d,by omega,jW.mono hm har he⟩
 ·exact h
theorem OuI.i {m : Msh} {i : Nat} {r : RF} (h : OuI m r) (hi : i < m.f.length) (hr : r.rc.getD i false=true) : ∀ j,OuI m (rfI m i r j)
 | 0=>h
 | j + 1=>(OuI.i h hi hr j).p1 hi (pN hr j) (cS m i j).2
theorem OuI.step {m : Msh} {r : RF} (h : OuI m r) : OuI m (dL m r):=by
 unfold dL
 split
 ·exact h
 ·rename_i h0
  rcases gO r m.f.length with ⟨h1,_⟩ | ⟨a,h1,h2,h3,_⟩
  ·omega
  ·rw [h1]
   simp only [act,x0a] at h3
   exact OuI.i (r:={ r with lf:=r.lf.set a true }) ⟨h.rc,h.ou,h.e⟩ h2 h3.1 3
theorem OuI.run {m : Msh} : ∀ (k : Nat) {r : RF},OuI m r -> OuI m (rfN m k r)
 | 0,_,h=>h
 | k + 1,_,h=>OuI.run k h.step
theorem OuI.init (m : Msh) : OuI m (cT m):=by
 refine ⟨(fA m _).1,by simp [cT],fun a ha _=>⟨0,by omega,?_⟩⟩
 show (List.replicate m.f.length (-1 : Int)).getD a 0=-1
 simp [x0N,ha]
def mth (ou : List Int) : Nat -> Nat -> Nat
 | 0,a=>a
 | k + 1,a=>if ou.getD a 0=-1 then a else mth ou k (ou.getD a 0).toNat
theorem px {n : Nat} {ou : List Int} {rc : List Bool} : ∀ {d a : Nat},jW n ou rc d a -> ∀ k,d <= k -> mth ou k a=mth ou d a
 | 0,a,h,k,_=>by
  cases k with
  | zero=>rfl
  | succ k =>
   have h : ou.getD a 0=-1:=h
   simp only [mth,h,if_true]
 | d + 1,a,⟨b,_,e1,_,e3⟩,k,hk=>by
  cases k with
  | zero=>omega
  | succ k =>
   simp only [mth,e1]
   rw [if_neg (by omega),if_neg (by omega)]
   exact px e3 k (by omega)
theorem mQ {m : Msh} (hv : au m=true) {a : Nat} (ha : a < m.f.length) : ∃ d,d <= m.f.length /\ jW m.f.length (aU m).ou (b8 m).rc d a:=by
 have h : OuI m (b8 m):=(OuI.init m).run _
 obtain ⟨d,hd,he⟩:=h.e a ha (gf hv a ha)
 refine ⟨d,?_,by rw [(fI hv).2];exact he⟩
 have:=List.count_le_length (a:=true) (l:=(b8 m).rc)
 have:=h.rc
 omega
end Go.Gv

namespace Go.Gv
def fo (m : Msh) (i : Nat) : Bool:=decide ((aS m).getD i 0 < (aU m).sp.getD i 0)
def la (m : Msh) (i : Nat) (k : Int) : Bool:=decide (k ≠ -1) && (fo m i && (fo m k.toNat && decide ((aU m).sp.getD i 0=(aU m).sp.getD k.toNat 0)))
def eK (m : Msh) (i k : Nat) : Prop:=i < m.f.length /\ k < m.f.length /\ fo m i=true /\ fo m k=true /\ (aU m).sp.getD i 0=(aU m).sp.getD k 0 /\ ∃ j,j < 3 /\ nbF m i j=k
theorem ol {m : Msh} (hv : au m=true) : ∀ a b,eK m a b -> eK m b a:=by
 rintro a b ⟨h1,h2,h3,h4,h5,j,hj,e⟩
 obtain ⟨c,hc,e2⟩:=iX hv h1 hj (by omega)
 rw [e] at e2
 exact ⟨h2,h1,h4,h3,h5.symm,c,hc,by simpa using e2⟩
theorem vw {m : Msh} {i j : Nat} (hi : i < m.f.length) (hj : j < 3) (h : la m i (nbF m i j)=true) : ∃ k : Nat,nbF m i j=k /\ k < m.f.length /\ eK m i k:=by
 simp only [la,x0a,x0f] at h
 obtain ⟨h1,h2,h3,h4⟩:=h
 have hb:=cS m i j
 refine ⟨(nbF m i j).toNat,by omega,by omega,hi,by omega,h2,h3,h4,j,hj,by omega⟩
theorem vx {m : Msh} {i k : Nat} (h : eK m i k) : la m i k=true:=by
 obtain ⟨h1,h2,h3,h4,h5,_⟩:=h
 simp only [la,x0a,x0f,x0L]
 exact ⟨by omega,h3,h4,h5⟩
def foJ (m : Msh) (i : Nat) (f : List Nat) : Nat -> List Nat
 | 0=>f
 | j + 1=>if la m i (nbF m i j) then gM (foJ m i f j) i (nbF m i j).toNat else foJ m i f j
def foI (m : Msh) : Nat -> List Nat
 | 0=>List.range m.f.length
 | i + 1=>foJ m i (foI m i) 3
theorem mS {m : Msh} (hv : au m=true) {i : Nat} (hi : i < m.f.length) {f : List Nat} (h : Fo m.f.length f) (hf : jK m.f.length (eK m) f) : ∀ j,j <= 3 ->
  Fo m.f.length (foJ m i f j) /\ jK m.f.length (eK m) (foJ m i f j) /\ (∀ x y,x < m.f.length -> y < m.f.length -> ftF f x=ftF f y -> ftF (foJ m i f j) x=ftF (foJ m i f j) y) /\
  (∀ c k : Nat,c < j -> nbF m i c=k -> eK m i k -> ftF (foJ m i f j) i=ftF (foJ m i f j) k)
 | 0,_=>⟨h,hf,fun _ _ _ _ e=>e,fun c k hc=>by omega⟩
 | j + 1,hj=>by
  obtain ⟨h1,h2,h3,h4⟩:=mS hv hi h hf j (by omega)
  unfold foJ
  split
  ·rename_i hb
   obtain ⟨k,e,hk,ha⟩:=vw hi (by omega) hb
   have e2 : (nbF m i j).toNat=k:=by omega
   rw [e2]
   refine ⟨(eC h1 hi hk).1,jK.join (ol hv) h1 h2 hi hk ha,fun x y hx hy ex=>jq h1 hi hk hx hy (h3 x y hx hy ex),fun c k' hc ec hak=>?_⟩
   by_cases hcj : c=j
   ·subst hcj
    have : k'=k:=by omega
    subst this
    exact oE h1 hi hk
   ·exact jq h1 hi hk hi hak.2.1 (h4 c k' (by omega) ec hak)
  ·rename_i hb
   refine ⟨h1,h2,h3,fun c k' hc ec hak=>?_⟩
   by_cases hcj : c=j
   ·subst hcj
    have:=vx hak
    rw [<- ec] at this
    exact absurd this hb
   ·exact h4 c k' (by omega) ec hak
theorem gI {m : Msh} (hv : au m=true) : ∀ i,i <= m.f.length -> Fo m.f.length (foI m i) /\ jK m.f.length (eK m) (foI m i) /\ (∀ a k : Nat,a < i -> eK m a k -> ftF (foI m i) a=ftF (foI m i) k)
 | 0,_=>⟨(jK.init (eK m)).1,(jK.init (eK m)).2.1,fun a k h=>by omega⟩
 | i + 1,hi=>by
  obtain ⟨h1,h2,h3⟩:=gI hv i (by omega)
  obtain ⟨q1,q2,q3,q4⟩:=mS hv (show i < m.f.length by omega) h1 h2 3 (by omega)
  refine ⟨q1,q2,fun a k ha hak=>?_⟩
  by_cases e : a=i
  ·subst e
   obtain ⟨_,_,_,_,_,j,hj,ej⟩:=id hak
   exact q4 j k hj ej hak
  ·exact q3 a k hak.1 hak.2.1 (h3 a k (by omega) hak)
def rtP (m : Msh) (x : Nat) : Nat:=ftF (foI m m.f.length) x
theorem pT {m : Msh} (hv : au m=true) {a b : Nat} (ha : a < m.f.length) (hb : b < m.f.length) : rtP m a=rtP m b ↔ Cn (eK m) a b:=by
 obtain ⟨h1,h2,h3⟩:=gI hv m.f.length (x0j _)
 constructor
 ·intro e
  have k1:=h2 a ha
  have k2:=h2 b hb
  unfold rtP at e
  rw [e] at k1
  exact k1.trans (k2.symm (ol hv))
 ·intro h
  exact Cn.root (fun x y hxy=>h3 x y hxy.1 hxy) h
theorem pU {m : Msh} (hv : au m=true) {a : Nat} (ha : a < m.f.length) : rtP m a <= a /\ rtP m (rtP m a)=rtP m a:=by
 obtain ⟨h1,_,_⟩:=gI hv m.f.length (x0j _)
 exact ⟨(fP h1 a ha).1,wh h1 ha⟩
theorem Cn.wet {m : Msh} {a b : Nat} (h : Cn (eK m) a b) : fo m a=fo m b /\ (aU m).sp.getD a 0=(aU m).sp.getD b 0:=by
 induction h with
 | refl=>exact ⟨rfl,rfl⟩
 | step _ r ih =>
  obtain ⟨_,_,h3,h4,h5,_⟩:=r
  exact ⟨ih.1.trans (h3.trans h4.symm),ih.2.trans h5⟩
theorem tv {m : Msh} (hv : au m=true) {a : Nat} (ha : a < m.f.length) : fo m (rtP m a)=fo m a /\ (aU m).sp.getD (rtP m a) 0=(aU m).sp.getD a 0:=by
 have h:=(gI hv m.f.length (x0j _)).2.1 a ha
 exact ⟨h.wet.1.symm,h.wet.2.symm⟩
def stB (m : Msh) (s : Nat) : Bool:=fo m s && decide (rtP m s=s)
def stT (m : Msh) (i : Nat) : List Nat:=(List.range i).filter (stB m)
def inP (m : Msh) (s k : Nat) : Bool:=fo m k && decide (rtP m k=s)
def dt (m : Msh) (i : Nat) : List (List Nat):=(stT m i).map fun s=>(List.range i).filter (inP m s)
def bU (m : Msh) : List (List Nat):=dt m m.f.length
def gL (m : Msh) (i : Nat) : List Int:=(List.range m.f.length).map fun s=>if s < i /\ stB m s=true then ((stT m s).length : Int) else 0
theorem eP (m : Msh) (i : Nat) : stT m (i + 1)=if stB m i then stT m i++[i] else stT m i:=by
 unfold stT
 rw [x03,x1r]
 split <;> simp_all
theorem nS (m : Msh) {r : Nat} (hr : stB m r=true) : ∀ i,r < i -> ∃ h : (stT m r).length < (stT m i).length,(stT m i)[(stT m r).length]=r
 | 0,h=>by omega
 | i + 1,h=>by
  have e:=eP m i
  by_cases hi : r=i
  ·subst hi
   rw [if_pos hr] at e
   refine ⟨by rw [e];simp,?_⟩
   simp [e]
  ·obtain ⟨h1,h2⟩:=nS m hr i (by omega)
   split at e
   ·refine ⟨by rw [e];simp;omega,?_⟩
    simp only [e]
    rw [List.getElem_append_left h1]
    exact h2
   ·refine ⟨by rw [e];exact h1,?_⟩
    simp only [e]
    exact h2
theorem D6 (m : Msh) {r i j : Nat} (hr : stB m r=true) (hj : j < (stT m i).length) (hne : j ≠ (stT m r).length) : (stT m i)[j] ≠ r:=by
 intro e
 have hm : r ∈ stT m i:=by rw [<- e];exact x0u _
 have hri : r < i:=by
  have:=(List.mem_filter.1 hm).1
  simpa using this
 obtain ⟨h1,h2⟩:=nS m hr i hri
 have hnd : (stT m i).Nodup:=List.Pairwise.filter _ List.nodup_range
 exact hne ((List.getElem_inj hnd).1 (e.trans h2.symm))
theorem fW (m : Msh) (i : Nat) : (dt m i).length=(stT m i).length:=by simp [dt]
theorem sQ (m : Msh) (i : Nat) : (stT m i).length <= i:=by
 have:=x1H (stB m) (List.range i)
 simpa [stT] using this
theorem m9 (m : Msh) (i : Nat) : (gL m i).length=m.f.length:=by simp [gL]
theorem qH {m : Msh} {i r : Nat} (hr : r < i) (hi : i <= m.f.length) (hs : stB m r=true) : (gL m i).getD r 0=((stT m r).length : Int):=by
 simp [gL,show r < m.f.length by omega,hr,hs]
theorem wu {m : Msh} {i : Nat} (hi : i < m.f.length) (hs : stB m i=true) : (gL m i).set i ((stT m i).length : Int)=gL m (i + 1):=by
 unfold gL
 apply x0G (by simp)
 intro j h1 h2
 simp only [x1i,x1g,x1I]
 by_cases e : i=j
 ·subst e
  rw [if_pos rfl,if_pos ⟨by omega,hs⟩]
 ·rw [if_neg e]
  by_cases h : j < i /\ stB m j=true
  ·rw [if_pos h,if_pos ⟨by omega,h.2⟩]
  ·rw [if_neg h,if_neg fun h3=>h ⟨by omega,h3.2⟩]
theorem oD {m : Msh} {i : Nat} (hs : stB m i=false) : gL m i=gL m (i + 1):=by
 unfold gL
 apply x0n
 intro j _
 by_cases h : j < i /\ stB m j=true
 ·rw [if_pos h,if_pos ⟨by omega,h.2⟩]
 ·rw [if_neg h,if_neg fun h3=>h ⟨by
   have : j ≠ i:=fun e=>by rw [e,hs] at h3;exact absurd h3.2 (by decide)
   omega,h3.2⟩]
theorem uk (m : Msh) : gL m 0=List.replicate m.f.length 0:=by
 unfold gL
 apply x0G (by simp)
 intro j h1 h2
 simp
theorem nq {m : Msh} {i : Nat} (h : fo m i=false) : dt m (i + 1)=dt m i:=by
 unfold dt
 rw [eP,if_neg (by simp [stB,h])]
 apply x0n
 intro s _
 rw [x03,x1r]
 simp [inP,h]
theorem wW {m : Msh} (hv : au m=true) {i : Nat} (hi : i < m.f.length) (h : stB m i=true) : dt m (i + 1)=(dt m i++[[]]).set (stT m i).length [i]:=by
 have hw : fo m i=true /\ rtP m i=i:=by simpa [stB] using h
 unfold dt
 rw [eP,if_pos h,List.map_append,<- x1K (f:=fun s=>(List.range i).filter (inP m s)),List.set_append_right _ _ (x0j _)]
 simp only [Nat.sub_self,x0B,x0V,List.set_cons_zero]
 congr 1
 ·apply x0n
  intro s hs
  rw [x03,x1r]
  have : s < i:=by simpa using (List.mem_filter.1 hs).1
  have hne : ¬ i=s:=by omega
  simp [inP,hw.1,hw.2,hne]
 ·rw [x03,x1r]
  have h0 : (List.range i).filter (inP m i)=[]:=by
   rw [List.filter_eq_nil_iff]
   intro k hk
   have hk : k < i:=by simpa using hk
   have:=(pU hv (a:=k) (by omega)).1
   simp only [inP,x0a,x0f]
   omega
  simp [h0,inP,hw.1,hw.2]
theorem wX {m : Msh} {i r : Nat} (hw : fo m i=true) (hr : rtP m i=r) (hri : r < i) (hs : stB m r=true) : ∃ l,l.length <= i /\ (dt m i)[(stT m r).length]? = some l /\ dt m (i + 1)=(dt m i).set (stT m r).length (l++[i]):=by
 obtain ⟨h1,h2⟩:=nS m hs i hri
 have hn : stB m i=false:=by
  have : ¬ r=i:=by omega
  simp [stB,hr,this]
 refine ⟨(List.range i).filter (inP m r),by have:=x1H (inP m r) (List.range i);simpa using this,?_,?_⟩
 ·unfold dt
  rw [x0x,x0d h1,h2]
  rfl
 ·unfold dt
  rw [eP,if_neg (by simp [hn])]
  apply x0G (by simp)
  intro j g1 g2
  simp only [x1g,x1i]
  have g3 : j < (stT m i).length:=by simpa using g1
  have e3 : ∀ s,(List.range (i + 1)).filter (inP m s)=(List.range i).filter (inP m s)++(if inP m s i=true then [i] else []):=fun s=>by
   rw [x03,x1r]
   congr 1
   rw [List.filter_cons,List.filter_nil]
  simp only [e3]
  by_cases e : (stT m r).length=j
  ·subst e
   rw [if_pos rfl,h2,if_pos (by simp [inP,hw,hr])]
  ·rw [if_neg e]
   have:=D6 m hs g3 (fun h=>e h.symm)
   have h5 : ¬ r=(stT m i)[j]:=fun h=>this h.symm
   rw [if_neg (by simp [inP,hw,hr,h5]),List.append_nil]
end Go.Gv

namespace Go.Gv
def fg (l : List (List Nat)) : List (List D):=l.map fun p=>[.sl (nfR p)]
def dA (l : List (List Nat)) : List (List D):=l.map fun p=>[.own 1 (nfR p)]
theorem tn (l : List (List Nat)) : (dA l).map (fun e=>e.map bo)=fg l:=by simp [dA,fg,bo]
section
variable {C : Nat -> List D -> D -> List D -> Prop} (hC : aD prog C)
include hC
theorem Nc (m : Msh) (i : Nat) (hi : i < m.f.length) : C 330 [.int .i64 i,.ptr [dY m]] (.bool (fo m i)) []:=by
 have W:=jp m
 have h1 : i < (aU m).sp.length:=by rw [W.sp];exact hi
 have h2 : i < (aS m).length:=by simpa using hi
 refine aq hC (nf:=N330) rfl rfl ?_
 simp [N330,dY,ap (bx h1),ap (bx h2)]
 exact ⟨ai (by decide +kernel),rfl⟩
set_option maxRecDepth 8000 in
set_option maxHeartbeats 2000000 in
theorem wZ (m : Msh) (hv : au m=true) : C 314 [dY m] (.sl (fg (bU m))) []:=by
 have W:=jp m
 have hsz:=(cQ hv).2
 have kf:=mU hC m.f.length (by omega)
 have e0 : dY m=.ptr [.sl (nbA m),slx true (inR (aS m)),.sl (inR (aU m).sp),.sl (inR (aU m).ou)]:=rfl
 have kw:=fun i hi=>Nc hC m i hi
 refine aq hC (nf:=N314) rfl rfl ?_
 simp [N314,e0]
 refine jj kf ?_
 simp
 have hfl : ∀ i,i <= m.f.length -> (foI m i).length=m.f.length:=fun i hi=>(gI hv i hi).1.len
 obtain ⟨fD,hfD⟩ : ∃ fD,fD=dY m:=⟨_,rfl⟩
 rw [<- e0,<- hfD]
 rw [<- hfD] at kw
 refine av Nat (fun i=>[(1,.ptr [fD]),(3,.ref (.r 10048) 0 m.f.length),(4,.fn 330 [.ptr [fD]]),(23,.sl (nbA m)),(24,.int .i64 m.f.length),(25,.int .i64 i),(10048,.blk 1 (nfR (foI m i)))]) (fun i=>i <= m.f.length) (fun i=>m.f.length - i) 0 (by simp) (by simp [foI]) ?_
 rintro i hi
 have hw : IntKind.wrap .i64 ((i : Int) + 1)=((i + 1 : Nat) : Int):=af (by omega) (by omega)
 obtain ⟨F1,F2,F3⟩:=gI hv i hi
 simp
 refine aj (fun g1=>?_) (fun g1=>?_) <;> simp at g1 <;> simp [g1]
 ·simp [ap (gj g1)]
  obtain ⟨f0,hf0⟩ : ∃ f0,f0=foI m i:=⟨_,rfl⟩
  have hsp:=fun j hj=>mS hv g1 F1 F2 j hj
  rw [<- hf0] at F1 F2 F3 hsp ⊢
  refine av Nat (fun j=>[(1,.ptr [fD]),(3,.ref (.r 10048) 0 m.f.length),(4,.fn 330 [.ptr [fD]]),(5,.int .i64 i),(23,.sl (nbA m)),(24,.int .i64 m.f.length),(25,.int .i64 i),(30,.agg [.int .i64 (nbF m i 0),.int .i64 (nbF m i 1),.int .i64 (nbF m i 2)]),(31,.int .i64 j),(10048,.blk 1 (nfR (foJ m i f0 j)))]) (fun j=>j <= 3) (fun j=>3 - j) 0 (by simp) (by simp [foJ]) ?_
  rintro j hj
  have hw2 : IntKind.wrap .i64 ((j : Int) + 1)=((j + 1 : Nat) : Int):=af (by omega) (by omega)
  obtain ⟨J1,J2,J3,J4⟩:=hsp j hj
  obtain ⟨fj,hfj⟩ : ∃ fj,fj=foJ m i f0 j:=⟨_,rfl⟩
  have hnx : foJ m i f0 (j + 1)=if la m i (nbF m i j) then gM fj i (nbF m i j).toNat else fj:=by rw [hfj];rfl
  rw [<- hfj] at J1 J2 J3 J4 ⊢
  have hjl:=J1.len
  simp
  refine aj (fun g3=>?_) (fun g3=>?_) <;> simp at g3
  ·have hxj : ([.int .i64 (nbF m i 0),.int .i64 (nbF m i 1),.int .i64 (nbF m i 2)] : List D)[j]?.getD .any=.int .i64 (nbF m i j):=by
    rcases (by omega : j=0 \/ j=1 \/ j=2) with rfl | rfl | rfl <;> rfl
   have hbd:=cS m i j
   obtain ⟨kk,hkk⟩ : ∃ kk,kk=nbF m i j:=⟨_,rfl⟩
   rw [<- hkk] at hxj hbd hnx
   simp [show (j : Int) < 3 by omega,hxj]
   refine ⟨by omega,?_⟩
   have fin : la m i kk=false -> ∃ x,x <= 3 /\ 3 - x < 3 - j /\ IntKind.wrap .i64 ((j : Int) + 1)=(x : Int) /\ nfR fj=nfR (foJ m i f0 x):=fun hb=>⟨j + 1,by omega,by omega,hw2,by rw [hnx,hb];rfl⟩
   by_cases c1 : kk=-1
   ·simp [c1]
    exact ⟨ai (by decide +kernel),fin (by simp [la,c1])⟩
   ·obtain ⟨c,hc⟩ : ∃ c : Nat,kk=c:=⟨kk.toNat,by omega⟩
    subst hc
    have hcn : c < m.f.length:=by omega
    simp [c1]
    refine aa (kw i g1) (.inl rfl) ?_
    cases w1 : fo m i
    ·simp
     exact ⟨ai (by decide +kernel),fin (by simp [la,w1])⟩
    ·simp
     refine aa (kw c hcn) (.inl rfl) ?_
     cases w2 : fo m c
     ·simp
      exact ⟨ai (by decide +kernel),fin (by simp [la,w1,w2])⟩
     ·have h1 : i < (aU m).sp.length:=by rw [W.sp];exact g1
      have h2 : c < (aU m).sp.length:=by rw [W.sp];exact hcn
      have hj2:=(eC J1 g1 hcn).1
      rw [hfD,e0]
      simp [ap (bx h1),ap (bx h2)]
      refine ⟨ai (by decide +kernel),?_⟩
      refine aj (fun g5=>?_) (fun g5=>?_)
      ·have hb : la m i (c : Int)=true:=by
        simp only [la,x0a,x0f,x0L]
        exact ⟨c1,w1,w2,by simpa using g5⟩
       rw [hb] at hnx
       simp only [if_true,x0L] at hnx
       simp [g5]
       refine ⟨by omega,hjl,bJ (wz hC.1 m.f.length (by omega) fj J1 i c g1 hcn) (by have:=hj2.len;simp;omega) ?_⟩
       simp
       exact ⟨j + 1,by omega,by omega,hw2,by rw [hnx]⟩
      ·simp [g5]
       exact fin (by simpa [la,w1,w2] using g5)
  ·have e3 : j=3:=by omega
   subst e3
   simp
   exact ⟨i + 1,by omega,by omega,hw,by rw [hfj,hf0];rfl⟩
 ·have e : i=m.f.length:=by omega
  subst e
  rw [hfD,e0]
  simp
  refine ⟨by omega,?_⟩
  rw [<- e0,<- hfD]
  have hz : List.replicate m.f.length [D.int .i64 0]=inR (gL m 0):=by rw [uk];simp [inR]
  rw [hz]
  refine av (Nat × List Nat) (fun s=>[(3,.ref (.r 10048) 0 m.f.length),(4,.fn 330 [.ptr [fD]]),(9,.ref (.r 10144) 0 (dt m s.1).length),(10,.ref (.r 10160) 0 m.f.length),(79,.int .i64 m.f.length),(80,.int .i64 s.1),(10048,.blk 1 (nfR s.2)),(10144,.blk 1 (dA (dt m s.1))),(10160,.blk 1 (inR (gL m s.1)))])
   (fun s=>s.1 <= m.f.length /\ Fo m.f.length s.2 /\ ∀ x,x < m.f.length -> ftF s.2 x=rtP m x) (fun s=>m.f.length - s.1) (0,foI m m.f.length) ⟨by simp,F1,fun _ _=>rfl⟩ (by simp [dt,stT,dA]) ?_
  rintro ⟨i,f⟩ ⟨hi,K1,K2⟩
  simp only at hi K1 K2
  have hw : IntKind.wrap .i64 ((i : Int) + 1)=((i + 1 : Nat) : Int):=af (by omega) (by omega)
  have kl:=K1.len
  simp
  refine aj (fun g1=>?_) (fun g1=>?_) <;> simp at g1 <;> simp [g1]
  ·refine aa (kw i g1) (.inl rfl) ?_
   simp
   refine aj (fun g2=>?_) (fun g2=>?_)
   ·simp at g2
    simp [g2]
    exact ⟨i + 1,f,⟨by omega,K1,K2⟩,by omega,by rw [nq g2],hw,rfl,by rw [nq g2],by rw [oD (by simp [stB,g2])]⟩
   ·simp at g2
    obtain ⟨r,hr⟩ : ∃ r,r=rtP m i:=⟨_,rfl⟩
    obtain ⟨r1,r2⟩:=pU hv g1
    obtain ⟨r3,r4⟩:=tv hv g1
    have kr:=nH hC.1 m.f.length (by omega) f K1 i g1
    rw [K2 i g1,<- hr] at kr
    obtain ⟨L1,L2⟩:=fR K1 g1
    rw [<- hr] at r1 r2 r3 r4
    have hrs : stB m r=true:=by simp [stB,r3,g2,r2]
    simp [g2,kl]
    refine ⟨by omega,bJ kr (by have:=L1.len;simp;omega) ?_⟩
    simp
    refine aj (fun g3=>?_) (fun g3=>?_) <;> simp at g3
    ·have g3' : r=i:=by omega
     subst g3'
     clear g3
     have hii : r < (inR (gL m r)).length:=by simp [m9];exact g1
     have hid : r < (gL m r).length:=by simpa using hii
     have hst:=wu g1 hrs
     have hon:=wW hv g1 hrs
     have hol:=fW m r
     have hle:=sQ m r
     have hid2 : r < (gL m (r + 1)).length:=by rw [m9];exact g1
     have hig:=qH (m:=m) (i:=r + 1) (r:=r) (by omega) (by omega) hrs
     have hmt:=nS m hrs (r + 1) (by omega)
     have hw2 : (stT m r).length < (dt m (r + 1)).length:=by rw [fW];exact hmt.1
     have hpl : (dA (dt m r)).length=(stT m r).length:=by simp [dA,hol]
     have htk : List.take (stT m r).length (dA (dt m r))=dA (dt m r):=x0q (by omega)
     have hig2 : (inR (gL m (r + 1)))[r]? = some [.int .i64 ((stT m r).length : Nat)]:=by rw [bx hid2,hig]
     have hrow : (dA (dt m r)++[[D.nils]])[(stT m r).length]? = some [.nils]:=by rw [x0y (by omega),hpl];simp
     have hset : (dA (dt m r)++[[D.nils]]).set (stT m r).length [.own 1 [[.int .i64 (r : Int)]]]=dA (dt m (r + 1)):=by
      rw [hon]
      unfold dA
      rw [List.map_set,List.map_append,List.set_append_right _ _ (by simp [hol]),List.set_append_right _ _ (by simp [hol])]
      simp [nfR,hol]
     simp [g1,bx hid,ib,hol,hst,htk,hpl,ar hig2]
     refine ⟨by omega,?_⟩
     simp [ar hrow,hrow]
     exact ⟨ai (by decide +kernel),r + 1,hlL f r,⟨by omega,L1,fun x hx=>by rw [L2 x hx,K2 x hx]⟩,by omega,by rw [fW];have:=eP m r;rw [if_pos hrs] at this;rw [this];simp,hw,rfl,hset,rfl⟩
    ·have hri : r < i:=by omega
     obtain ⟨l,hll,ho1,ho2⟩:=wX g2 hr.symm hri hrs
     have hol:=fW m i
     have hmt:=nS m hrs i hri
     have hid : r < (gL m i).length:=by rw [m9];omega
     have hig:=qH (m:=m) (i:=i) (r:=r) hri (by omega) hrs
     have hig2 : (inR (gL m i))[r]? = some [.int .i64 ((stT m r).length : Nat)]:=by rw [bx hid,hig]
     have hrow : (dA (dt m i))[(stT m r).length]? = some [.own 1 (nfR l)]:=by unfold dA;rw [x0x,ho1];rfl
     have hset : (dA (dt m i)).set (stT m r).length [.own 1 (nfR (l++[i]))]=dA (dt m (i + 1)):=by
      rw [ho2]
      unfold dA
      rw [List.map_set]
     have hrn : r < m.f.length:=by omega
     simp [g3,hrn,ar hig2]
     have hrl : (stT m r).length < (dA (dt m i)).length:=by simp [dA,hol];exact hmt.1
     have hrl2 : (stT m r).length < (dt m i).length:=by rw [hol];exact hmt.1
     have hgs : ∀ x,((dA (dt m i)).set (stT m r).length x)[(stT m r).length]? = some x:=fun x=>List.getElem?_set_self hrl
     simp [ar hrow,hrow,hrl2]
     refine ⟨by omega,?_⟩
     simp [hgs]
     have hns : stB m i=false:=by simp [stB,<- hr];exact fun _ h=>g3 (by rw [h])
     have hso : (dt m i).length=(dt m (i + 1)).length:=by rw [fW,fW,eP,if_neg (by simp [hns])]
     refine ⟨?_,ai (by decide +kernel),i + 1,hlL f i,⟨by omega,L1,fun x hx=>by rw [L2 x hx,K2 x hx]⟩,by omega,hso,hw,rfl,by rw [mz];exact hset,by rw [oD hns]⟩
     rintro e (he | rfl) c hc
     ·exact pF _ _ he _ hc
     ·simp at hc;subst hc;rfl
  ·have e : i=m.f.length:=by omega
   subst e
   have hpl : (dA (bU m)).length=(bU m).length:=by simp [dA]
   exact ⟨by simp [dA],by rw [show dt m m.f.length=bU m from rfl,tn];exact x0q (by simp [fg])⟩
end
end Go.Gv

namespace Go.Gv
theorem wn {f : Fce} {a b : Int} {k : Nat} (hk : k < 3) (h1 : crn f k=a) (h2 : crn f (k + 1)=b) : bT f a b=true:=by
 simp only [bT,x0C,x0D,x0a,x0f]
 exact ⟨k,hk,h1,h2⟩
theorem wo {f : Fce} {a b : Int} (h : ∀ k,k < 3 -> ¬ (crn f k=a /\ crn f (k + 1)=b)) : bT f a b=false:=by
 simp only [bT,x1L,x0D,x0a,x0f]
 exact h
theorem xH {m : Msh} {a b : Int} {i : Nat} (hi : i < m.f.length) (hj : ∀ j,j < i -> bT (fce m j) a b=false) (h : bT (fce m i) a b=true) : jg m a b=i:=by
 refine ez (fun j hl hji=>?_) hi ?_
 ·rw [j9];exact hj j hji
 ·rw [j9];exact h
theorem xI {m : Msh} {a b : Int} (hj : ∀ j,j < m.f.length -> bT (fce m j) a b=false) : jg m a b=-1:=by
 refine gK (fun j hl=>?_)
 rw [j9];exact hj j hl
def sL (m : Msh) (a b : Int) : Int:=if jg m a b < 0 then 0 else iP (fun j=>decide (crn (fce m (jg m a b).toNat) j=a) && decide (crn (fce m (jg m a b).toNat) (j + 1)=b)) (List.range 3)
theorem Am {m : Msh} {a b : Int} (h : jg m a b=-1) : sL m a b=0:=by rw [sL,if_pos (by omega)]
theorem Al {m : Msh} {a b : Int} {i k : Nat} (h : jg m a b=i) (hk : k < 3) (hj : ∀ j,j < k -> ¬ (crn (fce m i) j=a /\ crn (fce m i) (j + 1)=b)) (h1 : crn (fce m i) k=a) (h2 : crn (fce m i) (k + 1)=b) : sL m a b=k:=by
 rw [sL,if_neg (by omega),h]
 refine ez (fun j hl hjk=>?_) (by simp;omega) ?_
 ·have:=hj j hjk
  simp only [x0L,x1I,x0w,x0p]
  omega
 ·simp [h1,h2]
def acK (m : Msh) (i k : Nat) : Int:=sL m (crn (fce m i) (k + 1)) (crn (fce m i) k)
def nbT (m : Msh) (i : Nat) : List (List D):=(List.range i).map fun j=>[.int .i64 (nbF m j 0),.int .i64 (nbF m j 1),.int .i64 (nbF m j 2)]
@[simp] theorem Re (m : Msh) (i : Nat) : (nbT m i).length=i:=by simp [nbT]
theorem zJ (m : Msh) (i : Nat) : nbT m i++[[.int .i64 (nbF m i 0),.int .i64 (nbF m i 1),.int .i64 (nbF m i 2)]]=nbT m (i + 1):=by simp [nbT,x03]
@[simp] theorem LH (m : Msh) (i : Nat) : List.take i (nbT m i)=nbT m i:=x0q (by simp)
@[simp] theorem Te (m : Msh) (i : Nat) : List.map (fun e=>List.map bo e) (nbT m i)=nbT m i:=by simp [nbT]
variable {C : CC} (hC : aD prog C)
include hC
set_option maxHeartbeats 2000000 in
theorem zU (m : Msh) (hm : m.f.length <= 100) (a b : Int) : C 322 [.agg (a6 m),.int .i64 a,.int .i64 b] (.tup [.int .i64 (jg m a b),.int .i64 (sL m a b)]) []:=by
 have kr:=fun i k h=>gN hC (fce m i) k h
 refine aq hC (nf:=N322) rfl rfl ?_
 simp only [aI] at kr
 simp [N322,ab]
 refine av Nat (fun i=>[(1,.int .i64 a),(2,.int .i64 b),(3,.ptr (a6 m)),(8,.int .i64 i)]) (fun i=>i <= m.f.length /\ ∀ j,j < i -> bT (fce m j) a b=false) (fun i=>m.f.length - i) 0 (by simp) (by simp [ab]) ?_
 rintro i ⟨hi,hj⟩
 simp [ab]
 refine aj (fun g1=>?_) (fun g1=>?_) <;> simp at g1 <;> simp [g1]
 ·have hw : IntKind.wrap .i64 ((i : Int) + 1)=((i + 1 : Nat) : Int):=af (by omega) (by omega)
  refine av Nat (fun k=>[(1,.int .i64 a),(2,.int .i64 b),(3,.ptr (a6 m)),(8,.int .i64 i),(9,.int .i64 k)]) (fun k=>k <= 3 /\ ∀ j,j < k -> ¬ (crn (fce m i) j=a /\ crn (fce m i) (j + 1)=b)) (fun k=>3 - k) 0 (by simp) (by simp [ab]) ?_
  rintro k ⟨hk,hn⟩
  simp [ab]
  refine aj (fun g2=>?_) (fun g2=>?_) <;> simp at g2 <;> simp [g2]
  ·have hw2 : IntKind.wrap .i64 ((k : Int) + 1)=((k + 1 : Nat) : Int):=af (by omega) (by omega)
   simp [g1,aI]
   refine aa (kr i k (by omega)) (.inl rfl) ?_
   simp
   refine aj (fun c1=>?_) (fun c1=>?_) <;> simp at c1
   ·simp [c1,g1,hw2,aI]
    refine aa (kr i (k + 1) (by omega)) (.inl rfl) ?_
    simp
    refine aj (fun c2=>?_) (fun c2=>?_) <;> simp at c2
    ·have hs:=xH g1 hj (wn (by omega) c1 c2)
     simp [c2]
     exact ⟨hs,Al hs (by omega) hn c1 c2⟩
    ·simp [c2]
     refine ⟨k + 1,⟨by omega,fun j hjk=>?_⟩,by omega,?_⟩
     ·rcases x0J.1 hjk with h | rfl
      ·exact fun h3 h4=>hn j h ⟨h3,h4⟩
      ·exact fun _ h=>c2 h
     ·simp [ab,hw2]
   ·simp [c1]
    refine ⟨k + 1,⟨by omega,fun j hjk=>?_⟩,by omega,?_⟩
    ·rcases x0J.1 hjk with h | rfl
     ·exact fun h3 h4=>hn j h ⟨h3,h4⟩
     ·exact fun h=>absurd h c1
    ·simp [ab,hw2]
  ·have hk3 : k=3:=by omega
   subst hk3
   refine ⟨i + 1,⟨by omega,fun j hji=>?_⟩,by omega,?_⟩
   ·rcases x0J.1 hji with h | rfl
    ·exact hj j h
    ·exact wo hn
   ·simp [ab,hw]
 ·have hs:=xI (m:=m) (a:=a) (b:=b) (fun j hl=>hj j (by omega))
  exact ⟨hs,Am hs⟩
theorem uI (m : Msh) (hm : m.f.length <= 100) (i k : Nat) (hi : i < m.f.length) (hk : k < 3) : C 287 [.agg (a6 m),.int .i64 i,.int .i64 k] (.tup [.int .i64 (nbF m i k),.int .i64 (acK m i k)]) []:=by
 have k1:=gN hC (fce m i) (k + 1) (by omega)
 have k2:=gN hC (fce m i) k (by omega)
 have k3:=zU hC m hm (crn (fce m i) (k + 1)) (crn (fce m i) k)
 rw [show jg m (crn (fce m i) (k + 1)) (crn (fce m i) k)=nbF m i k from rfl,show sL m (crn (fce m i) (k + 1)) (crn (fce m i) k)=acK m i k from rfl] at k3
 have hw2 : IntKind.wrap .i64 ((k : Int) + 1)=((k + 1 : Nat) : Int):=af (by omega) (by omega)
 refine aq hC (nf:=N287) rfl rfl ?_
 simp only [ab,aI] at k1 k2 k3
 simp [N287,ab,hi,aI,hw2]
 refine aa k1 (.inl rfl) ?_
 simp
 refine aa k2 (.inl rfl) ?_
 simp
 refine aa k3 (.inl rfl) ?_
 simp
 exact ai (by decide +kernel)
set_option maxHeartbeats 2000000 in
theorem gz (m : Msh) (hm : m.f.length <= 100) : C 259 [.agg (a6 m)] (.sl (nbA m)) []:=by
 have ka:=fun i k hi hk=>uI hC m hm i k hi hk
 refine aq hC (nf:=N259) rfl rfl ?_
 simp only [ab] at ka
 simp [N259,ab]
 refine av Nat (fun i=>[(1,.ptr (a6 m)),(3,.ref (.r 10048) 0 i),(10048,.blk 3 (nbT m i)),(4,.int .i64 i)]) (fun i=>i <= m.f.length) (fun i=>m.f.length - i) 0 (by simp) (by simp [ab,nbT]) ?_
 rintro i hi
 simp [ab]
 refine aj (fun g1=>?_) (fun g1=>?_) <;> simp at g1 <;> simp [g1]
 ·have hw : IntKind.wrap .i64 ((i : Int) + 1)=((i + 1 : Nat) : Int):=af (by omega) (by omega)
  have k0:=ka i 0 g1 (by omega)
  have k1:=ka i 1 g1 (by omega)
  have k2:=ka i 2 g1 (by omega)
  simp at k0 k1 k2
  refine aa k0 (.inl rfl) ?_
  simp
  refine aa k1 (.inl rfl) ?_
  simp
  refine aa k2 (.inl rfl) ?_
  simp
  refine ⟨by rintro c ((rfl | rfl) | rfl) <;> rfl,by omega,i + 1,by omega,by omega,by simp [ab],rfl,zJ m i,hw⟩
 ·have hi2 : i=m.f.length:=by omega
  subst hi2
  rfl
end Go.Gv

namespace Go.Gv
open Go.Lib
variable {C : CC} (hC : aD prog C)
include hC
theorem zQ (a b c d : Nat) : C 87 [.agg [.int .u64 a,.int .u64 b],.agg [.int .u64 c,.int .u64 d]] (.bool (decide (a < c \/ (a=c /\ b < d)))) []:=by
 refine aq hC (nf:=N87) rfl rfl ?_
 simp [N87]
 refine aj (fun h=>?_) (fun h=>?_) <;> simp at h <;> simp [h]
 have h3 : ¬ a < c:=by omega
 refine aj (fun h2=>?_) (fun h2=>?_) <;> simp at h2 <;> simp [h2,h3]
 ·have h4 : a=c:=by omega
  simp [h4]
 ·omega
theorem xe (a b c d p q : Nat) (ha : a < 18446744073709551616) (hb : b < 18446744073709551616) (hd : d < 18446744073709551616) (hq : q < 18446744073709551616) (h : p * 18446744073709551616 + q + (c * 18446744073709551616 + d)=a * 18446744073709551616 + b) : C 95 [.agg [.int .u64 a,.int .u64 b],.agg [.int .u64 c,.int .u64 d]] (.agg [.int .u64 p,.int .u64 q]) []:=by
 refine aq hC (nf:=N95) rfl rfl ?_
 simp [N95]
 have e3 : IntKind.u64.wrap ((b : Int) - (d : Int))=(q : Int):=uw (by omega) hq
 refine aj (fun h1=>?_) (fun h1=>?_) <;> simp at h1 <;> simp [h1,e3]
 ·have e1 : IntKind.u64.wrap ((a : Int) - (c : Int))=((p + 1 : Nat) : Int):=uw (by omega) (by omega)
  rw [e1]
  exact uw (by omega) (by omega)
 ·exact uw (by omega) (by omega)
theorem DM (x y : Nat) (hx : x < 18446744073709551616) (hy : y < 18446744073709551616) : C 85 [.int .u64 x,.int .u64 y] (cZ (x * y)) []:=by
 refine aq hC (nf:=N85) rfl rfl ?_
 obtain ⟨bd,bt,bw,hhi⟩:=Lib.mul64_hi x y hx hy
 have ba:=Lib.half_mul_le (a:=x / 4294967296) (b:=y / 4294967296) (by omega) (by omega)
 have bb:=Lib.half_mul_le (a:=x / 4294967296) (b:=y % 4294967296) (by omega) (by omega)
 have bc:=Lib.half_mul_le (a:=x % 4294967296) (b:=y / 4294967296) (by omega) (by omega)
 have hxy : x * y=x / 4294967296 * (y / 4294967296) * 18446744073709551616 + (x / 4294967296 * (y % 4294967296) + x % 4294967296 * (y / 4294967296)) * 4294967296 + x % 4294967296 * (y % 4294967296):=by
  have e1 : x=x / 4294967296 * 4294967296 + x % 4294967296:=by omega
  have e2 : y=y / 4294967296 * 4294967296 + y % 4294967296:=by omega
  generalize x / 4294967296=ah at *
  generalize x % 4294967296=al at *
  generalize y / 4294967296=bh at *
  generalize y % 4294967296=bl at *
  rw [e1,e2,x0z,Nat.mul_add,Nat.mul_add,x0z]
  rw [show ah * 4294967296 * (bh * 4294967296)=ah * bh * 18446744073709551616 by rw [x1M,Nat.mul_left_comm 4294967296,<- x1M]]
  rw [show ah * 4294967296 * bl=ah * bl * 4294967296 by rw [Nat.mul_right_comm],show al * (bh * 4294967296)=al * bh * 4294967296 by rw [x1M]]
  omega
 obtain ⟨P,hP⟩ : ∃ P,P=x / 4294967296 * (y / 4294967296):=⟨_,rfl⟩
 obtain ⟨Q,hQ⟩ : ∃ Q,Q=x / 4294967296 * (y % 4294967296):=⟨_,rfl⟩
 obtain ⟨R,hR⟩ : ∃ R,R=x % 4294967296 * (y / 4294967296):=⟨_,rfl⟩
 obtain ⟨L,hL⟩ : ∃ L,L=x % 4294967296 * (y % 4294967296):=⟨_,rfl⟩
 obtain ⟨Z,hZ⟩ : ∃ Z,Z=x * y:=⟨_,rfl⟩
 rw [<- hP,<- hQ,<- hR,<- hL,<- hZ] at hxy
 rw [<- hP] at ba
 rw [<- hQ] at bb
 rw [<- hR] at bc
 rw [<- hL] at bd
 obtain ⟨zh,hzh⟩ : ∃ zh,zh=Z / 18446744073709551616:=⟨_,rfl⟩
 obtain ⟨zl,hzl⟩ : ∃ zl,zl=Z % 18446744073709551616:=⟨_,rfl⟩
 rw [<- hZ,cZ,<- hzh,<- hzl]
 simp [N85]
 simp only [kA x hx,kA y hy,nP,uu,<- hP,<- hQ,<- hR,<- hL,cu L bd,cu P (by omega),cu Q (by omega),cu R (by omega),rI]
 obtain ⟨M,hM⟩ : ∃ M,M=Q + L / 4294967296:=⟨_,rfl⟩
 have hM1 : M < 18446744073709551616:=by omega
 rw [<- hM,cu M hM1,nP,kA M hM1,kA L bd,rI]
 obtain ⟨O,hO⟩ : ∃ O,O=R + M % 4294967296:=⟨_,rfl⟩
 have hO1 : O < 18446744073709551616:=by omega
 obtain ⟨O2,hO2⟩ : ∃ O2,O2=O * 4294967296 % 18446744073709551616:=⟨_,rfl⟩
 simp only [rI R,<- hO,cu O hO1,nP,MP O O2 hO2]
 rw [cu (P + M / 4294967296) (by omega),rI,rI,cu _ (by omega),cu _ (by omega)]
 clear hP hQ hR hL hZ bt bw hhi
 exact ⟨by omega,by omega⟩
theorem zS (a b : Nat) : C 84 [.agg [.int .u64 a,.int .u64 b],.bool false] (.agg [.int .u64 a,.int .u64 b,.bool false]) []:=by
 refine aq hC (nf:=N84) rfl rfl ?_
 simp [N84]
 exact ai (by decide +kernel)
theorem xd (a b : Nat) : C 84 [.agg [.int .u64 a,.int .u64 b],.bool true] (.agg [.int .u64 a,.int .u64 b,.bool (!(decide (a=0) && decide (b=0)))]) []:=by
 refine aq hC (nf:=N84) rfl rfl ?_
 simp [N84]
 exact ai (by decide +kernel)
end Go.Gv

namespace Go.Gv
variable {C : CC} (hC : aD prog C)
include hC
theorem xf (m : Msh) (hv : au m=true) (i : Nat) (hi : i < m.f.length) : C 296 [.agg (a6 m),.int .i64 i] (.int .i64 (dx m i)) []:=by
 obtain ⟨⟨a1,a2⟩,⟨b1,b2⟩,⟨c1,c2⟩⟩:=jQ (f5 hv hi)
 obtain ⟨h1,h2,h3⟩:=tE hv hi
 have h1:=cy h1
 have h2:=cy h2
 have h3:=cy h3
 have wz1 : IntKind.wrap .i64 ((spA m i).z + (spB m i).z)=(spA m i).z + (spB m i).z:=af rfl (by omega)
 have wz2 : IntKind.wrap .i64 ((spA m i).z + (spB m i).z + (spC m i).z)=dx m i:=af rfl (by unfold dx;omega)
 refine aq hC (nf:=N296) rfl rfl ?_
 simp [N296,ab,hi,aI,a1,a2,b1,b2,c1,c2,bZ,sN,sO,sP,wz1,wz2]
 exact ai (by decide +kernel)
end Go.Gv

namespace Go.Gv
variable {C : CC} (hC : aD prog C)
include hC
end Go.Gv

namespace Go.Gv
variable {C : CC} (hC : aD prog C)
include hC
theorem s6 (b b' : Bool) (xs ys : List Int) (hx : xs.length < 2 ^ 62) (hy : ys.length < 2 ^ 62) : C 19 [slx b (xs.map fun n=>[.int .i64 n]),slx b' (ys.map fun n=>[.int .i64 n])] (.bool (decide (xs=ys))) []:=by
 refine aq hC (nf:=N19) rfl rfl ?_
 simp [N19]
 refine aj (fun h=>?_) (fun h=>?_) <;> simp at h <;> simp [h]
 ·rintro rfl;exact h rfl
 have h' : xs.length=ys.length:=by omega
 refine av Nat (fun i=>[(0,slx b (xs.map fun n=>[.int .i64 n])),(1,slx b' (ys.map fun n=>[.int .i64 n])),(12,.int .i64 ys.length),(13,.int .i64 i)])
  (fun i=>i <= ys.length /\ ∀ k,k < i -> xs[k]? = ys[k]?) (fun i=>ys.length - i) 0 (by simp) (by simp) ?_
 rintro i ⟨hi,hok⟩
 simp
 refine aj (fun h1=>?_) (fun h1=>?_) <;> simp at h1 <;> simp [h1]
 ·have hw : IntKind.wrap .i64 ((i : Int) + 1)=((i + 1 : Nat) : Int):=af (by omega) (by omega)
  have hx1 : i < xs.length:=by omega
  simp [h1,hx1]
  refine ⟨ai (by decide +kernel),?_⟩
  refine aj (fun h2=>?_) (fun h2=>?_) <;> simp [h1,hx1] at h2 <;> simp [h1,hx1,h2,hw]
  ·rintro rfl
   exact h2 rfl
  ·refine ⟨i + 1,⟨by omega,fun k hk=>?_⟩,by omega,rfl⟩
   rcases x0J.1 hk with h5 | rfl
   ·exact hok k h5
   ·rw [x0d h1,x0d hx1,h2]
 ·refine List.ext_getElem? fun k=>?_
  rcases x1a k i with h2 | h2
  ·exact hok k h2
  ·rw [x0K (by omega),x0K (by omega)]
end Go.Gv

namespace Go.Gv
variable {C : CC} (hC : aD prog C)
include hC
end Go.Gv

namespace Go.Gv
variable {C : CC} (hC : aD prog C)
include hC
end Go.Gv

namespace Go.Gv
def qfl (m : Msh) (i : Nat) : List Int:=(List.range i).map fun j=>Tm m j
@[simp] theorem My (m : Msh) (i : Nat) : List.take i (inR (qfl m i))=inR (qfl m i):=x0q (by simp [qfl])
@[simp] theorem RQ (m : Msh) (i : Nat) : (qfl m i).length=i:=by simp [qfl]
variable {C : CC} (hC : aD prog C)
include hC
theorem oQ (m : Msh) (x : Int) : C 217 [.agg (a6 m),.int .i64 x] (.bool (eX m.f.length x)) []:=by
 refine aq hC (nf:=N217) rfl rfl ?_
 simp [N217,ab]
 have E : eX m.f.length x=(decide (0 <= x) && decide (x < m.f.length)):=rfl
 rw [E]
 refine aj (fun c1=>?_) (fun c1=>?_) <;> simp at c1
 ·simp [c1]
 ·simp [x05.2 c1]
end Go.Gv

namespace Go.Gv
variable {C : CC} (hC : aD prog C)
include hC
end Go.Gv

namespace Go.Gv
def twF (m : Msh) (i : Nat) : Int:=jI (aR m (fce m i))
theorem tI {m : Msh} (hv : au m=true) {i : Nat} (hi : i < m.f.length) : 0 <= twF m i /\ twF m i <= 2251799813685248:=by
 have h:=(ip hv hi).2
 have ht:=AJ hv hi
 unfold okT at ht
 simp only [x0a] at ht
 have:=p6 ht.1.1 ht.1.2 ht.2
 unfold twF
 unfold jI da at *
 omega
end Go.Gv

namespace Go.Gv
structure Ord (m : Msh) (P : List Nat) : Prop where
 perm : P.Perm (List.range m.f.length)
 srt : P.Pairwise fun a b=>dx m b <= dx m a
theorem Ord.len {m : Msh} {P : List Nat} (h : Ord m P) : P.length=m.f.length:=by
 have:=h.perm.length_eq
 simpa using this
theorem Ord.lt {m : Msh} {P : List Nat} (h : Ord m P) {p : Nat} (hp : p < P.length) : P[p] < m.f.length:=by
 have:=h.perm.mem_iff.1 (x0u hp)
 simpa using this
end Go.Gv

set_option maxRecDepth 4000
namespace Go.Gv
def mvS (x y z : Int) (s : Spt) : Spt:=⟨s.x + x,s.y + y,s.z + z⟩
variable {C : CC} (hC : aD prog C)
include hC
end Go.Gv

namespace Go.Gv
section
variable {m : Msh} {x y z : Int} (hv : au m=true) (hr : ∀ i,i < m.s.length -> aX (mvS x y z (spt m i))=true)
include hv hr
omit hr
omit hv in
end
end Go.Gv

set_option maxRecDepth 4000
namespace Go.Gv
variable {C : CC} (hC : aD prog C)
include hC
end Go.Gv

set_option maxRecDepth 4000
namespace Go.Gv
variable {C : CC} (hC : aD prog C)
include hC
end Go.Gv

set_option maxRecDepth 4000
namespace Go.Gv
variable {C : CC} (hC : aD prog C)
include hC
theorem Mx (m : Msh) (hv : au m=true) (i : Nat) (hi : i < m.f.length) : C 350 [.agg (a6 m),.int .i64 i] (.int .i64 (twF m i)) []:=by
 have k : C 293 [.agg (a6 m),.agg (br (fce m i))] (.int .i64 (twF m i)) []:=tw hC m (fce m i) (f5 hv hi) (cD (ip hv hi).1)
 simp only [ab,aI] at k
 refine aq hC (nf:=N350) rfl rfl ?_
 simp [N350,ab,hi,aI]
 refine aa k (.inl rfl) ?_
 simp
 exact ai (by decide +kernel)
theorem mB (m : Msh) (hv : au m=true) (hm : m.f.length <= 100) : C 281 [.agg (a6 m)] (.sl (inR (aS m))) []:=by
 refine aq hC (nf:=N281) rfl rfl ?_
 simp [N281,ab]
 refine av Nat (fun i=>[(1,.ptr (a6 m)),(3,.ref (.r 10048) 0 i),(4,.int .i64 i),(10048,.blk 1 (smR m i))]) (fun i=>i <= m.f.length) (fun i=>m.f.length - i) 0 (by simp) (by simp [ab,smR]) ?_
 intro i hi
 simp [ab]
 refine aj (fun h=>?_) (fun h=>?_) <;> simp at h
 ·have hw : IntKind.wrap .i64 ((i : Int) + 1)=((i + 1 : Nat) : Int):=af (by omega) (by omega)
  have k1:=xf hC m hv i h
  have ha:=tA m i
  simp only [ab] at k1
  simp [h]
  refine aa k1 (.inl rfl) ?_
  simp [hw]
  exact ⟨by omega,i + 1,by omega,by omega,by simp [ab],by omega,by omega,ha⟩
 ·have ei : i=m.f.length:=by omega
  subst ei
  have e:=BY m
  have hl : (inR (aS m)).length=m.f.length:=by simp [aS]
  simp [h,e]
  first | exact ⟨by simp [aS],x0q (by omega)⟩ | exact x0q (by omega) | exact x0q (by simp [aS])
end Go.Gv

namespace Go.Gv
structure RFW (m : Msh) (r : RF) : Prop where
 rc : r.rc.length=m.f.length
 lf : r.lf.length=m.f.length
 lv : r.lv.length=m.f.length
 ou : r.ou.length=m.f.length
theorem RFW.p1 {m : Msh} {i : Nat} {r : RF} {k : Int} (h : RFW m r) : RFW m (fB m i r k):=by
 unfold fB
 split
 ·exact ⟨by simp [h.rc],h.lf,by simp [h.lv],by simp [h.ou]⟩
 ·exact h
theorem RFW.i {m : Msh} {i : Nat} {r : RF} (h : RFW m r) : ∀ j,RFW m (rfI m i r j)
 | 0=>h
 | j + 1=>(RFW.i h j).p1
section
variable {C : Nat -> List D -> D -> List D -> Prop} (hC : aD prog C)
include hC
theorem uL (m : Msh) (i : Nat) : C 282 [.agg [.int .i64 (nbF m i 0),.int .i64 (nbF m i 1),.int .i64 (nbF m i 2)]] (.bool (bsd m i (-1))) []:=by
 have b0:=cS m i 0
 have b1:=cS m i 1
 have b2:=cS m i 2
 refine aq hC (nf:=N282) rfl rfl ?_
 simp [N282]
 refine aj (fun g1=>?_) (fun g1=>?_) <;> simp at g1
 ·simp [g1,bsd,show (-1 : Int)=nbF m i 0 by omega]
  done
 ·simp [x1B.2 g1]
  refine aj (fun g2=>?_) (fun g2=>?_) <;> simp at g2
  ·simp [g2,bsd]
   exact .inr (.inl (by omega))
  ·simp [x1B.2 g2,bsd]
   rw [x0v]
   simp
   omega
theorem nG (a b : Int) : C 283 [.int .i64 a,.int .i64 b] (.int .i64 (if b < a then a else b)) []:=by
 refine aq hC (nf:=N283) rfl rfl ?_
 simp [N283]
 refine aj (fun g1=>?_) (fun g1=>?_) <;> simp at g1
 ·simp [g1]
 ·simp [x1B.2 g1]
set_option maxRecDepth 8000 in
set_option maxHeartbeats 2000000 in
theorem xi (m : Msh) (hv : au m=true) (hm : m.f.length <= 100) : C 246 [.agg (a6 m)] (.tup [.sl (inR (b8 m).lv),.sl (inR (b8 m).ou)]) []:=by
 have k1:=gz hC m hm
 have k2:=mB hC m hv hm
 simp only [ab] at k1 k2
 refine aq hC (nf:=N246) rfl rfl ?_
 simp [N246,ab]
 refine aa k1 (.inr rfl) ?_
 simp
 refine aa k2 (.inr rfl) ?_
 simp
 refine ⟨ai (by decide +kernel),by omega,ai (by decide +kernel),by omega,ai (by decide +kernel),?_⟩
 have r7 : List.replicate m.f.length [D.bool false]=rcR (rf0 m 0).1:=by simp [rf0,rcR]
 have r8 : List.replicate m.f.length [D.bool false]=rcR (List.replicate m.f.length false):=by simp [rcR]
 have r9 : List.replicate m.f.length [D.int .i64 0]=inR (rf0 m 0).2:=by simp [rf0,inR]
 have r10 : List.replicate m.f.length [D.int .i64 0]=inR (List.replicate 0 (-1)++List.replicate (m.f.length - 0) 0):=by simp [inR]
 refine av Nat (fun i=>[(4,.sl (nbA m)),(5,.sl (inR (aS m))),(6,.int .i64 m.f.length),(7,.ref (.r 10112) 0 m.f.length),(8,.ref (.r 10128) 0 m.f.length),(9,.ref (.r 10144) 0 m.f.length),(10,.ref (.r 10160) 0 m.f.length),(11,.int .i64 i),
  (10112,.blk 1 (rcR (rf0 m i).1)),(10128,.blk 1 (rcR (List.replicate m.f.length false))),(10144,.blk 1 (inR (rf0 m i).2)),(10160,.blk 1 (inR (List.replicate i (-1)++List.replicate (m.f.length - i) 0)))]) (fun i=>i <= m.f.length) (fun i=>m.f.length - i) 0 (by simp) (by simp [rf0,rcR,inR]) ?_
 rintro i hi
 obtain ⟨l1,l2⟩:=fA m i
 have hw : IntKind.wrap .i64 ((i : Int) + 1)=((i + 1 : Nat) : Int):=af (by omega) (by omega)
 have hlo : (List.replicate i (-1 : Int)++List.replicate (m.f.length - i) 0).length=m.f.length:=by simp;omega
 obtain ⟨oi,hoi⟩ : ∃ oi,oi=List.replicate i (-1 : Int)++List.replicate (m.f.length - i) 0:=⟨_,rfl⟩
 rw [<- hoi] at hlo ⊢
 simp
 refine aj (fun g1=>?_) (fun g1=>?_) <;> simp at g1 <;> simp [g1]
 ·have hio : i < oi.length:=by omega
  have hir : i < (rf0 m i).1.length:=by omega
  have hil : i < (rf0 m i).2.length:=by omega
  have his : i < (aS m).length:=by simpa using g1
  have ho2 : oi.set i (-1)=List.replicate (i + 1) (-1 : Int)++List.replicate (m.f.length - (i + 1)) 0:=by
   rw [hoi]
   apply x0G (by simp;omega)
   intro j h1 h2
   simp only [x1i,List.getElem_append,List.length_replicate,List.getElem_replicate]
   split <;> split <;> (try split) <;> omega
  simp [bx hio,ib,ap (gj g1)]
  refine aa (uL hC m i) (.inl rfl) ?_
  simp
  have e0 : rf0 m (i + 1)=if bsd m i (-1) then ((rf0 m i).1.set i true,(rf0 m i).2.set i ((aS m).getD i 0)) else rf0 m i:=rfl
  refine aj (fun g2=>?_) (fun g2=>?_)
  ·rw [if_pos g2] at e0
   simp [g2,ap (bx his),bF hir,bx hil,d6,ib]
   exact ⟨by omega,i + 1,by omega,by omega,hw,by rw [e0],by rw [e0];rfl,by rw [ho2]⟩
  ·rw [if_neg (by simp [g2])] at e0
   simp [g2]
   exact ⟨i + 1,by omega,by omega,hw,by rw [e0],by rw [e0],by rw [ho2]⟩
 ·have hin : i=m.f.length:=by omega
  subst hin
  have hoe : oi=List.replicate m.f.length (-1):=by rw [hoi];simp
  have W0 : RFW m (cT m):=⟨l1,by simp [cT],l2,by simp [cT]⟩
  refine av (RF × Nat) (fun s=>[(4,.sl (nbA m)),(5,.sl (inR (aS m))),(6,.int .i64 m.f.length),(7,.ref (.r 10112) 0 m.f.length),(8,.ref (.r 10128) 0 m.f.length),(9,.ref (.r 10144) 0 m.f.length),(10,.ref (.r 10160) 0 m.f.length),
   (10112,.blk 1 (rcR s.1.rc)),(10128,.blk 1 (rcR s.1.lf)),(10144,.blk 1 (inR s.1.lv)),(10160,.blk 1 (inR s.1.ou))]) (fun s=>RFW m s.1 /\ s.1=rfN m s.2 (cT m) /\ s.2 + s.1.lf.count false <= m.f.length) (fun s=>s.1.lf.count false) (cT m,0) ⟨W0,rfl,by simp [cT]⟩ (by simp [cT,hoe]) ?_
  rintro ⟨r,k⟩ ⟨W,hs,hk⟩
  simp only at W hs hk
  simp
  refine av Nat (fun j=>[(4,.sl (nbA m)),(5,.sl (inR (aS m))),(6,.int .i64 m.f.length),(7,.ref (.r 10112) 0 m.f.length),(8,.ref (.r 10128) 0 m.f.length),(9,.ref (.r 10144) 0 m.f.length),(10,.ref (.r 10160) 0 m.f.length),(12,.int .i64 (rat r j)),(13,.int .i64 j),
   (10112,.blk 1 (rcR r.rc)),(10128,.blk 1 (rcR r.lf)),(10144,.blk 1 (inR r.lv)),(10160,.blk 1 (inR r.ou))]) (fun j=>j <= m.f.length) (fun j=>m.f.length - j) 0 (by simp) (by simp [rat]) ?_
  rintro j hj
  have hwj : IntKind.wrap .i64 ((j : Int) + 1)=((j + 1 : Nat) : Int):=af (by omega) (by omega)
  simp
  refine aj (fun g2=>?_) (fun g2=>?_) <;> simp at g2 <;> simp [g2]
  ·have hjr : j < r.rc.length:=by rw [W.rc];exact g2
   have hjl : j < r.lf.length:=by rw [W.lf];exact g2
   have hjv : j < r.lv.length:=by rw [W.lv];exact g2
   have hr1 : rat r (j + 1)=if act r j=true /\ (rat r j < 0 \/ r.lv.getD j 0 < r.lv.getD (rat r j).toNat 0) then (j : Int) else rat r j:=rfl
   simp [ar (bF hjr)]
   cases hrc : r.rc.getD j false
   ·have ha : act r j=false:=by simp only [act,hrc];rfl
    rw [if_neg (by simp [ha])] at hr1
    simp at hrc
    simp [hrc]
    exact ⟨ai (by decide +kernel),j + 1,by omega,by omega,hr1.symm,hwj⟩
   ·cases hlf : r.lf.getD j false
    ·have ha : act r j=true:=by simp only [act,hrc,hlf];rfl
     simp at hrc hlf
     simp [hrc,hlf,ar (bF hjl)]
     refine ⟨g2,aj (fun g3=>?_) (fun g3=>?_)⟩ <;> simp at g3
     ·rw [if_pos ⟨ha,.inl g3⟩] at hr1
      simp [g3]
      exact ⟨ai (by decide +kernel),j + 1,by omega,by omega,hr1.symm,hwj⟩
     ·obtain ⟨a,hae,han⟩ : ∃ a : Nat,rat r j=a /\ a < m.f.length:=by
       rcases gO r j with ⟨h1,_⟩ | ⟨a,h1,h2,_⟩
       ·omega
       ·exact ⟨a,h1,by omega⟩
      have hav : a < r.lv.length:=by rw [W.lv];exact han
      rw [hae] at hr1 ⊢
      simp [ar (bx hjv),ar (bx hav),han,g2,show ¬ ((a : Int) < 0) by omega]
      refine ⟨ai (by decide +kernel),aj (fun g4=>?_) (fun g4=>?_)⟩ <;> simp at g4
      ·rw [if_pos ⟨ha,.inr (by simpa using g4)⟩] at hr1
       simp [g4]
       exact ⟨j + 1,by omega,by omega,hr1.symm,hwj⟩
      ·rw [if_neg (fun h=>by
        rcases h.2 with h | h
        ·omega
        ·simp at h;omega)] at hr1
       simp [x1B.2 g4]
       exact ⟨j + 1,by omega,by omega,hr1.symm,hwj⟩
    ·have ha : act r j=false:=by simp only [act,hrc,hlf];rfl
     rw [if_neg (by simp [ha])] at hr1
     simp at hrc hlf
     simp [hrc,hlf,ar (bF hjl)]
     exact ⟨g2,ai (by decide +kernel),j + 1,by omega,by omega,hr1.symm,hwj⟩
  ·have hjn : j=m.f.length:=by omega
   subst hjn
   refine aj (fun g3=>?_) (fun g3=>?_) <;> simp at g3
   ·have hfl : b8 m=r:=by
     unfold b8
     rw [show 3 * m.f.length=k + (3 * m.f.length - k) by omega,pO,<- hs]
     exact rk m g3 _
    have hlv:=iQ r.lv
    have hou:=iQ r.ou
    rw [W.lv] at hlv
    rw [W.ou] at hou
    simp [g3]
    refine ⟨⟨by rw [W.lv];omega,by rw [W.ou];omega⟩,?_,?_⟩
    ·rw [hfl,hlv]
    ·rw [hfl,hou]
   ·obtain ⟨a,hae,han,haa⟩ : ∃ a : Nat,rat r m.f.length=a /\ a < m.f.length /\ act r a=true:=by
     rcases gO r m.f.length with ⟨h1,_⟩ | ⟨a,h1,h2,h3,_⟩
     ·omega
     ·exact ⟨a,h1,by omega,h3⟩
    have hst : dL m r=rfI m a { r with lf:=r.lf.set a true } 3:=by
     unfold dL
     rw [if_neg (by omega),hae]
     rfl
    have hal : a < r.lf.length:=by rw [W.lf];exact han
    obtain ⟨r1,hr1⟩ : ∃ r1 : RF,r1={ r with lf:=r.lf.set a true }:=⟨_,rfl⟩
    rw [<- hr1] at hst
    have W1 : RFW m r1:=by rw [hr1];exact ⟨W.rc,by simp [W.lf],W.lv,W.ou⟩
    rw [hae]
    simp [han,bF hal,d6,show ¬ ((a : Int) < 0) by omega]
    have e1 : r1.rc=r.rc:=by rw [hr1]
    have e2 : r1.lf=r.lf.set a true:=by rw [hr1]
    have e3 : r1.lv=r.lv:=by rw [hr1]
    have e4 : r1.ou=r.ou:=by rw [hr1]
    rw [<- e1,<- e2,<- e3,<- e4]
    refine av Nat (fun c=>[(4,.sl (nbA m)),(5,.sl (inR (aS m))),(6,.int .i64 m.f.length),(7,.ref (.r 10112) 0 m.f.length),(8,.ref (.r 10128) 0 m.f.length),(9,.ref (.r 10144) 0 m.f.length),(10,.ref (.r 10160) 0 m.f.length),(12,.int .i64 a),(14,.int .i64 c),
     (10112,.blk 1 (rcR (rfI m a r1 c).rc)),(10128,.blk 1 (rcR (rfI m a r1 c).lf)),(10144,.blk 1 (inR (rfI m a r1 c).lv)),(10160,.blk 1 (inR (rfI m a r1 c).ou))]) (fun c=>c <= 3) (fun c=>3 - c) 0 (by simp) (by simp [rfI]) ?_
    rintro c hc
    have Wc:=W1.i (i:=a) c
    obtain ⟨t,ht⟩ : ∃ t,t=rfI m a r1 c:=⟨_,rfl⟩
    have hnx : rfI m a r1 (c + 1)=fB m a t (nbF m a c):=by rw [ht];rfl
    rw [<- ht] at Wc ⊢
    have hwc : IntKind.wrap .i64 ((c : Int) + 1)=((c + 1 : Nat) : Int):=af (by omega) (by omega)
    simp
    refine aj (fun g4=>?_) (fun g4=>?_) <;> simp at g4
    ·have hc3 : c < 3:=by omega
     have hxc : ([.int .i64 (nbF m a 0),.int .i64 (nbF m a 1),.int .i64 (nbF m a 2)] : List D)[c]?.getD .any=.int .i64 (nbF m a c):=by
      rcases (by omega : c=0 \/ c=1 \/ c=2) with rfl | rfl | rfl <;> rfl
     simp [show (c : Int) < 3 by omega,ap (gj han),hxc]
     have hbd:=cS m a c
     obtain ⟨kk,hkk⟩ : ∃ kk,kk=nbF m a c:=⟨_,rfl⟩
     rw [<- hkk] at hbd hnx ⊢
     refine ⟨by omega,aj (fun g5=>?_) (fun g5=>?_)⟩ <;> simp at g5
     ·obtain ⟨f,hf⟩ : ∃ f : Nat,kk=f:=⟨kk.toNat,by omega⟩
      subst hf
      have hfn : f < m.f.length:=by omega
      have hfr : f < t.rc.length:=by rw [Wc.rc];exact hfn
      have hfv : f < t.lv.length:=by rw [Wc.lv];exact hfn
      have hfo : f < t.ou.length:=by rw [Wc.ou];exact hfn
      have hav : a < t.lv.length:=by rw [Wc.lv];exact han
      have hfs : f < (aS m).length:=by simpa using hfn
      simp [ar (bF hfr),hfn]
      cases hrc : t.rc.getD f false
      ·simp at hrc
       have hnx2 : rfI m a r1 (c + 1)={ t with rc:=t.rc.set f true,lv:=t.lv.set f (if t.lv.getD a 0 < (aS m).getD f 0 then (aS m).getD f 0 else t.lv.getD a 0),ou:=t.ou.set f a }:=by
        rw [hnx]
        unfold fB
        rw [if_pos ⟨by omega,by simpa using hrc⟩]
        rfl
       simp [hrc,hfn,han,ap (bx hfs),ar (bx hav)]
       refine aa (nG hC _ _) (.inl rfl) ?_
       simp [hfn,bF hfr,bx hfv,bx hfo,d6,ib]
       have hmx : (if t.lv[a]?.getD 0 < (aS m)[f] then (aS m)[f] else t.lv[a]?.getD 0)=(if t.lv.getD a 0 < (aS m).getD f 0 then (aS m).getD f 0 else t.lv.getD a 0):=by
        simp [hfn]
       rw [hmx]
       exact ⟨ai (by decide +kernel),c + 1,by omega,by omega,hwc,by rw [hnx2],by rw [hnx2],by rw [hnx2],by rw [hnx2]⟩
      ·have hnx2 : rfI m a r1 (c + 1)=t:=by
        rw [hnx]
        unfold fB
        rw [if_neg (fun h=>by
         have:=h.2
         simp at this hrc
         rw [this] at hrc;cases hrc)]
       simp at hrc
       simp [hrc]
       exact ⟨c + 1,by omega,by omega,hwc,by rw [hnx2],by rw [hnx2],by rw [hnx2],by rw [hnx2]⟩
     ·have hnx2 : rfI m a r1 (c + 1)=t:=by
       rw [hnx]
       unfold fB
       rw [if_neg (by omega)]
      simp [x05.2 g5]
      exact ⟨c + 1,by omega,by omega,hwc,by rw [hnx2],by rw [hnx2],by rw [hnx2],by rw [hnx2]⟩
    ·have hc3 : c=3:=by omega
     subst hc3
     rw [<- hst] at ht
     simp [show ¬ ((3 : Int) < 3) by omega]
     have hlc : (dL m r).lf.count false + 1=r.lf.count false:=by
      rw [hst,(mD 3).2,e2]
      refine je hal ?_
      simp only [act,x0a,x0t] at haa
      exact haa.2
     exact ⟨dL m r,⟨by rw [hst];exact W1.i 3,k + 1,by rw [pO,<- hs];rfl,by omega⟩,by omega,by rw [ht],by rw [ht],by rw [ht],by rw [ht]⟩
end
end Go.Gv

namespace Go.Gv
section
variable {C : Nat -> List D -> D -> List D -> Prop} (hC : aD prog C)
include hC
theorem B6 (dec : Nat -> List UInt8) (hI : ∀ n : Nat,n < 100 -> C 127 [.int .i64 n] (.str (dec n)) []) (m : Msh) (hz : cG m=true -> m.s.length <= 100 /\ m.f.length <= 100) :
  C 243 [.agg (a6 m)] (if au m then .tup [.sl (inR (aU m).sp),.int .i64 0] else .tup [.nils,.int .i64 1]) []:=by
 have k:=fJ hC dec hI m hz
 simp only [ab] at k
 refine aq hC (nf:=N243) rfl rfl ?_
 simp [N243,ab]
 refine aa k (.inr rfl) ?_
 cases hv : au m
 ·simp
 ·simp [dY]
theorem tM (dec : Nat -> List UInt8) (hI : ∀ n : Nat,n < 100 -> C 127 [.int .i64 n] (.str (dec n)) []) (m : Msh) (hz : cG m=true -> m.s.length <= 100 /\ m.f.length <= 100) :
  C 244 [.agg (a6 m)] (if au m then .tup [.sl (inR (aU m).ou),.int .i64 0] else .tup [.nils,.int .i64 1]) []:=by
 have k:=fJ hC dec hI m hz
 simp only [ab] at k
 refine aq hC (nf:=N244) rfl rfl ?_
 simp [N244,ab]
 refine aa k (.inr rfl) ?_
 cases hv : au m
 ·simp
 ·simp [dY]
end
end Go.Gv

namespace Go.Gv
theorem wK {ou : List Int} {a : Nat} (h : ou.getD a 0=-1) : ∀ k,mth ou k a=a
 | 0=>rfl
 | k + 1=>by simp only [mth,h,if_true]
theorem wJ {n : Nat} {ou : List Int} {rc : List Bool} {d a b : Nat} (e1 : ou.getD a 0=b) (e3 : jW n ou rc d b) {k : Nat} (hk : d + 1 <= k) : mth ou k a=mth ou k b:=by
 cases k with
 | zero=>omega
 | succ k =>
  rw [px e3 (k + 1) (by omega),<- px e3 k (by omega)]
  simp only [mth,e1]
  rw [if_neg (by omega)]
  simp
def sw (m : Msh) (a : Nat) : Int:=(mth (aU m).ou m.f.length a : Nat)
def drT (m : Msh) (i : Nat) : List Int:=(List.range i).map (sw m)++List.replicate (m.f.length - i) 0
def drL (m : Msh) : List Int:=(List.range m.f.length).map (sw m)
theorem yI {m : Msh} {i : Nat} (h : i <= m.f.length) : (drT m i).length=m.f.length:=by simp [drT];omega
theorem yJ {m : Msh} {i : Nat} (h : i < m.f.length) : (drT m i).set i (sw m i)=drT m (i + 1):=by
 unfold drT
 apply x0G (by simp;omega)
 intro j h1 h2
 simp only [x1i,List.getElem_append,x1K,List.length_range,x1g,x1I,List.getElem_replicate]
 split <;> split <;> (try split) <;> first | rfl | omega | (simp_all;done)
theorem yH (m : Msh) : drT m m.f.length=drL m:=by simp [drT,drL]
section
variable {C : Nat -> List D -> D -> List D -> Prop} (hC : aD prog C)
include hC
set_option maxHeartbeats 1000000 in
theorem tK (dec : Nat -> List UInt8) (hI : ∀ n : Nat,n < 100 -> C 127 [.int .i64 n] (.str (dec n)) []) (m : Msh) (hz : cG m=true -> m.s.length <= 100 /\ m.f.length <= 100) :
  C 245 [.agg (a6 m)] (if au m then .tup [.sl (inR (drL m)),.int .i64 0] else .tup [.nils,.int .i64 1]) []:=by
 have k:=fJ hC dec hI m hz
 simp only [ab] at k
 refine aq hC (nf:=N245) rfl rfl ?_
 simp [N245,ab]
 refine aa k (.inr rfl) ?_
 cases hv : au m
 ·simp
 ·have hsz:=(cQ hv).2
  have W:=jp m
  obtain ⟨ou,hou⟩ : ∃ ou,ou=(aU m).ou:=⟨_,rfl⟩
  have hol : ou.length=m.f.length:=by rw [hou];exact W.ou
  have hen : ∀ a,a < m.f.length -> ∃ d,d <= m.f.length /\ jW m.f.length ou (b8 m).rc d a:=fun a ha=>by rw [hou];exact mQ hv ha
  have hmo : ∀ a,sw m a=(mth ou m.f.length a : Nat):=fun a=>by rw [hou];rfl
  simp [dY,<- hou,hol]
  refine ⟨by omega,?_⟩
  refine av Nat (fun i=>[(4,.ptr [.sl (nbA m),slx true (inR (aS m)),.sl (inR (aU m).sp),.sl (inR ou)]),(6,.ref (.r 10096) 0 m.f.length),(24,.int .i64 m.f.length),(25,.int .i64 i),(10096,.blk 1 (inR (drT m i)))]) (fun i=>i <= m.f.length) (fun i=>m.f.length - i) 0 (by simp) (by simp [drT,inR]) ?_
  rintro i hi
  have hw : IntKind.wrap .i64 ((i : Int) + 1)=((i + 1 : Nat) : Int):=af (by omega) (by omega)
  have hdl:=yI hi
  simp
  refine aj (fun g1=>?_) (fun g1=>?_) <;> simp at g1 <;> simp [g1]
  ·obtain ⟨d0,hd0,he0⟩:=hen i g1
   refine av (Nat × Nat) (fun s=>[(4,.ptr [.sl (nbA m),slx true (inR (aS m)),.sl (inR (aU m).sp),.sl (inR ou)]),(6,.ref (.r 10096) 0 m.f.length),(7,.int .i64 i),(8,.int .i64 s.1),(24,.int .i64 m.f.length),(25,.int .i64 i),(10096,.blk 1 (inR (drT m i)))]) (fun s=>s.1 < m.f.length /\ s.2 <= m.f.length /\ jW m.f.length ou (b8 m).rc s.2 s.1 /\ mth ou m.f.length s.1=mth ou m.f.length i) (fun s=>s.2) (i,d0) ⟨g1,hd0,he0,rfl⟩ (by simp) ?_
   rintro ⟨a,d⟩ ⟨q1,q2,q3,q4⟩
   simp only at q1 q2 q3 q4
   have hao : a < ou.length:=by omega
   simp [ap (bx hao)]
   refine aj (fun g2=>?_) (fun g2=>?_) <;> simp at g2
   ·cases d with
    | zero =>
     have : ou.getD a 0=-1:=q3
     simp at this
     exact absurd this g2
    | succ d =>
     obtain ⟨b,hb,e1,e2,e3⟩:=q3
     have e1' : ou[a]?.getD 0=(b : Int):=by simpa using e1
     simp [g2,ap (bx hao),e1']
     exact ⟨b,d,⟨hb,by omega,e3,by rw [<- q4,wJ e1 e3 q2]⟩,by omega,rfl⟩
   ·have h1 : ou.getD a 0=-1:=by simpa using g2
    rw [wK h1] at q4
    have hmi : sw m i=(a : Int):=by rw [hmo,<- q4]
    have hst:=yJ g1
    rw [hmi] at hst
    have hil : i < (drT m i).length:=by omega
    simp [g2,g1,bx hil,ib,hst]
    exact ⟨i + 1,by omega,by omega,hw,rfl⟩
  ·have hin : i=m.f.length:=by omega
   subst hin
   rw [yH] at hdl ⊢
   have:=iQ (drL m)
   rw [hdl] at this
   simp [this]
   omega
end
end Go.Gv

namespace Go.Gv
def exS : Msh:=⟨false,[⟨0,0,1⟩,⟨10,0,2⟩,⟨0,10,4⟩],false,[⟨0,1,2,0⟩]⟩
theorem vY : au exS=true:=by decide +kernel
theorem Bl : (b8 exS).lv=[7] /\ (b8 exS).ou=[-1]:=by decide +kernel
theorem Jd : aS exS=[7]:=by decide +kernel
theorem vX : (aU exS).sp=[7]:=(fI vY).1.trans Bl.1
theorem vW : (aU exS).ou=[-1]:=(fI vY).2.trans Bl.2
theorem CD : drL exS=[0]:=by
 show [sw exS 0]=[0]
 unfold sw
 rw [vW]
 rfl
theorem CE : bU exS=[]:=by
 show dt exS 1=[]
 rw [nq (by unfold fo;rw [vX,Jd];rfl)]
 rfl
section
variable {C : Nat -> List D -> D -> List D -> Prop} (hC : aD prog C)
include hC
theorem ve (dec : Nat -> List UInt8) (hI : ∀ n : Nat,n < 100 -> C 127 [.int .i64 n] (.str (dec n)) []) (m : Msh) (hz : cG m=true -> m.s.length <= 100 /\ m.f.length <= 100) :
  C 279 [.agg (a6 m)] (if au m then .tup [.sl (fg (bU m)),.int .i64 0] else .tup [.nils,.int .i64 1]) []:=by
 have k:=fJ hC dec hI m hz
 simp only [ab] at k
 refine aq hC (nf:=N279) rfl rfl ?_
 simp [N279,ab]
 refine aa k (.inr rfl) ?_
 cases hv : au m
 ·simp
 ·have kp:=wZ hC m hv
  rw [show dY m=.ptr [.sl (nbA m),slx true (inR (aS m)),.sl (inR (aU m).sp),.sl (inR (aU m).ou)] from rfl] at kp ⊢
  simp
  refine aa kp (.inr rfl) ?_
  simp
theorem tU (dec : Nat -> List UInt8) (hI : ∀ n : Nat,n < 100 -> C 127 [.int .i64 n] (.str (dec n)) []) : C 241 [] (.bool true) []:=by
 have hz : cG exS=true -> exS.s.length <= 100 /\ exS.f.length <= 100:=fun _=>by simp [exS]
 have k1:=B6 hC dec hI exS hz
 have k2:=tM hC dec hI exS hz
 have k3:=tK hC dec hI exS hz
 have k4:=ve hC dec hI exS hz
 have q1:=s6 hC false false [7] [7] (by simp) (by simp)
 have q2:=s6 hC false false [-1] [-1] (by simp) (by simp)
 have q3:=s6 hC false false [0] [0] (by simp) (by simp)
 rw [vY] at k1 k2 k3 k4
 rw [vX] at k1
 rw [vW] at k2
 rw [CD] at k3
 rw [CE] at k4
 simp only [ab] at k1 k2 k3 k4
 simp [exS,wy,fg,fY,br] at k1 k2 k3 k4 q1 q2 q3
 refine aq hC (nf:=N241) rfl rfl ?_
 simp [N241]
 refine aa k1 (.inr rfl) ?_
 simp
 refine aa k2 (.inr rfl) ?_
 simp
 refine aa k3 (.inr rfl) ?_
 simp
 refine aa k4 (.inr rfl) ?_
 simp
 refine aa q1 (.inl rfl) ?_
 simp
 refine aa q2 (.inl rfl) ?_
 simp
 refine aa q3 (.inl rfl) ?_
 simp
end
end Go.Gv

namespace Go.Gv
structure LvI (m : Msh) (r : RF) (P : Nat -> Nat -> Prop) : Prop where
 rcl : r.rc.length=m.f.length
 lfl : r.lf.length=m.f.length
 lvl : r.lv.length=m.f.length
 oul : r.ou.length=m.f.length
 l1 : ∀ a,r.lf.getD a false=true -> r.rc.getD a false=true
 l2 : ∀ a b,r.lf.getD a false=true -> r.rc.getD b false=true -> r.lf.getD b false=false -> r.lv.getD a 0 <= r.lv.getD b 0
 bd : ∀ a,a < m.f.length -> bsd m a (-1)=true -> r.rc.getD a false=true
 l3 : ∀ a,a < m.f.length -> r.rc.getD a false=true -> (bsd m a (-1)=true /\ r.ou.getD a 0=-1 /\ r.lv.getD a 0=(aS m).getD a 0) \/
  (bsd m a (-1)=false /\ ∃ z : Nat,z < m.f.length /\ r.ou.getD a 0=z /\ r.lf.getD z false=true /\ (∃ c,c < 3 /\ nbF m a c=z) /\ r.lv.getD a 0=max ((aS m).getD a 0) (r.lv.getD z 0))
 l4 : ∀ y,r.lf.getD y false=true -> ∀ c,c < 3 -> P y c -> ∀ x : Nat,nbF m y c=x -> r.rc.getD x false=true /\ r.lv.getD x 0 <= max ((aS m).getD x 0) (r.lv.getD y 0)
theorem LvI.p1 {m : Msh} (hv : au m=true) {a j : Nat} {r : RF} (ha : a < m.f.length) (hj : j < 3) (hla : r.lf.getD a false=true) (hat : ∀ z,r.lf.getD z false=true -> r.lv.getD z 0 <= r.lv.getD a 0) {P : Nat -> Nat -> Prop} (h : LvI m r P) :
  LvI m (fB m a r (nbF m a j)) (fun y c=>P y c \/ (y=a /\ c=j)) /\ (fB m a r (nbF m a j)).lf=r.lf /\ ∀ z,r.lf.getD z false=true -> (fB m a r (nbF m a j)).lv.getD z 0=r.lv.getD z 0:=by
 have hb:=cS m a j
 unfold fB
 split
 ·rename_i hc
  obtain ⟨x0,hx0⟩ : ∃ x0 : Nat,nbF m a j=x0:=⟨(nbF m a j).toNat,by omega⟩
  rw [hx0] at hc hb ⊢
  simp only [x0L] at hc ⊢
  have hxn : x0 < m.f.length:=by omega
  obtain ⟨v,hvv⟩ : ∃ v,v=(if r.lv.getD a 0 < (aS m).getD x0 0 then (aS m).getD x0 0 else r.lv.getD a 0):=⟨_,rfl⟩
  have hv1 : v=max ((aS m).getD x0 0) (r.lv.getD a 0):=by rw [hvv];split <;> omega
  rw [<- hvv]
  have grc : ∀ i,(r.rc.set x0 true).getD i false=if i=x0 then true else r.rc.getD i false:=fun i=>a8 (by rw [h.rcl];exact hxn)
  have glv : ∀ i,(r.lv.set x0 v).getD i 0=if i=x0 then v else r.lv.getD i 0:=fun i=>a8 (by rw [h.lvl];exact hxn)
  have gou : ∀ i,(r.ou.set x0 (a : Int)).getD i 0=if i=x0 then (a : Int) else r.ou.getD i 0:=fun i=>a8 (by rw [h.oul];exact hxn)
  have hne : ∀ i,r.rc.getD i false=true -> i ≠ x0:=fun i hi e=>by rw [e,hc.2] at hi;cases hi
  have hmono : ∀ i,r.rc.getD i false=true -> (r.rc.set x0 true).getD i false=true:=fun i hi=>by rw [grc,if_neg (hne i hi)];exact hi
  have hkeep : ∀ z,r.lf.getD z false=true -> (r.lv.set x0 v).getD z 0=r.lv.getD z 0:=fun z hz=>by rw [glv,if_neg (hne z (h.l1 z hz))]
  refine ⟨⟨by simp [h.rcl],h.lfl,by simp [h.lvl],by simp [h.oul],fun i hi=>hmono i (h.l1 i hi),fun i k hi hk hk2=>?_,fun i hi hbi=>hmono i (h.bd i hi hbi),fun i hi hir=>?_,fun y hy c hc3 hP x hx=>?_⟩,trivial,hkeep⟩
  ·simp only at hi hk hk2 ⊢
   rw [hkeep i hi,glv]
   split
   ·have:=hat i hi
    omega
   ·rename_i e
    rw [grc,if_neg e] at hk
    exact h.l2 i k hi hk hk2
  ·simp only at hir ⊢
   by_cases e : i=x0
   ·subst e
    right
    have hnb : bsd m i (-1)=false:=by
     cases hh : bsd m i (-1)
     ·rfl
     ·have:=h.bd i hi hh
      rw [hc.2] at this
      cases this
    obtain ⟨c',hc',e'⟩:=iX hv ha hj (by omega)
    rw [hx0] at e'
    refine ⟨hnb,a,ha,by rw [gou,if_pos rfl],hla,⟨c',hc',by simpa using e'⟩,?_⟩
    rw [glv,if_pos rfl,hkeep a hla,hv1]
   ·rw [grc,if_neg e] at hir
    rw [gou,if_neg e,glv,if_neg e]
    rcases h.l3 i hi hir with h5 | ⟨h5,z,hz,h6,h7,h8,h9⟩
    ·exact .inl h5
    ·exact .inr ⟨h5,z,hz,h6,h7,h8,by rw [hkeep z h7];exact h9⟩
  ·simp only at hy ⊢
   rw [hkeep y hy]
   rcases hP with hP | ⟨rfl,rfl⟩
   ·obtain ⟨h5,h6⟩:=h.l4 y hy c hc3 hP x hx
    rw [glv,if_neg (hne x h5)]
    exact ⟨hmono x h5,h6⟩
   ·have e : x=x0:=by omega
    subst e
    rw [grc,if_pos rfl,glv,if_pos rfl,hv1]
    exact ⟨by simp,Int.le_refl _⟩
 ·rename_i hc
  refine ⟨⟨h.rcl,h.lfl,h.lvl,h.oul,h.l1,h.l2,h.bd,h.l3,fun y hy c hc3 hP x hx=>?_⟩,rfl,fun _ _=>rfl⟩
  rcases hP with hP | ⟨rfl,rfl⟩
  ·exact h.l4 y hy c hc3 hP x hx
  ·have hxn : x < m.f.length:=by omega
   have hr : r.rc.getD x false=true:=by
    cases hh : r.rc.getD x false
    ·exact absurd ⟨by omega,by rw [hx];simpa using hh⟩ hc
    ·rfl
   refine ⟨hr,?_⟩
   rcases h.l3 x hxn hr with h5 | ⟨h5,z,hz,h6,h7,h8,h9⟩
   ·omega
   ·have:=hat z h7
    omega
theorem LvI.weaken {m : Msh} {r : RF} {P Q : Nat -> Nat -> Prop} (h : LvI m r P) (hPQ : ∀ y c,c < 3 -> r.lf.getD y false=true -> Q y c -> P y c) : LvI m r Q :=
 ⟨h.rcl,h.lfl,h.lvl,h.oul,h.l1,h.l2,h.bd,h.l3,fun y hy c hc hq=>h.l4 y hy c hc (hPQ y c hc hy hq)⟩
theorem LvI.i {m : Msh} (hv : au m=true) {a : Nat} {r : RF} (ha : a < m.f.length) (hla : r.lf.getD a false=true) (hat : ∀ z,r.lf.getD z false=true -> r.lv.getD z 0 <= r.lv.getD a 0) {P : Nat -> Nat -> Prop} (h : LvI m r P) : ∀ j,j <= 3 ->
  LvI m (rfI m a r j) (fun y c=>P y c \/ (y=a /\ c < j)) /\ (rfI m a r j).lf=r.lf /\ ∀ z,r.lf.getD z false=true -> (rfI m a r j).lv.getD z 0=r.lv.getD z 0
 | 0,_=>⟨h.weaken fun y c _ _ hq=>by rcases hq with h | h;exact h;omega,rfl,fun _ _=>rfl⟩
 | j + 1,hj=>by
  obtain ⟨h1,h2,h3⟩:=LvI.i hv ha hla hat h j (by omega)
  obtain ⟨q1,q2,q3⟩:=h1.p1 hv ha (show j < 3 by omega) (by rw [h2];exact hla) (fun z hz=>by rw [h2] at hz;rw [h3 z hz,h3 a hla];exact hat z hz)
  refine ⟨q1.weaken fun y c hc _ hq=>?_,by show (fB m a (rfI m a r j) (nbF m a j)).lf=_;rw [q2,h2],fun z hz=>by show (fB m a (rfI m a r j) (nbF m a j)).lv.getD z 0=_;rw [q3 z (by rw [h2];exact hz),h3 z hz]⟩
  rcases hq with h | ⟨h4,h5⟩
  ·exact .inl (.inl h)
  ·by_cases e : c=j
   ·exact .inr ⟨h4,e⟩
   ·exact .inl (.inr ⟨h4,by omega⟩)
theorem LvI.step {m : Msh} (hv : au m=true) {r : RF} (h : LvI m r fun _ _=>True) : LvI m (dL m r) fun _ _=>True:=by
 unfold dL
 split
 ·exact h
 ·rename_i h0
  rcases gO r m.f.length with ⟨h1,_⟩ | ⟨a,h1,h2,h3,h4⟩
  ·omega
  ·rw [h1]
   simp only [x0L]
   have h3' : r.rc.getD a false=true /\ r.lf.getD a false=false:=by simpa [act] using h3
   have glf : ∀ i,(r.lf.set a true).getD i false=if i=a then true else r.lf.getD i false:=fun i=>a8 (by rw [h.lfl];exact h2)
   have hat : ∀ z,(r.lf.set a true).getD z false=true -> r.lv.getD z 0 <= r.lv.getD a 0:=fun z hz=>by
    rw [glf] at hz
    split at hz
    ·rename_i e;rw [e];exact Int.le_refl _
    ·exact h.l2 z a hz h3'.1 h3'.2
   have hI : LvI m { r with lf:=r.lf.set a true } fun y _=>y ≠ a:=by
    refine ⟨h.rcl,by simp [h.lfl],h.lvl,h.oul,fun i hi=>?_,fun i k hi hk hk2=>?_,h.bd,fun i hi hir=>?_,fun y hy c hc hne x hx=>?_⟩
    ·simp only at hi
     rw [glf] at hi
     split at hi
     ·rename_i e;rw [e];exact h3'.1
     ·exact h.l1 i hi
    ·simp only at hi hk hk2 ⊢
     rw [glf] at hk2
     split at hk2
     ·cases hk2
     ·rename_i e
      have hak : act r k=true:=by simp only [act,hk,hk2];rfl
      by_cases hkn : k < m.f.length
      ·have h5:=h4 k hkn hak
       have h6:=hat i hi
       omega
      ·have : r.rc.getD k false=false:=by
        rw [x1m,x0K (by rw [h.rcl];omega)];rfl
       rw [this] at hk;cases hk
    ·rcases h.l3 i hi hir with h5 | ⟨h5,z,hz,h6,h7,h8,h9⟩
     ·exact .inl h5
     ·refine .inr ⟨h5,z,hz,h6,?_,h8,h9⟩
      show (r.lf.set a true).getD z false=true
      rw [glf];split
      ·rfl
      ·exact h7
    ·simp only at hy
     rw [glf,if_neg hne] at hy
     exact h.l4 y hy c hc trivial x hx
   have:=(hI.i (a:=a) hv h2 (by show (r.lf.set a true).getD a false=true;rw [glf,if_pos rfl]) hat 3 (x0j _)).1
   refine this.weaken fun y c hc _ _=>?_
   by_cases e : y=a
   ·exact .inr ⟨e,hc⟩
   ·exact .inl e
theorem LvI.run {m : Msh} (hv : au m=true) : ∀ (k : Nat) {r : RF},LvI m r (fun _ _=>True) -> LvI m (rfN m k r) fun _ _=>True
 | 0,_,h=>h
 | k + 1,_,h=>LvI.run hv k (h.step hv)
theorem lE (m : Msh) : ∀ i a,(rf0 m i).1.getD a false=true -> bsd m a (-1)=true
 | 0,a,h=>by
  simp [rf0,x0N] at h
  split at h <;> cases h
 | i + 1,a,h=>by
  unfold rf0 at h
  split at h
  ·rename_i hb
   rcases mW h with rfl | h
   ·exact hb
   ·exact lE m i a h
  ·exact lE m i a h
theorem LvI.init (m : Msh) : LvI m (cT m) fun _ _=>True:=by
 have hf : ∀ i,(List.replicate m.f.length false).getD i false=false:=fun i=>by simp [x0N];split <;> rfl
 refine ⟨(fA m _).1,by simp [cT],(fA m _).2,by simp [cT],fun a ha=>?_,fun a b ha _ _=>?_,fun a ha hb=>sE m _ (x0j _) a ha hb,fun a ha hr=>.inl ⟨lE m _ a hr,?_,pL m _ (x0j _) a hr⟩,fun y hy=>?_⟩
 ·exact absurd ((hf a).symm.trans ha) (by decide)
 ·exact absurd ((hf a).symm.trans ha) (by decide)
 ·show (List.replicate m.f.length (-1 : Int)).getD a 0=-1
  simp [x0N,ha]
 ·exact absurd ((hf y).symm.trans hy) (by decide)
def spF (m : Msh) (a : Nat) : Int:=(aU m).sp.getD a 0
def suF (m : Msh) (a : Nat) : Int:=(aS m).getD a 0
def ouF (m : Msh) (a : Nat) : Int:=(aU m).ou.getD a 0
theorem oA {m : Msh} (hv : au m=true) : LvI m (b8 m) fun _ _=>True:=(LvI.init m).run hv _
theorem lJ {m : Msh} (hv : au m=true) {a : Nat} (ha : a < m.f.length) (hb : bsd m a (-1)=true) : spF m a=suF m a /\ ouF m a=-1:=by
 obtain ⟨e1,e2⟩:=fI hv
 unfold spF suF ouF
 rw [e1,e2]
 rcases (oA hv).l3 a ha (gf hv a ha) with h | ⟨h,_⟩
 ·exact ⟨h.2.2,h.2.1⟩
 ·rw [hb] at h;cases h
theorem lK {m : Msh} (hv : au m=true) {a : Nat} (ha : a < m.f.length) (hb : bsd m a (-1)=false) : ∃ z : Nat,z < m.f.length /\ ouF m a=z /\ (∃ c,c < 3 /\ nbF m a c=z) /\ spF m a=max (suF m a) (spF m z):=by
 obtain ⟨e1,e2⟩:=fI hv
 unfold spF suF ouF
 rw [e1,e2]
 rcases (oA hv).l3 a ha (gf hv a ha) with h | ⟨_,z,h1,h2,_,h4,h5⟩
 ·rw [hb] at h;cases h.1
 ·exact ⟨z,h1,h2,h4,h5⟩
theorem tF {m : Msh} (hv : au m=true) {a : Nat} (ha : a < m.f.length) : suF m a <= spF m a:=by
 cases hb : bsd m a (-1)
 ·obtain ⟨z,_,_,_,h⟩:=lK hv ha hb
  omega
 ·have:=lJ hv ha hb
  omega
end Go.Gv

namespace Go.Gv
open Go.Lib
variable {C : CC} (hC : aD prog C)
include hC
theorem zX (a b c d : Nat) : C 87 [.agg [.int .u64 a,.int .u64 b],.agg [.int .u64 c,.int .u64 d]] (.bool (decide (a < c \/ (a=c /\ b < d)))) []:=by
 refine aq hC (nf:=N87) rfl rfl ?_
 simp [N87]
 refine aj (fun h=>?_) (fun h=>?_) <;> simp at h <;> simp [h]
 have h3 : ¬ a < c:=by omega
 refine aj (fun h2=>?_) (fun h2=>?_) <;> simp at h2 <;> simp [h2,h3]
 ·have h4 : a=c:=by omega
  simp [h4]
 ·omega
theorem xj (a b c d p q : Nat) (ha : a < 18446744073709551616) (hb : b < 18446744073709551616) (hd : d < 18446744073709551616) (hq : q < 18446744073709551616) (h : p * 18446744073709551616 + q + (c * 18446744073709551616 + d)=a * 18446744073709551616 + b) : C 95 [.agg [.int .u64 a,.int .u64 b],.agg [.int .u64 c,.int .u64 d]] (.agg [.int .u64 p,.int .u64 q]) []:=by
 refine aq hC (nf:=N95) rfl rfl ?_
 simp [N95]
 have e3 : IntKind.u64.wrap ((b : Int) - (d : Int))=(q : Int):=uw (by omega) hq
 refine aj (fun h1=>?_) (fun h1=>?_) <;> simp at h1 <;> simp [h1,e3]
 ·have e1 : IntKind.u64.wrap ((a : Int) - (c : Int))=((p + 1 : Nat) : Int):=uw (by omega) (by omega)
  rw [e1]
  exact uw (by omega) (by omega)
 ·exact uw (by omega) (by omega)
theorem nA (a b w t p q : Nat) (hb : b < 18446744073709551616) (hw : w <= 1) (hp : p < 18446744073709551616) (hq : q < 18446744073709551616) (ht : (a * 18446744073709551616 + b) * 2 + w=(t * 18446744073709551616 + p) * 18446744073709551616 + q) : C 94 [.agg [.int .u64 a,.int .u64 b],.int .u64 w] (.agg [.int .u64 p,.int .u64 q]) []:=by
 refine aq hC (nf:=N94) rfl rfl ?_
 simp [N94]
 obtain ⟨a2,ha2⟩ : ∃ a2,a2=a * 2 % 18446744073709551616:=⟨_,rfl⟩
 obtain ⟨b2,hb2⟩ : ∃ b2,b2=b * 2 % 18446744073709551616:=⟨_,rfl⟩
 obtain ⟨c,hc⟩ : ∃ c,c=b / 9223372036854775808:=⟨_,rfl⟩
 rw [xF,MO a a2 ha2,MO b b2 hb2,<- hc]
 exact ⟨uw (by omega) hp,uw (by omega) hq⟩
end Go.Gv

namespace Go.Gv
def DvS (x b i a q r : Nat) : Prop:=i <= 128 /\ r < b /\ ∃ c,a=c * 2 ^ i /\ c < 2 ^ (128 - i) /\ (q * b + r) * 2 ^ (128 - i) + c=x
theorem DvS.step {x b i a q r : Nat} (h : DvS x b i a q r) (hi : i < 128) (hb : 0 < b) :
  a < 340282366920938463463374607431768211456 /\ 2 * q <= x /\
  ∀ w r' a',2 * r + a / 170141183460469231731687303715884105728=w * b + r' -> r' < b -> a'=2 * a % 340282366920938463463374607431768211456 -> DvS x b (i + 1) a' (2 * q + w) r' /\ 2 * q + w <= x:=by
 obtain ⟨_,hr,c,h1,h2,h3⟩:=h
 obtain ⟨m,hm⟩ : ∃ m,m + 1=128 - i:=⟨127 - i,by omega⟩
 have hm2 : m=128 - (i + 1):=by omega
 rw [<- hm,Nat.pow_succ] at h2 h3
 obtain ⟨V,hV⟩ : ∃ V,V=2 ^ m:=⟨_,rfl⟩
 obtain ⟨W,hW⟩ : ∃ W,W=2 ^ i:=⟨_,rfl⟩
 have hVW : V * W=170141183460469231731687303715884105728:=by
  rw [hV,hW,<- Nat.pow_add,show m + i=127 by omega]
 have hVp : 0 < V:=by rw [hV];exact Nat.two_pow_pos m
 rw [<- hV] at h2 h3
 rw [<- hW] at h1
 obtain ⟨t,ht⟩ : ∃ t,t=c / V:=⟨_,rfl⟩
 obtain ⟨d,hd⟩ : ∃ d,d=c % V:=⟨_,rfl⟩
 have hc : c=t * V + d:=by rw [ht,hd,x1l];exact (x1w c V).symm
 have hdV : d < V:=by rw [hd];exact x1C _ hVp
 have ht1 : t <= 1:=by
  have : t < 2:=by rw [ht,x1G hVp];omega
  omega
 have ha : a=t * 170141183460469231731687303715884105728 + d * W:=by
  rw [h1,hc,x0z,x1M,hVW]
 have hdW : d * W < 170141183460469231731687303715884105728:=by
  have : (d + 1) * W <= V * W:=x0o _ hdV
  rw [hVW,x0z] at this
  have hWp : 0 < W:=by rw [hW];exact Nat.two_pow_pos i
  omega
 have hbit : a / 170141183460469231731687303715884105728=t:=by
  rw [ha];generalize d * W=z at *;omega
 have fin : ∀ w r',2 * r + t=w * b + r' -> ((2 * q + w) * b + r') * V + d=x:=fun w r' e=>by
  have e1 : (2 * q + w) * b + r'=2 * (q * b + r) + t:=by
   rw [x0z,x1M]
   generalize q * b=z at *
   generalize w * b=z' at *
   omega
  rw [e1,<- h3,hc,x0z,x1l V 2,<- x1M,x1l (q * b + r) 2]
  omega
 have big : ∀ w r',2 * r + t=w * b + r' -> 2 * q + w <= x:=fun w r' e=>by
  have e1:=fin w r' e
  have e2 : 2 * q + w <= (2 * q + w) * b:=Nat.le_mul_of_pos_right _ hb
  have e3 : (2 * q + w) * b + r' <= ((2 * q + w) * b + r') * V:=Nat.le_mul_of_pos_right _ hVp
  omega
 refine ⟨?_,?_,?_⟩
 ·rw [ha];generalize d * W=z at *;omega
 ·exact x1x (Nat.le_add_right _ _) (big _ _ (Nat.div_add_mod' (2 * r + t) b).symm)
 ·intro w r' a' e hr' ha'
  rw [hbit] at e
  refine ⟨⟨by omega,hr',d,?_,?_,?_⟩,big w r' e⟩
  ·rw [ha',ha,Nat.pow_succ,<- hW,x1l W 2,Nat.mul_left_comm]
   generalize d * W=z at *
   omega
  ·rw [<- hm2,<- hV];exact hdV
  ·rw [<- hm2,<- hV];exact fin w r' e
theorem DvS.last {x b a q r : Nat} (h : DvS x b 128 a q r) : q=x / b /\ r=x % b:=by
 obtain ⟨_,hr,c,h1,h2,h3⟩:=h
 simp at h2 h3
 subst h2
 simp at h3
 subst h3
 have hb : 0 < b:=by omega
 rw [x1l,Nat.mul_add_div hb,Nat.div_eq_of_lt hr,Nat.mul_add_mod,Nat.mod_eq_of_lt hr]
 exact ⟨rfl,rfl⟩
variable {C : CC} (hC : aD prog C)
include hC
end Go.Gv

namespace Go.Gv
variable {C : CC} (hC : aD prog C)
include hC
set_option maxRecDepth 8000 in
set_option maxHeartbeats 4000000 in
theorem zW (x b : Nat) (hx : x < 340282366920938463463374607431768211456) (hb0 : 0 < b) (hb : b < 170141183460469231731687303715884105728) : C 82 [.agg [.int .u64 ((x / 18446744073709551616 : Nat) : Int),.int .u64 ((x % 18446744073709551616 : Nat) : Int)],.agg [.int .u64 ((b / 18446744073709551616 : Nat) : Int),.int .u64 ((b % 18446744073709551616 : Nat) : Int)]]
  (.tup [.agg [.int .u64 ((x / b / 18446744073709551616 : Nat) : Int),.int .u64 ((x / b % 18446744073709551616 : Nat) : Int)],.agg [.int .u64 ((x % b / 18446744073709551616 : Nat) : Int),.int .u64 ((x % b % 18446744073709551616 : Nat) : Int)]]) []:=by
 obtain ⟨xh,hxh⟩ : ∃ xh,xh=x / 18446744073709551616:=⟨_,rfl⟩
 obtain ⟨xl,hxl⟩ : ∃ xl,xl=x % 18446744073709551616:=⟨_,rfl⟩
 obtain ⟨bh,hbh⟩ : ∃ bh,bh=b / 18446744073709551616:=⟨_,rfl⟩
 obtain ⟨bl,hbl⟩ : ∃ bl,bl=b % 18446744073709551616:=⟨_,rfl⟩
 obtain ⟨yh,hyh⟩ : ∃ yh,yh=x / b / 18446744073709551616:=⟨_,rfl⟩
 obtain ⟨yl,hyl⟩ : ∃ yl,yl=x / b % 18446744073709551616:=⟨_,rfl⟩
 obtain ⟨zh,hzh⟩ : ∃ z,z=x % b / 18446744073709551616:=⟨_,rfl⟩
 obtain ⟨zl,hzl⟩ : ∃ z,z=x % b % 18446744073709551616:=⟨_,rfl⟩
 rw [<- hxh,<- hxl,<- hyh,<- hyl,<- hzh,<- hzl,<- hbh,<- hbl]
 have hbb : bh * 18446744073709551616 + bl=b:=by rw [hbh,hbl];exact Nat.div_add_mod' _ _
 have hbl2 : bl < 18446744073709551616:=by rw [hbl];exact x1C _ (by decide)
 have hxl2 : xl < 18446744073709551616:=by rw [hxl];exact x1C _ (by decide)
 have h00 : (0 : Nat) < 18446744073709551616:=by decide
 have hxx : xh * 18446744073709551616 + xl=x:=by rw [hxh,hxl];exact Nat.div_add_mod' _ _
 have hS0 : DvS x b 0 (xh * 18446744073709551616 + xl) (0 * 18446744073709551616 + 0) (0 * 18446744073709551616 + 0):=by
  rw [hxx]
  have hpow : (2 : Nat) ^ 128=340282366920938463463374607431768211456:=by decide +kernel
  exact ⟨by omega,by simpa using hb0,x,by simp,by rw [Nat.sub_zero,hpow];exact hx,by simp⟩
 refine aq hC (nf:=N82) rfl rfl ?_
 simp [N82]
 refine av (Nat × Nat × Nat × Nat × Nat × Nat × Nat) (fun s=>[(2,.adr (.r 10032) 0 0),(3,.ptr [.int .u64 bh,.int .u64 bl]),(4,.adr (.r 10064) 0 0),(5,.adr (.r 10080) 0 0),(6,.adr (.r 10096) 0 0),(7,.adr (.r 10112) 0 0),(8,.int .i64 s.1),
   (10032,.blk 2 [[.int .u64 s.2.1,.int .u64 s.2.2.1]]),(10064,.blk 2 [[.int .u64 0,.int .u64 0]]),(10080,.blk 2 [[.int .u64 0,.int .u64 0]]),(10096,.blk 2 [[.int .u64 s.2.2.2.1,.int .u64 s.2.2.2.2.1]]),(10112,.blk 2 [[.int .u64 s.2.2.2.2.2.1,.int .u64 s.2.2.2.2.2.2]])])
  (fun s=>s.2.2.1 < 18446744073709551616 /\ s.2.2.2.2.1 < 18446744073709551616 /\ s.2.2.2.2.2.2 < 18446744073709551616 /\ DvS x b s.1 (s.2.1 * 18446744073709551616 + s.2.2.1) (s.2.2.2.1 * 18446744073709551616 + s.2.2.2.2.1) (s.2.2.2.2.2.1 * 18446744073709551616 + s.2.2.2.2.2.2)) (fun s=>128 - s.1) (0,xh,xl,0,0,0,0) ⟨hxl2,h00,h00,hS0⟩ (by simp) ?_
 rintro ⟨i,ah,al,qh,ql,rh,rl⟩ ⟨hal,hql,hrl,hS⟩
 simp only at hal hql hrl hS
 simp
 refine aj (fun c=>?_) (fun c=>?_) <;> simp at c <;> simp [c]
 ·have hrb:=hS.2.1
  have hw1 : IntKind.wrap .i64 ((i : Int) + 1)=((i + 1 : Nat) : Int):=af (by omega) (by omega)
  obtain ⟨g1,g2,g3⟩:=hS.step (by omega) hb0
  obtain ⟨A,hA⟩ : ∃ A,A=ah * 18446744073709551616 + al:=⟨_,rfl⟩
  obtain ⟨Q,hQ⟩ : ∃ Q,Q=qh * 18446744073709551616 + ql:=⟨_,rfl⟩
  obtain ⟨r,hr⟩ : ∃ r,r=rh * 18446744073709551616 + rl:=⟨_,rfl⟩
  rw [<- hA] at g1 g3
  rw [<- hQ] at g2 g3
  rw [<- hr] at g3 hrb
  obtain ⟨t,ht⟩ : ∃ t,t=ah / 9223372036854775808:=⟨_,rfl⟩
  have ht2 : A / 170141183460469231731687303715884105728=t:=by omega
  rw [ht2] at g3
  have ht1 : t <= 1:=by omega
  have hrh : rh / 9223372036854775808=0:=by omega
  obtain ⟨p,hp⟩ : ∃ p,p=2 * A % 340282366920938463463374607431768211456 / 18446744073709551616:=⟨_,rfl⟩
  obtain ⟨o,ho⟩ : ∃ o,o=2 * A % 340282366920938463463374607431768211456 % 18446744073709551616:=⟨_,rfl⟩
  have k1:=nA hC ah al 0 t p o (by omega) (by omega) (by omega) (by omega) (by omega)
  obtain ⟨R,hR⟩ : ∃ R,R=2 * r + t:=⟨_,rfl⟩
  obtain ⟨Rh,hRh⟩ : ∃ z,z=R / 18446744073709551616:=⟨_,rfl⟩
  obtain ⟨Rl,hRl⟩ : ∃ z,z=R % 18446744073709551616:=⟨_,rfl⟩
  have k2:=nA hC rh rl t 0 Rh Rl (by omega) (by omega) (by omega) (by omega) (by omega)
  obtain ⟨u,hu⟩ : ∃ u,u=2 * Q / 18446744073709551616:=⟨_,rfl⟩
  obtain ⟨v,hv⟩ : ∃ v,v=2 * Q % 18446744073709551616:=⟨_,rfl⟩
  have k3:=nA hC qh ql 0 0 u v (by omega) (by omega) (by omega) (by omega) (by omega)
  rw [<- hR] at g3
  have k4:=zX hC Rh Rl bh bl
  have hlt : decide (Rh < bh \/ (Rh=bh /\ Rl < bl))=decide (R < b):=by
   rw [x0v,x0f,x0f]
   omega
  rw [hlt] at k4
  simp only [Int.natCast_zero] at k1 k3
  have hsh : Int.fdiv (ah : Int) (2 ^ min 63 IntKind.u64.bits)=(t : Int):=by rw [xF,ht]
  have hsh0 : Int.fdiv (rh : Int) (2 ^ min 63 IntKind.u64.bits)=0:=by rw [xF,hrh];rfl
  have e1 : p * 18446744073709551616 + o=2 * A % 340282366920938463463374607431768211456:=by rw [hp,ho];exact Nat.div_add_mod' _ _
  have e2 : u * 18446744073709551616 + v=2 * Q:=by rw [hu,hv];exact Nat.div_add_mod' _ _
  have e3 : Rh * 18446744073709551616 + Rl=R:=by rw [hRh,hRl];exact Nat.div_add_mod' _ _
  simp [hsh]
  refine aa k1 (.inl rfl) ?_
  simp [hsh0]
  refine aa k2 (.inl rfl) ?_
  simp
  refine aa k3 (.inl rfl) ?_
  simp
  refine aa k4 (.inl rfl) ?_
  by_cases d : R < b
  ·simp [d,hw1]
   obtain ⟨m1,m2⟩:=g3 0 R (2 * A % 340282366920938463463374607431768211456) (by omega) (by omega) rfl
   refine ⟨i + 1,p,o,u,v,Rh,Rl,⟨by clear g3 m1 m2;omega,by clear g3 m1 m2;omega,by clear g3 m1 m2;omega,?_⟩,by omega,?_⟩
   ·rw [e1,e2,e3];exact m1
   ·simp
  ·simp [d,hw1]
   obtain ⟨r3,hr3⟩ : ∃ r3,r3=R - b:=⟨_,rfl⟩
   obtain ⟨r3h,hr3h⟩ : ∃ z,z=r3 / 18446744073709551616:=⟨_,rfl⟩
   obtain ⟨r3l,hr3l⟩ : ∃ z,z=r3 % 18446744073709551616:=⟨_,rfl⟩
   obtain ⟨m1,m2⟩:=g3 1 r3 (2 * A % 340282366920938463463374607431768211456) (by omega) (by omega) rfl
   have hr3l2 : r3l < 18446744073709551616:=by rw [hr3l];exact x1C _ (by decide)
   have e4 : r3h * 18446744073709551616 + r3l=r3:=by rw [hr3h,hr3l];exact Nat.div_add_mod' _ _
   have hRl2 : Rl < 18446744073709551616:=by rw [hRl];exact x1C _ (by decide)
   have k5:=xj hC Rh Rl bh bl r3h r3l (by clear g3 m1 m2 hp ho hu hv hS g1 g2 k1 k2 k3 k4 e1 e2;omega) hRl2 hbl2 hr3l2 (by rw [e4,hbb,e3,hr3];exact Nat.sub_add_cancel (Nat.le_of_not_lt d))
   have hve : v % 2=0 /\ v < 18446744073709551616:=by
    clear g3 m1 m2 k1 k2 k3 k4 k5 hS e1 e2 hp ho g1 hA
    omega
   have hv1 : IntKind.u64.wrap ((v : Int) + 1)=((v + 1 : Nat) : Int):=uw (.inl (by push_cast;rfl)) (by clear g3 m1 m2 hp ho hu hv;omega)
   refine aa k5 (.inl rfl) ?_
   simp [hv1,hw1]
   refine ⟨i + 1,p,o,u,v + 1,r3h,r3l,⟨by clear g3 m1 m2 hu hv;omega,by clear g3 m1 m2 hp ho hu hv;omega,hr3l2,?_⟩,by omega,?_⟩
   ·rw [e1,<- x0R,e2,e4];exact m1
   ·simp
 ·obtain rfl : i=128:=by have:=hS.1;omega
  obtain ⟨e1,e2⟩:=hS.last
  refine ⟨ai (by decide +kernel),?_⟩
  obtain ⟨Y,hY⟩ : ∃ Y,Y=x / b:=⟨_,rfl⟩
  obtain ⟨Z,hZ⟩ : ∃ Z,Z=x % b:=⟨_,rfl⟩
  rw [<- hY] at e1 hyh hyl
  rw [<- hZ] at e2 hzh hzl
  have e3 : qh=yh:=by omega
  have e4 : ql=yl:=by omega
  have e5 : rh=zh:=by omega
  have e6 : rl=zl:=by omega
  subst e3 e4 e5 e6
  simp
end Go.Gv

namespace Go.Gv
open Go.Lib
def cJ (v : Int) : D:=cF v.natAbs (decide (v < 0))
theorem bE {v : Int} {p : Nat} {b : Bool} (h1 : v.natAbs=p) (h2 : decide (v < 0)=b) : cJ v=cF p b:=by rw [cJ,h1,h2]
theorem cx (p : Nat) (b : Bool) : ∃ x y : Nat,x=p / 18446744073709551616 /\ y=p % 18446744073709551616 /\ cF p b=.agg [.int .u64 x,.int .u64 y,.bool b]:=⟨_,_,rfl,rfl,rfl⟩
theorem aY (p : Nat) : ∃ x y : Nat,x=p / 18446744073709551616 /\ y=p % 18446744073709551616 /\ cZ p=.agg [.int .u64 x,.int .u64 y]:=⟨_,_,rfl,rfl,rfl⟩
theorem iw {n m : Int} (h : n=m \/ n=m + 18446744073709551616) (h2 : -9223372036854775808 <= m /\ m < 9223372036854775808) : IntKind.i64.wrap n=m:=by
 have e1 : IntKind.i64.signed=true:=rfl
 have e2 : (2 ^ (IntKind.i64.bits - 1) : Int)=9223372036854775808:=rfl
 have e3 : (2 ^ IntKind.i64.bits : Int)=18446744073709551616:=rfl
 unfold IntKind.wrap
 simp only [e1,e2,e3,x09,x0f]
 split <;> omega
variable {C : CC} (hC : aD prog C)
include hC
theorem ny (v : Int) (h : -9223372036854775808 <= v /\ v < 9223372036854775808) : C 86 [.int .i64 v] (.int .u64 (v.natAbs : Int)) []:=by
 obtain ⟨n,hn⟩ : ∃ n,n=v.natAbs:=⟨_,rfl⟩
 rw [<- hn]
 refine aq hC (nf:=N86) rfl rfl ?_
 by_cases h0 : v < 0
 ·have e1 : IntKind.u64.wrap v=((18446744073709551616 - n : Nat) : Int):=uw (by omega) (by omega)
  have e2 : IntKind.u64.wrap (-((18446744073709551616 - n : Nat) : Int))=(n : Int):=uw (by omega) (by omega)
  obtain ⟨y,hy⟩ : ∃ y,y=((18446744073709551616 - n : Nat) : Int):=⟨_,rfl⟩
  rw [<- hy] at e1 e2
  simp [N86,h0,e1,e2]
 ·have e1 : IntKind.u64.wrap v=(n : Int):=uw (by omega) (by omega)
  simp [N86,h0,e1]
theorem qY (a b : Nat) (t : Bool) : C 84 [.agg [.int .u64 a,.int .u64 b],.bool t] (.agg [.int .u64 a,.int .u64 b,.bool (t && !(decide (a=0) && decide (b=0)))]) []:=by
 cases t
 ·exact zS hC a b
 ·rw [x09];exact xd hC a b
theorem fX (p : Nat) (t : Bool) : C 84 [cZ p,.bool t] (cF p (t && !decide (p=0))) []:=by
 obtain ⟨x,y,hx,hy,e⟩:=aY p
 have k:=qY hC x y t
 rw [show (decide (x=0) && decide (y=0))=decide (p=0) by rw [x0v];simp;omega] at k
 rw [e,cF,<- hx,<- hy]
 exact k
theorem xc (p r : Nat) : C 87 [cZ p,cZ r] (.bool (decide (p < r))) []:=by
 obtain ⟨x,y,hx,hy,e⟩:=aY p
 obtain ⟨z,w,hz,hw,e2⟩:=aY r
 have k:=zQ hC x y z w
 rw [show decide (x < z \/ (x=z /\ y < w))=decide (p < r) by rw [decide_eq_decide];omega] at k
 rw [e,e2]
 exact k
theorem oS (p r : Nat) (h : r <= p) (hp : p < 340282366920938463463374607431768211456) : C 95 [cZ p,cZ r] (cZ (p - r)) []:=by
 obtain ⟨x,y,hx,hy,e⟩:=aY p
 obtain ⟨z,w,hz,hw,e2⟩:=aY r
 obtain ⟨s,t,hs,ht,e3⟩:=aY (p - r)
 rw [e,e2,e3]
 exact xe hC x y z w s t (by omega) (by omega) (by omega) (by omega) (by omega)
theorem qZ (p r : Nat) (h : p + r < 340282366920938463463374607431768211456) : C 83 [cZ p,cZ r] (cZ (p + r)) []:=by
 obtain ⟨x,y,hx,hy,e⟩:=aY p
 obtain ⟨z,w,hz,hw,e2⟩:=aY r
 obtain ⟨s,t,hs,ht,e3⟩:=aY (p + r)
 rw [e,e2,e3]
 have e4 : IntKind.u64.wrap ((y : Int) + (w : Int))=(t : Int):=uw (by omega) (by omega)
 refine aq hC (nf:=N83) rfl rfl ?_
 by_cases c : t < y
 ·have e5 : IntKind.u64.wrap ((x : Int) + (z : Int))=((x + z : Nat) : Int):=uw (by omega) (by omega)
  have e6 : IntKind.u64.wrap (((x + z : Nat) : Int) + 1)=(s : Int):=uw (by omega) (by omega)
  have c2 : (t : Int) < y:=by omega
  obtain ⟨u,hu⟩ : ∃ u,u=((x + z : Nat) : Int):=⟨_,rfl⟩
  rw [<- hu] at e5 e6
  simp [N83,e4,e5,e6,c]
 ·have e5 : IntKind.u64.wrap ((x : Int) + (z : Int))=(s : Int):=uw (by omega) (by omega)
  have c2 : ¬ (t : Int) < y:=by omega
  simp [N83,e4,e5,c]
theorem zV (x y : Int) (hx : x.natAbs < 170141183460469231731687303715884105728) (hy : y.natAbs < 170141183460469231731687303715884105728) : C 337 [cJ x,cJ y] (cJ (x + y)) []:=by
 obtain ⟨p,hp⟩ : ∃ p,p=x.natAbs:=⟨_,rfl⟩
 obtain ⟨r,hr⟩ : ∃ r,r=y.natAbs:=⟨_,rfl⟩
 obtain ⟨s,hs⟩ : ∃ s,s=decide (x < 0):=⟨_,rfl⟩
 obtain ⟨t,ht⟩ : ∃ t,t=decide (y < 0):=⟨_,rfl⟩
 have k1:=qZ hC p r (by omega)
 have k2:=fX hC (p + r) s
 have k3:=xc hC p r
 have k4:=fun h=>oS hC r p h (by omega)
 have k5:=fX hC (r - p) t
 have k6:=fun h=>oS hC p r h (by omega)
 have k7:=fX hC (p - r) s
 rw [bE hp.symm hs.symm,bE hr.symm ht.symm]
 obtain ⟨a1,a2,_,_,ea⟩:=aY p
 obtain ⟨b1,b2,_,_,eb⟩:=aY r
 have en : ∀ (q : Nat) (b : Bool) (c1 c2 : Nat),cZ q=.agg [.int .u64 c1,.int .u64 c2] -> cF q b=.agg [.int .u64 c1,.int .u64 c2,.bool b]:=fun q b c1 c2 h=>by
  simp only [cZ,D.agg.injEq,List.cons.injEq,D.int.injEq,true_and,and_true] at h
  rw [cF,h.1,h.2]
 rw [en _ _ _ _ ea,en _ _ _ _ eb]
 rw [ea,eb] at k1 k3
 rw [ea,eb] at k4 k6
 by_cases c : s=t
 ·have e : cJ (x + y)=cF (p + r) (s && !decide (p + r=0)):=bE (by
   subst c
   rw [hs,decide_eq_decide] at ht
   omega) (by
   subst c
   rw [hs] at ht ⊢
   rw [decide_eq_decide] at ht
   rw [x0v]
   simp
   omega)
  rw [e]
  obtain ⟨d1,d2,_,_,ed⟩:=aY (p + r)
  rw [en _ _ _ _ ed]
  rw [en _ _ _ _ ed] at k2
  rw [ed] at k1 k2
  obtain ⟨w,hw⟩ : ∃ w,w=(s && !decide (p + r=0)):=⟨_,rfl⟩
  rw [<- hw] at k2 ⊢
  subst c
  clear hs ht hw
  refine aq hC (nf:=N337) rfl rfl ?_
  simp [N337]
  refine aa k1 (.inl rfl) ?_
  simp
  refine aa k2 (.inl rfl) ?_
  simp
  exact ai (by decide +kernel)
 ·have c3 : (s == t)=false:=by simpa using c
  by_cases l : p < r
  ·have e : cJ (x + y)=cF (r - p) (t && !decide (r - p=0)):=bE (by
    rw [hs,ht,decide_eq_decide] at c
    omega) (by
    rw [hs,ht,decide_eq_decide] at c
    rw [x0v,ht]
    simp
    omega)
   have k4:=k4 (by omega)
   rw [e]
   obtain ⟨d1,d2,_,_,ed⟩:=aY (r - p)
   rw [en _ _ _ _ ed]
   rw [en _ _ _ _ ed] at k5
   rw [ed] at k4 k5
   obtain ⟨w,hw⟩ : ∃ w,w=(t && !decide (r - p=0)):=⟨_,rfl⟩
   rw [<- hw] at k5 ⊢
   rw [decide_eq_true l] at k3
   clear hs ht hw
   refine aq hC (nf:=N337) rfl rfl ?_
   simp [N337,c3]
   refine aa k3 (.inl rfl) ?_
   simp
   refine aa k4 (.inl rfl) ?_
   simp
   refine aa k5 (.inl rfl) ?_
   simp
   exact ai (by decide +kernel)
  ·have e : cJ (x + y)=cF (p - r) (s && !decide (p - r=0)):=bE (by
    rw [hs,ht,decide_eq_decide] at c
    omega) (by
    rw [hs,ht,decide_eq_decide] at c
    rw [x0v,hs]
    simp
    omega)
   have k6:=k6 (by omega)
   rw [e]
   obtain ⟨d1,d2,_,_,ed⟩:=aY (p - r)
   rw [en _ _ _ _ ed]
   rw [en _ _ _ _ ed] at k7
   rw [ed] at k6 k7
   obtain ⟨w,hw⟩ : ∃ w,w=(s && !decide (p - r=0)):=⟨_,rfl⟩
   rw [<- hw] at k7 ⊢
   rw [decide_eq_false l] at k3
   clear hs ht hw
   refine aq hC (nf:=N337) rfl rfl ?_
   simp [N337,c3]
   refine aa k3 (.inl rfl) ?_
   simp
   refine aa k6 (.inl rfl) ?_
   simp
   refine aa k7 (.inl rfl) ?_
   simp
   exact ai (by decide +kernel)
theorem tp (x : Int) : C 338 [cJ x] (cJ (-x)) []:=by
 obtain ⟨p,hp⟩ : ∃ p,p=x.natAbs:=⟨_,rfl⟩
 obtain ⟨s,hs⟩ : ∃ s,s=decide (x < 0):=⟨_,rfl⟩
 have k:=fX hC p (!s)
 rw [bE hp.symm hs.symm,bE (v:=-x) (p:=p) (b:=!s && !decide (p=0)) (by omega) (by rw [hs,x0v];simp;omega)]
 obtain ⟨w,hw⟩ : ∃ w,w=(!s && !decide (p=0)):=⟨_,rfl⟩
 rw [<- hw] at k ⊢
 rw [cF,cF]
 rw [cF,cZ] at k
 obtain ⟨a,ha⟩ : ∃ a,a=p / 18446744073709551616:=⟨_,rfl⟩
 obtain ⟨b,hb⟩ : ∃ b,b=p % 18446744073709551616:=⟨_,rfl⟩
 rw [<- ha,<- hb] at k ⊢
 clear hw hs
 refine aq hC (nf:=N338) rfl rfl ?_
 simp [N338]
 refine aa k (.inl rfl) ?_
 simp
theorem uK (x y : Int) (hx : -9223372036854775808 <= x /\ x < 9223372036854775808) (hy : -9223372036854775808 <= y /\ y < 9223372036854775808) : C 67 [.int .i64 x,.int .i64 y] (cJ (x * y)) []:=by
 have k1:=ny hC x hx
 have k2:=ny hC y hy
 have k3:=DM hC x.natAbs y.natAbs (by omega) (by omega)
 obtain ⟨p,hp⟩ : ∃ p,p=x.natAbs * y.natAbs:=⟨_,rfl⟩
 obtain ⟨s,hs⟩ : ∃ s,s=(decide (x < 0) != decide (y < 0)):=⟨_,rfl⟩
 have k4:=fX hC p s
 have e : cJ (x * y)=cF p (s && !decide (p=0)):=bE (by rw [Int.natAbs_mul,hp]) (by
  rw [hs,hp,x0v]
  simp only [x0f,x0a,bne_iff_ne,ne_eq,decide_eq_decide,x0t,x0p,Nat.mul_eq_zero,Int.natAbs_eq_zero]
  constructor
  ·intro h
   refine ⟨fun h2=>?_,fun h2=>?_⟩
   ·by_cases x0 : x < 0
    ·have:=Int.mul_nonneg_of_nonpos_of_nonpos (show x <= 0 by omega) (show y <= 0 by have:=h2.1 x0;omega)
     omega
    ·have:=x1n (show 0 <= x by omega) (show 0 <= y by have:=mt h2.2 x0;omega)
     omega
   ·rcases h2 with rfl | rfl <;> simp at h
  ·rintro ⟨h1,h2⟩
   by_cases x0 : x < 0
   ·exact Int.mul_neg_of_neg_of_pos x0 (by by_cases y0 : y < 0;exact absurd (iff_of_true x0 y0) h1;omega)
   ·exact Int.mul_neg_of_pos_of_neg (by omega) (by by_cases y0 : y < 0;exact y0;exact absurd (iff_of_false x0 y0) h1))
 rw [e]
 rw [<- hp] at k3
 obtain ⟨w,hw⟩ : ∃ w,w=(s && !decide (p=0)):=⟨_,rfl⟩
 rw [<- hw] at k4 ⊢
 rw [cF]
 rw [cF,cZ] at k4
 rw [cZ] at k3
 obtain ⟨a,ha⟩ : ∃ a,a=p / 18446744073709551616:=⟨_,rfl⟩
 obtain ⟨b,hb⟩ : ∃ b,b=p % 18446744073709551616:=⟨_,rfl⟩
 rw [<- ha,<- hb] at k3 k4 ⊢
 obtain ⟨x1,hx1⟩ : ∃ n : Nat,n=x.natAbs:=⟨_,rfl⟩
 obtain ⟨y1,hy1⟩ : ∃ n : Nat,n=y.natAbs:=⟨_,rfl⟩
 rw [<- hx1] at k1 k3
 rw [<- hy1] at k2 k3
 clear hw hp
 refine aq hC (nf:=N67) rfl rfl ?_
 simp [N67]
 refine aa k1 (.inl rfl) ?_
 simp
 refine aa k2 (.inl rfl) ?_
 simp
 refine aa k3 (.inl rfl) ?_
 by_cases x0 : x < 0 <;> by_cases y0 : y < 0 <;> simp [x0,y0] at hs <;> subst hs <;> simp [x0,y0] <;> refine aa k4 (.inl rfl) ?_ <;> simp
theorem oT (v : Int) (h : -9223372036854775808 <= v /\ v < 9223372036854775808) : C 68 [.int .i64 v] (cJ v) []:=by
 have k1:=ny hC v h
 obtain ⟨p,hp⟩ : ∃ p,p=v.natAbs:=⟨_,rfl⟩
 obtain ⟨s,hs⟩ : ∃ s,s=decide (v < 0):=⟨_,rfl⟩
 have k2:=qY hC 0 p s
 rw [bE hp.symm hs.symm,cF,show p / 18446744073709551616=0 by omega,show p % 18446744073709551616=p by omega]
 rw [show (s && !(decide (0=0) && decide (p=0)))=s by rw [hs,x0v];simp;omega] at k2
 rw [<- hp] at k1
 simp only [Int.natCast_zero] at k2 ⊢
 refine aq hC (nf:=N68) rfl rfl ?_
 simp [N68]
 refine aa k1 (.inl rfl) ?_
 by_cases v0 : v < 0 <;> simp [v0] at hs <;> subst hs <;> simp [v0] <;> refine aa k2 (.inl rfl) ?_ <;> simp
theorem uJ (v : Int) (h : -9223372036854775808 <= v /\ v < 9223372036854775808) : C 93 [cJ v] (.tup [.int .i64 v,.bool true]) []:=by
 obtain ⟨p,hp⟩ : ∃ p,p=v.natAbs:=⟨_,rfl⟩
 obtain ⟨s,hs⟩ : ∃ s,s=decide (v < 0):=⟨_,rfl⟩
 rw [bE hp.symm hs.symm,cF,show p / 18446744073709551616=0 by omega,show p % 18446744073709551616=p by omega]
 refine aq hC (nf:=N93) rfl rfl ?_
 by_cases v0 : v < 0
 ·simp [v0] at hs
  subst hs
  have e1 : IntKind.u64.wrap (-(p : Int))=((18446744073709551616 - p : Nat) : Int):=uw (by omega) (by omega)
  have e2 : IntKind.i64.wrap ((18446744073709551616 - p : Nat) : Int)=v:=iw (by omega) (by omega)
  have e3 : (p : Int) <= 9223372036854775808:=by omega
  obtain ⟨y,hy⟩ : ∃ y,y=((18446744073709551616 - p : Nat) : Int):=⟨_,rfl⟩
  rw [<- hy] at e1 e2
  simp [N93,e1,e2,e3]
  exact ai (by decide +kernel)
 ·simp [v0] at hs
  subst hs
  have e1 : IntKind.i64.wrap (p : Int)=v:=af (by omega) (by omega)
  have e3 : (p : Int) < 9223372036854775808:=by omega
  simp [N93,e1,e3]
  exact ai (by decide +kernel)
end Go.Gv

namespace Go.Gv
open Go.Lib
theorem mb (n b : Nat) (hb : 0 < b) : (-(n : Int)) / (b : Int)=-((if n % b=0 then n / b else n / b + 1 : Nat) : Int):=by
 have h1:=x1w n b
 have h2:=x1C n hb
 obtain ⟨q,hq⟩ : ∃ q,q=n / b:=⟨_,rfl⟩
 obtain ⟨r,hr⟩ : ∃ r,r=n % b:=⟨_,rfl⟩
 rw [<- hq,<- hr] at h1
 rw [<- hr] at h2
 rw [<- hq,<- hr]
 clear hq hr
 subst h1
 split
 ·rename_i h
  subst h
  rw [x1j,Int.natCast_mul,<- Int.mul_neg]
  exact Int.mul_ediv_cancel_left _ (by omega)
 ·rename_i h
  have e : -((b * q + r : Nat) : Int)=((b : Int) - r) + b * (-((q + 1 : Nat) : Int)):=by
   rw [Int.natCast_add,Int.natCast_mul,Int.natCast_add,Int.mul_neg,Int.mul_add]
   omega
  rw [e,Int.add_mul_ediv_left _ _ (by omega),Int.ediv_eq_zero_of_lt (by omega) (by omega)]
  omega
variable {C : CC} (hC : aD prog C)
include hC
theorem qX (a : Int) (b : Nat) (ha : a.natAbs < 170141183460469231731687303715884105728) (hb0 : 0 < b) (hb : b < 170141183460469231731687303715884105728) : C 66 [cJ a,cJ b] (cJ (a / b)) []:=by
 obtain ⟨p,hp⟩ : ∃ p,p=a.natAbs:=⟨_,rfl⟩
 obtain ⟨s,hs⟩ : ∃ s,s=decide (a < 0):=⟨_,rfl⟩
 have k1 : C 82 [cZ p,cZ b] (.tup [cZ (p / b),cZ (p % b)]) []:=zW hC p b (by omega) hb0 hb
 have hle : p / b <= p:=Nat.div_le_self p b
 obtain ⟨q,hq⟩ : ∃ q,q=p / b:=⟨_,rfl⟩
 obtain ⟨r,hr⟩ : ∃ r,r=p % b:=⟨_,rfl⟩
 have k2:=qZ hC q 1 (by omega)
 have k3:=fX hC q s
 have k4:=fX hC (q + 1) s
 have eb : cJ (b : Int)=cF b false:=bE (by omega) (by simp)
 rw [<- hq,<- hr] at k1
 rw [bE hp.symm hs.symm,eb]
 obtain ⟨p1,p2,_,_,ep⟩:=aY p
 obtain ⟨b1,b2,_,_,ebb⟩:=aY b
 obtain ⟨q1,q2,_,_,eq⟩:=aY q
 obtain ⟨r1,r2,hr1,hr2,er⟩:=aY r
 have en : ∀ (q : Nat) (b : Bool) (c1 c2 : Nat),cZ q=.agg [.int .u64 c1,.int .u64 c2] -> cF q b=.agg [.int .u64 c1,.int .u64 c2,.bool b]:=fun q b c1 c2 h=>by
  simp only [cZ,D.agg.injEq,List.cons.injEq,D.int.injEq,true_and,and_true] at h
  rw [cF,h.1,h.2]
 rw [en _ _ _ _ ep,en _ _ _ _ ebb]
 have e1 : cZ 1=.agg [.int .u64 0,.int .u64 1]:=by simp [cZ]
 rw [ep,ebb,eq,er] at k1
 by_cases c : s=true /\ r ≠ 0
 ·obtain ⟨c1,c2⟩:=c
  subst c1
  have a0:=of_decide_eq_true hs.symm
  have e : cJ (a / b)=cF (q + 1) (true && !decide (q + 1=0)):=by
   have : a / (b : Int)=-((q + 1 : Nat) : Int):=by
    rw [show a=-(p : Int) by omega,mb p b hb0,<- hr,if_neg c2,hq]
   exact bE (by omega) (by simp;omega)
  rw [e]
  obtain ⟨d1,d2,_,_,ed⟩:=aY (q + 1)
  rw [en _ _ _ _ ed] at k4 ⊢
  rw [eq,ed,e1] at k2
  rw [ed] at k4
  obtain ⟨w,hw⟩ : ∃ w,w=(true && !decide (q + 1=0)):=⟨_,rfl⟩
  rw [<- hw] at k4 ⊢
  clear hw hs
  have c3 : ¬ (r1=0 /\ r2=0):=by omega
  have c4 : (decide (r1=0) && decide (r2=0))=false:=by simpa using c3
  refine aq hC (nf:=N66) rfl rfl ?_
  simp [N66]
  refine aa k1 (.inr rfl) ?_
  simp [c4]
  refine aa k2 (.inl rfl) ?_
  simp
  refine aa k4 (.inl rfl) ?_
  simp
 ·have e : cJ (a / b)=cF q (s && !decide (q=0)):=by
   by_cases a0 : a < 0
   ·have hs' : s=true:=by rw [hs];exact decide_eq_true a0
    subst hs'
    have c2 : r=0:=by
     by_cases c2 : r=0
     ·exact c2
     ·exact absurd ⟨rfl,c2⟩ c
    have : a / (b : Int)=-(q : Int):=by
     rw [show a=-(p : Int) by omega,mb p b hb0,<- hr,if_pos c2,hq]
    exact bE (by omega) (by rw [x0v];simp;omega)
   ·have hs' : s=false:=by rw [hs];exact decide_eq_false a0
    subst hs'
    have : a / (b : Int)=(q : Int):=by
     rw [show a=(p : Int) by omega,hq];simp
    exact bE (by omega) (by simp;omega)
  rw [e]
  obtain ⟨w,hw⟩ : ∃ w,w=(s && !decide (q=0)):=⟨_,rfl⟩
  rw [<- hw] at k3 ⊢
  rw [en _ _ _ _ eq] at k3 ⊢
  rw [eq] at k3
  clear hw hs
  have c4 : s=true -> (r1=0 /\ r2=0):=fun h=>by
   have : r=0:=by
    by_cases c2 : r=0
    ·exact c2
    ·exact absurd ⟨h,c2⟩ c
   omega
  refine aq hC (nf:=N66) rfl rfl ?_
  simp [N66]
  refine aa k1 (.inr rfl) ?_
  cases s
  ·simp
   refine aa k3 (.inl rfl) ?_
   simp
  ·obtain ⟨z1,z2⟩:=c4 rfl
   simp [z1,z2]
   refine aa k3 (.inl rfl) ?_
   simp
theorem DO (a : Int) (b : Nat) (ha : a.natAbs < 170141183460469231731687303715884105728) (hb0 : 0 < b) (hb : b < 170141183460469231731687303715884105728) : C 351 [cJ a,cJ b] (cJ (-(-a / b))) []:=by
 have k1:=tp hC a
 have k2:=qX hC (-a) b (by omega) hb0 hb
 have k3:=tp hC (-a / b)
 obtain ⟨a1,a2,_,_,ea⟩:=cx a.natAbs (decide (a < 0))
 obtain ⟨b1,b2,_,_,eb⟩:=cx (b : Int).natAbs (decide ((b : Int) < 0))
 obtain ⟨c1,c2,_,_,ec⟩:=cx (-a).natAbs (decide (-a < 0))
 obtain ⟨d1,d2,_,_,ed⟩:=cx (-a / b).natAbs (decide (-a / b < 0))
 obtain ⟨x1,x2,_,_,ex⟩:=cx (-(-a / b)).natAbs (decide (-(-a / b) < 0))
 rw [cJ,cJ] at k1 k2 k3 ⊢
 rw [cJ] at k2 ⊢
 rw [ea,ec] at k1
 rw [ec,eb,ed] at k2
 rw [ed,ex] at k3
 rw [ea,eb,ex]
 obtain ⟨n1,hn1⟩ : ∃ n,n=decide (a < 0):=⟨_,rfl⟩
 obtain ⟨n2,hn2⟩ : ∃ n,n=decide ((b : Int) < 0):=⟨_,rfl⟩
 obtain ⟨n3,hn3⟩ : ∃ n,n=decide (-a < 0):=⟨_,rfl⟩
 obtain ⟨n4,hn4⟩ : ∃ n,n=decide (-a / b < 0):=⟨_,rfl⟩
 obtain ⟨n5,hn5⟩ : ∃ n,n=decide (-(-a / b) < 0):=⟨_,rfl⟩
 rw [<- hn1,<- hn3] at k1
 rw [<- hn2,<- hn3,<- hn4] at k2
 rw [<- hn4,<- hn5] at k3
 rw [<- hn1,<- hn2,<- hn5]
 clear hn1 hn2 hn3 hn4 hn5
 refine aq hC (nf:=N351) rfl rfl ?_
 simp [N351]
 refine aa k1 (.inl rfl) ?_
 simp
 refine aa k2 (.inl rfl) ?_
 simp
 refine aa k3 (.inl rfl) ?_
 simp
 exact ai (by decide +kernel)
end Go.Gv

namespace Go.Gv
open Go.Lib
theorem eG (v : Int) : ∃ h l : Int,h=v / 1152921504606846976 /\ l=v % 1152921504606846976 /\ wiS v=.agg [.int .i64 h,.int .i64 l]:=⟨_,_,rfl,rfl,rfl⟩
variable {C : CC} (hC : aD prog C)
include hC
theorem uG (v : Int) (h : -1329227995784915872903807060280344576 < v /\ v < 1329227995784915872903807060280344576) : C 105 [cJ v] (.tup [wiS v,.int .i64 0]) []:=by
 by_cases v0 : v < 0
 ·have k:=oP hC v.natAbs (by omega) (by omega)
  rw [show -((v.natAbs : Nat) : Int)=v by omega] at k
  rw [cJ,decide_eq_true v0]
  exact k
 ·have k:=nv hC v.natAbs (by omega)
  rw [<- mH,show ((v.natAbs : Nat) : Int)=v by omega] at k
  rw [cJ,decide_eq_false v0]
  exact k
set_option maxHeartbeats 2000000 in
theorem nX (v : Int) (h : -1329227995784915872903807060280344576 <= v /\ v < 1329227995784915872903807060280344576) : C 108 [wiS v] (cJ v) []:=by
 by_cases v0 : v < 0
 ·obtain ⟨ph,pl,hph,hpl,e0⟩:=eG v
  obtain ⟨n,hn⟩ : ∃ n : Nat,n=ph.natAbs:=⟨_,rfl⟩
  obtain ⟨l,hl⟩ : ∃ l : Nat,l=pl.natAbs:=⟨_,rfl⟩
  obtain ⟨p,hp⟩ : ∃ p,p=v.natAbs:=⟨_,rfl⟩
  obtain ⟨zh,zl,hzh,hzl,e1⟩:=cx p true
  have epl : pl=(l : Int):=by omega
  have eph : ph=-(n : Int):=by omega
  have k1:=rF hC n (by omega) (by omega)
  rw [bE hp.symm (decide_eq_true v0),e0,e1,epl,eph]
  have h1 : ¬ (0 : Int) <= -(n : Int):=by omega
  obtain ⟨w,hw⟩ : ∃ z,z=n % 16:=⟨_,rfl⟩
  obtain ⟨t,ht⟩ : ∃ z,z=n / 16:=⟨_,rfl⟩
  have s1 : Int.fdiv (n : Int) (2 ^ min 4 IntKind.u64.bits)=(t : Int):=by rw [MR,ht]
  have s2 : IntKind.u64.wrap ((n : Int) * 2 ^ min 60 IntKind.u64.bits)=((w * 1152921504606846976 : Nat) : Int):=BV n _ (by omega)
  have s3 : IntKind.u64.wrap (l : Int)=(l : Int):=cu l (by omega)
  have c1 : (l : Int) < 18446744073709551616:=by omega
  have c2 : ((w * 1152921504606846976 : Nat) : Int) < 18446744073709551616:=by omega
  have s4 : (((w * 1152921504606846976 : Nat) : Int) - (l : Int)) % 18446744073709551616=(zl : Int):=by omega
  have s5 : IntKind.u64.wrap ((t : Int) - (if w * 1152921504606846976 < l then 1 else 0))=(zh : Int):=by
   split <;> exact uw (by omega) (by omega)
  obtain ⟨W,hW⟩ : ∃ W,W=w * 1152921504606846976:=⟨_,rfl⟩
  rw [<- hW] at s2 s4 s5 c2
  obtain ⟨z,hz⟩ : ∃ z,z=-(n : Int):=⟨_,rfl⟩
  rw [<- hz] at k1 h1 ⊢
  have c3 : (0 : Int) <= W:=by omega
  have c4 : (0 : Int) <= l:=by omega
  refine aq hC (nf:=N108) rfl rfl ?_
  simp [N108]
  refine aa k1 (.inl rfl) ?_
  simp [h1]
  rw [s1,s2,s3]
  simp [c1,c2,s4,s5]
 ·have k:=AK hC v.natAbs (by omega)
  rw [<- mH,show ((v.natAbs : Nat) : Int)=v by omega] at k
  rw [cJ,decide_eq_false v0]
  exact k
set_option maxRecDepth 20000 in
set_option maxHeartbeats 4000000 in
theorem D7 (x y : Int) (hx : x.natAbs < 170141183460469231731687303715884105728) (hy : y.natAbs < 170141183460469231731687303715884105728) : C 107 [cJ x,cJ y] (cJ (x + y)) []:=by
 obtain ⟨p,hp⟩ : ∃ p,p=x.natAbs:=⟨_,rfl⟩
 obtain ⟨r,hr⟩ : ∃ r,r=y.natAbs:=⟨_,rfl⟩
 obtain ⟨s,hs⟩ : ∃ s,s=decide (x < 0):=⟨_,rfl⟩
 obtain ⟨t,ht⟩ : ∃ t,t=decide (y < 0):=⟨_,rfl⟩
 rw [bE hp.symm hs.symm,bE hr.symm ht.symm]
 obtain ⟨ph,pl,hph,hpl,ep⟩:=cx p s
 obtain ⟨rh,rl,hrh,hrl,er⟩:=cx r t
 rw [ep,er]
 have k0 : (0 : Int) <= pl:=by omega
 have k1 : (0 : Int) <= rl:=by omega
 have k3 : (pl : Int) < 18446744073709551616:=by omega
 have k4 : (rl : Int) < 18446744073709551616:=by omega
 by_cases c : s=t
 ·have e : cJ (x + y)=cF (p + r) (s && !decide (p + r=0)):=bE (by
   subst c
   rw [hs,decide_eq_decide] at ht
   omega) (by
   subst c
   rw [hs] at ht ⊢
   rw [decide_eq_decide] at ht
   rw [x0v]
   simp
   omega)
  obtain ⟨dh,dl,hdh,hdl,ed⟩:=cx (p + r) (s && !decide (p + r=0))
  rw [e,ed]
  have kk:=jh hC dh dl s
  rw [show (s && (!decide ((dh : Int)=0) || !decide ((dl : Int)=0)))=(s && !decide (p + r=0)) by
   congr 1;rw [x0v];simp;omega] at kk
  obtain ⟨w,hw⟩ : ∃ w,w=(s && !decide (p + r=0)):=⟨_,rfl⟩
  rw [<- hw] at kk ⊢
  subst c
  clear hs ht hw e ed
  have e1 : ((pl : Int) + rl) % 18446744073709551616=(dl : Int):=by omega
  have e2 : IntKind.u64.wrap ((ph : Int) + rh)=(ph : Int) + rh:=uw (m:=ph + rh) (by omega) (by omega)
  have e3 : IntKind.u64.wrap ((ph : Int) + rh + ((pl : Int) + rl) / 18446744073709551616)=(dh : Int):=uw (by omega) (by omega)
  obtain ⟨g,hg⟩ : ∃ g,g=((pl : Int) + rl) / 18446744073709551616:=⟨_,rfl⟩
  rw [<- hg] at e3
  refine aq hC (nf:=N107) rfl rfl ?_
  simp [N107,k0,k1,k3,k4,e1,e2,e3,<- hg]
  refine aa kk (.inl rfl) ?_
  simp
 ·have c3 : (s == t)=false:=by simpa using c
  rw [hs,ht,decide_eq_decide] at c
  by_cases l : p < r
  ·have e : cJ (x + y)=cF (r - p) (t && !decide (r - p=0)):=bE (by
    omega) (by
    rw [x0v,ht]
    simp
    omega)
   obtain ⟨dh,dl,hdh,hdl,ed⟩:=cx (r - p) (t && !decide (r - p=0))
   rw [e,ed]
   have kk:=jh hC dh dl t
   rw [show (t && (!decide ((dh : Int)=0) || !decide ((dl : Int)=0)))=(t && !decide (r - p=0)) by
    congr 1;rw [x0v];simp;omega] at kk
   obtain ⟨w,hw⟩ : ∃ w,w=(t && !decide (r - p=0)):=⟨_,rfl⟩
   rw [<- hw] at kk ⊢
   have e1 : ((rl : Int) - pl) % 18446744073709551616=(dl : Int):=by omega
   have e2 : IntKind.u64.wrap ((rh : Int) - ph)=((rh - ph : Nat) : Int):=uw (by omega) (by omega)
   have e3 : IntKind.u64.wrap (((rh - ph : Nat) : Int) - (if rl < pl then 1 else 0))=(dh : Int):=by
    split <;> exact uw (by omega) (by omega)
   have c5 : ph < rh \/ (ph=rh /\ pl < rl):=by omega
   clear hs ht hw e ed c
   refine aq hC (nf:=N107) rfl rfl ?_
   simp [N107,c3]
   rcases c5 with c5 | ⟨c5,c6⟩
   ·simp [c5,k3,k4,e1,e2]
    rw [e3]
    refine aa kk (.inl rfl) ?_
    simp
   ·have c7 : ¬ rl < pl:=by omega
    have hd : dh=0:=by omega
    have hz : IntKind.u64.wrap 0=0:=cu 0 (by omega)
    subst hd
    clear hph hpl hrh hrl hdh hdl k0 k1
    subst c5
    refine aj (fun c4=>?_) (fun c4=>?_) <;> simp at c4
    simp
    refine aj (fun c4=>?_) (fun c4=>?_) <;> simp at c4
    ·simp [c4,c7,k3,k4,e1,hz]
     refine aa kk (.inl rfl) ?_
     simp
    ·omega
  ·have e : cJ (x + y)=cF (p - r) (s && !decide (p - r=0)):=bE (by
    omega) (by
    rw [x0v,hs]
    simp
    omega)
   obtain ⟨dh,dl,hdh,hdl,ed⟩:=cx (p - r) (s && !decide (p - r=0))
   rw [e,ed]
   have kk:=jh hC dh dl s
   rw [show (s && (!decide ((dh : Int)=0) || !decide ((dl : Int)=0)))=(s && !decide (p - r=0)) by
    congr 1;rw [x0v];simp;omega] at kk
   obtain ⟨w,hw⟩ : ∃ w,w=(s && !decide (p - r=0)):=⟨_,rfl⟩
   rw [<- hw] at kk ⊢
   have e1 : ((pl : Int) - rl) % 18446744073709551616=(dl : Int):=by omega
   have e2 : IntKind.u64.wrap ((ph : Int) - rh)=((ph - rh : Nat) : Int):=uw (by omega) (by omega)
   have e3 : IntKind.u64.wrap (((ph - rh : Nat) : Int) - (if pl < rl then 1 else 0))=(dh : Int):=by
    split <;> exact uw (by omega) (by omega)
   have c5 : ¬ ph < rh:=by omega
   have c6 : ph=rh -> ¬ pl < rl:=by omega
   clear hs ht hw e ed c
   refine aq hC (nf:=N107) rfl rfl ?_
   simp [N107,c3]
   simp [c5]
   refine aj (fun c7=>?_) (fun c7=>?_) <;> simp at c7 <;> simp [c7]
   ·have c8 : ¬ pl < rl:=c6 (by omega)
    have hd : dh=0:=by omega
    have hz : IntKind.u64.wrap 0=0:=cu 0 (by omega)
    subst hd
    refine aj (fun c4=>?_) (fun c4=>?_) <;> simp at c4 <;> simp [c4]
    ·omega
    simp [c8,k3,k4,e1,hz]
    refine aa kk (.inl rfl) ?_
    simp
   ·simp [k3,k4,e1,e2]
    rw [e3]
    refine aa kk (.inl rfl) ?_
    simp
theorem B4 (x y : Int) (hx : -664613997892457936451903530140172288 <= x /\ x <= 664613997892457936451903530140172287) (hy : -664613997892457936451903530140172288 < y /\ y <= 664613997892457936451903530140172287) : C 327 [wiS x,wiS y] (.tup [wiS (x + y),.int .i64 0]) []:=by
 have k1:=lO hC x (by omega)
 have k2:=lO hC y (by omega)
 have k3:=nX hC x (by omega)
 have k4:=nX hC y (by omega)
 have k5:=D7 hC x y (by omega) (by omega)
 have k6:=uG hC (x + y) (by omega)
 obtain ⟨a1,a2,_,_,ea⟩:=eG x
 obtain ⟨b1,b2,_,_,eb⟩:=eG y
 obtain ⟨c1,c2,_,_,ec⟩:=eG (x + y)
 obtain ⟨f1,f2,f3,ef⟩ : ∃ (a1 a2 : Nat) (a3 : Bool),cJ x=.agg [.int .u64 a1,.int .u64 a2,.bool a3]:=⟨_,_,_,rfl⟩
 obtain ⟨g1,g2,g3,eg⟩ : ∃ (a1 a2 : Nat) (a3 : Bool),cJ y=.agg [.int .u64 a1,.int .u64 a2,.bool a3]:=⟨_,_,_,rfl⟩
 obtain ⟨h1,h2,h3,eh⟩ : ∃ (a1 a2 : Nat) (a3 : Bool),cJ (x + y)=.agg [.int .u64 a1,.int .u64 a2,.bool a3]:=⟨_,_,_,rfl⟩
 rw [ea] at k1 k3 ⊢
 rw [eb] at k2 k4 ⊢
 rw [ef] at k3 k5
 rw [eg] at k4 k5
 rw [eh] at k5 k6
 rw [ec] at k6 ⊢
 clear ea eb ec ef eg eh
 refine aq hC (nf:=N327) rfl rfl ?_
 simp [N327]
 refine aa k1 (.inl rfl) ?_
 simp
 refine aa k2 (.inl rfl) ?_
 simp
 refine aa k3 (.inl rfl) ?_
 simp
 refine aa k4 (.inl rfl) ?_
 simp
 refine aa k5 (.inl rfl) ?_
 simp
 refine aa k6 (.inr rfl) ?_
 simp
 exact ai (by decide +kernel)
end Go.Gv

namespace Go.Gv
def tn0 (m : Msh) (i : Nat) (p : Pnt) : Int:=da (ptS (spA m i)) (ptS (spB m i)) p
def tn1 (m : Msh) (i : Nat) (p : Pnt) : Int:=da (ptS (spB m i)) (ptS (spC m i)) p
def tn2 (m : Msh) (i : Nat) (p : Pnt) : Int:=da (ptS (spC m i)) (ptS (spA m i)) p
@[simp] theorem RP (p : Pnt) : (ptD p).length=2:=zR
@[simp] theorem Mw (p : Pnt) : List.take 2 (ptD p)=ptD p:=zR
@[simp] theorem TB (p : Pnt) : (∀ x,x ∈ ptD p -> isV x=true)=True:=by simp [ptD]
@[simp] theorem TA (p : Pnt) : (∀ x,x ∈ ptD p -> aH x=true)=True:=by simp [ptD]
variable {C : CC} (hC : aD prog C)
include hC
end Go.Gv

namespace Go.Gv
variable {C : CC} (hC : aD prog C)
include hC
end Go.Gv

namespace Go.Gv
open Go.Lib
def uz (m : Msh) (i : Nat) (p : Pnt) : Int:=(spA m i).z * tn1 m i p + (spB m i).z * tn2 m i p + (spC m i).z * tn0 m i p
def qv (m : Msh) (i : Nat) : Int:=da (ptS (spA m i)) (ptS (spB m i)) (ptS (spC m i))
theorem D8 (m : Msh) (i : Nat) (p : Pnt) : tn0 m i p + tn1 m i p + tn2 m i p=qv m i:=by
 unfold tn0 tn1 tn2 qv da ptS
 grind
structure OnF (m : Msh) (i : Nat) (p : Pnt) : Prop where
 z0 : -4194304 <= (spA m i).z /\ (spA m i).z <= 4194304
 z1 : -4194304 <= (spB m i).z /\ (spB m i).z <= 4194304
 z2 : -4194304 <= (spC m i).z /\ (spC m i).z <= 4194304
 t0 : 0 <= tn0 m i p /\ tn0 m i p <= 2251799813685248
 t1 : 0 <= tn1 m i p /\ tn1 m i p <= 2251799813685248
 t2 : 0 <= tn2 m i p /\ tn2 m i p <= 2251799813685248
 d : 0 < qv m i /\ qv m i <= 2251799813685248
theorem pz {z t : Int} (hz : -4194304 <= z /\ z <= 4194304) (ht : 0 <= t) : -(4194304 * t) <= z * t /\ z * t <= 4194304 * t:=by
 have h1:=x1n (show 0 <= 4194304 - z by omega) ht
 have h2:=x1n (show 0 <= 4194304 + z by omega) ht
 rw [Int.sub_mul] at h1
 rw [Int.add_mul] at h2
 omega
theorem OnF.num {m : Msh} {i : Nat} {p : Pnt} (h : OnF m i p) : -(4194304 * qv m i) <= uz m i p /\ uz m i p <= 4194304 * qv m i:=by
 have e:=D8 m i p
 have h1:=pz h.z0 h.t1.1
 have h2:=pz h.z1 h.t2.1
 have h3:=pz h.z2 h.t0.1
 unfold uz
 rw [<- e]
 omega
theorem vJ {n d k : Int} (hd : 0 < d) (h : -(k * d) <= n /\ n <= k * d) : -k <= n / d /\ n / d <= k:=by
 constructor
 ·exact (Int.le_ediv_iff_mul_le hd).2 (by rw [Int.neg_mul];exact h.1)
 ·exact Int.le_of_lt_add_one ((Int.ediv_lt_iff_lt_mul hd).2 (by rw [Int.add_mul];omega))
def loF (m : Msh) (i : Nat) (p : Pnt) : Int:=uz m i p / qv m i
def hiF (m : Msh) (i : Nat) (p : Pnt) : Int:=-(-uz m i p / qv m i)
theorem OnF.lo {m : Msh} {i : Nat} {p : Pnt} (h : OnF m i p) : -4194304 <= loF m i p /\ loF m i p <= 4194304:=vJ h.d.1 h.num
theorem OnF.hi {m : Msh} {i : Nat} {p : Pnt} (h : OnF m i p) : -4194304 <= hiF m i p /\ hiF m i p <= 4194304:=by
 have:=vJ (n:=-uz m i p) (k:=4194304) h.d.1 (by have:=h.num;omega)
 unfold hiF
 omega
variable {C : CC} (hC : aD prog C)
include hC
end Go.Gv

namespace Go.Gv
theorem tj {x y : Int} (hx : -33554432 <= x /\ x <= 33554432) (hy : -33554432 <= y /\ y <= 33554432) : -1125899906842624 <= x * y /\ x * y <= 1125899906842624:=by
 have h1 : 0 <= (33554432 - x) * (33554432 - y):=x1n (by omega) (by omega)
 have h2 : 0 <= (33554432 + x) * (33554432 + y):=x1n (by omega) (by omega)
 have h3 : 0 <= (33554432 - x) * (33554432 + y):=x1n (by omega) (by omega)
 have h4 : 0 <= (33554432 + x) * (33554432 - y):=x1n (by omega) (by omega)
 rw [Int.sub_mul,Int.mul_sub,Int.mul_sub] at h1
 rw [Int.add_mul,Int.mul_add,Int.mul_add] at h2
 rw [Int.sub_mul,Int.mul_add,Int.mul_add] at h3
 rw [Int.add_mul,Int.mul_sub,Int.mul_sub] at h4
 omega
variable {C : CC} (hC : aD prog C)
include hC
set_option maxRecDepth 20000 in
set_option maxHeartbeats 2000000 in
theorem xV (m : Msh) (hv : au m=true) (i : Nat) (hi : i < m.f.length) : C 846 [.agg (a6 m),.int .i64 i] (.int .i64 (twF m i)) []:=by
 obtain ⟨⟨a1,a2⟩,⟨b1,b2⟩,⟨c1,c2⟩⟩:=jQ (f5 hv hi)
 obtain ⟨h1,h2,h3⟩:=tE hv hi
 have h1:=cy h1
 have h2:=cy h2
 have h3:=cy h3
 have htw:=tI hv hi
 refine aq hC (nf:=N846) rfl rfl ?_
 have e0 : twF m i=((spB m i).x - (spA m i).x) * ((spC m i).y - (spA m i).y) - ((spB m i).y - (spA m i).y) * ((spC m i).x - (spA m i).x):=rfl
 simp [N846,ab,hi,a1,a2,b1,b2,c1,c2,aI,bZ,sN,sO,sP]
 refine ⟨ai (by decide +kernel),?_⟩
 have b1 : -33554432 <= (spB m i).x - (spA m i).x /\ (spB m i).x - (spA m i).x <= 33554432:=by omega
 have b2 : -33554432 <= (spC m i).y - (spA m i).y /\ (spC m i).y - (spA m i).y <= 33554432:=by omega
 have b3 : -33554432 <= (spB m i).y - (spA m i).y /\ (spB m i).y - (spA m i).y <= 33554432:=by omega
 have b4 : -33554432 <= (spC m i).x - (spA m i).x /\ (spC m i).x - (spA m i).x <= 33554432:=by omega
 generalize (spB m i).x - (spA m i).x=x1 at *
 generalize (spC m i).y - (spA m i).y=x2 at *
 generalize (spB m i).y - (spA m i).y=x3 at *
 generalize (spC m i).x - (spA m i).x=x4 at *
 have p1 : -1125899906842624 <= x1 * x2 /\ x1 * x2 <= 1125899906842624:=tj b1 b2
 have p2 : -1125899906842624 <= x3 * x4 /\ x3 * x4 <= 1125899906842624:=tj b3 b4
 rw [af (m:=x1) rfl (by omega),af (m:=x2) rfl (by omega),af (m:=x3) rfl (by omega),af (m:=x4) rfl (by omega),af (m:=x1 * x2) rfl (by omega),af (m:=x3 * x4) rfl (by omega)]
 exact af e0.symm (by omega)
theorem x5 (n : Nat) (h : n < 18446744073709551616) : C 110 [.int .u64 n,.bool false] (if n < 9223372036854775808 then .tup [.int .i64 n,.int .i64 0] else .tup [.int .i64 0,.int .i64 5]) []:=by
 by_cases h0 : n < 9223372036854775808
 ·rw [if_pos h0]
  exact AL hC n h0
 ·rw [if_neg h0]
  refine aq hC (nf:=N110) rfl rfl ?_
  have h1 : ¬ (n : Int) <= 9223372036854775807:=by omega
  simp [N110,h1]
theorem q9 (p : Nat) (up : Bool) (hp : p < 340282366920938463463374607431768211456) : C 104 [cF p false,.int .i64 6000,.bool up] (if (if up then (p + 5999) / 6000 else p / 6000) < 9223372036854775808 then .tup [.int .i64 ((if up then (p + 5999) / 6000 else p / 6000 : Nat) : Int),.int .i64 0] else .tup [.int .i64 0,.int .i64 5]) []:=by
 obtain ⟨ph,hph⟩ : ∃ z,z=p / 18446744073709551616:=⟨_,rfl⟩
 obtain ⟨pl,hpl⟩ : ∃ z,z=p % 18446744073709551616:=⟨_,rfl⟩
 have hpp : ph * 18446744073709551616 + pl=p:=by omega
 obtain ⟨q0,hq0⟩ : ∃ z,z=p / 6000:=⟨_,rfl⟩
 obtain ⟨r0,hr0⟩ : ∃ z,z=p % 6000:=⟨_,rfl⟩
 obtain ⟨q,hq⟩ : ∃ z,z=(if up then (p + 5999) / 6000 else p / 6000):=⟨_,rfl⟩
 have hs:=kY hC 6000 (by omega)
 rw [<- hq,cF,<- hph,<- hpl]
 by_cases hbig : 6000 <= ph
 ·rw [if_neg (by rw [hq];split <;> omega)]
  have h1 : (6000 : Int) <= (ph : Int):=by omega
  refine aq hC (nf:=N104) rfl rfl ?_
  simp [N104]
  refine aa hs (.inl rfl) ?_
  simp [h1]
 ·have hdiv:=yr hC ph pl 6000 (by omega) (by omega) (by omega)
  rw [hpp,<- hq0,<- hr0] at hdiv
  have h1 : ¬ (6000 : Int) <= (ph : Int):=by omega
  refine aq hC (nf:=N104) rfl rfl ?_
  simp [N104]
  refine aa hs (.inl rfl) ?_
  simp [h1]
  refine aa hdiv (.inl rfl) ?_
  have kw:=fun n h=>x5 hC n h
  simp
  cases up
  ·have e : q=q0:=by rw [hq,hq0];rfl
   rw [e]
   have k0:=kw q0 (by omega)
   refine aj (fun h=>?_) (fun h=>?_) <;> simp at h <;> simp [h]
   ·refine aa k0 (.inl (by split <;> rfl)) ?_
    split <;> simp <;> omega
   ·refine aa k0 (.inl (by split <;> rfl)) ?_
    split <;> simp <;> omega
  ·refine aj (fun h=>?_) (fun h=>?_) <;> simp at h
   ·have hi : (0 : Int) < r0:=by omega
    have e : q=q0 + 1:=by rw [hq];simp only [if_true];omega
    by_cases h9 : q0 + 1 < 18446744073709551616
    ·have h3 : IntKind.u64.wrap ((q0 : Int) + 1)=((q0 + 1 : Nat) : Int):=uw (by omega) (by omega)
     have h4 : ¬ ((q0 : Int) + 1=0):=by omega
     have k1:=kw (q0 + 1) h9
     rw [e]
     simp [h,h3,h4]
     simp at k1
     refine aa k1 (.inl (by split <;> rfl)) ?_
     split <;> simp <;> omega
    ·have h3 : IntKind.u64.wrap ((q0 : Int) + 1)=0:=by
      have e9 : q0=18446744073709551615:=by omega
      rw [e9];decide
     rw [if_neg (by omega)]
     simp [h,h3]
   ·have e : q=q0:=by rw [hq];simp only [if_true];omega
    have k0:=kw q0 (by omega)
    rw [e]
    simp [h]
    refine aa k0 (.inl (by split <;> rfl)) ?_
    split <;> simp <;> omega
theorem vI (p : Nat) (up : Bool) (hp : p < 1329227995784915872903807060280344576) : C 301 [wiS p,.int .i64 6000,.bool up] (if (if up then (p + 5999) / 6000 else p / 6000) < 9223372036854775808 then .tup [.int .i64 ((if up then (p + 5999) / 6000 else p / 6000 : Nat) : Int),.int .i64 0] else .tup [.int .i64 0,.int .i64 5]) []:=by
 have k1:=lO hC (p : Int) (by omega)
 have k2:=nX hC (p : Int) (by omega)
 have k3:=q9 hC p up (by omega)
 rw [bE (p:=p) (b:=false) (by omega) (by simp)] at k2
 obtain ⟨Q,hQ⟩ : ∃ Q,Q=(if up then (p + 5999) / 6000 else p / 6000):=⟨_,rfl⟩
 rw [<- hQ] at k3 ⊢
 obtain ⟨a1,a2,_,_,ea⟩:=eG (p : Int)
 obtain ⟨f1,f2,_,_,ef⟩:=cx p false
 rw [ea] at k1 k2 ⊢
 rw [ef] at k2 k3
 refine aq hC (nf:=N301) rfl rfl ?_
 simp [N301]
 refine aa k1 (.inl rfl) ?_
 simp
 refine aa k2 (.inl rfl) ?_
 simp
 refine aa k3 (.inr (by rfl)) ?_
 split <;> simp <;> omega
theorem vb (p : Nat) (hp : p < 1329227995784915872903807060280344576) : C 271 [wiS p,.int .i64 6000] (if p / 6000 < 9223372036854775808 then .tup [.int .i64 (p / 6000 : Nat),.int .i64 0] else .tup [.int .i64 0,.int .i64 5]) []:=by
 have k:=vI hC p false hp
 simp only [x0h,if_false] at k
 obtain ⟨Q,hQ⟩ : ∃ Q,Q=p / 6000:=⟨_,rfl⟩
 rw [<- hQ] at k ⊢
 obtain ⟨a1,a2,_,_,ea⟩:=eG (p : Int)
 rw [ea] at k ⊢
 refine aq hC (nf:=N271) rfl rfl ?_
 simp [N271]
 refine aa k (.inl (by split <;> rfl)) ?_
 split <;> simp <;> omega
theorem yn (p : Nat) (hp : p < 1329227995784915872903807060280344576) : C 272 [wiS p,.int .i64 6000] (if (p + 5999) / 6000 < 9223372036854775808 then .tup [.int .i64 ((p + 5999) / 6000 : Nat),.int .i64 0] else .tup [.int .i64 0,.int .i64 5]) []:=by
 have k:=vI hC p true hp
 simp only [if_true] at k
 obtain ⟨Q,hQ⟩ : ∃ Q,Q=(p + 5999) / 6000:=⟨_,rfl⟩
 rw [<- hQ] at k ⊢
 obtain ⟨a1,a2,_,_,ea⟩:=eG (p : Int)
 rw [ea] at k ⊢
 refine aq hC (nf:=N272) rfl rfl ?_
 simp [N272]
 refine aa k (.inl (by split <;> rfl)) ?_
 split <;> simp <;> omega
end Go.Gv

namespace Go.Gv
section
variable {C : Nat -> List D -> D -> List D -> Prop} (hC : aD prog C)
include hC
end
end Go.Gv

namespace Go.Gv
section
variable {C : Nat -> List D -> D -> List D -> Prop} (hC : aD prog C)
include hC
theorem um (m : Msh) : C 242 [.agg (a6 m)] (.bool (decide (60 < m.s.length) || decide (80 < m.f.length))) []:=by
 refine aq hC (nf:=N242) rfl rfl ?_
 simp [N242,ab]
 refine aj (fun g1=>?_) (fun g1=>?_) <;> simp at g1
 ·simp [show (60 : Int) < m.s.length by omega]
  exact .inl (by omega)
 ·simp [show ¬ (60 : Int) < m.s.length by omega]
  rw [decide_eq_false (show ¬ 60 < m.s.length by omega),Bool.false_or]
  by_cases h : 80 < m.f.length
  ·rw [decide_eq_true h,decide_eq_true (by omega)]
  ·rw [decide_eq_false h,decide_eq_false (by omega)]
end
end Go.Gv

namespace Go.Gv
theorem fa {m : Msh} {i : Nat} (h : i < m.f.length) : (inR (aU m).sp)[i]? = some [.int .i64 (spF m i)]:=bx (by rw [(jp m).sp];exact h)
theorem eA {m : Msh} {i : Nat} (h : i < m.f.length) : (inR (aS m))[i]? = some [.int .i64 (suF m i)]:=bx (by simpa using h)
section
variable {C : Nat -> List D -> D -> List D -> Prop} (hC : aD prog C)
include hC
end
end Go.Gv

namespace Go.Gv
def kW (m : Msh) (i : Nat) : Nat:=((spF m i - suF m i) * twF m i).toNat
def cH (m : Msh) (l : List Nat) : Nat:=(l.map (kW m)).sum
def qb (m : Msh) (l : List Nat) : D:=if (cH m l + 5999) / 6000 <= 1125899906842624 then .tup [.agg [.int .i64 (cH m l / 6000 : Nat),.int .i64 ((cH m l + 5999) / 6000 : Nat)],.int .i64 0] else .tup [.agg [.int .i64 0,.int .i64 0],.int .i64 5]
theorem nR {m : Msh} (hv : au m=true) : ∀ {a : Nat},a < m.f.length -> -12582912 <= spF m a /\ spF m a <= 12582912:=by
 have key : ∀ (d a : Nat),a < m.f.length -> jW m.f.length (aU m).ou (b8 m).rc d a -> -12582912 <= spF m a /\ spF m a <= 12582912:=by
  intro d
  induction d with
  | zero =>
   intro a ha he
   have e : ouF m a=-1:=he
   have hb : bsd m a (-1)=true:=by
    cases h : bsd m a (-1)
    ·obtain ⟨z,_,h2,_⟩:=lK hv ha h
     omega
    ·rfl
   have h1:=(lJ hv ha hb).1
   have h2:=fE hv ha
   have h3 : suF m a=dx m a:=by simp [suF,aS,ha]
   omega
  | succ d ih =>
   intro a ha ⟨b,hb,e1,_,e3⟩
   have h4:=ih b hb e3
   have h2:=fE hv ha
   have h3 : suF m a=dx m a:=by simp [suF,aS,ha]
   have e : ouF m a=b:=e1
   cases h : bsd m a (-1)
   ·obtain ⟨z,_,h5,_,h6⟩:=lK hv ha h
    have : z=b:=by omega
    subst this
    omega
   ·have:=(lJ hv ha h).2
    omega
 intro a ha
 obtain ⟨d,_,he⟩:=mQ hv ha
 exact key d a ha he
theorem d7 {m : Msh} {a : Nat} (ha : a < m.f.length) : suF m a=dx m a:=by simp [suF,aS,ha]
theorem qa {m : Msh} (hv : au m=true) {i : Nat} (hi : i < m.f.length) : (kW m i : Int)=(spF m i - suF m i) * twF m i /\ kW m i < 75557863725914323419136:=by
 have h1:=nR hv hi
 have h2:=fE hv hi
 have h3:=tI hv hi
 have h4:=tF hv hi
 rw [d7 hi] at h4
 obtain ⟨x,hx⟩ : ∃ x : Nat,spF m i - suF m i=x:=⟨(spF m i - suF m i).toNat,by rw [d7 hi];omega⟩
 obtain ⟨y,hy⟩ : ∃ y : Nat,twF m i=y:=⟨(twF m i).toNat,by omega⟩
 have hx2 : x <= 25165824:=by rw [d7 hi] at hx;omega
 have hy2 : y <= 2251799813685248:=by omega
 unfold kW
 rw [hx,hy]
 have e : ((x : Int) * (y : Int)).toNat=x * y:=by rw [<- Int.natCast_mul];exact x0L _
 rw [e]
 exact ⟨by simp,Nat.lt_of_le_of_lt (Nat.mul_le_mul hx2 hy2) (by decide)⟩
theorem o4 (m : Msh) (l : List Nat) {k : Nat} (h : k < l.length) : cH m (l.take (k + 1))=cH m (l.take k) + kW m l[k]:=by
 unfold cH
 rw [x1f h,List.map_append,List.sum_append]
 simp
theorem kX {m : Msh} (hv : au m=true) : ∀ (l : List Nat),(∀ i ∈ l,i < m.f.length) -> cH m l <= l.length * 75557863725914323419136
 | [],_=>by simp [cH]
 | i::l,h=>by
  have h1:=kX hv l fun j hj=>h j (List.mem_cons_of_mem _ hj)
  have h2:=(qa hv (h i (List.mem_cons_self ..))).2
  have e : cH m (i::l)=kW m i + cH m l:=by simp [cH]
  rw [e,x0Z,x0z]
  omega
theorem mA {m : Msh} {l : List Nat} (h : l ∈ bU m) : (∀ i ∈ l,i < m.f.length) /\ l.length <= m.f.length:=by
 unfold bU dt at h
 obtain ⟨s,_,rfl⟩:=x0s.1 h
 refine ⟨fun i hi=>by simpa using (List.mem_filter.1 hi).1,?_⟩
 have:=x1H (inP m s) (List.range m.f.length)
 simpa using this
def zSp : D:=.agg [.int .i64 0,.int .i64 0]
variable {C : CC} (hC : aD prog C)
include hC
set_option maxHeartbeats 2000000 in
set_option maxRecDepth 8000 in
theorem vt (dec : Nat -> List UInt8) (hI : ∀ n : Nat,n < 100 -> C 127 [.int .i64 n] (.str (dec n)) []) (m : Msh) (hz : cG m=true -> m.s.length <= 100 /\ m.f.length <= 100) (p : Int) :
  C 842 [.agg (a6 m),.int .i64 p] (if au m then (if 0 <= p /\ p < (bU m).length then qb m ((bU m)[p.toNat]?.getD []) else .tup [zSp,.int .i64 2]) else .tup [zSp,.int .i64 1]) []:=by
 have k:=fJ hC dec hI m hz
 simp only [ab] at k
 cases hv : au m
 ·simp only [hv,x0h,if_false] at k ⊢
  refine aq hC (nf:=N842) rfl rfl ?_
  simp [N842,ab,zSp]
  refine aa k (.inr rfl) ?_
  simp
 ·have kp:=wZ hC m hv
  simp only [hv,if_true] at k ⊢
  have e0 : dY m=.ptr [.sl (nbA m),slx true (inR (aS m)),.sl (inR (aU m).sp),.sl (inR (aU m).ou)]:=rfl
  rw [e0] at k kp
  have hpl : (fg (bU m)).length=(bU m).length:=by simp [fg]
  by_cases hp : 0 <= p /\ p < (bU m).length
  ·rw [if_pos hp]
   obtain ⟨q,rfl⟩ : ∃ q : Nat,p=q:=⟨p.toNat,by omega⟩
   have hq : q < (bU m).length:=by omega
   obtain ⟨l,hl⟩ : ∃ l,(bU m)[q]? = some l:=⟨_,x0d hq⟩
   have hlr : (fg (bU m))[q]? = some [.sl (nfR l)]:=by unfold fg;rw [x0x,hl];rfl
   obtain ⟨hli,hll⟩:=mA (x0c hl)
   have hbd:=kX hv l hli
   simp only [x0L,hl,x1p]
   refine aq hC (nf:=N842) rfl rfl ?_
   simp [N842,ab]
   refine aa k (.inr rfl) ?_
   simp
   refine aa kp (.inr rfl) ?_
   simp [hpl,show ¬ (q : Int) < 0 by omega,show ¬ (bU m).length <= q by omega,ap hlr]
   have hsz:=(cQ hv).2
   refine av Nat (fun k=>[(2,.ptr [slx m.sn (List.map fY m.s),slx m.fn (List.map br m.f)]),(4,.adr (.r 10064) 0 0),(6,.ptr [.sl (nbA m),slx true (inR (aS m)),.sl (inR (aU m).sp),.sl (inR (aU m).ou)]),(9,.adr (.r 10144) 0 0),(40,.sl (nfR l)),(41,.int .i64 l.length),(42,.int .i64 k),(10064,.blk 2 [[.int .i64 0,.int .i64 0]]),(10144,.blk 2 [[.int .i64 ((cH m (l.take k) : Int) / 1152921504606846976),.int .i64 ((cH m (l.take k) : Int) % 1152921504606846976)]])])
    (fun k=>k <= l.length) (fun k=>l.length - k) 0 (by simp) (by simp [cH]) ?_
   rintro k hk
   have hw : IntKind.wrap .i64 ((k : Int) + 1)=((k + 1 : Nat) : Int):=af (by omega) (by omega)
   have hb1:=kX hv (l.take k) fun i hi=>hli i (x0F hi)
   rw [List.length_take_of_le hk] at hb1
   simp
   refine aj (fun g1=>?_) (fun g1=>?_) <;> simp at g1
   ·obtain ⟨i,hi⟩ : ∃ i,i=l[k]:=⟨_,rfl⟩
    have hin : i < m.f.length:=by rw [hi];exact hli _ (x0u _)
    have hnk : (nfR l)[k]? = some [.int .i64 (i : Nat)]:=by rw [fy g1,hi]
    have kt:=xV hC m hv i hin
    have htw:=tI hv hin
    have s1:=nR hv hin
    have s2:=fE hv hin
    have s3:=tF hv hin
    rw [<- d7 hin] at s2
    obtain ⟨y,hy⟩ : ∃ y : Nat,twF m i=y:=⟨(twF m i).toNat,by omega⟩
    obtain ⟨v1,v2⟩:=qa hv hin
    have hvt:=o4 m l g1
    rw [<- hi] at hvt
    rw [hy] at kt htw v1
    obtain ⟨x,hx⟩ : ∃ x,x=spF m i - suF m i:=⟨_,rfl⟩
    rw [<- hx] at v1
    have w1 : IntKind.wrap .i64 (spF m i - suF m i)=x:=af hx.symm (by omega)
    have hna : x.natAbs * y=kW m i:=by
     have : (x.natAbs : Int)=x:=by omega
     have h9 : ((x.natAbs * y : Nat) : Int)=(kW m i : Int):=by rw [v1,Int.natCast_mul,this]
     exact Int.ofNat.inj h9
    have kp2:=rH hC x y (by omega) (by omega) (by rw [hna];omega)
    rw [<- v1] at kp2
    have ka:=B4 hC (cH m (l.take k) : Nat) (kW m i : Nat) (by omega) (by omega)
    rw [<- Int.natCast_add,<- hvt] at ka
    simp only [wiS] at kp2 ka
    simp only [ab] at kt
    obtain ⟨a1,ha1⟩ : ∃ a,a=((cH m (l.take k) : Nat) : Int) / 1152921504606846976:=⟨_,rfl⟩
    obtain ⟨a2,ha2⟩ : ∃ a,a=((cH m (l.take k) : Nat) : Int) % 1152921504606846976:=⟨_,rfl⟩
    obtain ⟨b1,hbb1⟩ : ∃ a,a=((kW m i : Nat) : Int) / 1152921504606846976:=⟨_,rfl⟩
    obtain ⟨b2,hbb2⟩ : ∃ a,a=((kW m i : Nat) : Int) % 1152921504606846976:=⟨_,rfl⟩
    obtain ⟨c1,hc1⟩ : ∃ a,a=((cH m (l.take (k + 1)) : Nat) : Int) / 1152921504606846976:=⟨_,rfl⟩
    obtain ⟨c2,hc2⟩ : ∃ a,a=((cH m (l.take (k + 1)) : Nat) : Int) % 1152921504606846976:=⟨_,rfl⟩
    rw [<- ha1,<- ha2,<- hbb1,<- hbb2,<- hc1,<- hc2] at ka
    rw [<- hbb1,<- hbb2] at kp2
    rw [<- ha1,<- ha2]
    simp [g1,ap hnk]
    simp [ap (fa hin),ap (eA hin),w1]
    refine aa kt (.inl rfl) ?_
    simp
    refine aa kp2 (.inl rfl) ?_
    simp
    refine ⟨ai (by decide +kernel),?_⟩
    refine aa ka (.inl rfl) ?_
    simp
    exact ⟨k + 1,by omega,by omega,hw,hc1,hc2⟩
   ·have e : k=l.length:=by omega
    subst e
    have hq1:=vb hC (cH m l) (by omega)
    have hq2:=yn hC (cH m l) (by omega)
    simp only [wiS] at hq1 hq2
    obtain ⟨A,hA⟩ : ∃ A,A=cH m l / 6000:=⟨_,rfl⟩
    obtain ⟨B,hB⟩ : ∃ B,B=(cH m l + 5999) / 6000:=⟨_,rfl⟩
    have hAB : A <= B /\ B <= A + 1:=by omega
    have e3 : qb m l=if B <= 1125899906842624 then .tup [.agg [.int .i64 (A : Nat),.int .i64 (B : Nat)],.int .i64 0] else .tup [.agg [.int .i64 0,.int .i64 0],.int .i64 5]:=by unfold qb;rw [<- hA,<- hB]
    rw [e3]
    rw [<- hA] at hq1
    rw [<- hB] at hq2
    obtain ⟨a1,ha1⟩ : ∃ a,a=((cH m l : Nat) : Int) / 1152921504606846976:=⟨_,rfl⟩
    obtain ⟨a2,ha2⟩ : ∃ a,a=((cH m l : Nat) : Int) % 1152921504606846976:=⟨_,rfl⟩
    rw [<- ha1,<- ha2] at hq1 hq2
    rw [List.take_length,<- ha1,<- ha2]
    simp
    refine aa hq1 (.inl (by split <;> rfl)) ?_
    by_cases c1 : A < 9223372036854775808
    ·by_cases c2 : B < 9223372036854775808
     ·by_cases c3 : B <= 1125899906842624
      ·rw [if_pos c1]
       simp
       refine aa hq2 (.inl (by split <;> rfl)) ?_
       rw [if_pos c2,if_pos c3]
       simp [show ¬ (1125899906842624 : Int) < B by omega]
      ·rw [if_pos c1]
       simp
       refine aa hq2 (.inl (by split <;> rfl)) ?_
       rw [if_pos c2,if_neg c3]
       simp [show (1125899906842624 : Int) < B by omega]
     ·rw [if_pos c1]
      simp
      refine aa hq2 (.inl (by split <;> rfl)) ?_
      rw [if_neg c2,if_neg (by omega)]
      simp
    ·rw [if_neg c1]
     simp
     refine aa hq2 (.inl (by split <;> rfl)) ?_
     rw [if_neg (by omega),if_neg (by omega)]
     simp
  ·rw [if_neg hp]
   refine aq hC (nf:=N842) rfl rfl ?_
   simp [N842,ab,zSp]
   refine aa k (.inr rfl) ?_
   simp
   refine aa kp (.inr rfl) ?_
   by_cases h0 : p < 0
   ·simp [hpl,h0]
   ·simp [hpl,h0,show ((bU m).length : Int) <= p by omega]
theorem yq (dec : Nat -> List UInt8) (hI : ∀ n : Nat,n < 100 -> C 127 [.int .i64 n] (.str (dec n)) []) (m : Msh) (hz : cG m=true -> m.s.length <= 100 /\ m.f.length <= 100) (p : Int) :
  C 844 [.agg (a6 m),.int .i64 p] (if au m then (if 0 <= p /\ p < m.f.length then .tup [.int .i64 (spF m p.toNat - suF m p.toNat),.int .i64 0] else .tup [.int .i64 0,.int .i64 2]) else .tup [.int .i64 0,.int .i64 1]) []:=by
 have k:=fJ hC dec hI m hz
 simp only [ab] at k
 refine aq hC (nf:=N844) rfl rfl ?_
 simp [N844,ab]
 refine aa k (.inr rfl) ?_
 cases hv : au m
 ·simp
 ·simp [dY]
  by_cases h0 : p < 0
  ·simp [h0,show ¬ (0 <= p) by omega]
  ·by_cases h1 : p < m.f.length
   ·obtain ⟨i,rfl⟩ : ∃ i : Nat,p=i:=⟨p.toNat,by omega⟩
    have hin : i < m.f.length:=by omega
    have s1:=nR hv hin
    have s2:=fE hv hin
    rw [<- d7 hin] at s2
    have w1 : IntKind.wrap .i64 (spF m i - suF m i)=spF m i - suF m i:=af rfl (by omega)
    simp [show ¬ (i : Int) < 0 by omega,hin,show ¬ m.f.length <= i by omega,ap (fa hin),ap (eA hin),w1]
    exact ai (by decide +kernel)
   ·simp [h0,h1,show (m.f.length : Int) <= p by omega]
end Go.Gv

namespace Go.Gv
def hR (m : Msh) (h : Int) (i k : Nat) : Prop:=i < m.f.length /\ k < m.f.length /\ suF m i <= h /\ suF m k <= h /\ ∃ c,c < 3 /\ nbF m i c=k
def Way (m : Msh) (h : Int) (a b : Nat) : Prop:=suF m a <= h /\ suF m b <= h /\ Cn (hR m h) a b
theorem y4 {m : Msh} (hv : au m=true) {h : Int} : ∀ a b,hR m h a b -> hR m h b a:=by
 rintro a b ⟨h1,h2,h3,h4,c,hc,e⟩
 obtain ⟨c',hc',e2⟩:=iX hv h1 hc (by omega)
 rw [e] at e2
 exact ⟨h2,h1,h4,h3,c',hc',by simpa using e2⟩
theorem Way.symm {m : Msh} (hv : au m=true) {h : Int} {a b : Nat} (w : Way m h a b) : Way m h b a:=⟨w.2.1,w.1,w.2.2.symm (y4 hv)⟩
theorem y3 {m : Msh} {h k : Int} (hk : h <= k) : ∀ a b,hR m h a b -> hR m k a b:=by
 rintro a b ⟨h1,h2,h3,h4,h5⟩
 exact ⟨h1,h2,by omega,by omega,h5⟩
theorem Way.mono {m : Msh} {h k : Int} {a b : Nat} (hk : h <= k) (w : Way m h a b) : Way m k a b:=⟨by have:=w.1;omega,by have:=w.2.1;omega,w.2.2.mono (y3 hk)⟩
theorem Way.trans {m : Msh} {h k : Int} {a b c : Nat} (w : Way m h a b) (v : Way m k b c) : Way m (max h k) a c :=
 ⟨by have:=w.1;omega,by have:=v.2.1;omega,(w.mono (k:=max h k) (by omega)).2.2.trans (v.mono (k:=max h k) (by omega)).2.2⟩
def Lst (m : Msh) (a b : Nat) (v : Int) : Prop:=Way m v a b /\ ∀ h,Way m h a b -> v <= h
theorem Lst.uniq {m : Msh} {a b : Nat} {u v : Int} (h : Lst m a b u) (g : Lst m a b v) : u=v:=Int.le_antisymm (h.2 _ g.1) (g.2 _ h.1)
open Classical in
noncomputable def dw (m : Msh) (a b : Nat) : Option Int:=if h : ∃ v,Lst m a b v then some (Classical.choose h) else none
theorem mi {m : Msh} {a b : Nat} {v : Int} (h : Lst m a b v) : dw m a b=some v:=by
 have hex : ∃ v,Lst m a b v:=⟨v,h⟩
 unfold dw
 rw [dif_pos hex]
 exact congrArg some ((Classical.choose_spec hex).uniq h)
theorem mh {m : Msh} {a b : Nat} (h : ∀ v,¬ Way m v a b) : dw m a b=none:=by
 unfold dw
 rw [dif_neg]
 rintro ⟨v,hv⟩
 exact h v hv.1
theorem Lst.symm {m : Msh} (hv : au m=true) {a b : Nat} {v : Int} (h : Lst m a b v) : Lst m b a v:=⟨h.1.symm hv,fun k w=>h.2 k (w.symm hv)⟩
def mR (m : Msh) (S : List Nat) (i k : Nat) : Prop:=i < m.f.length /\ k < m.f.length /\ i ∈ S /\ k ∈ S /\ ∃ c,c < 3 /\ nbF m i c=k
theorem th {m : Msh} (hv : au m=true) {S : List Nat} : ∀ a b,mR m S a b -> mR m S b a:=by
 rintro a b ⟨h1,h2,h3,h4,c,hc,e⟩
 obtain ⟨c',hc',e2⟩:=iX hv h1 hc (by omega)
 rw [e] at e2
 exact ⟨h2,h1,h4,h3,c',hc',by simpa using e2⟩
structure jB (m : Msh) (P : List Nat) : Prop where
 perm : P.Perm (List.range m.f.length)
 srt : P.Pairwise fun a b=>dx m a <= dx m b
theorem jB.len {m : Msh} {P : List Nat} (h : jB m P) : P.length=m.f.length:=by
 have:=h.perm.length_eq
 simpa using this
theorem jB.lt {m : Msh} {P : List Nat} (h : jB m P) {p : Nat} (hp : p < P.length) : P[p] < m.f.length:=by
 have:=h.perm.mem_iff.1 (x0u hp)
 simpa using this
theorem jB.mem {m : Msh} {P : List Nat} (h : jB m P) {x : Nat} (hx : x < m.f.length) : x ∈ P:=h.perm.mem_iff.2 (x0D.2 hx)
theorem jB.before {m : Msh} {P : List Nat} (h : jB m P) {p x : Nat} (hp : p < P.length) (hx : x < m.f.length) (hlt : suF m x < suF m P[p]) : x ∈ P.take p:=by
 obtain ⟨q,hq,e⟩:=List.getElem_of_mem (h.mem hx)
 have hpn:=h.lt hp
 rw [d7 hx,d7 hpn] at hlt
 by_cases hqp : q < p
 ·have hql : q < (P.take p).length:=by rw [x04];omega
  have e3 : (P.take p)[q]=x:=by rw [List.getElem_take];exact e
  rw [<- e3]
  exact x0u _
 ·have h2 : dx m P[p] <= dx m P[q]:=by
   by_cases e2 : p=q
   ·subst e2;exact Int.le_refl _
   ·exact List.pairwise_iff_getElem.1 h.srt p q hp hq (by omega)
  rw [e] at h2
  omega
theorem jB.upto {m : Msh} {P : List Nat} (h : jB m P) {p x : Nat} (hp : p < P.length) (hx : x ∈ P.take (p + 1)) : x < m.f.length /\ suF m x <= suF m P[p]:=by
 obtain ⟨q,hq,e⟩:=List.getElem_of_mem hx
 rw [x04] at hq
 rw [List.getElem_take] at e
 have hqn:=h.lt (show q < P.length by omega)
 rw [e] at hqn
 refine ⟨hqn,?_⟩
 rw [d7 hqn,d7 (h.lt hp)]
 by_cases e2 : q=p
 ·subst e2;rw [e];exact Int.le_refl _
 ·have:=List.pairwise_iff_getElem.1 h.srt q p (by omega) hp (by omega)
  rw [e] at this
  exact this
def vc (m : Msh) (S : List Nat) (a b : Nat) : Prop:=¬ (a ∈ S /\ b ∈ S /\ Cn (mR m S) a b)
theorem vc.low {m : Msh} {P : List Nat} (hO : jB m P) {p a b : Nat} (hp : p < P.length) (ha : a < m.f.length) (hb : b < m.f.length) (hn : vc m (P.take p) a b) {h : Int} (w : Way m h a b) : suF m P[p] <= h:=by
 by_cases hlt : h < suF m P[p]
 ·exfalso
  apply hn
  refine ⟨hO.before hp ha (by have:=w.1;omega),hO.before hp hb (by have:=w.2.1;omega),w.2.2.mono ?_⟩
  rintro x y ⟨x1,y1,x2,y2,x3⟩
  exact ⟨x1,y1,hO.before hp x1 (by omega),hO.before hp y1 (by omega),x3⟩
 ·omega
theorem found {m : Msh} {P : List Nat} (hO : jB m P) {p a b : Nat} (hp : p < P.length) (ha : a < m.f.length) (hb : b < m.f.length) (hn : vc m (P.take p) a b) (h1 : a ∈ P.take (p + 1)) (h2 : b ∈ P.take (p + 1)) (h3 : Cn (mR m (P.take (p + 1))) a b) : dw m a b=some (suF m P[p]):=by
 refine mi ⟨⟨(hO.upto hp h1).2,(hO.upto hp h2).2,h3.mono ?_⟩,fun h w=>hn.low hO hp ha hb w⟩
 rintro x y ⟨x1,y1,x2,y2,x3⟩
 exact ⟨x1,y1,(hO.upto hp x2).2,(hO.upto hp y2).2,x3⟩
theorem Tb {m : Msh} {P : List Nat} (hO : jB m P) {a b : Nat} (ha : a < m.f.length) (hb : b < m.f.length) (hn : vc m P a b) : dw m a b=none:=by
 refine mh fun v w=>hn ⟨hO.mem ha,hO.mem hb,w.2.2.mono ?_⟩
 rintro x y ⟨x1,y1,x2,y2,x3⟩
 exact ⟨x1,y1,hO.mem x1,hO.mem y1,x3⟩
end Go.Gv

namespace Go.Gv
open Go.Sort
section
variable {P : Program} {F : Fid} {α : Type} [Inhabited α]
def fk (encD : α -> D) (d : Array α) : List (List D):=d.toList.map fun x=>[encD x]
theorem oh {f : FuncId} (enc : α -> Value) (encD : α -> D) (hflat : ∀ M x u,ae F M (encD x) u -> u=enc x) (hrep : ∀ M x,ae F M (encD x) (enc x)) (d d' : Array α) (hsz : d'.size=d.size) (ds : List D)
  (hnone : d.size=0 -> ∀ (M : Mem) (w : World) (vs : List Value) (A : Option Addr),(∀ p v,M p=some v -> w.cell? p=some v) -> az F M ds vs -> Calls P f (.slice A 0 0::vs).toArray w fun e w'=>e=.returned (.tuple #[]) /\ ∃ n os,w'=grow (Sort.ahead w n) os)
  (hrun : ∀ (M : Mem) (w : World) (vs : List Value) (blk off cap : Nat),(∀ p v,M p=some v -> w.cell? p=some v) -> (∀ p : Addr,p.block=blk -> M p=none) -> az F M ds vs -> Holds enc w blk off d -> blk < w.heap.size ->
   Calls P f (.slice (some ⟨blk,off,none⟩) d.size cap::vs).toArray w fun e w'=>e=.returned (.tuple #[]) /\ ∃ n os,w'=grow (putRow enc (Sort.ahead w n) blk off d') os) : vn P F f 1 (fk encD d) ds (fk encD d'):=by
 intro M w vs hh r
 have hl : (fk encD d).length=d.size:=by simp [fk]
 refine ⟨fun e A=>?_,fun b o T us cap hM hb hcell hcap hle hu hc=>?_⟩
 ·have h0 : d.size=0:=by rw [<- hl,e];rfl
  refine (hnone h0 M w vs A hh r).mono ?_
  rintro e0 w' ⟨rfl,n,os,rfl⟩
  exact ⟨rfl,rfl,rfl,rfl,by simp [grow,Sort.ahead],fun k hk=>by simp only [grow,Sort.ahead];rw [x1D hk],Nat.le_add_right _ _⟩
 ·rw [hl] at hcap ⊢
  have hH : Holds enc w b o d:=fun j hj=>by
   obtain ⟨u,k1,k2⟩:=hc j [encD d[j]] 0 (encD d[j]) (by simp [fk,hj]) rfl
   have:=hflat _ _ _ k2
   subst this
   have e1 : d[j]! = d[j]:=x1k d j hj
   rw [e1]
   have k3 : us[o + j]? = some (enc d[j]):=by simpa using k1
   constructor
   ·simp [World.cell?,hcell,k3]
   ·simp [World.frozen?,hcell]
  refine (hrun M w vs b o cap hh hM r hH hb).mono ?_
  rintro e0 w' ⟨rfl,n,os,rfl⟩
  have hput : (grow (putRow enc (Sort.ahead w n) b o d') os).heap[b]? = some (.cells (putCells enc o d' us.toArray) T (0,0)):=by
   simp only [grow,putRow,mapBlock,Sort.ahead]
   rw [x1D (by simpa using hb),Array.getElem?_modify,if_pos rfl,hcell]
   rfl
  refine ⟨rfl,(putCells enc o d' us.toArray).toList,by rw [x1t];exact hput,by simp [putCells],fun i r off x hi hr=>?_,⟨rfl,rfl,rfl,by simp [grow,putRow,mapBlock,Sort.ahead],fun k hk hne=>?_,Nat.le_add_right _ _⟩⟩
  ·simp only [fk,x0x,x0i] at hi
   obtain ⟨y,h1,rfl⟩:=hi
   have ho : off=0:=by
    have:=(x0b.1 hr).1
    simpa using this
   subst ho
   simp only [x1v,x0k] at hr
   subst hr
   have hi2 : i < d'.size:=by have:=(x0b.1 h1).1;simpa using this
   have hy : d'[i]! = y:=by
    rw [x1k d' i hi2]
    have:=(x0b.1 h1).2
    simpa using this
   refine ⟨enc y,?_,hrep _ _⟩
   have hlt : o + i < us.length:=by
    have : o + cap * 1 <= us.length:=hle
    omega
   rw [Nat.mul_one,x1j,Array.getElem?_toList]
   simp only [putCells,Array.getElem?_mapIdx,x1F]
   rw [x0d hlt]
   simp only [x1o]
   rw [if_pos ⟨by omega,by omega⟩,show o + i - o=i by omega,hy]
  ·simp only [grow,putRow,mapBlock,Sort.ahead]
   rw [x1D (by simpa using hk),Array.getElem?_modify,if_neg (Ne.symm hne)]
end
end Go.Gv

namespace Go.Gv
open Go.Sort Go.Proofs Go.Shelf
theorem Bel.grown {w w' : World} (h : Bel w w') : ∃ q os,w'=grow (w.drewN q) os:=by
 refine ⟨w'.drawn - w.drawn,w'.heap.extract w.heap.size w'.heap.size,?_⟩
 have hh : w'.heap=w.heap++w'.heap.extract w.heap.size w'.heap.size:=by
  apply Array.ext
  ·have:=h.size
   simp only [Array.size_append,Array.size_extract]
   omega
  ·intro i h1 h2
   by_cases hi : i < w.heap.size
   ·rw [Array.getElem_append_left hi]
    have:=h.block i hi
    rw [x01 h1,x01 hi] at this
    exact Option.some.inj this
   ·rw [Array.getElem_append_right (by omega),Array.getElem_extract]
    congr 1
    omega
 have hd:=h.drawn
 obtain ⟨h1,h2,h3,h4,h5,h6⟩:=h
 cases w
 cases w'
 simp only [grow,World.drewN] at *
 subst h1 h2 h3
 congr 1
 omega
theorem Bel.sorted {α : Type} [Inhabited α] {enc : α -> Value} {w : World} {blk off n : Nat} {d : Array α} {os : Array Obj} {p : Addr} {v : Value} (hp : p.block ≠ blk) (h : w.cell? p=some v) : (sortWorld enc w blk off n d os).cell? p=some v:=by
 have hb : p.block < w.heap.size:=by
  unfold World.cell? at h
  cases e : w.heap[p.block]? with
  | none=>rw [e] at h;cases h
  | some _=>exact (Array.getElem?_eq_some_iff.1 e).1
 have e : (sortWorld enc w blk off n d os).heap[p.block]? = w.heap[p.block]?:=by
  simp only [sortWorld,grow,putRow,mapBlock,Sort.ahead]
  rw [x1D (by simpa using hb),Array.getElem?_modify,if_neg (Ne.symm hp)]
 unfold World.cell? at h ⊢
 rw [e]
 exact h
section
variable {P : Program} {F : Fid} {α : Type} [Inhabited α]
theorem nN {ρ : Ren} (Ly : SlLaysF.n6 P ρ) (enc : α -> Value) (encD : α -> D) (h1 : OneCell enc) (hflat : ∀ M x u,ae F M (encD x) u -> u=enc x) (hrep : ∀ M x,ae F M (encD x) (enc x)) (cf : α -> α -> Int) (hO : SWO (ltOf cf)) {g cg : Nat} (hg : ∀ f,F g=some f -> f=ρ.f 6) {cs : List D}
  (hn : ∀ f,F cg=some f -> kC P f=true) (hcl : ∀ x y,fu P F cg (encD x::encD y::cs) (.int .i64 (cf x y)) []) (d : Array α) (hz : d.size < 2 ^ 62) :
  fu P F g [.own 1 (fk encD d),.fn cg cs] .any [.own 1 (fk encD (pdq (ltOf cf) d 0 d.size (Lib.bitLen d.size) true true)),.nilp]:=by
 refine ⟨trivial,fun f hf=>⟨rfl,?_⟩⟩
 obtain rfl:=hg f hf
 have hp:=pdq_sorts (ltOf cf) hO d 0 d.size (Lib.bitLen d.size) true true (Nat.zero_le _) (x0j _) (Or.inl rfl)
 have hsz : (pdq (ltOf cf) d 0 d.size (Lib.bitLen d.size) true true).size=d.size:=hp.1.1
 refine oh enc encD hflat hrep d _ hsz _ (fun h M w vs A hh r=>?_) (fun M w vs blk off cap hh hM r hH hb=>?_)
 ·simp only [az,ae] at r
  obtain ⟨fv,vs',rfl,⟨fi,us,hfi,rfl,hus⟩,rfl⟩:=r
  refine (AnyF.slices_SortFunc_none { Ly with } A 0 _ w).mono ?_
  rintro e w' ⟨rfl,rfl⟩
  exact ⟨rfl,0,#[],by simp⟩
 ·simp only [az,ae] at r
  obtain ⟨fv,vs',rfl,⟨fi,us,hfi,rfl,hus⟩,rfl⟩:=r
  have hcmp : CmpLays1 P fi us.toArray enc cf blk off d.size w:=by
   intro m os dk hdk x y
   have hr:=(hcl x y).2 fi hfi M (sortWorld enc w blk off m dk os) (enc x::enc y::us) (fun p v hpv=>Bel.sorted (fun e=>by rw [hM p e] at hpv;cases hpv) (hh p v hpv)) (by
    simp only [az]
    exact ⟨_,_,rfl,hrep _ _,_,_,rfl,hrep _ _,hus⟩)
   have e : #[enc x,enc y]++us.toArray=(enc x::enc y::us).toArray:=by simp
   rw [e]
   refine hr.mono ?_
   rintro e w' ⟨v,M',rfl,hbel,_,_,_,hv⟩
   simp only [ae] at hv
   subst hv
   exact ⟨rfl,hbel.grown⟩
  exact Any.slices_SortFunc_eq Ly enc h1 cf hO fi us.toArray blk off cap d w (cK (hn fi hfi)) hcmp hH hb (by omega)
end
end Go.Gv

namespace Go.Gv
open Go.Sort Go.Proofs Go.Shelf
section
variable {m : Msh}
def cfH (m : Msh) {N : Nat} (a b : Fin N) : Int:=dx m a.1 - dx m b.1
theorem sY (m : Msh) (N : Nat) : SWO (ltOf (cfH m (N:=N))) where
 irrefl x:=by simp [ltOf,cfH]
 trans x y z h1 h2:=by
  have g1 : cfH m x y < 0:=of_decide_eq_true h1
  have g2 : cfH m y z < 0:=of_decide_eq_true h2
  refine decide_eq_true ?_
  unfold cfH at *
  omega
 ntrans x y z h1 h2:=by
  have g1 : ¬ cfH m x y < 0:=of_decide_eq_false h1
  have g2 : ¬ cfH m y z < 0:=of_decide_eq_false h2
  refine decide_eq_false ?_
  unfold cfH at *
  omega
def dH (N : Nat) : Array (Fin N):=(List.finRange N).toArray
theorem yF (N : Nat) : (dH N).size=N:=by simp [dH]
def oH (m : Msh) (N : Nat) [Inhabited (Fin N)] : List Nat:=(pdq (ltOf (cfH m)) (dH N) 0 (dH N).size (Lib.bitLen (dH N).size) true true).toList.map fun i=>i.1
theorem DG (m : Msh) [Inhabited (Fin m.f.length)] : jB m (oH m m.f.length):=by
 have h:=pdq_sorts (ltOf (cfH m)) (sY m m.f.length) (dH m.f.length) 0 (dH m.f.length).size (Lib.bitLen (dH m.f.length).size) true true (Nat.zero_le _) (x0j _) (Or.inl rfl)
 obtain ⟨⟨hs,_,hp⟩,hsrt⟩:=h
 unfold oH
 generalize hP : pdq (ltOf (cfH m)) (dH m.f.length) 0 (dH m.f.length).size (Lib.bitLen (dH m.f.length).size) true true=d' at *
 have e1 : d'.extract 0 (dH m.f.length).size=d':=by rw [<- hs];exact Array.extract_size
 have e2 : (dH m.f.length).extract 0 (dH m.f.length).size=dH m.f.length:=Array.extract_size
 rw [e1,e2] at hp
 refine ⟨?_,?_⟩
 ·have h1:=hp.map (fun i : Fin m.f.length=>i.1)
  have h2 : (dH m.f.length).toList.map (fun i : Fin m.f.length=>i.1)=List.range m.f.length:=by
   unfold dH
   exact x0G (by simp) (by intro i h1 h2;simp)
  rw [h2] at h1
  exact h1
 ·rw [List.pairwise_map,List.pairwise_iff_getElem]
  intro i j hi hj hij
  have hj' : j < d'.size:=by simpa using hj
  have hi' : i < d'.size:=by simpa using hi
  have h1:=hsrt i j (Nat.zero_le _) hij (by rw [<- hs];exact hj')
  rw [x1k d' j hj',x1k d' i hi'] at h1
  have g1 : ¬ cfH m d'[j] d'[i] < 0:=of_decide_eq_false h1
  unfold cfH at g1
  simp only [Array.getElem_toList]
  omega
end
section
variable {P : Program} {F : Fid}
theorem pV {ρ : Ren} (Ly : SlLaysF.n6 P ρ) (m : Msh) (h0 : 0 < m.f.length) (hl : m.f.length < 2 ^ 62) {g cg : Nat} (hg : ∀ f,F g=some f -> f=ρ.f 6) {cs : List D}
  (hn : ∀ f,F cg=some f -> kC P f=true) (hcl : ∀ a b : Nat,a < m.f.length -> b < m.f.length -> fu P F cg (.int .i64 a::.int .i64 b::cs) (.int .i64 (dx m a - dx m b)) []) :
  ∃ Q,jB m Q /\ fu P F g [.own 1 (nfR (List.range m.f.length)),.fn cg cs] .any [.own 1 (nfR Q),.nilp]:=by
 haveI : Inhabited (Fin m.f.length):=⟨⟨0,h0⟩⟩
 refine ⟨oH m m.f.length,DG m,?_⟩
 have k:=nN (α:=Fin m.f.length) Ly (fun i=>.int .i64 (i.1 : Int)) (fun i=>D.int .i64 (i.1 : Int)) (fun _=>rfl) (fun M x u h=>by simpa [ae] using h) (fun M x=>by simp [ae]) (cfH m) (sY m _) hg hn (fun x y=>hcl x.1 y.1 x.2 y.2) (dH m.f.length) (by rw [yF];exact hl)
 have e1 : fk (fun i : Fin m.f.length=>D.int .i64 (i.1 : Int)) (dH m.f.length)=nfR (List.range m.f.length):=by
  unfold fk nfR dH
  exact x0G (by simp) (by intro i h1 h2;simp)
 have e2 : fk (fun i : Fin m.f.length=>D.int .i64 (i.1 : Int)) (pdq (ltOf (cfH m)) (dH m.f.length) 0 (dH m.f.length).size (Lib.bitLen (dH m.f.length).size) true true)=nfR (oH m m.f.length):=by
  unfold fk nfR oH
  rw [List.map_map]
  rfl
 rw [e1,e2] at k
 exact k
end
end Go.Gv

namespace Go.Gv
theorem tJ {m : Msh} (a : Nat) : fo m a=true ↔ suF m a < spF m a:=by unfold fo suF spF;rw [x0f]
end Go.Gv

namespace Go.Gv
def fp (m : Msh) (i k : Nat) : Bool:=fo m k && decide (rtP m k < i)
def dU (m : Msh) (i : Nat) : List Bool:=(List.range m.f.length).map (fp m i)
def inB (m : Msh) (i : Nat) : List Bool:=(List.range m.f.length).map (inP m i)
theorem jn (m : Msh) (i : Nat) : (dU m i).length=m.f.length:=by simp [dU]
theorem li {m : Msh} {i k : Nat} (h : k < m.f.length) : (dU m i).getD k false=fp m i k:=by simp [dU,h]
theorem tf (m : Msh) (i : Nat) : (inB m i).length=m.f.length:=by simp [inB]
theorem te {m : Msh} {i k : Nat} (h : k < m.f.length) : (inB m i).getD k false=inP m i k:=by simp [inB,h]
theorem rS (m : Msh) : dU m 0=List.replicate m.f.length false:=by
 unfold dU
 apply x0G (by simp)
 intro j h1 h2
 simp [fp]
theorem rQ {m : Msh} (hv : au m=true) {i : Nat} (h : stB m i=false) : dU m (i + 1)=dU m i:=by
 unfold dU
 refine x0n fun k hk=>?_
 have hkn:=x0D.1 hk
 unfold fp
 cases hw : fo m k
 ·rfl
 ·simp only [x09,decide_eq_decide]
  have h2:=(pU hv hkn).2
  have h3:=(tv hv hkn).1
  have : rtP m k ≠ i:=fun e=>by
   rw [e] at h2 h3
   rw [hw] at h3
   simp [stB,h2,h3] at h
  omega
structure BfI (m : Msh) (i : Nat) (dn inn : List Bool) (todo : List Nat) (P : Nat -> Prop) : Prop where
 dl : dn.length=m.f.length
 il : inn.length=m.f.length
 c1 : ∀ k,k < m.f.length -> inn.getD k false=true -> Cn (eK m) i k
 c2 : ∀ k,k < m.f.length -> dn.getD k false=(fp m i k || inn.getD k false)
 c3 : ∀ x ∈ todo,x < m.f.length /\ inn.getD x false=true
 c4 : inn.getD i false=true
 c5 : ∀ x,x < m.f.length -> inn.getD x false=true -> x ∈ todo \/ P x \/ ∀ k,eK m x k -> inn.getD k false=true
theorem BfI.init {m : Msh} {i : Nat} (hi : i < m.f.length) : BfI m i ((dU m i).set i true) ((List.replicate m.f.length false).set i true) [i] fun _=>False:=by
 have gi : ∀ k,((List.replicate m.f.length false).set i true).getD k false=if k=i then true else false:=fun k=>by
  rw [a8 (by simpa using hi)]
  split
  ·rfl
  ·simp [x0N];split <;> rfl
 have gd : ∀ k,((dU m i).set i true).getD k false=if k=i then true else (dU m i).getD k false:=fun k=>a8 (by rw [jn];exact hi)
 refine ⟨by simp [jn],by simp,fun k hk h=>?_,fun k hk=>?_,fun x hx=>?_,by rw [gi,if_pos rfl],fun x hx h=>?_⟩
 ·rw [gi] at h
  split at h
  ·rename_i e;rw [e];exact .refl _
  ·cases h
 ·rw [gd,gi,li hk]
  split <;> simp
 ·have : x=i:=by simpa using hx
  subst this
  exact ⟨hi,by rw [gi,if_pos rfl]⟩
 ·rw [gi] at h
  split at h
  ·rename_i e;exact .inl (by simp [e])
  ·cases h
theorem BfI.pop {m : Msh} {i a : Nat} {dn inn : List Bool} {todo : List Nat} (h : BfI m i dn inn (a::todo) fun _=>False) : BfI m i dn inn todo fun x=>x=a:=by
 refine ⟨h.dl,h.il,h.c1,h.c2,fun x hx=>h.c3 x (List.mem_cons_of_mem _ hx),h.c4,fun x hx hin=>?_⟩
 rcases h.c5 x hx hin with h1 | h1 | h1
 ·rcases x0M.1 h1 with h2 | h2
  ·exact .inr (.inl h2)
  ·exact .inl h2
 ·exact h1.elim
 ·exact .inr (.inr h1)
theorem BfI.add {m : Msh} {i a k : Nat} {dn inn : List Bool} {todo : List Nat} (h : BfI m i dn inn todo fun x=>x=a) (ha : Cn (eK m) i a) (hak : eK m a k) : BfI m i (dn.set k true) (inn.set k true) (todo++[k]) fun x=>x=a:=by
 have hk:=hak.2.1
 have gi : ∀ x,(inn.set k true).getD x false=if x=k then true else inn.getD x false:=fun x=>a8 (by rw [h.il];exact hk)
 have gd : ∀ x,(dn.set k true).getD x false=if x=k then true else dn.getD x false:=fun x=>a8 (by rw [h.dl];exact hk)
 have mono : ∀ x,inn.getD x false=true -> (inn.set k true).getD x false=true:=fun x hx=>by rw [gi];split;rfl;exact hx
 refine ⟨by simp [h.dl],by simp [h.il],fun x hx hin=>?_,fun x hx=>?_,fun x hx=>?_,mono i h.c4,fun x hx hin=>?_⟩
 ·rw [gi] at hin
  split at hin
  ·rename_i e;rw [e];exact .step ha hak
  ·exact h.c1 x hx hin
 ·rw [gd,gi]
  split
  ·simp
  ·exact h.c2 x hx
 ·rcases x0m.1 hx with h1 | h1
  ·exact ⟨(h.c3 x h1).1,mono x (h.c3 x h1).2⟩
  ·have : x=k:=by simpa using h1
   subst this
   exact ⟨hk,by rw [gi,if_pos rfl]⟩
 ·rw [gi] at hin
  split at hin
  ·rename_i e;exact .inl (by simp [e])
  ·rcases h.c5 x hx hin with h1 | h1 | h1
   ·exact .inl (List.mem_append_left _ h1)
   ·exact .inr (.inl h1)
   ·exact .inr (.inr fun y hy=>mono y (h1 y hy))
theorem BfI.close {m : Msh} {i a : Nat} {dn inn : List Bool} {todo : List Nat} (h : BfI m i dn inn todo fun x=>x=a) (hc : ∀ k,eK m a k -> inn.getD k false=true) : BfI m i dn inn todo fun _=>False :=
 ⟨h.dl,h.il,h.c1,h.c2,h.c3,h.c4,fun x hx hin=>by
  rcases h.c5 x hx hin with h1 | h1 | h1
  ·exact .inl h1
  ·subst h1;exact .inr (.inr hc)
  ·exact .inr (.inr h1)⟩
theorem BfI.found {m : Msh} (hv : au m=true) {i a k : Nat} (hi : i < m.f.length) (hs : rtP m i=i) {dn inn : List Bool} {todo : List Nat} {P : Nat -> Prop} (h : BfI m i dn inn todo P) (ha : Cn (eK m) i a) (hak : eK m a k) (hd : dn.getD k false=true) : inn.getD k false=true:=by
 have hk:=hak.2.1
 have e:=(pT hv hi hk).2 (Cn.step ha hak)
 rw [hs] at e
 rw [h.c2 k hk] at hd
 simp only [fp,x06,x0a,x0f] at hd
 rcases hd with ⟨_,h1⟩ | h1
 ·omega
 ·exact h1
theorem BfI.all {m : Msh} (hv : au m=true) {i : Nat} (hi : i < m.f.length) (hs : stB m i=true) {dn inn : List Bool} (h : BfI m i dn inn [] fun _=>False) : inn=inB m i /\ dn=dU m (i + 1):=by
 have hs2 : fo m i=true /\ rtP m i=i:=by simpa [stB] using hs
 have cl : ∀ k,Cn (eK m) i k -> k < m.f.length /\ inn.getD k false=true:=fun k hk=>by
  induction hk with
  | refl=>exact ⟨hi,h.c4⟩
  | step _ r ih =>
   obtain ⟨h1,h2⟩:=ih
   rcases h.c5 _ h1 h2 with h3 | h3 | h3
   ·cases h3
   ·exact h3.elim
   ·exact ⟨r.2.1,h3 _ r⟩
 have key : ∀ k,k < m.f.length -> inn.getD k false=inP m i k:=fun k hk=>by
  rw [x0v]
  simp only [inP,x0a,x0f]
  constructor
  ·intro h1
   have h2:=h.c1 k hk h1
   have e:=(pT hv hi hk).2 h2
   exact ⟨by rw [<- h2.wet.1];exact hs2.1,by rw [<- e];exact hs2.2⟩
  ·rintro ⟨_,h2⟩
   exact (cl k ((pT hv hi hk).1 (by rw [hs2.2,h2]))).2
 constructor
 ·apply x0G (by rw [h.il,tf])
  intro j h1 h2
  have hj : j < m.f.length:=by rw [h.il] at h1;exact h1
  have e1:=key j hj
  rw [<- te hj] at e1
  simpa [h1,h2] using e1
 ·apply x0G (by rw [h.dl,jn])
  intro j h1 h2
  have hj : j < m.f.length:=by rw [h.dl] at h1;exact h1
  have e1:=h.c2 j hj
  rw [key j hj] at e1
  have e2 : (fp m i j || inP m i j)=fp m (i + 1) j:=by
   unfold fp inP
   cases fo m j
   ·rfl
   ·simp only [x09]
    rw [<- Bool.decide_or,decide_eq_decide]
    omega
  rw [e2,<- li hj] at e1
  simpa [h1,h2] using e1
def fV (m : Msh) (i : Nat) : List (List Nat):=(stT m i).map fun s=>(List.range m.f.length).filter (inP m s)
theorem wU (m : Msh) : fV m m.f.length=bU m:=rfl
theorem wT {m : Msh} {i : Nat} (h : stB m i=true) : fV m i++[(List.range m.f.length).filter (inP m i)]=fV m (i + 1):=by
 unfold fV
 rw [eP,if_pos h,List.map_append]
 rfl
theorem uD {m : Msh} {i : Nat} (h : stB m i=false) : fV m i=fV m (i + 1):=by
 unfold fV
 rw [eP,if_neg (by simp [h])]
theorem wV (m : Msh) (i : Nat) : (fV m i).length=(stT m i).length:=by simp [fV]
def liT (m : Msh) (s j : Nat) : List Nat:=(List.range j).filter (inP m s)
theorem wA (m : Msh) (s j : Nat) : liT m s (j + 1)=if inP m s j=true then liT m s j++[j] else liT m s j:=by
 unfold liT
 rw [x03,x1r]
 split <;> simp_all
theorem C5 (m : Msh) (s j : Nat) : (liT m s j).length <= j:=by
 have:=x1H (inP m s) (List.range j)
 simpa [liT] using this
end Go.Gv

namespace Go.Gv
section
variable {C : CC} (hC : aD prog C)
include hC
theorem pK (m : Msh) (hv : au m=true) (hm : m.f.length <= 100) : C 872 [.agg (a6 m)] (.sl (inR (aU m).sp)) []:=by
 have k:=xi hC m hv hm
 rw [<- (fI hv).1] at k
 simp only [ab] at k
 refine aq hC (nf:=N872) rfl rfl ?_
 simp [N872,ab]
 refine aa k (.inr rfl) ?_
 simp
set_option maxHeartbeats 4000000 in
set_option maxRecDepth 8000 in
theorem tq (m : Msh) (hv : au m=true) (hm : m.f.length <= 100) : C 871 [.agg (a6 m)] (.sl (fg (bU m))) []:=by
 have k1:=gz hC m hm
 have k2:=mB hC m hv hm
 have k3:=pK hC m hv hm
 have W:=jp m
 simp only [ab] at k1 k2 k3
 refine aq hC (nf:=N871) rfl rfl ?_
 simp [N871,ab]
 refine aa k1 (.inr rfl) ?_
 simp
 refine aa k2 (.inr rfl) ?_
 simp
 refine aa k3 (.inr rfl) ?_
 simp [W.sp]
 refine ⟨ai (by decide +kernel),by omega,?_⟩
 have hz0 : List.replicate m.f.length [D.bool false]=rcR (dU m 0):=by rw [rS];simp [rcR]
 rw [hz0]
 refine av Nat (fun i=>[(3,.sl (nbA m)),(4,.sl (inR (aS m))),(5,.sl (inR (aU m).sp)),(6,.ref (.r 10096) 0 m.f.length),(7,.ref (.r 10112) 0 (fV m i).length),(8,.int .i64 i),(10096,.blk 1 (rcR (dU m i))),(10112,.blk 1 (dA (fV m i)))])
  (fun i=>i <= m.f.length) (fun i=>m.f.length - i) 0 (by simp) (by simp [fV,stT,dA]) ?_
 rintro i hi
 have hw : IntKind.wrap .i64 ((i : Int) + 1)=((i + 1 : Nat) : Int):=af (by omega) (by omega)
 have hdl:=jn m i
 simp [W.sp]
 refine aj (fun g1=>?_) (fun g1=>?_) <;> simp at g1 <;> simp [g1]
 ·have hdi : i < (dU m i).length:=by omega
  have hdg : (rcR (dU m i))[i]? = some [.bool (fp m i i)]:=by rw [bF hdi,li g1]
  have hge:=tF hv g1
  have hwi:=tJ (m:=m) i
  obtain ⟨hrl,hrr⟩:=pU hv g1
  simp [ar hdg]
  cases hs : stB m i
  ·have hsame:=uD hs
   have hd2:=rQ hv hs
   have hcl : fp m i i=true \/ (fp m i i=false /\ spF m i=suF m i):=by
    cases hwt : fo m i
    ·right
     refine ⟨by simp [fp,hwt],?_⟩
     rw [hwt] at hwi
     have : ¬ suF m i < spF m i:=fun h=>by have:=hwi.2 h;cases this
     omega
    ·left
     have : ¬ rtP m i=i:=fun e=>by simp [stB,hwt,e] at hs
     simp [fp,hwt]
     omega
   rcases hcl with hcl | ⟨hcl,heq⟩
   ·simp [hcl]
    exact ⟨ai (by decide +kernel),i + 1,by omega,by omega,by rw [hsame],hw,by rw [hd2],by rw [hsame]⟩
   ·simp [hcl,ap (fa g1),ap (eA g1),heq]
    exact ⟨ai (by decide +kernel),i + 1,by omega,by omega,by rw [hsame],hw,by rw [hd2],by rw [hsame]⟩
  ·have hs2 : fo m i=true /\ rtP m i=i:=by simpa [stB] using hs
   have hdb : fp m i i=false:=by simp [fp,hs2.2]
   have hlt:=hwi.1 hs2.1
   have hrl9 : (List.replicate m.f.length false).length=m.f.length:=by simp
   have hri : i < (List.replicate m.f.length false).length:=by simpa using g1
   have hz1 : List.replicate m.f.length [D.bool false]=rcR (List.replicate m.f.length false):=by simp [rcR]
   simp [hdb,ap (fa g1),ap (eA g1),show ¬ spF m i=suF m i by omega]
   refine ⟨ai (by decide +kernel),?_⟩
   rw [W.sp,hz1]
   simp [g1,bF hri,bF hdi,d6]
   refine ⟨by omega,?_⟩
   have B0:=BfI.init g1
   obtain ⟨d0,hd0⟩ : ∃ d0,d0=(dU m i).set i true:=⟨_,rfl⟩
   obtain ⟨n0,hn0⟩ : ∃ n0,n0=(List.replicate m.f.length false).set i true:=⟨_,rfl⟩
   rw [<- hd0,<- hn0] at B0 ⊢
   refine av ((List Bool × List Bool) × List Nat × Nat × List (List D)) (fun s=>[(3,.sl (nbA m)),(4,.sl (inR (aS m))),(5,.sl (inR (aU m).sp)),(6,.ref (.r 10096) 0 m.f.length),(7,.ref (.r 10112) 0 (fV m i).length),(8,.int .i64 i),(9,.ref (.r 10144) 0 m.f.length),
    (10,.ref (.r 10160) s.2.2.1 s.2.1.length),(10096,.blk 1 (rcR s.1.1)),(10112,.blk 1 (dA (fV m i))),(10144,.blk 1 (rcR s.1.2)),(10160,.blk 1 s.2.2.2)])
    (fun s=>BfI m i s.1.1 s.1.2 s.2.1 (fun _=>False) /\ s.2.2.1 + s.2.1.length <= s.2.2.2.length /\ (s.2.2.2.drop s.2.2.1).take s.2.1.length=nfR s.2.1 /\ 2 * s.1.1.count false + s.2.1.length <= 2 * m.f.length + 1)
    (fun s=>2 * s.1.1.count false + s.2.1.length) ((d0,n0),[i],0,[[.int .i64 i]]) ⟨B0,by simp,by simp [nfR],by have h1:=List.count_le_length (a:=false) (l:=d0);have h2:=B0.dl;simp only [List.length_singleton];omega⟩ (by simp) ?_
   rintro ⟨⟨dn,inn⟩,todo,kk,B⟩ ⟨b1,b2,b3,b5⟩
   simp only at b1 b2 b3 b5
   simp
   cases todo with
   | nil =>
    obtain ⟨e1,e2⟩:=b1.all hv g1 hs
    subst e1
    subst e2
    simp
    have hil:=tf m i
    refine av Nat (fun j=>[(3,.sl (nbA m)),(4,.sl (inR (aS m))),(5,.sl (inR (aU m).sp)),(6,.ref (.r 10096) 0 m.f.length),(7,.ref (.r 10112) 0 (fV m i).length),(8,.int .i64 i),(9,.ref (.r 10144) 0 m.f.length),
     (14,.ref (.r 10224) 0 (liT m i j).length),(15,.int .i64 j),(10096,.blk 1 (rcR (dU m (i + 1)))),(10112,.blk 1 (dA (fV m i))),(10144,.blk 1 (rcR (inB m i))),(10224,.blk 1 (nfR (liT m i j)))])
     (fun j=>j <= m.f.length) (fun j=>m.f.length - j) 0 (by simp) (by simp [liT,nfR]) ?_
    rintro j hj
    have hwj : IntKind.wrap .i64 ((j : Int) + 1)=((j + 1 : Nat) : Int):=af (by omega) (by omega)
    have hll:=C5 m i j
    simp
    refine aj (fun g2=>?_) (fun g2=>?_) <;> simp at g2 <;> simp [g2]
    ·have hji : j < (inB m i).length:=by omega
     have hjg : (rcR (inB m i))[j]? = some [.bool (inP m i j)]:=by rw [bF hji,te g2]
     have hsu:=wA m i j
     simp [ar hjg]
     cases hin : inP m i j
     ·rw [if_neg (by simp [hin])] at hsu
      simp
      exact ⟨j + 1,by omega,by omega,by rw [hsu],hwj,by rw [hsu]⟩
     ·rw [if_pos hin] at hsu
      simp
      refine ⟨by omega,?_⟩
      exact ⟨j + 1,by omega,by omega,by rw [hsu];simp,hwj,by rw [hsu,mz]⟩
    ·have e5 : j=m.f.length:=by omega
     subst e5
     have hoa:=wT hs
     have hol:=wV m i
     have hle:=sQ m i
     have hpl : (dA (fV m i)).length=(fV m i).length:=by simp [dA]
     have htk : List.take (fV m i).length (dA (fV m i))=dA (fV m i):=x0q (by omega)
     simp [htk]
     refine ⟨pF _,by omega,by omega,i + 1,by omega,by omega,by rw [<- hoa];simp,hw,rfl,?_⟩
     rw [<- hoa]
     simp [dA,liT]
   | cons a rest =>
    simp only [x0Z] at b2 b3 b5
    have hBk : B[kk]? = some [.int .i64 (a : Int)]:=by
     have:=congrArg (fun l=>l[0]?) b3
     simpa [nfR] using this
    have hBr : (B.drop (kk + 1)).take rest.length=nfR rest:=by
     have:=congrArg (fun l=>l.drop 1) b3
     simp only [List.drop_take,List.drop_drop] at this
     simpa [nfR] using this
    obtain ⟨han,hai⟩:=b1.c3 a (List.mem_cons_self ..)
    have hca:=b1.c1 a han hai
    have b4:=b1.pop
    simp [ar hBk]
    refine av ((List Bool × List Bool) × List Nat × Nat × List (List D) × Nat) (fun s=>[(3,.sl (nbA m)),(4,.sl (inR (aS m))),(5,.sl (inR (aU m).sp)),(6,.ref (.r 10096) 0 m.f.length),(7,.ref (.r 10112) 0 (fV m i).length),(8,.int .i64 i),(9,.ref (.r 10144) 0 m.f.length),
     (10,.ref (.r 10160) s.2.2.1 s.2.1.length),(11,.int .i64 a),(12,.int .i64 s.2.2.2.2),(10096,.blk 1 (rcR s.1.1)),(10112,.blk 1 (dA (fV m i))),(10144,.blk 1 (rcR s.1.2)),(10160,.blk 1 s.2.2.2.1)])
     (fun s=>BfI m i s.1.1 s.1.2 s.2.1 (fun x=>x=a) /\ s.2.2.1 + s.2.1.length <= s.2.2.2.1.length /\ (s.2.2.2.1.drop s.2.2.1).take s.2.1.length=nfR s.2.1 /\ s.2.2.2.2 <= 3 /\
      (∀ c k : Nat,c < s.2.2.2.2 -> nbF m a c=k -> eK m a k -> s.1.2.getD k false=true) /\ 2 * s.1.1.count false + s.2.1.length <= 2 * dn.count false + rest.length)
     (fun s=>3 - s.2.2.2.2) ((dn,inn),rest,kk + 1,B,0) ⟨b4,by simp only;omega,hBr,by simp,fun c k h=>by simp at h,x0j _⟩ (by simp) ?_
    rintro ⟨⟨dn',inn'⟩,todo',kk',B',c⟩ ⟨c1,c2,c3,c4,c5,c6⟩
    simp only at c1 c2 c3 c4 c5 c6
    have hwc : IntKind.wrap .i64 ((c : Int) + 1)=((c + 1 : Nat) : Int):=af (by omega) (by omega)
    simp
    refine aj (fun g2=>?_) (fun g2=>?_) <;> simp at g2
    ·have hxj : ([.int .i64 (nbF m a 0),.int .i64 (nbF m a 1),.int .i64 (nbF m a 2)] : List D)[c]?.getD .any=.int .i64 (nbF m a c):=by
      rcases (by omega : c=0 \/ c=1 \/ c=2) with rfl | rfl | rfl <;> rfl
     have hbd:=cS m a c
     obtain ⟨kx,hkx⟩ : ∃ kx,kx=nbF m a c:=⟨_,rfl⟩
     rw [<- hkx] at hxj hbd
     have hwa:=hca.wet
     rw [hs2.1] at hwa
     have hspa : spF m a=spF m i:=hwa.2.symm
     simp [show (c : Int) < 3 by omega,han,ap (gj han),hxj]
     refine ⟨by omega,?_⟩
     have skip : (∀ k : Nat,kx=k -> eK m a k -> inn'.getD k false=true) -> BfI m i dn' inn' todo' (fun x=>x=a) /\ kk' + todo'.length <= B'.length /\ (B'.drop kk').take todo'.length=nfR todo' /\ c + 1 <= 3 /\
       (∀ c9 k : Nat,c9 < c + 1 -> nbF m a c9=k -> eK m a k -> inn'.getD k false=true) /\ 2 * dn'.count false + todo'.length <= 2 * dn.count false + rest.length:=fun hk=>⟨c1,c2,c3,by omega,fun c9 k h9 e9 a9=>by
      by_cases e : c9=c
      ·subst e;exact hk k (hkx.trans e9) a9
      ·exact c5 c9 k (by omega) e9 a9,c6⟩
     by_cases k0 : 0 <= kx
     ·obtain ⟨x,hx⟩ : ∃ x : Nat,kx=x:=⟨kx.toNat,by omega⟩
      subst hx
      have hxn : x < m.f.length:=by omega
      have hxd : x < dn'.length:=by rw [c1.dl];exact hxn
      have hxi : x < inn'.length:=by rw [c1.il];exact hxn
      have hdn:=bF hxd
      cases hdx : dn'.getD x false
      ·rw [hdx] at hdn
       have hwx:=tJ (m:=m) x
       by_cases w1 : suF m x < spF m x
       ·by_cases w2 : spF m x=spF m i
        ·have hadj : eK m a x:=⟨han,hxn,hwa.1.symm,hwx.2 w1,hspa.trans w2.symm,c,by omega,hkx.symm⟩
         have hst:=je hxd hdx
         have hadd:=c1.add hca hadj
         have w3 : suF m x < spF m i:=by omega
         have hin9:=bF hxi
         have hcnt : 2 * (dn'.set x true).count false + (todo'++[x]).length <= 2 * dn.count false + rest.length:=by simp only [x0P,List.length_singleton];omega
         have hnew : ∀ c9 k : Nat,c9 < c + 1 -> nbF m a c9=k -> eK m a k -> (inn'.set x true).getD k false=true:=fun c9 k h9 e9 a9=>by
          rw [a8 hxi]
          by_cases e : c9=c
          ·subst e
           have : k=x:=by omega
           rw [if_pos this]
          ·split
           ·rfl
           ·exact c5 c9 k (by omega) e9 a9
         simp [c1.dl,c1.il,ar hdn,ap (fa hxn),ap (eA hxn),ap (fa g1),hxn,w2,w3]
         refine ⟨ai (by decide +kernel),?_⟩
         simp [c1.dl,c1.il,hxn,hin9,hdn,d6,c2,c3]
         exact ⟨by omega,dn'.set x true,inn'.set x true,todo'++[x],0,nfR todo'++[[.int .i64 x]],c + 1,⟨hadd,by simp,by rw [mz,List.drop_zero];exact x0q (by simp),by omega,hnew,hcnt⟩,by omega,⟨rfl,by simp⟩,hwc,rfl,rfl,rfl⟩
        ·simp [c1.dl,ar hdn,ap (fa hxn),ap (eA hxn),ap (fa g1),hxn,w1,w2]
         refine ⟨ai (by decide +kernel),dn',inn',todo',kk',B',c + 1,skip fun k ek ak=>?_,by omega,⟨rfl,rfl⟩,hwc,rfl,rfl,rfl⟩
         have : k=x:=by omega
         subst this
         exact absurd (ak.2.2.2.2.1.symm.trans hspa) w2
       ·simp [c1.dl,ar hdn,ap (fa hxn),ap (eA hxn),hxn,w1]
        refine ⟨ai (by decide +kernel),dn',inn',todo',kk',B',c + 1,skip fun k ek ak=>?_,by omega,⟨rfl,rfl⟩,hwc,rfl,rfl,rfl⟩
        have : k=x:=by omega
        subst this
        exact absurd (hwx.1 ak.2.2.2.1) w1
      ·rw [hdx] at hdn
       simp [c1.dl,ar hdn,hxn]
       refine ⟨ai (by decide +kernel),dn',inn',todo',kk',B',c + 1,skip fun k ek ak=>?_,by omega,⟨rfl,rfl⟩,hwc,rfl,rfl,rfl⟩
       have : k=x:=by omega
       subst this
       exact c1.found hv g1 hs2.2 hca ak hdx
     ·simp [k0]
      exact ⟨ai (by decide +kernel),dn',inn',todo',kk',B',c + 1,skip fun k ek ak=>by omega,by omega,⟨rfl,rfl⟩,hwc,rfl,rfl,rfl⟩
    ·have e3 : c=3:=by omega
     subst e3
     simp
     have hcl:=c1.close fun k hk=>by
      obtain ⟨_,_,_,_,_,c9,hc9,e9⟩:=id hk
      exact c5 c9 k hc9 e9 hk
     exact ⟨dn',inn',todo',kk',B',⟨hcl,c2,c3,by omega⟩,by omega,⟨rfl,rfl⟩,rfl,rfl,rfl⟩
 ·have e : i=m.f.length:=by omega
  subst e
  refine ⟨by simp [dA],?_⟩
  rw [wU,tn]
  exact x0q (by simp [fg])
end
end Go.Gv

namespace Go.Gv
theorem oc (V : Nat) : cJ (V : Int)=.agg [.int .u64 ((V : Int) / 18446744073709551616),.int .u64 ((V : Int) % 18446744073709551616),.bool false]:=by
 rw [bE (v:=(V : Int)) (p:=V) (b:=false) (by omega) (by simp),cF]
 simp
section
variable {C : CC} (hC : aD prog C)
include hC
theorem oR (p : Nat) (hp : p < 340282366920938463463374607431768211456) : ∃ v : Int,(p < 9223372036854775808 -> v=p) /\ C 93 [cJ p] (.tup [.int .i64 v,.bool (decide (p < 9223372036854775808))]) []:=by
 by_cases h : p < 9223372036854775808
 ·refine ⟨p,fun _=>rfl,?_⟩
  rw [decide_eq_true h]
  exact uJ hC p (by omega)
 ·refine ⟨IntKind.wrap .i64 ((p % 18446744073709551616 : Nat) : Int),fun h9=>absurd h9 h,?_⟩
  rw [decide_eq_false h]
  rw [bE (v:=(p : Int)) (p:=p) (b:=false) (by omega) (by simp),cF]
  obtain ⟨ph,hph⟩ : ∃ z,z=p / 18446744073709551616:=⟨_,rfl⟩
  obtain ⟨pl,hpl⟩ : ∃ z,z=p % 18446744073709551616:=⟨_,rfl⟩
  rw [<- hph,<- hpl]
  obtain ⟨w,hw⟩ : ∃ w,w=IntKind.wrap .i64 (pl : Int):=⟨_,rfl⟩
  rw [<- hw]
  refine aq hC (nf:=N93) rfl rfl ?_
  simp [N93,<- hw]
  by_cases h0 : ph=0
  ·have : ¬ (pl : Int) < 9223372036854775808:=by omega
   simp [h0,this]
   exact ai (by decide +kernel)
  ·simp [h0]
   exact ai (by decide +kernel)
set_option maxHeartbeats 4000000 in
set_option maxRecDepth 8000 in
theorem uM (m : Msh) (hv : au m=true) (hm : m.f.length <= 100) (p : Int) : C 870 [.agg (a6 m),.int .i64 p] (if 0 <= p /\ p < (bU m).length then qb m ((bU m)[p.toNat]?.getD []) else .tup [zSp,.int .i64 2]) []:=by
 have k1:=tq hC m hv hm
 have k2:=mB hC m hv hm
 have k3:=pK hC m hv hm
 have hsz:=(cQ hv).2
 simp only [ab] at k1 k2 k3
 have hpl : (fg (bU m)).length=(bU m).length:=by simp [fg]
 by_cases hp : 0 <= p /\ p < (bU m).length
 ·rw [if_pos hp]
  obtain ⟨q,rfl⟩ : ∃ q : Nat,p=q:=⟨p.toNat,by omega⟩
  have hq : q < (bU m).length:=by omega
  obtain ⟨l,hl⟩ : ∃ l,(bU m)[q]? = some l:=⟨_,x0d hq⟩
  have hlr : (fg (bU m))[q]? = some [.sl (nfR l)]:=by unfold fg;rw [x0x,hl];rfl
  obtain ⟨hli,hll⟩:=mA (x0c hl)
  have hbd:=kX hv l hli
  have ko0:=oT hC 0 (by omega)
  have ko6:=oT hC 6000 (by omega)
  rw [show (0 : Int)=((0 : Nat) : Int) from rfl,oc] at ko0
  rw [show (6000 : Int)=((6000 : Nat) : Int) from rfl,oc] at ko6
  simp only [x0L,hl,x1p]
  simp at ko0 ko6
  refine aq hC (nf:=N870) rfl rfl ?_
  simp [N870,ab]
  refine aa k1 (.inr rfl) ?_
  simp [hpl,show ¬ (q : Int) < 0 by omega,show ¬ (bU m).length <= q by omega]
  refine aa k2 (.inr rfl) ?_
  simp
  refine aa k3 (.inr rfl) ?_
  simp
  refine ⟨ai (by decide +kernel),?_⟩
  refine aa ko0 (.inl rfl) ?_
  simp
  refine av Nat (fun k=>[(1,.int .i64 q),(2,.ptr [slx m.sn (List.map fY m.s),slx m.fn (List.map br m.f)]),(4,.adr (.r 10064) 0 0),(6,.sl (fg (bU m))),(7,.sl (inR (aS m))),(8,.sl (inR (aU m).sp)),(9,.adr (.r 10144) 0 0),(10,.int .i64 k),(10064,.blk 2 [[.int .i64 0,.int .i64 0]]),
   (10144,.blk 3 [[.int .u64 (((cH m (l.take k) : Nat) : Int) / 18446744073709551616),.int .u64 (((cH m (l.take k) : Nat) : Int) % 18446744073709551616),.bool false]])])
   (fun k=>k <= l.length) (fun k=>l.length - k) 0 (by simp) (by simp [cH]) ?_
  rintro k hk
  have hw : IntKind.wrap .i64 ((k : Int) + 1)=((k + 1 : Nat) : Int):=af (by omega) (by omega)
  have hb1:=kX hv (l.take k) fun i hi=>hli i (x0F hi)
  rw [List.length_take_of_le hk] at hb1
  simp [hpl,ap hlr]
  refine aj (fun g1=>?_) (fun g1=>?_) <;> simp at g1
  ·obtain ⟨i,hi⟩ : ∃ i,i=l[k]:=⟨_,rfl⟩
   have hin : i < m.f.length:=by rw [hi];exact hli _ (x0u _)
   have hnk : (nfR l)[k]? = some [.int .i64 (i : Nat)]:=by rw [fy g1,hi]
   have kt:=Mx hC m hv i hin
   have htw:=tI hv hin
   have s1:=nR hv hin
   have s2:=fE hv hin
   have s3:=tF hv hin
   rw [<- d7 hin] at s2
   obtain ⟨v1,v2⟩:=qa hv hin
   have hvt:=o4 m l g1
   rw [<- hi] at hvt
   obtain ⟨x,hx⟩ : ∃ x,x=spF m i - suF m i:=⟨_,rfl⟩
   rw [<- hx] at v1
   have w1 : IntKind.wrap .i64 (spF m i - suF m i)=x:=af hx.symm (by omega)
   have kp:=uK hC x (twF m i) (by omega) (by omega)
   rw [<- v1,oc] at kp
   have ka:=zV hC (cH m (l.take k) : Nat) (kW m i : Nat) (by omega) (by omega)
   rw [<- Int.natCast_add,<- hvt,oc,oc,oc] at ka
   simp only [ab] at kt
   obtain ⟨a1,ha1⟩ : ∃ a,a=((cH m (l.take k) : Nat) : Int) / 18446744073709551616:=⟨_,rfl⟩
   obtain ⟨a2,ha2⟩ : ∃ a,a=((cH m (l.take k) : Nat) : Int) % 18446744073709551616:=⟨_,rfl⟩
   obtain ⟨b1,hbb1⟩ : ∃ a,a=((kW m i : Nat) : Int) / 18446744073709551616:=⟨_,rfl⟩
   obtain ⟨b2,hbb2⟩ : ∃ a,a=((kW m i : Nat) : Int) % 18446744073709551616:=⟨_,rfl⟩
   obtain ⟨c1,hc1⟩ : ∃ a,a=((cH m (l.take (k + 1)) : Nat) : Int) / 18446744073709551616:=⟨_,rfl⟩
   obtain ⟨c2,hc2⟩ : ∃ a,a=((cH m (l.take (k + 1)) : Nat) : Int) % 18446744073709551616:=⟨_,rfl⟩
   rw [<- ha1,<- ha2,<- hbb1,<- hbb2,<- hc1,<- hc2] at ka
   rw [<- hbb1,<- hbb2] at kp
   rw [<- ha1,<- ha2]
   simp [g1]
   simp [ap hlr,ap hnk,ap (fa hin),ap (eA hin),w1]
   refine aa kt (.inl rfl) ?_
   simp
   refine aa kp (.inl rfl) ?_
   simp
   refine aa ka (.inl rfl) ?_
   simp
   refine ⟨ai (by decide +kernel),?_⟩
   exact ⟨k + 1,by omega,by omega,hw,hc1,hc2⟩
  ·have e : k=l.length:=by omega
   subst e
   rw [List.take_length]
   have kd:=qX hC (cH m l : Nat) 6000 (by omega) (by omega) (by omega)
   have ku:=DO hC (cH m l : Nat) 6000 (by omega) (by omega) (by omega)
   rw [show (cH m l : Int) / ((6000 : Nat) : Int)=((cH m l / 6000 : Nat) : Int) by omega] at kd
   rw [show -(-(cH m l : Int) / ((6000 : Nat) : Int))=(((cH m l + 5999) / 6000 : Nat) : Int) by omega] at ku
   obtain ⟨A,hA⟩ : ∃ A,A=cH m l / 6000:=⟨_,rfl⟩
   obtain ⟨B,hB⟩ : ∃ B,B=(cH m l + 5999) / 6000:=⟨_,rfl⟩
   have hAB : A <= B /\ B <= A + 1:=by omega
   have e3 : qb m l=if B <= 1125899906842624 then .tup [.agg [.int .i64 (A : Nat),.int .i64 (B : Nat)],.int .i64 0] else .tup [.agg [.int .i64 0,.int .i64 0],.int .i64 5]:=by unfold qb;rw [<- hA,<- hB]
   rw [e3]
   rw [<- hA] at kd
   rw [<- hB] at ku
   obtain ⟨u1,hu1,ki1⟩:=oR hC A (by omega)
   obtain ⟨u2,hu2,ki2⟩:=oR hC B (by omega)
   rw [oc,oc,oc] at kd ku
   rw [show ((6000 : Nat) : Int)=6000 from rfl] at kd ku
   rw [oc] at ki1 ki2
   obtain ⟨a1,ha1⟩ : ∃ a,a=((cH m l : Nat) : Int) / 18446744073709551616:=⟨_,rfl⟩
   obtain ⟨a2,ha2⟩ : ∃ a,a=((cH m l : Nat) : Int) % 18446744073709551616:=⟨_,rfl⟩
   obtain ⟨b1,hbb1⟩ : ∃ a,a=((A : Nat) : Int) / 18446744073709551616:=⟨_,rfl⟩
   obtain ⟨b2,hbb2⟩ : ∃ a,a=((A : Nat) : Int) % 18446744073709551616:=⟨_,rfl⟩
   obtain ⟨c1,hc1⟩ : ∃ a,a=((B : Nat) : Int) / 18446744073709551616:=⟨_,rfl⟩
   obtain ⟨c2,hc2⟩ : ∃ a,a=((B : Nat) : Int) % 18446744073709551616:=⟨_,rfl⟩
   rw [<- ha1,<- ha2] at kd ku
   rw [<- hbb1,<- hbb2] at kd ki1
   rw [<- hc1,<- hc2] at ku ki2
   rw [<- ha1,<- ha2]
   simp at kd ku
   simp
   refine aa ko6 (.inl rfl) ?_
   simp
   refine aa kd (.inl rfl) ?_
   simp
   refine aa ki1 (.inl rfl) ?_
   simp
   refine aa ku (.inl rfl) ?_
   simp
   refine aa ki2 (.inl rfl) ?_
   simp
   by_cases c1 : A < 9223372036854775808
   ·have f1:=hu1 c1
    subst f1
    by_cases c2 : B < 9223372036854775808
    ·have f2:=hu2 c2
     subst f2
     by_cases c3 : B <= 1125899906842624
     ·rw [if_pos c3]
      have n1 : ¬ (1125899906842624 : Int) < A:=by omega
      by_cases c4 : (A : Int)=1125899906842624
      ·have n2 : ¬ A < B:=by omega
       have n3 : ¬ (1125899906842624 : Int) < B:=by omega
       simp [c1,c2,c4]
       refine aj (fun h9=>absurd (of_decide_eq_true h9) n3) (fun h9=>?_)
       simp [c4]
      ·simp [c1,c2,n1,c4]
     ·rw [if_neg c3]
      by_cases c4 : (A : Int)=1125899906842624
      ·have n2 : A < B:=by omega
       have n3 : (1125899906842624 : Int) < B:=by omega
       simp [c1,c2,c4]
       refine aj (fun h9=>?_) (fun h9=>absurd n3 (of_decide_eq_false h9))
       simp
      ·have n1 : (1125899906842624 : Int) < A:=by omega
       simp [c1,c2,n1]
    ·rw [if_neg (by omega)]
     simp [c1,c2]
   ·rw [if_neg (by omega)]
    simp [c1]
 ·rw [if_neg hp]
  refine aq hC (nf:=N870) rfl rfl ?_
  simp [N870,ab,zSp]
  refine aa k1 (.inr rfl) ?_
  by_cases h0 : p < 0
  ·simp [hpl,h0]
  ·simp [hpl,h0,show ((bU m).length : Int) <= p by omega]
end
end Go.Gv
