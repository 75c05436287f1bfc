/-
  Texts of the proof: PF1, PF2, V1, V2, V3, V4, PF3, PF4, PF5, PT3, PT5, I3, I1, I2, I4, H13, H14, H15, I5, I6, L10, L11, J29, L12, L15, L16, L19, RF1, SF1, SF2, PT6, PL1, M3, M4, P3, Z1, Z2, Z3, Z4, Z5, Z6, PV1, RF2, LF1, SL1, PV2, PL2, SM0, SL2.
-/
import Derived.Test.YtelkdhkalifeiaaDoorX8
set_option linter.all false
namespace Go.Gv
structure RF where
 rc : List Bool
 lf : List Bool
 lv : List Int
 ou : List Int
def act (r : RF) (i : Nat) : Bool:=r.rc.getD i false && !r.lf.getD i false
def rat (r : RF) : Nat -> Int
 | 0=>-1
 | i + 1=>if act r i=true /\ (rat r i < 0 \/ r.lv.getD i 0 < r.lv.getD (rat r i).toNat 0) then (i : Int) else rat r i
theorem jX (r : RF) : ∀ i,(rat r i=-1 /\ ∀ b,b < i -> act r b=false) \/ ∃ a : Nat,rat r i=a /\ a < i /\ act r a=true /\ ∀ b,b < i -> act r b=true -> r.lv.getD a 0 < r.lv.getD b 0 \/ (r.lv.getD a 0=r.lv.getD b 0 /\ a <= b)
 | 0=>.inl ⟨rfl,fun b hb=>by omega⟩
 | i + 1=>by
  rcases jX r i with ⟨h1,h2⟩ | ⟨a,h1,h2,h3,h4⟩
  ·by_cases ha : act r i=true
   ·right
    refine ⟨i,by simp [rat,ha,h1],by omega,ha,fun b hb hab=>?_⟩
    by_cases e : b=i
    ·subst e;exact .inr ⟨rfl,Nat.le_refl _⟩
    ·rw [h2 b (by omega)] at hab;cases hab
   ·left
    refine ⟨by simp [rat,ha,h1],fun b hb=>?_⟩
    by_cases e : b=i
    ·subst e;simpa using ha
    ·exact h2 b (by omega)
  ·right
   by_cases hc : act r i=true /\ r.lv.getD i 0 < r.lv.getD a 0
   ·refine ⟨i,?_,by omega,hc.1,fun b hb hab=>?_⟩
    ·unfold rat
     rw [if_pos ⟨hc.1,.inr (by rw [h1];exact hc.2)⟩]
    ·by_cases e : b=i
     ·subst e;exact .inr ⟨rfl,Nat.le_refl _⟩
     ·rcases h4 b (by omega) hab with h5 | h5
      ·exact .inl (by omega)
      ·exact .inl (by omega)
   ·refine ⟨a,?_,by omega,h3,fun b hb hab=>?_⟩
    ·unfold rat
     rw [if_neg,h1]
     rintro ⟨k1,k2⟩
     rcases k2 with k2 | k2
     ·rw [h1] at k2;omega
     ·rw [h1] at k2;exact hc ⟨k1,k2⟩
    ·by_cases e : b=i
     ·subst e
      have : ¬ r.lv.getD b 0 < r.lv.getD a 0:=fun h=>hc ⟨hab,h⟩
      rcases Int.lt_or_eq_of_le (Int.not_lt.1 this) with h5 | h5
      ·exact .inl h5
      ·exact .inr ⟨h5,by omega⟩
     ·exact h4 b (by omega) hab
def gx (m : Msh) (i : Nat) (r : RF) (k : Int) : RF :=
 if 0 <= k /\ r.rc.getD k.toNat false=false then { r with rc:=r.rc.set k.toNat true,lv:=r.lv.set k.toNat (if r.lv.getD i 0 < (bJ m).getD k.toNat 0 then (bJ m).getD k.toNat 0 else r.lv.getD i 0),ou:=r.ou.set k.toNat i } else r
def rfI (m : Msh) (i : Nat) (r : RF) : Nat -> RF
 | 0=>r
 | j + 1=>gx m i (rfI m i r j) (nbF m i j)
def f7 (m : Msh) (r : RF) : RF :=
 if rat r m.f.length < 0 then r else rfI m (rat r m.f.length).toNat { r with lf:=r.lf.set (rat r m.f.length).toNat true } 3
def rf0 (m : Msh) : Nat -> List Bool × List Int
 | 0=>(List.replicate m.f.length false,List.replicate m.f.length 0)
 | i + 1=>if bsd m i (-1) then ((rf0 m i).1.set i true,(rf0 m i).2.set i ((bJ m).getD i 0)) else rf0 m i
def fa (m : Msh) : RF:={ rc:=(rf0 m m.f.length).1,lf:=List.replicate m.f.length false,lv:=(rf0 m m.f.length).2,ou:=List.replicate m.f.length (-1) }
structure gK (m : Msh) (s : Fl) (r : RF) : Prop where
 rc : s.rc=r.rc
 ou : s.ou=r.ou
 heap : iy s.sp s.q s.q.length
 cnt : ∀ a,s.q.count a=if act r a then 1 else 0
 lv : ∀ a,r.rc.getD a false=true -> s.sp.getD a 0=r.lv.getD a 0
 un : ∀ a,r.rc.getD a false=false -> s.sp.getD a 0=(bJ m).getD a 0
 lf : ∀ a,r.lf.getD a false=true -> r.rc.getD a false=true
 len : r.lf.length=m.f.length /\ r.lv.length=m.f.length
theorem bY {α : Type} {l : List α} {i j : Nat} {x d : α} (h : i < l.length) : (l.set i x).getD j d=if j=i then x else l.getD j d:=by
 simp only [List.getD_eq_getElem?_getD,List.getElem?_set]
 by_cases e : i=j
 ·subst e;simp [h]
 ·rw [if_neg e,if_neg (Ne.symm e)]
theorem pD {sp sp' : List Int} {q : List Nat} (h : iy sp q q.length) (he : ∀ a ∈ q,sp'.getD a 0=sp.getD a 0) : iy sp' q q.length:=by
 intro i h0 hi
 have:=h i h0 hi
 rw [eO] at this ⊢
 rw [he _ (fz hi),he _ (fz (show (i - 1) / 2 < q.length by omega))]
 exact this
theorem gK.p1 {m : Msh} {s : Fl} {r : RF} {i : Nat} {k : Int} (h : gK m s r) (W : FlW m s) (hi : r.rc.getD i false=true) (hk : -1 <= k /\ k < m.f.length) : gK m (nh m i s k) (gx m i r k):=by
 unfold nh gx
 by_cases h1 : k=-1
 ·rw [if_pos (.inl h1),if_neg (by omega)]
  exact h
 ·cases h2 : r.rc.getD k.toNat false
  ·rw [if_neg (by rw [h.rc,h2];simp;exact h1),if_pos ⟨by omega,rfl⟩]
   have hkl : k.toNat < m.f.length:=by omega
   have hrl : r.rc.length=m.f.length:=by rw [<- h.rc];exact W.rc
   have hsp:=W.sp
   have hrcs:=fun j=>bY (l:=r.rc) (i:=k.toNat) (j:=j) (x:=true) (d:=false) (by omega)
   have hsps:=fun j x=>bY (l:=s.sp) (i:=k.toNat) (j:=j) (x:=x) (d:=(0 : Int)) (by omega)
   have hlvs:=fun j x=>bY (l:=r.lv) (i:=k.toNat) (j:=j) (x:=x) (d:=(0 : Int)) (by rw [h.len.2];omega)
   have hv : mxZ (s.sp.getD i 0) ((bJ m).getD k.toNat 0)=(if r.lv.getD i 0 < (bJ m).getD k.toNat 0 then (bJ m).getD k.toNat 0 else r.lv.getD i 0):=by rw [h.lv i hi];rfl
   have hnq : k.toNat ∉ s.q:=by
    intro hm
    have h3:=h.cnt k.toNat
    have h4:=List.count_pos_iff.2 hm
    simp only [act,h2,Bool.false_and] at h3
    simp at h3
    omega
   obtain ⟨p1,p2,p3⟩:=kR (sp:=s.sp.set k.toNat (mxZ (s.sp.getD i 0) ((bJ m).getD k.toNat 0))) (fs:=s.q) (x:=k.toNat) (pD h.heap (fun a ha=>by
    rw [hsps,if_neg]
    rintro rfl
    exact hnq ha))
   have hlfk : r.lf.getD k.toNat false=false:=by
    cases e : r.lf.getD k.toNat false
    ·rfl
    ·have:=h.lf _ e;rw [h2] at this;cases this
   refine ⟨by simp [h.rc],by simp [h.ou],p1,fun a=>?_,fun a ha=>?_,fun a ha=>?_,fun a ha=>?_,by simp [h.len]⟩
   ·simp only [p2,h.cnt a,act,hrcs]
    by_cases e : a=k.toNat
    ·subst e
     simp only [if_pos,h2,hlfk]
     simp
    ·simp only [if_neg e]
     simp
   ·simp only [hrcs] at ha
    simp only [hsps,hlvs]
    by_cases e : a=k.toNat
    ·rw [if_pos e,if_pos e];exact hv
    ·rw [if_neg e] at ha
     rw [if_neg e,if_neg e]
     exact h.lv a ha
   ·simp only [hrcs] at ha
    simp only [hsps]
    by_cases e : a=k.toNat
    ·rw [if_pos e] at ha;cases ha
    ·rw [if_neg e] at ha
     rw [if_neg e]
     exact h.un a ha
   ·simp only [hrcs]
    split
    ·rfl
    ·exact h.lf a ha
  ·rw [if_pos (.inr (by rw [h.rc];exact h2)),if_neg (by simp)]
   exact h
theorem oS {m : Msh} {i a : Nat} {r : RF} {k : Int} (h : r.rc.getD a false=true) : (gx m i r k).rc.getD a false=true:=by
 unfold gx
 split
 ·by_cases e : k.toNat < r.rc.length
  ·rw [bY e]
   split
   ·rfl
   ·exact h
  ·rw [List.set_eq_of_length_le (by omega)]
   exact h
 ·exact h
theorem gK.stepI {m : Msh} {s : Fl} {r : RF} {i : Nat} (h : gK m s r) (W : FlW m s) (hi : r.rc.getD i false=true) : ∀ j,gK m (flJ m i s j) (rfI m i r j) /\ (rfI m i r j).rc.getD i false=true
 | 0=>⟨h,hi⟩
 | j + 1=>by
  obtain ⟨h1,h2⟩:=gK.stepI h W hi j
  exact ⟨h1.p1 (rW W j).1 h2 (dw m i j),oS h2⟩
theorem gK.step {m : Msh} {s : Fl} {r : RF} (h : gK m s r) (W : FlW m s) : gK m (d9 m s) (f7 m r) /\ (s.q.length=0 ↔ rat r m.f.length < 0):=by
 have hact : ∀ a,a ∈ s.q ↔ act r a=true:=fun a=>by
  rw [<- List.count_pos_iff,h.cnt]
  split <;> simp_all
 rcases jX r m.f.length with ⟨h1,h2⟩ | ⟨a,h1,h2,h3,h4⟩
 ·have h0 : s.q.length=0:=by
   rcases Nat.eq_zero_or_pos s.q.length with e | e
   ·exact e
   ·have h5:=fz (fs:=s.q) (i:=0) e
    have h6:=h2 _ (W.q _ h5)
    rw [(hact _).1 h5] at h6
    cases h6
  unfold d9 f7
  rw [if_pos h0,if_pos (by omega)]
  exact ⟨h,by rw [h1];exact ⟨fun _=>by omega,fun _=>h0⟩⟩
 ·have hq : a ∈ s.q:=(hact a).2 h3
  have h0 : 0 < s.q.length:=List.length_pos_of_mem hq
  obtain ⟨p1,p2,p3,p4⟩:=vV h.heap h0
  have hfa : fAt s.q 0=a:=by
   have h5:=fz (fs:=s.q) (i:=0) h0
   have h6:=(hact _).1 h5
   have h7:=h4 _ (W.q _ h5) h6
   obtain ⟨x,hx,hxa⟩:=List.mem_iff_getElem.1 hq
   have h8:=th h.heap x hx
   rw [df hx,hxa,eO] at h8
   have hra : r.rc.getD a false=true:=by simp only [act,Bool.and_eq_true] at h3;exact h3.1
   have hr0 : r.rc.getD (fAt s.q 0) false=true:=by simp only [act,Bool.and_eq_true] at h6;exact h6.1
   rw [h.lv a hra,h.lv _ hr0] at h8
   omega
  have hral : r.rc.getD a false=true:=by simp only [act,Bool.and_eq_true] at h3;exact h3.1
  have hlfs:=fun j=>bY (l:=r.lf) (i:=a) (j:=j) (x:=true) (d:=false) (by rw [h.len.1];exact h2)
  have hmid : gK m { s with q:=(ib s.sp s.q).take (s.q.length - 1) } { r with lf:=r.lf.set a true }:=by
   refine ⟨h.rc,h.ou,p3,fun b=>?_,h.lv,h.un,fun b hb=>?_,by simp [h.len]⟩
   ·have h5:=p4 b
    have h6:=h.cnt b
    have h7 : (ib s.sp s.q)=(bD s.sp (swp s.q 0 (s.q.length - 1)) 0 (s.q.length - 1)).1:=rfl
    rw [h7]
    rw [hfa] at h5
    simp only [act,hlfs]
    by_cases e : b=a
    ·subst e
     rw [if_pos rfl] at h5
     rw [if_pos h3] at h6
     simp
     omega
    ·rw [if_neg e] at h5
     rw [if_neg e]
     simp only [act] at h6
     refine Eq.trans ?_ h6
     omega
   ·simp only [hlfs] at hb
    split at hb
    ·rename_i e;rw [e];exact hral
    ·exact h.lf b hb
  obtain ⟨W1,_,_⟩:=vU W h0
  have hpa : fAt (ib s.sp s.q) (s.q.length - 1)=a:=p1.trans hfa
  refine ⟨?_,by omega⟩
  unfold d9 f7
  rw [if_neg (by omega),if_neg (by omega),h1,hpa]
  exact (hmid.stepI W1 hral 3).1
end Go.Gv

namespace Go.Gv
theorem oP (m : Msh) : ∀ i,(rf0 m i).1=(fl0 m i).2
 | 0=>rfl
 | i + 1=>by
  unfold rf0 fl0
  split
  ·simp only [oP m i]
  ·exact oP m i
theorem fU (m : Msh) : ∀ i,(rf0 m i).1.length=m.f.length /\ (rf0 m i).2.length=m.f.length
 | 0=>by simp [rf0]
 | i + 1=>by
  obtain ⟨h1,h2⟩:=fU m i
  unfold rf0
  split
  ·simp [h1,h2]
  ·exact ⟨h1,h2⟩
theorem jH (m : Msh) : ∀ i,iy (bJ m) (fl0 m i).1 (fl0 m i).1.length
 | 0=>by intro i h0 hi;simp [fl0] at hi
 | i + 1=>by
  unfold fl0
  split
  ·exact (kR (jH m i)).1
  ·exact jH m i
theorem rU (m : Msh) : ∀ i,i <= m.f.length -> ∀ a,(fl0 m i).1.count a=if (fl0 m i).2.getD a false=true then 1 else 0
 | 0,_,a=>by
  rw [nF m 0 a (by omega)]
  simp [fl0]
 | i + 1,h,a=>by
  have ih:=rU m i (by omega) a
  have hl:=(jI m i).1
  unfold fl0
  split
  ·simp only [(kR (jH m i)).2.1,ih]
   rw [bY (by omega)]
   by_cases e : a=i
   ·subst e
    rw [nF m a a (Nat.le_refl _)]
    simp
   ·simp only [if_neg e]
    simp
  ·exact ih
theorem oO (m : Msh) : ∀ i,i <= m.f.length -> ∀ a,(rf0 m i).1.getD a false=true -> (rf0 m i).2.getD a 0=(bJ m).getD a 0
 | 0,_,a,h=>by
  have:=nF m 0 a (by omega)
  simp only [fl0] at this
  simp only [rf0] at h
  rw [this] at h;cases h
 | i + 1,hi,a,h=>by
  obtain ⟨h1,h2⟩:=fU m i
  unfold rf0 at h ⊢
  split at h
  ·rename_i hb
   simp only [hb,if_true] at h ⊢
   rw [bY (by omega)] at h ⊢
   by_cases e : a=i
   ·rw [if_pos e,e]
   ·rw [if_neg e] at h ⊢
    exact oO m i (by omega) a h
  ·rename_i hb
   simp only [hb] at h ⊢
   exact oO m i (by omega) a h
theorem gK.init (m : Msh) : gK m (dR m) (fa m):=by
 have hf : ∀ a,(List.replicate m.f.length false).getD a false=false:=fun a=>by
  simp [List.getElem?_replicate]
  split <;> rfl
 refine ⟨(oP m _).symm,rfl,jH m _,fun a=>?_,fun a ha=>?_,fun a _=>rfl,fun a ha=>?_,?_⟩
 ·have:=rU m m.f.length (Nat.le_refl _) a
  simp only [dR,act,fa,hf,oP]
  simpa using this
 ·exact (oO m _ (Nat.le_refl _) a ha).symm
 ·simp only [fa] at ha
  rw [hf] at ha;cases ha
 ·simp [fa,(fU m _).2]
def rfN (m : Msh) : Nat -> RF -> RF
 | 0,r=>r
 | k + 1,r=>rfN m k (f7 m r)
def co (m : Msh) : RF:=rfN m (3 * m.f.length) (fa m)
theorem gK.run {m : Msh} : ∀ (k : Nat) {s : Fl} {r : RF},gK m s r -> FlW m s -> gK m (flN m k s) (rfN m k r)
 | 0,_,_,h,_=>h
 | k + 1,_,_,h,W=>gK.run k (h.step W).1 (gi W).1
theorem px {m : Msh} : ∀ (k : Nat) {s : Fl},FlW m s -> flM (flN m k s) + k <= flM s \/ (flN m k s).q.length=0
 | 0,s,_=>.inl (Nat.le_refl _)
 | k + 1,s,W=>by
  simp only [flN]
  by_cases h0 : s.q.length=0
  ·right
   have : d9 m s=s:=by unfold d9;rw [if_pos h0]
   rw [this,ma m h0];exact h0
  ·obtain ⟨W1,h1⟩:=gi W
   have h2:=h1 (by omega)
   rcases px k W1 with h3 | h3
   ·left;omega
   ·exact .inr h3
theorem qH (m : Msh) : (aX m).q.length=0:=by
 obtain ⟨W,h⟩:=jJ m
 rcases px (3 * m.f.length) W with h1 | h1
 ·have h2 : flM (aX m) + 3 * m.f.length <= flM (dR m):=h1
  have h3 : (aX m).q.length <= flM (aX m):=by unfold flM;omega
  omega
 ·exact h1
theorem nG (m : Msh) : gK m (aX m) (co m):=(gK.init m).run _ (jJ m).1
theorem iR (m : Msh) : FlW m (aX m):=Ao _ (jJ m).1
theorem lD (m : Msh) (a : Nat) (h : (co m).rc.getD a false=true) : (co m).lf.getD a false=true:=by
 have h1:=(nG m).cnt a
 have h2 : (aX m).q=[]:=List.eq_nil_of_length_eq_zero (qH m)
 rw [h2] at h1
 simp only [List.count_nil,act,h,Bool.true_and] at h1
 cases e : (co m).lf.getD a false
 ·rw [e] at h1;simp at h1
 ·rfl
theorem vc (m : Msh) (hall : ∀ a,a < m.f.length -> (co m).rc.getD a false=true) : (aX m).sp=(co m).lv /\ (aX m).ou=(co m).ou:=by
 have h:=nG m
 have W:=iR m
 refine ⟨List.ext_getElem (by rw [W.sp,h.len.2]) fun i h1 h2=>?_,h.ou⟩
 have:=h.lv i (hall i (by rw [<- W.sp];exact h1))
 simpa [h1,h2] using this
end Go.Gv

namespace Go.Gv
open Go.Lib
def wiS (v : Int) : D:=.agg [.int .i64 (v / 1152921504606846976),.int .i64 (v % 1152921504606846976)]
theorem lT (p : Nat) : wiS p=wiD p:=by simp [wiS,wiD]
variable {C : CC} (hC : aB prog C)
include hC
theorem qn (n : Nat) (h0 : 0 < n) (h : n < 9223372036854775808) : C 112 [.int .i64 (-(n : Int))] (.int .u64 (n : Int)) []:=by
 have e1 : IntKind.u64.wrap (-(n : Int))=((18446744073709551616 - n : Nat) : Int):=uw (by omega) (by omega)
 have e2 : IntKind.u64.wrap (-((18446744073709551616 - n : Nat) : Int))=(n : Int):=uw (by omega) (by omega)
 have h1 : (-(n : Int)) < 0:=by omega
 refine aF hC (nf:=N112) rfl rfl ?_
 obtain ⟨z,hz⟩ : ∃ z,z=-(n : Int):=⟨_,rfl⟩
 obtain ⟨y,hy⟩ : ∃ y,y=((18446744073709551616 - n : Nat) : Int):=⟨_,rfl⟩
 rw [<- hz] at e1 h1 ⊢
 rw [<- hy] at e1 e2
 simp [N112,h1,e1,e2]
theorem nT (p : Nat) (h0 : 0 < p) (h : p < 1329227995784915872903807060280344576) : C 105 [f5 p true] (.tup [wiS (-(p : Int)),.int .i64 0]) []:=by
 obtain ⟨ph,hph⟩ : ∃ z,z=p / 1152921504606846976:=⟨_,rfl⟩
 obtain ⟨pl,hpl⟩ : ∃ z,z=p % 1152921504606846976:=⟨_,rfl⟩
 obtain ⟨zh,hzh⟩ : ∃ z,z=p / 18446744073709551616:=⟨_,rfl⟩
 obtain ⟨zl,hzl⟩ : ∃ z,z=p % 18446744073709551616:=⟨_,rfl⟩
 obtain ⟨qh,hqh⟩ : ∃ z,z=(-(p : Int)) / 1152921504606846976:=⟨_,rfl⟩
 obtain ⟨ql,hql⟩ : ∃ z,z=(-(p : Int)) % 1152921504606846976:=⟨_,rfl⟩
 rw [wiS,f5,<- hzh,<- hzl,<- hqh,<- hql]
 obtain ⟨zt,hzt⟩ : ∃ z,z=zl / 1152921504606846976:=⟨_,rfl⟩
 have h1 : ¬ (72057594037927936 : Int) < zh:=by omega
 have h2 : ¬ (zh : Int)=72057594037927936:=by omega
 have e1:=LV zh (zh * 16) (by omega)
 have e2:=A1 zl
 rw [<- hzt] at e2
 have e3:=LD zh zt (by omega) (by omega)
 have e4 : IntKind.i64.wrap ((zh * 16 + zt : Nat) : Int)=(ph : Int):=ai (by omega) (by omega)
 have e5:=vA zl (by omega)
 have e6 : IntKind.i64.wrap ((zl % 1152921504606846976 : Nat) : Int)=(pl : Int):=ai (by omega) (by omega)
 have e7 : IntKind.i64.wrap (-(ph : Int))=-(ph : Int):=ai rfl (by omega)
 have e8 : IntKind.i64.wrap (-(ph : Int) - 1)=-(ph : Int) - 1:=ai rfl (by omega)
 have e9 : IntKind.i64.wrap (1152921504606846976 - (pl : Int))=1152921504606846976 - (pl : Int):=ai rfl (by omega)
 refine aF hC (nf:=N105) rfl rfl ?_
 simp [N105,h1,h2,e2,-Int.natCast_mul,-Int.natCast_emod]
 refine ⟨aC (by decide +kernel),?_⟩
 rw [e1,e3,e4,e5,e6]
 simp
 refine al (fun c1=>?_) (fun c1=>?_) <;> simp at c1
 ·simp [c1,e7]
  omega
 ·simp [c1,e7,e8,e9]
  omega
theorem lb (v : Int) (h : -1329227995784915872903807060280344576 <= v /\ v < 1329227995784915872903807060280344576) : C 106 [wiS v] (.bool true) []:=by
 obtain ⟨ph,hph⟩ : ∃ z,z=v / 1152921504606846976:=⟨_,rfl⟩
 obtain ⟨pl,hpl⟩ : ∃ z,z=v % 1152921504606846976:=⟨_,rfl⟩
 rw [wiS,<- hph,<- hpl]
 have h1 : (-1152921504606846976 : Int) <= ph:=by omega
 have h2 : ph < 1152921504606846976:=by omega
 have h3 : 0 <= pl:=by omega
 have h4 : pl < 1152921504606846976:=by omega
 refine aF hC (nf:=N106) rfl rfl ?_
 simp [N106,h1,h2,h3,h4]
end Go.Gv

namespace Go.Gv
variable {C : CC} (hC : aB prog C)
include hC
theorem tY (x y : Nat) (hx0 : 0 < x) (hx : x < 9223372036854775808) (hy : y < 9223372036854775808) : C 103 [.int .i64 (-(x : Int)),.int .i64 y] (f5 (x * y) (decide (x * y ≠ 0))) []:=by
 have h0 : (-(x : Int)) < 0:=by omega
 have h1 : ¬ (y : Int) < 0:=by omega
 have hm:=n7 hC x y (by omega) (by omega)
 have k1:=qn hC x hx0 hx
 have k2:=ki hC y hy
 rw [f5]
 obtain ⟨Z,hZ⟩ : ∃ Z,Z=x * y:=⟨_,rfl⟩
 rw [<- hZ] at hm ⊢
 obtain ⟨zh,hzh⟩ : ∃ zh,zh=Z / 18446744073709551616:=⟨_,rfl⟩
 obtain ⟨zl,hzl⟩ : ∃ zl,zl=Z % 18446744073709551616:=⟨_,rfl⟩
 have k3:=iL hC zh zl true
 rw [show (true && (!decide ((zh : Int)=0) || !decide ((zl : Int)=0)))=decide (Z ≠ 0) by
  rw [Bool.eq_iff_iff];simp;omega] at k3
 rw [<- hzh,<- hzl] at hm ⊢
 obtain ⟨z,hz⟩ : ∃ z,z=-(x : Int):=⟨_,rfl⟩
 rw [<- hz] at k1 h0 ⊢
 obtain ⟨b,hb⟩ : ∃ b,b=decide (Z ≠ 0):=⟨_,rfl⟩
 rw [<- hb] at k3 ⊢
 refine aF hC (nf:=N103) rfl rfl ?_
 simp [N103]
 refine ab k1 (.inl rfl) ?_
 simp
 refine ab k2 (.inl rfl) ?_
 simp
 refine ab hm (.inl rfl) ?_
 simp [h0,h1]
 refine ab k3 (.inl rfl) ?_
 simp
theorem qq (x : Int) (y : Nat) (hx : -9223372036854775808 < x /\ x < 9223372036854775808) (hy : y < 9223372036854775808) (h : x.natAbs * y < 1329227995784915872903807060280344576) : C 99 [.int .i64 x,.int .i64 y] (.tup [wiS (x * y),.int .i64 0]) []:=by
 by_cases h0 : x < 0
 ·obtain ⟨n,rfl⟩ : ∃ n : Nat,x=-(n : Int):=⟨x.natAbs,by omega⟩
  rw [Int.natAbs_neg,Int.natAbs_natCast] at h
  have k1:=tY hC n y (by omega) (by omega) hy
  have e : -(n : Int) * (y : Int)=-((n * y : Nat) : Int):=by rw [Int.neg_mul,Int.natCast_mul]
  rw [e]
  obtain ⟨Z,hZ⟩ : ∃ Z,Z=n * y:=⟨_,rfl⟩
  rw [<- hZ] at k1 h ⊢
  have k2 : C 105 [f5 Z (decide (Z ≠ 0))] (.tup [wiS (-(Z : Int)),.int .i64 0]) []:=by
   by_cases z0 : Z=0
   ·subst z0
    have:=mH hC 0 (by omega)
    rw [<- lT] at this
    simpa using this
   ·rw [decide_eq_true z0]
    exact nT hC Z (by omega) h
  obtain ⟨c1,c2,e3⟩ : ∃ a b : Int,wiS (-(Z : Int))=.agg [.int .i64 a,.int .i64 b]:=⟨_,_,rfl⟩
  obtain ⟨i1,i2,i3,e7⟩ : ∃ a b c,f5 Z (decide (Z ≠ 0))=.agg [.int .u64 a,.int .u64 b,.bool c]:=⟨_,_,_,rfl⟩
  rw [e7] at k1 k2
  rw [e3] at k2 ⊢
  obtain ⟨z,hz⟩ : ∃ z,z=-(n : Int):=⟨_,rfl⟩
  rw [<- hz] at k1 ⊢
  refine aF hC (nf:=N99) rfl rfl ?_
  simp [N99]
  refine ab k1 (.inl rfl) ?_
  simp
  refine ab k2 (.inr rfl) ?_
  simp
 ·obtain ⟨n,rfl⟩ : ∃ n : Nat,x=(n : Int):=⟨x.natAbs,by omega⟩
  rw [Int.natAbs_natCast] at h
  have k:=km hC n y (by omega) hy h
  rw [<- lT] at k
  simpa using k
end Go.Gv

namespace Go.Gv
def slE (m : Msh) (a b : Int) : Int:=if ar m=false then 1 else if f4 m.f.length a=false \/ f4 m.f.length b=false then 2 else if bsd m a.toNat b=false then 25 else 0
def stE (m : Msh) (i a b : Int) : Int:=if ar m=false then 1 else if f4 m.f.length i=false \/ f4 m.f.length a=false \/ f4 m.f.length b=false then 2 else if bsd m i.toNat a=false \/ bsd m i.toNat b=false then 25 else 0
variable {C : CC} (hC : aB prog C)
include hC
end Go.Gv

namespace Go.Gv
theorem xY {α : Type} {p : α -> Bool} {xs : List α} {i : Nat} (h : hJ p xs=(i : Int)) : ∃ h : i < xs.length,p xs[i]=true:=by
 unfold hJ at h
 cases e : xs.findIdx? p with
 | none=>rw [e] at h;simp at h
 | some k =>
  rw [e] at h
  have h : k=i:=by have h : (k : Int)=(i : Int):=h;omega
  subst h
  rw [List.findIdx?_eq_some_iff_getElem] at e
  exact ⟨e.1,e.2.1⟩
theorem sk {m : Msh} {i k : Nat} (h : 0 <= nbF m i k) : ∃ c,c < 3 /\ crn (fce m (nbF m i k).toNat) c=crn (fce m i) (k + 1) /\ crn (fce m (nbF m i k).toNat) (c + 1)=crn (fce m i) k:=by
 have e : nbF m i k=((nbF m i k).toNat : Int):=by omega
 have h2 : hJ (fun f=>cr f (crn (fce m i) (k + 1)) (crn (fce m i) k)) m.f=((nbF m i k).toNat : Int):=e
 obtain ⟨h3,h4⟩:=xY h2
 rw [nD] at h4
 simp only [cr,List.any_eq_true,List.mem_range,Bool.and_eq_true,decide_eq_true_eq] at h4
 exact h4
def cpt (m : Msh) (f : Fce) (k : Nat) : Pnt:=ptS (spt m (crn f k).toNat)
end Go.Gv

namespace Go.Gv
theorem oH {m : Msh} (hv : ar m=true) {i k : Nat} (hi : i < m.f.length) (hk : k < 3) (h : 0 <= nbF m i k) : ∃ c,c < 3 /\ nbF m (nbF m i k).toNat c=i:=by
 obtain ⟨c,hc,c1,c2⟩:=sk h
 refine ⟨c,hc,?_⟩
 unfold nbF at c1 c2 ⊢
 rw [c1,c2]
 have hs : cr (fce m i) (crn (fce m i) k) (crn (fce m i) (k + 1))=true:=by
  simp only [cr,List.any_eq_true,List.mem_range,Bool.and_eq_true,decide_eq_true_eq]
  exact ⟨k,hk,rfl,rfl⟩
 refine gn (fun j hj hji=>?_) hi (by rw [nD];exact hs)
 rw [nD]
 cases e : cr (fce m j) (crn (fce m i) k) (crn (fce m i) (k + 1))
 ·rfl
 ·have:=kF hv hj hi e hs
  omega
def crs (a b : Pnt) : Int:=a.1 * b.2 - a.2 * b.1
theorem xy (a b : Pnt) : crs b a=-crs a b:=by
 unfold crs
 rw [Int.mul_comm b.1,Int.mul_comm b.2]
 omega
theorem wJ (a b c : Pnt) : d5 a b c=crs a b + crs b c + crs c a:=by
 obtain ⟨a1,a2⟩:=a
 obtain ⟨b1,b2⟩:=b
 obtain ⟨c1,c2⟩:=c
 simp only [d5,crs,Int.sub_mul,Int.mul_sub]
 have e1:=Int.mul_comm a1 a2
 have e2:=Int.mul_comm b2 a1
 have e5:=Int.mul_comm a2 b1
 have e3:=Int.mul_comm c1 a2
 have e4:=Int.mul_comm c2 a1
 omega
def gE (m : Msh) (e : Int × Int) : Int:=crs (ptS (spt m e.1.toNat)) (ptS (spt m e.2.toNat))
theorem tB {l l' : List Int} (h : l.Perm l') : l.sum=l'.sum:=by
 induction h with
 | nil=>rfl
 | cons x _ ih=>simp [ih]
 | swap x y l=>simp;omega
 | trans _ _ ih1 ih2=>exact ih1.trans ih2
theorem uz (m : Msh) : ∀ (n : Nat) (E : List (Int × Int)),E.length <= n -> E.Nodup -> (∀ e ∈ E,e.1 ≠ e.2) -> (∀ e ∈ E,(e.2,e.1) ∈ E) -> (E.map (gE m)).sum=0
 | _,[],_,_,_,_=>rfl
 | 0,e::T,h,_,_,_=>by simp at h
 | n + 1,e::T,h,hn,hd,hs=>by
  have hne : (e.2,e.1) ≠ e:=fun he=>hd e (by simp) (by rw [<- he];simp at he ⊢;have:=congrArg Prod.fst he;have:=congrArg Prod.snd he;simp_all)
  have hmem : (e.2,e.1) ∈ T:=by
   rcases List.mem_cons.1 (hs e (by simp)) with h1 | h1
   ·exact absurd h1 hne
   ·exact h1
  rw [List.nodup_cons] at hn
  have hp:=List.perm_cons_erase hmem
  have h1:=tB (hp.map (gE m))
  have hel : (T.erase (e.2,e.1)).length + 1=T.length:=by
   have:=hp.length_eq
   simpa using this.symm
  have h2:=uz m n (T.erase (e.2,e.1)) (by simp at h;omega) (hn.2.erase _) (fun x hx=>hd x (List.mem_cons_of_mem _ (List.mem_of_mem_erase hx))) (fun x hx=>by
   rw [hn.2.mem_erase_iff] at hx ⊢
   have h3:=hs x (List.mem_cons_of_mem _ hx.2)
   refine ⟨fun h4=>?_,?_⟩
   ·have : x=e:=by
     have a1:=congrArg Prod.fst h4
     have a2:=congrArg Prod.snd h4
     simp at a1 a2
     exact Prod.ext a2 a1
    exact hn.1 (this ▸ hx.2)
   ·rcases List.mem_cons.1 h3 with h4 | h4
    ·exfalso
     refine hx.1 ?_
     rw [<- h4]
    ·exact h4)
  have h3 : gE m (e.2,e.1)=-gE m e:=xy _ _
  simp only [List.map_cons,List.sum_cons] at h1 ⊢
  omega
def sdE (m : Msh) (i : Nat) : List (Int × Int):=[(crn (fce m i) 0,crn (fce m i) 1),(crn (fce m i) 1,crn (fce m i) 2),(crn (fce m i) 2,crn (fce m i) 3)]
theorem lQ {m : Msh} {i : Nat} {e : Int × Int} : e ∈ sdE m i ↔ cr (fce m i) e.1 e.2=true:=by
 simp only [sdE,List.mem_cons,List.not_mem_nil,or_false,cr,List.any_eq_true,List.mem_range,Bool.and_eq_true,decide_eq_true_eq]
 constructor
 ·rintro (rfl | rfl | rfl)
  ·exact ⟨0,by omega,rfl,rfl⟩
  ·exact ⟨1,by omega,rfl,rfl⟩
  ·exact ⟨2,by omega,rfl,rfl⟩
 ·rintro ⟨c,hc,c1,c2⟩
  rcases (by omega : c=0 \/ c=1 \/ c=2) with rfl | rfl | rfl
  ·exact .inl (Prod.ext c1.symm c2.symm)
  ·exact .inr (.inl (Prod.ext c1.symm c2.symm))
  ·exact .inr (.inr (Prod.ext c1.symm c2.symm))
theorem pA {α β : Type} (F : α -> List β) (g : β -> Int) : ∀ l : List α,((l.flatMap F).map g).sum=(l.map fun x=>((F x).map g).sum).sum
 | []=>rfl
 | x::l=>by simp [pA F g l]
theorem sG {α : Type} (g : α -> Int) : ∀ l : List α,(∀ x ∈ l,0 < g x) -> l ≠ [] -> 0 < (l.map g).sum
 | [],_,h=>absurd rfl h
 | [x],h,_=>by have:=h x (by simp);simpa using this
 | x::y::l,h,_=>by
  have h1:=h x (by simp)
  have h2:=sG g (y::l) (fun z hz=>h z (by simp [hz])) (by simp)
  simp only [List.map_cons,List.sum_cons] at h2 ⊢
  omega
theorem tu {m : Msh} (hv : ar m=true) (u : Nat -> Bool) (hcl : ∀ i k,i < m.f.length -> k < 3 -> u i=true -> 0 <= nbF m i k /\ u (nbF m i k).toNat=true) : ∀ i,i < m.f.length -> u i=false:=by
 intro i hi
 cases hu : u i
 ·rfl
 exfalso
 obtain ⟨U,hU⟩ : ∃ U,U=(List.range m.f.length).filter u:=⟨_,rfl⟩
 have hmU : ∀ x,x ∈ U ↔ x < m.f.length /\ u x=true:=fun x=>by rw [hU,List.mem_filter,List.mem_range]
 have hnU : U.Pairwise (· ≠ ·):=by rw [hU];exact List.Pairwise.filter _ List.nodup_range
 have hcor : ∀ x,x < m.f.length -> (fce m x).a ≠ (fce m x).b /\ (fce m x).b ≠ (fce m x).c /\ (fce m x).c ≠ (fce m x).a:=fun x hx=>by
  have:=(gV hv hx).1
  simp only [okF,okc,Bool.and_eq_true,decide_eq_true_eq] at this
  exact ⟨this.1.1.1.1.1.2,this.1.1.1.2.1.2,this.1.1.2.1.2⟩
 have hE:=uz m _ (U.flatMap (sdE m)) (Nat.le_refl _) (by
  rw [List.Nodup,List.pairwise_flatMap]
  refine ⟨fun x hx=>?_,hnU.imp_of_mem fun {x y} hx hy hxy e he e' he' h=>?_⟩
  ·obtain ⟨k1,k2,k3⟩:=hcor x ((hmU x).1 hx).1
   simp only [sdE,crn,List.pairwise_cons,List.mem_cons,List.not_mem_nil,or_false,forall_eq_or_imp,forall_eq,List.Pairwise.nil,and_true,ne_eq,Prod.mk.injEq,not_and,false_imp_iff,implies_true]
   exact ⟨⟨fun h=>absurd h k1,fun h=>absurd h.symm k3⟩,fun h=>absurd h k2⟩
  ·subst h
   exact hxy (kF hv ((hmU x).1 hx).1 ((hmU y).1 hy).1 (lQ.1 he) (lQ.1 he'))) (fun e he=>by
  obtain ⟨x,hx,hex⟩:=List.mem_flatMap.1 he
  obtain ⟨k1,k2,k3⟩:=hcor x ((hmU x).1 hx).1
  simp only [sdE,crn,List.mem_cons,List.not_mem_nil,or_false] at hex
  rcases hex with rfl | rfl | rfl
  ·exact k1
  ·exact k2
  ·exact k3) (fun e he=>by
  obtain ⟨x,hx,hex⟩:=List.mem_flatMap.1 he
  have hxl:=(hmU x).1 hx
  have hh:=lQ.1 hex
  simp only [cr,List.any_eq_true,List.mem_range,Bool.and_eq_true,decide_eq_true_eq] at hh
  obtain ⟨k,hk,k1,k2⟩:=hh
  obtain ⟨h1,h2⟩:=hcl x k hxl.1 hk hxl.2
  obtain ⟨c,hc,c1,c2⟩:=sk h1
  have hb:=dw m x k
  refine List.mem_flatMap.2 ⟨(nbF m x k).toNat,(hmU _).2 ⟨by omega,h2⟩,lQ.2 ?_⟩
  simp only [cr,List.any_eq_true,List.mem_range,Bool.and_eq_true,decide_eq_true_eq]
  exact ⟨c,hc,by rw [c1,k2],by rw [c2,k1]⟩)
 rw [pA] at hE
 have hpos:=sG (fun x=>((sdE m x).map (gE m)).sum) U (fun x hx=>by
  have:=(gV hv ((hmU x).1 hx).1).2
  have e : lF (a8 m (fce m x))=((sdE m x).map (gE m)).sum:=by
   unfold lF
   rw [wJ]
   simp only [sdE,List.map_cons,List.map_nil,List.sum_cons,List.sum_nil,gE,a8,crn]
   omega
  rw [<- e];exact this) (by
  intro h
  have:=(hmU i).2 ⟨hi,hu⟩
  rw [h] at this;cases this)
 omega
end Go.Gv

namespace Go.Gv
theorem v6 {m : Msh} {i : Nat} {r : RF} {k : Int} : (gx m i r k).rc.length=r.rc.length /\ (gx m i r k).lf=r.lf:=by
 unfold gx
 split
 ·simp
 ·exact ⟨rfl,rfl⟩
theorem oQ {m : Msh} {i : Nat} {r : RF} : ∀ j,(rfI m i r j).rc.length=r.rc.length /\ (rfI m i r j).lf=r.lf
 | 0=>⟨rfl,rfl⟩
 | j + 1=>by
  obtain ⟨h1,h2⟩:=oQ (m:=m) (i:=i) (r:=r) j
  obtain ⟨h3,h4⟩:=v6 (m:=m) (i:=i) (r:=rfI m i r j) (k:=nbF m i j)
  exact ⟨h3.trans h1,h4.trans h2⟩
theorem oR {m : Msh} {i a : Nat} {r : RF} (h : r.rc.getD a false=true) : ∀ j,(rfI m i r j).rc.getD a false=true
 | 0=>h
 | j + 1=>oS (oR h j)
theorem nY {m : Msh} {i : Nat} {r : RF} (hl : r.rc.length=m.f.length) : ∀ j c,c < j -> 0 <= nbF m i c -> (rfI m i r j).rc.getD (nbF m i c).toNat false=true
 | 0,c,h,_=>by omega
 | j + 1,c,h,h0=>by
  by_cases e : c=j
  ·subst e
   show (gx m i (rfI m i r c) (nbF m i c)).rc.getD _ false=true
   have hb:=dw m i c
   unfold gx
   cases e2 : (rfI m i r c).rc.getD (nbF m i c).toNat false
   ·rw [if_pos ⟨h0,rfl⟩]
    rw [bY (by rw [(oQ c).1];omega),if_pos rfl]
   ·rw [if_neg (by simp)]
    exact e2
  ·exact oS (nY hl j c (by omega) h0)
structure RCl (m : Msh) (r : RF) : Prop where
 len : r.rc.length=m.f.length
 cl : ∀ a,r.lf.getD a false=true -> ∀ c,c < 3 -> 0 <= nbF m a c -> r.rc.getD (nbF m a c).toNat false=true
 bd : ∀ a,a < m.f.length -> bsd m a (-1)=true -> r.rc.getD a false=true
theorem mg {l : List Bool} {i j : Nat} (h : (l.set i true).getD j false=true) : j=i \/ l.getD j false=true:=by
 by_cases e : i < l.length
 ·rw [bY e] at h
  split at h
  ·exact .inl (by assumption)
  ·exact .inr h
 ·rw [List.set_eq_of_length_le (by omega)] at h
  exact .inr h
theorem RCl.step {m : Msh} {r : RF} (h : RCl m r) : RCl m (f7 m r):=by
 unfold f7
 split
 ·exact h
 ·obtain ⟨h1,h2⟩:=oQ (m:=m) (i:=(rat r m.f.length).toNat) (r:={ r with lf:=r.lf.set (rat r m.f.length).toNat true }) 3
  refine ⟨h1.trans h.len,fun a ha c hc h0=>?_,fun a ha hb=>oR (r:={ r with lf:=r.lf.set (rat r m.f.length).toNat true }) (h.bd a ha hb) 3⟩
  rw [h2] at ha
  rcases mg ha with rfl | ha
  ·exact nY (r:={ r with lf:=r.lf.set (rat r m.f.length).toNat true }) h.len 3 c hc h0
  ·exact oR (r:={ r with lf:=r.lf.set (rat r m.f.length).toNat true }) (h.cl a ha c hc h0) 3
theorem RCl.run {m : Msh} : ∀ (k : Nat) {r : RF},RCl m r -> RCl m (rfN m k r)
 | 0,_,h=>h
 | k + 1,_,h=>RCl.run k h.step
theorem rA (m : Msh) : ∀ i,i <= m.f.length -> ∀ a,a < i -> bsd m a (-1)=true -> (rf0 m i).1.getD a false=true
 | 0,_,a,h,_=>by omega
 | i + 1,hi,a,h,hb=>by
  have hl:=(fU m i).1
  unfold rf0
  by_cases e : a=i
  ·subst e
   rw [if_pos hb]
   simp only
   rw [bY (by omega),if_pos rfl]
  ·have ih:=rA m i (by omega) a (by omega) hb
   split
   ·simp only
    rw [bY (by omega),if_neg e]
    exact ih
   ·exact ih
theorem RCl.init (m : Msh) : RCl m (fa m):=by
 refine ⟨(fU m _).1,fun a ha=>?_,fun a ha hb=>rA m _ (Nat.le_refl _) a ha hb⟩
 have hf : (List.replicate m.f.length false).getD a false=false:=by
  simp [List.getElem?_replicate]
  split <;> rfl
 simp only [fa] at ha
 rw [hf] at ha;cases ha
theorem eD {m : Msh} (hv : ar m=true) : ∀ a,a < m.f.length -> (co m).rc.getD a false=true:=by
 have hc : RCl m (co m):=(RCl.init m).run _
 intro a ha
 have:=tu hv (fun i=>!(co m).rc.getD i false) (fun i k hi hk hu=>?_) a ha
 ·simpa using this
 ·simp only [Bool.not_eq_true'] at hu ⊢
  have hb:=dw m i k
  have h0 : 0 <= nbF m i k:=by
   by_cases e : nbF m i k=-1
   ·exfalso
    have h1 : bsd m i (-1)=true:=by
     rcases (by omega : k=0 \/ k=1 \/ k=2) with rfl | rfl | rfl <;> simp [bsd,e]
    rw [hc.bd i hi h1] at hu;cases hu
   ·omega
  refine ⟨h0,?_⟩
  cases e : (co m).rc.getD (nbF m i k).toNat false
  ·rfl
  ·exfalso
   have h1:=lD m _ e
   obtain ⟨c,hc1,hc2⟩:=oH hv hi hk h0
   have h2:=hc.cl _ h1 c hc1 (by omega)
   rw [hc2] at h2
   simp only [Int.toNat_natCast] at h2
   rw [h2] at hu;cases hu
theorem fo {m : Msh} (hv : ar m=true) : (aX m).sp=(co m).lv /\ (aX m).ou=(co m).ou:=vc m (eD hv)
end Go.Gv

namespace Go.Gv
def jz (n : Nat) (ou : List Int) (rc : List Bool) : Nat -> Nat -> Prop
 | 0,a=>ou.getD a 0=-1
 | d + 1,a=>∃ b : Nat,b < n /\ ou.getD a 0=b /\ rc.getD b false=true /\ jz n ou rc d b
structure OuI (m : Msh) (r : RF) : Prop where
 rc : r.rc.length=m.f.length
 ou : r.ou.length=m.f.length
 e : ∀ a,a < m.f.length -> r.rc.getD a false=true -> ∃ d,d <= r.rc.count true /\ jz m.f.length r.ou r.rc d a
theorem jz.mono {n : Nat} {ou ou' : List Int} {rc rc' : List Bool} (h1 : ∀ a,rc.getD a false=true -> rc'.getD a false=true /\ ou'.getD a 0=ou.getD a 0) : ∀ {d a : Nat},rc.getD a false=true -> jz n ou rc d a -> jz n ou' rc' d a
 | 0,a,ha,h=>by
  show ou'.getD a 0=-1
  rw [(h1 a ha).2];exact h
 | d + 1,a,ha,⟨b,hb,e1,e2,e3⟩=>⟨b,hb,by rw [(h1 a ha).2];exact e1,(h1 b e2).1,jz.mono h1 e2 e3⟩
theorem pq {l : List Bool} {i : Nat} (h : i < l.length) (hf : l.getD i false=false) : (l.set i true).count true=l.count true + 1:=by
 have h1 : l[i]=false:=by simpa [h] using hf
 rw [List.count_set h,h1]
 simp
theorem OuI.p1 {m : Msh} {i : Nat} {r : RF} {k : Int} (h : OuI m r) (hi : i < m.f.length) (hr : r.rc.getD i false=true) (hk : k < m.f.length) : OuI m (gx m i r k):=by
 unfold gx
 split
 ·rename_i hc
  have hkl : k.toNat < m.f.length:=by omega
  have hrc:=fun j=>bY (l:=r.rc) (i:=k.toNat) (j:=j) (x:=true) (d:=false) (by rw [h.rc];omega)
  have hou:=fun j (x : Int)=>bY (l:=r.ou) (i:=k.toNat) (j:=j) (x:=x) (d:=(0 : Int)) (by rw [h.ou];omega)
  have hm : ∀ a,r.rc.getD a false=true -> (r.rc.set k.toNat true).getD a false=true /\ (r.ou.set k.toNat (i : Int)).getD a 0=r.ou.getD a 0:=fun a ha=>by
   have hne : a ≠ k.toNat:=fun e=>by rw [e,hc.2] at ha;cases ha
   rw [hrc,hou,if_neg hne,if_neg hne]
   exact ⟨ha,rfl⟩
  have hct:=pq (l:=r.rc) (i:=k.toNat) (by rw [h.rc];omega) hc.2
  refine ⟨by simp [h.rc],by simp [h.ou],fun a ha har=>?_⟩
  simp only at har ⊢
  rw [hct]
  by_cases e : a=k.toNat
  ·obtain ⟨d,hd,he⟩:=h.e i hi hr
   refine ⟨d + 1,by omega,i,hi,?_,(hm i hr).1,jz.mono hm hr he⟩
   rw [hou,if_pos e]
  ·rw [hrc,if_neg e] at har
   obtain ⟨d,hd,he⟩:=h.e a ha har
   exact ⟨d,by omega,jz.mono hm har he⟩
 ·exact h
theorem OuI.i {m : Msh} {i : Nat} {r : RF} (h : OuI m r) (hi : i < m.f.length) (hr : r.rc.getD i false=true) : ∀ j,OuI m (rfI m i r j)
 | 0=>h
 | j + 1=>(OuI.i h hi hr j).p1 hi (oR hr j) (dw m i j).2
theorem OuI.step {m : Msh} {r : RF} (h : OuI m r) : OuI m (f7 m r):=by
 unfold f7
 split
 ·exact h
 ·rename_i h0
  rcases jX r m.f.length with ⟨h1,_⟩ | ⟨a,h1,h2,h3,_⟩
  ·omega
  ·rw [h1]
   simp only [act,Bool.and_eq_true] at h3
   exact OuI.i (r:={ r with lf:=r.lf.set a true }) ⟨h.rc,h.ou,h.e⟩ h2 h3.1 3
theorem OuI.run {m : Msh} : ∀ (k : Nat) {r : RF},OuI m r -> OuI m (rfN m k r)
 | 0,_,h=>h
 | k + 1,_,h=>OuI.run k h.step
theorem OuI.init (m : Msh) : OuI m (fa m):=by
 refine ⟨(fU m _).1,by simp [fa],fun a ha _=>⟨0,by omega,?_⟩⟩
 show (List.replicate m.f.length (-1 : Int)).getD a 0=-1
 simp [List.getElem?_replicate,ha]
def mth (ou : List Int) : Nat -> Nat -> Nat
 | 0,a=>a
 | k + 1,a=>if ou.getD a 0=-1 then a else mth ou k (ou.getD a 0).toNat
theorem oA {n : Nat} {ou : List Int} {rc : List Bool} : ∀ {d a : Nat},jz n ou rc d a -> ∀ k,d <= k -> mth ou k a=mth ou d a
 | 0,a,h,k,_=>by
  cases k with
  | zero=>rfl
  | succ k =>
   have h : ou.getD a 0=-1:=h
   simp only [mth,h,if_true]
 | d + 1,a,⟨b,_,e1,_,e3⟩,k,hk=>by
  cases k with
  | zero=>omega
  | succ k =>
   simp only [mth,e1]
   rw [if_neg (by omega),if_neg (by omega)]
   exact oA e3 k (by omega)
theorem mc {m : Msh} (hv : ar m=true) {a : Nat} (ha : a < m.f.length) : ∃ d,d <= m.f.length /\ jz m.f.length (aX m).ou (co m).rc d a:=by
 have h : OuI m (co m):=(OuI.init m).run _
 obtain ⟨d,hd,he⟩:=h.e a ha (eD hv a ha)
 refine ⟨d,?_,by rw [(fo hv).2];exact he⟩
 have:=List.count_le_length (a:=true) (l:=(co m).rc)
 have:=h.rc
 omega
end Go.Gv

namespace Go.Gv
def dA (m : Msh) (i : Nat) : Bool:=decide ((bJ m).getD i 0 < (aX m).sp.getD i 0)
def ku (m : Msh) (i : Nat) (k : Int) : Bool:=decide (k ≠ -1) && (dA m i && (dA m k.toNat && decide ((aX m).sp.getD i 0=(aX m).sp.getD k.toNat 0)))
def lH (m : Msh) (i k : Nat) : Prop:=i < m.f.length /\ k < m.f.length /\ dA m i=true /\ dA m k=true /\ (aX m).sp.getD i 0=(aX m).sp.getD k 0 /\ ∃ j,j < 3 /\ nbF m i j=k
theorem sP {m : Msh} (hv : ar m=true) : ∀ a b,lH m a b -> lH m b a:=by
 rintro a b ⟨h1,h2,h3,h4,h5,j,hj,e⟩
 obtain ⟨c,hc,e2⟩:=oH hv h1 hj (by omega)
 rw [e] at e2
 exact ⟨h2,h1,h4,h3,h5.symm,c,hc,by simpa using e2⟩
theorem uq {m : Msh} {i j : Nat} (hi : i < m.f.length) (hj : j < 3) (h : ku m i (nbF m i j)=true) : ∃ k : Nat,nbF m i j=k /\ k < m.f.length /\ lH m i k:=by
 simp only [ku,Bool.and_eq_true,decide_eq_true_eq] at h
 obtain ⟨h1,h2,h3,h4⟩:=h
 have hb:=dw m i j
 refine ⟨(nbF m i j).toNat,by omega,by omega,hi,by omega,h2,h3,h4,j,hj,by omega⟩
theorem ur {m : Msh} {i k : Nat} (h : lH m i k) : ku m i k=true:=by
 obtain ⟨h1,h2,h3,h4,h5,_⟩:=h
 simp only [ku,Bool.and_eq_true,decide_eq_true_eq,Int.toNat_natCast]
 exact ⟨by omega,h3,h4,h5⟩
def foJ (m : Msh) (i : Nat) (f : List Nat) : Nat -> List Nat
 | 0=>f
 | j + 1=>if ku m i (nbF m i j) then gX (foJ m i f j) i (nbF m i j).toNat else foJ m i f j
def foI (m : Msh) : Nat -> List Nat
 | 0=>List.range m.f.length
 | i + 1=>foJ m i (foI m i) 3
theorem md {m : Msh} (hv : ar m=true) {i : Nat} (hi : i < m.f.length) {f : List Nat} (h : Fo m.f.length f) (hf : lW m.f.length (lH m) f) : ∀ j,j <= 3 ->
  Fo m.f.length (foJ m i f j) /\ lW m.f.length (lH m) (foJ m i f j) /\ (∀ x y,x < m.f.length -> y < m.f.length -> ftF f x=ftF f y -> ftF (foJ m i f j) x=ftF (foJ m i f j) y) /\
  (∀ c k : Nat,c < j -> nbF m i c=k -> lH m i k -> ftF (foJ m i f j) i=ftF (foJ m i f j) k)
 | 0,_=>⟨h,hf,fun _ _ _ _ e=>e,fun c k hc=>by omega⟩
 | j + 1,hj=>by
  obtain ⟨h1,h2,h3,h4⟩:=md hv hi h hf j (by omega)
  unfold foJ
  split
  ·rename_i hb
   obtain ⟨k,e,hk,ha⟩:=uq hi (by omega) hb
   have e2 : (nbF m i j).toNat=k:=by omega
   rw [e2]
   refine ⟨(fB h1 hi hk).1,lW.join (sP hv) h1 h2 hi hk ha,fun x y hx hy ex=>nK h1 hi hk hx hy (h3 x y hx hy ex),fun c k' hc ec hak=>?_⟩
   by_cases hcj : c=j
   ·subst hcj
    have : k'=k:=by omega
    subst this
    exact tm h1 hi hk
   ·exact nK h1 hi hk hi hak.2.1 (h4 c k' (by omega) ec hak)
  ·rename_i hb
   refine ⟨h1,h2,h3,fun c k' hc ec hak=>?_⟩
   by_cases hcj : c=j
   ·subst hcj
    have:=ur hak
    rw [<- ec] at this
    exact absurd this hb
   ·exact h4 c k' (by omega) ec hak
theorem iw {m : Msh} (hv : ar m=true) : ∀ i,i <= m.f.length -> Fo m.f.length (foI m i) /\ lW m.f.length (lH m) (foI m i) /\ (∀ a k : Nat,a < i -> lH m a k -> ftF (foI m i) a=ftF (foI m i) k)
 | 0,_=>⟨(lW.init (lH m)).1,(lW.init (lH m)).2.1,fun a k h=>by omega⟩
 | i + 1,hi=>by
  obtain ⟨h1,h2,h3⟩:=iw hv i (by omega)
  obtain ⟨q1,q2,q3,q4⟩:=md hv (show i < m.f.length by omega) h1 h2 3 (by omega)
  refine ⟨q1,q2,fun a k ha hak=>?_⟩
  by_cases e : a=i
  ·subst e
   obtain ⟨_,_,_,_,_,j,hj,ej⟩:=id hak
   exact q4 j k hj ej hak
  ·exact q3 a k hak.1 hak.2.1 (h3 a k (by omega) hak)
def rtP (m : Msh) (x : Nat) : Nat:=ftF (foI m m.f.length) x
theorem oU {m : Msh} (hv : ar m=true) {a : Nat} (ha : a < m.f.length) : rtP m a <= a /\ rtP m (rtP m a)=rtP m a:=by
 obtain ⟨h1,_,_⟩:=iw hv m.f.length (Nat.le_refl _)
 exact ⟨(fy h1 a ha).1,ve h1 ha⟩
theorem Cn.wet {m : Msh} {a b : Nat} (h : Cn (lH m) a b) : dA m a=dA m b /\ (aX m).sp.getD a 0=(aX m).sp.getD b 0:=by
 induction h with
 | refl=>exact ⟨rfl,rfl⟩
 | step _ r ih =>
  obtain ⟨_,_,h3,h4,h5,_⟩:=r
  exact ⟨ih.1.trans (h3.trans h4.symm),ih.2.trans h5⟩
theorem oV {m : Msh} (hv : ar m=true) {a : Nat} (ha : a < m.f.length) : dA m (rtP m a)=dA m a /\ (aX m).sp.getD (rtP m a) 0=(aX m).sp.getD a 0:=by
 have h:=(iw hv m.f.length (Nat.le_refl _)).2.1 a ha
 exact ⟨h.wet.1.symm,h.wet.2.symm⟩
def stB (m : Msh) (s : Nat) : Bool:=dA m s && decide (rtP m s=s)
def stT (m : Msh) (i : Nat) : List Nat:=(List.range i).filter (stB m)
def inP (m : Msh) (s k : Nat) : Bool:=dA m k && decide (rtP m k=s)
def cM (m : Msh) (i : Nat) : List (List Nat):=(stT m i).map fun s=>(List.range i).filter (inP m s)
def aQ (m : Msh) : List (List Nat):=cM m m.f.length
def gq (m : Msh) (i : Nat) : List Int:=(List.range m.f.length).map fun s=>if s < i /\ stB m s=true then ((stT m s).length : Int) else 0
theorem gD (m : Msh) (i : Nat) : stT m (i + 1)=if stB m i then stT m i++[i] else stT m i:=by
 unfold stT
 rw [List.range_succ,List.filter_append]
 split <;> simp_all
theorem mY (m : Msh) {r : Nat} (hr : stB m r=true) : ∀ i,r < i -> ∃ h : (stT m r).length < (stT m i).length,(stT m i)[(stT m r).length]=r
 | 0,h=>by omega
 | i + 1,h=>by
  have e:=gD m i
  by_cases hi : r=i
  ·subst hi
   rw [if_pos hr] at e
   refine ⟨by rw [e];simp,?_⟩
   simp [e]
  ·obtain ⟨h1,h2⟩:=mY m hr i (by omega)
   split at e
   ·refine ⟨by rw [e];simp;omega,?_⟩
    simp only [e]
    rw [List.getElem_append_left h1]
    exact h2
   ·refine ⟨by rw [e];exact h1,?_⟩
    simp only [e]
    exact h2
theorem C9 (m : Msh) {r i j : Nat} (hr : stB m r=true) (hj : j < (stT m i).length) (hne : j ≠ (stT m r).length) : (stT m i)[j] ≠ r:=by
 intro e
 have hm : r ∈ stT m i:=by rw [<- e];exact List.getElem_mem _
 have hri : r < i:=by
  have:=(List.mem_filter.1 hm).1
  simpa using this
 obtain ⟨h1,h2⟩:=mY m hr i hri
 have hnd : (stT m i).Nodup:=List.Pairwise.filter _ List.nodup_range
 exact hne ((List.getElem_inj hnd).1 (e.trans h2.symm))
theorem dY (m : Msh) (i : Nat) : (cM m i).length=(stT m i).length:=by simp [cM]
theorem wG (m : Msh) (i : Nat) : (stT m i).length <= i:=by
 have:=List.length_filter_le (stB m) (List.range i)
 simpa [stT] using this
theorem mq (m : Msh) (i : Nat) : (gq m i).length=m.f.length:=by simp [gq]
theorem pF {m : Msh} {i r : Nat} (hr : r < i) (hi : i <= m.f.length) (hs : stB m r=true) : (gq m i).getD r 0=((stT m r).length : Int):=by
 simp [gq,show r < m.f.length by omega,hr,hs]
theorem vm {m : Msh} {i : Nat} (hi : i < m.f.length) (hs : stB m i=true) : (gq m i).set i ((stT m i).length : Int)=gq m (i + 1):=by
 unfold gq
 apply List.ext_getElem (by simp)
 intro j h1 h2
 simp only [List.getElem_set,List.getElem_map,List.getElem_range]
 by_cases e : i=j
 ·subst e
  rw [if_pos rfl,if_pos ⟨by omega,hs⟩]
 ·rw [if_neg e]
  by_cases h : j < i /\ stB m j=true
  ·rw [if_pos h,if_pos ⟨by omega,h.2⟩]
  ·rw [if_neg h,if_neg fun h3=>h ⟨by omega,h3.2⟩]
theorem nJ {m : Msh} {i : Nat} (hs : stB m i=false) : gq m i=gq m (i + 1):=by
 unfold gq
 apply List.map_congr_left
 intro j _
 by_cases h : j < i /\ stB m j=true
 ·rw [if_pos h,if_pos ⟨by omega,h.2⟩]
 ·rw [if_neg h,if_neg fun h3=>h ⟨by
   have : j ≠ i:=fun e=>by rw [e,hs] at h3;exact absurd h3.2 (by decide)
   omega,h3.2⟩]
theorem tj (m : Msh) : gq m 0=List.replicate m.f.length 0:=by
 unfold gq
 apply List.ext_getElem (by simp)
 intro j h1 h2
 simp
theorem mE {m : Msh} {i : Nat} (h : dA m i=false) : cM m (i + 1)=cM m i:=by
 unfold cM
 rw [gD,if_neg (by simp [stB,h])]
 apply List.map_congr_left
 intro s _
 rw [List.range_succ,List.filter_append]
 simp [inP,h]
theorem vN {m : Msh} (hv : ar m=true) {i : Nat} (hi : i < m.f.length) (h : stB m i=true) : cM m (i + 1)=(cM m i++[[]]).set (stT m i).length [i]:=by
 have hw : dA m i=true /\ rtP m i=i:=by simpa [stB] using h
 unfold cM
 rw [gD,if_pos h,List.map_append,<- List.length_map (f:=fun s=>(List.range i).filter (inP m s)),List.set_append_right _ _ (Nat.le_refl _)]
 simp only [Nat.sub_self,List.map_cons,List.map_nil,List.set_cons_zero]
 congr 1
 ·apply List.map_congr_left
  intro s hs
  rw [List.range_succ,List.filter_append]
  have : s < i:=by simpa using (List.mem_filter.1 hs).1
  have hne : ¬ i=s:=by omega
  simp [inP,hw.1,hw.2,hne]
 ·rw [List.range_succ,List.filter_append]
  have h0 : (List.range i).filter (inP m i)=[]:=by
   rw [List.filter_eq_nil_iff]
   intro k hk
   have hk : k < i:=by simpa using hk
   have:=(oU hv (a:=k) (by omega)).1
   simp only [inP,Bool.and_eq_true,decide_eq_true_eq]
   omega
  simp [h0,inP,hw.1,hw.2]
theorem vO {m : Msh} {i r : Nat} (hw : dA m i=true) (hr : rtP m i=r) (hri : r < i) (hs : stB m r=true) : ∃ l,l.length <= i /\ (cM m i)[(stT m r).length]? = some l /\ cM m (i + 1)=(cM m i).set (stT m r).length (l++[i]):=by
 obtain ⟨h1,h2⟩:=mY m hs i hri
 have hn : stB m i=false:=by
  have : ¬ r=i:=by omega
  simp [stB,hr,this]
 refine ⟨(List.range i).filter (inP m r),by have:=List.length_filter_le (inP m r) (List.range i);simpa using this,?_,?_⟩
 ·unfold cM
  rw [List.getElem?_map,List.getElem?_eq_getElem h1,h2]
  rfl
 ·unfold cM
  rw [gD,if_neg (by simp [hn])]
  apply List.ext_getElem (by simp)
  intro j g1 g2
  simp only [List.getElem_map,List.getElem_set]
  have g3 : j < (stT m i).length:=by simpa using g1
  have e3 : ∀ s,(List.range (i + 1)).filter (inP m s)=(List.range i).filter (inP m s)++(if inP m s i=true then [i] else []):=fun s=>by
   rw [List.range_succ,List.filter_append]
   congr 1
   rw [List.filter_cons,List.filter_nil]
  simp only [e3]
  by_cases e : (stT m r).length=j
  ·subst e
   rw [if_pos rfl,h2,if_pos (by simp [inP,hw,hr])]
  ·rw [if_neg e]
   have:=C9 m hs g3 (fun h=>e h.symm)
   have h5 : ¬ r=(stT m i)[j]:=fun h=>this h.symm
   rw [if_neg (by simp [inP,hw,hr,h5]),List.append_nil]
end Go.Gv

namespace Go.Gv
def gr (l : List (List Nat)) : List (List D):=l.map fun p=>[.sl (nfR p)]
def fH (l : List (List Nat)) : List (List D):=l.map fun p=>[.own 1 (nfR p)]
theorem yq (l : List (List Nat)) : (fH l).map (fun e=>e.map aW)=gr l:=by simp [fH,gr,aW]
section
variable {C : Nat -> List D -> D -> List D -> Prop} (hC : aB prog C)
include hC
theorem Ml (m : Msh) (i : Nat) (hi : i < m.f.length) : C 330 [.int .i64 i,.ptr [dS m]] (.bool (dA m i)) []:=by
 have W:=iR m
 have h1 : i < (aX m).sp.length:=by rw [W.sp];exact hi
 have h2 : i < (bJ m).length:=by simpa using hi
 refine aF hC (nf:=N330) rfl rfl ?_
 simp [N330,dS,av (cd h1),av (cd h2)]
 exact ⟨aC (by decide +kernel),rfl⟩
set_option maxRecDepth 8000 in
set_option maxHeartbeats 2000000 in
theorem vR (m : Msh) (hv : ar m=true) : C 314 [dS m] (.sl (gr (aQ m))) []:=by
 have W:=iR m
 have hsz:=(cD hv).2
 have kf:=qI hC m.f.length (by omega)
 have e0 : dS m=.ptr [.sl (nbA m),slx true (inR (bJ m)),.sl (inR (aX m).sp),.sl (inR (aX m).ou)]:=rfl
 have kw:=fun i hi=>Ml hC m i hi
 refine aF hC (nf:=N314) rfl rfl ?_
 simp [N314,e0]
 refine kz kf ?_
 simp
 have hfl : ∀ i,i <= m.f.length -> (foI m i).length=m.f.length:=fun i hi=>(iw hv i hi).1.len
 obtain ⟨fD,hfD⟩ : ∃ fD,fD=dS m:=⟨_,rfl⟩
 rw [<- e0,<- hfD]
 rw [<- hfD] at kw
 refine aE Nat (fun i=>[(1,.ptr [fD]),(3,.ref (.r 10048) 0 m.f.length),(4,.fn 330 [.ptr [fD]]),(23,.sl (nbA m)),(24,.int .i64 m.f.length),(25,.int .i64 i),(10048,.blk 1 (nfR (foI m i)))]) (fun i=>i <= m.f.length) (fun i=>m.f.length - i) 0 (by simp) (by simp [foI]) ?_
 rintro i hi
 have hw : IntKind.wrap .i64 ((i : Int) + 1)=((i + 1 : Nat) : Int):=ai (by omega) (by omega)
 obtain ⟨F1,F2,F3⟩:=iw hv i hi
 simp
 refine al (fun g1=>?_) (fun g1=>?_) <;> simp at g1 <;> simp [g1]
 ·simp [av (oD g1)]
  obtain ⟨f0,hf0⟩ : ∃ f0,f0=foI m i:=⟨_,rfl⟩
  have hsp:=fun j hj=>md hv g1 F1 F2 j hj
  rw [<- hf0] at F1 F2 F3 hsp ⊢
  refine aE Nat (fun j=>[(1,.ptr [fD]),(3,.ref (.r 10048) 0 m.f.length),(4,.fn 330 [.ptr [fD]]),(5,.int .i64 i),(23,.sl (nbA m)),(24,.int .i64 m.f.length),(25,.int .i64 i),(30,.agg [.int .i64 (nbF m i 0),.int .i64 (nbF m i 1),.int .i64 (nbF m i 2)]),(31,.int .i64 j),(10048,.blk 1 (nfR (foJ m i f0 j)))]) (fun j=>j <= 3) (fun j=>3 - j) 0 (by simp) (by simp [foJ]) ?_
  rintro j hj
  have hw2 : IntKind.wrap .i64 ((j : Int) + 1)=((j + 1 : Nat) : Int):=ai (by omega) (by omega)
  obtain ⟨J1,J2,J3,J4⟩:=hsp j hj
  obtain ⟨fj,hfj⟩ : ∃ fj,fj=foJ m i f0 j:=⟨_,rfl⟩
  have hnx : foJ m i f0 (j + 1)=if ku m i (nbF m i j) then gX fj i (nbF m i j).toNat else fj:=by rw [hfj];rfl
  rw [<- hfj] at J1 J2 J3 J4 ⊢
  have hjl:=J1.len
  simp
  refine al (fun g3=>?_) (fun g3=>?_) <;> simp at g3
  ·have hxj : ([.int .i64 (nbF m i 0),.int .i64 (nbF m i 1),.int .i64 (nbF m i 2)] : List D)[j]?.getD .any=.int .i64 (nbF m i j):=by
    rcases (by omega : j=0 \/ j=1 \/ j=2) with rfl | rfl | rfl <;> rfl
   have hbd:=dw m i j
   obtain ⟨kk,hkk⟩ : ∃ kk,kk=nbF m i j:=⟨_,rfl⟩
   rw [<- hkk] at hxj hbd hnx
   simp [show (j : Int) < 3 by omega,hxj]
   refine ⟨by omega,?_⟩
   have fin : ku m i kk=false -> ∃ x,x <= 3 /\ 3 - x < 3 - j /\ IntKind.wrap .i64 ((j : Int) + 1)=(x : Int) /\ nfR fj=nfR (foJ m i f0 x):=fun hb=>⟨j + 1,by omega,by omega,hw2,by rw [hnx,hb];rfl⟩
   by_cases c1 : kk=-1
   ·simp [c1]
    exact ⟨aC (by decide +kernel),fin (by simp [ku,c1])⟩
   ·obtain ⟨c,hc⟩ : ∃ c : Nat,kk=c:=⟨kk.toNat,by omega⟩
    subst hc
    have hcn : c < m.f.length:=by omega
    simp [c1]
    refine ab (kw i g1) (.inl rfl) ?_
    cases w1 : dA m i
    ·simp
     exact ⟨aC (by decide +kernel),fin (by simp [ku,w1])⟩
    ·simp
     refine ab (kw c hcn) (.inl rfl) ?_
     cases w2 : dA m c
     ·simp
      exact ⟨aC (by decide +kernel),fin (by simp [ku,w1,w2])⟩
     ·have h1 : i < (aX m).sp.length:=by rw [W.sp];exact g1
      have h2 : c < (aX m).sp.length:=by rw [W.sp];exact hcn
      have hj2:=(fB J1 g1 hcn).1
      rw [hfD,e0]
      simp [av (cd h1),av (cd h2)]
      refine ⟨aC (by decide +kernel),?_⟩
      refine al (fun g5=>?_) (fun g5=>?_)
      ·have hb : ku m i (c : Int)=true:=by
        simp only [ku,Bool.and_eq_true,decide_eq_true_eq,Int.toNat_natCast]
        exact ⟨c1,w1,w2,by simpa using g5⟩
       rw [hb] at hnx
       simp only [if_true,Int.toNat_natCast] at hnx
       simp [g5]
       refine ⟨by omega,hjl,b5 (B1 hC.1 m.f.length (by omega) fj J1 i c g1 hcn) (by have:=hj2.len;simp;omega) ?_⟩
       simp
       exact ⟨j + 1,by omega,by omega,hw2,by rw [hnx]⟩
      ·simp [g5]
       exact fin (by simpa [ku,w1,w2] using g5)
  ·have e3 : j=3:=by omega
   subst e3
   simp
   exact ⟨i + 1,by omega,by omega,hw,by rw [hfj,hf0];rfl⟩
 ·have e : i=m.f.length:=by omega
  subst e
  rw [hfD,e0]
  simp
  refine ⟨by omega,?_⟩
  rw [<- e0,<- hfD]
  have hz : List.replicate m.f.length [D.int .i64 0]=inR (gq m 0):=by rw [tj];simp [inR]
  rw [hz]
  refine aE (Nat × List Nat) (fun s=>[(3,.ref (.r 10048) 0 m.f.length),(4,.fn 330 [.ptr [fD]]),(9,.ref (.r 10144) 0 (cM m s.1).length),(10,.ref (.r 10160) 0 m.f.length),(79,.int .i64 m.f.length),(80,.int .i64 s.1),(10048,.blk 1 (nfR s.2)),(10144,.blk 1 (fH (cM m s.1))),(10160,.blk 1 (inR (gq m s.1)))])
   (fun s=>s.1 <= m.f.length /\ Fo m.f.length s.2 /\ ∀ x,x < m.f.length -> ftF s.2 x=rtP m x) (fun s=>m.f.length - s.1) (0,foI m m.f.length) ⟨by simp,F1,fun _ _=>rfl⟩ (by simp [cM,stT,fH]) ?_
  rintro ⟨i,f⟩ ⟨hi,K1,K2⟩
  simp only at hi K1 K2
  have hw : IntKind.wrap .i64 ((i : Int) + 1)=((i + 1 : Nat) : Int):=ai (by omega) (by omega)
  have kl:=K1.len
  simp
  refine al (fun g1=>?_) (fun g1=>?_) <;> simp at g1 <;> simp [g1]
  ·refine ab (kw i g1) (.inl rfl) ?_
   simp
   refine al (fun g2=>?_) (fun g2=>?_)
   ·simp at g2
    simp [g2]
    exact ⟨i + 1,f,⟨by omega,K1,K2⟩,by omega,by rw [mE g2],hw,rfl,by rw [mE g2],by rw [nJ (by simp [stB,g2])]⟩
   ·simp at g2
    obtain ⟨r,hr⟩ : ∃ r,r=rtP m i:=⟨_,rfl⟩
    obtain ⟨r1,r2⟩:=oU hv g1
    obtain ⟨r3,r4⟩:=oV hv g1
    have kr:=rB hC.1 m.f.length (by omega) f K1 i g1
    rw [K2 i g1,<- hr] at kr
    obtain ⟨L1,L2⟩:=iz K1 g1
    rw [<- hr] at r1 r2 r3 r4
    have hrs : stB m r=true:=by simp [stB,r3,g2,r2]
    simp [g2,kl]
    refine ⟨by omega,b5 kr (by have:=L1.len;simp;omega) ?_⟩
    simp
    refine al (fun g3=>?_) (fun g3=>?_) <;> simp at g3
    ·have g3' : r=i:=by omega
     subst g3'
     clear g3
     have hii : r < (inR (gq m r)).length:=by simp [mq];exact g1
     have hid : r < (gq m r).length:=by simpa using hii
     have hst:=vm g1 hrs
     have hon:=vN hv g1 hrs
     have hol:=dY m r
     have hle:=wG m r
     have hid2 : r < (gq m (r + 1)).length:=by rw [mq];exact g1
     have hig:=pF (m:=m) (i:=r + 1) (r:=r) (by omega) (by omega) hrs
     have hmt:=mY m hrs (r + 1) (by omega)
     have hw2 : (stT m r).length < (cM m (r + 1)).length:=by rw [dY];exact hmt.1
     have hpl : (fH (cM m r)).length=(stT m r).length:=by simp [fH,hol]
     have htk : List.take (stT m r).length (fH (cM m r))=fH (cM m r):=List.take_of_length_le (by omega)
     have hig2 : (inR (gq m (r + 1)))[r]? = some [.int .i64 ((stT m r).length : Nat)]:=by rw [cd hid2,hig]
     have hrow : (fH (cM m r)++[[D.nils]])[(stT m r).length]? = some [.nils]:=by rw [List.getElem?_append_right (by omega),hpl];simp
     have hset : (fH (cM m r)++[[D.nils]]).set (stT m r).length [.own 1 [[.int .i64 (r : Int)]]]=fH (cM m (r + 1)):=by
      rw [hon]
      unfold fH
      rw [List.map_set,List.map_append,List.set_append_right _ _ (by simp [hol]),List.set_append_right _ _ (by simp [hol])]
      simp [nfR,hol]
     simp [g1,cd hid,ov,hol,hst,htk,hpl,aT hig2]
     refine ⟨by omega,?_⟩
     simp [aT hrow,hrow]
     exact ⟨aC (by decide +kernel),r + 1,hlL f r,⟨by omega,L1,fun x hx=>by rw [L2 x hx,K2 x hx]⟩,by omega,by rw [dY];have:=gD m r;rw [if_pos hrs] at this;rw [this];simp,hw,rfl,hset,rfl⟩
    ·have hri : r < i:=by omega
     obtain ⟨l,hll,ho1,ho2⟩:=vO g2 hr.symm hri hrs
     have hol:=dY m i
     have hmt:=mY m hrs i hri
     have hid : r < (gq m i).length:=by rw [mq];omega
     have hig:=pF (m:=m) (i:=i) (r:=r) hri (by omega) hrs
     have hig2 : (inR (gq m i))[r]? = some [.int .i64 ((stT m r).length : Nat)]:=by rw [cd hid,hig]
     have hrow : (fH (cM m i))[(stT m r).length]? = some [.own 1 (nfR l)]:=by unfold fH;rw [List.getElem?_map,ho1];rfl
     have hset : (fH (cM m i)).set (stT m r).length [.own 1 (nfR (l++[i]))]=fH (cM m (i + 1)):=by
      rw [ho2]
      unfold fH
      rw [List.map_set]
     have hrn : r < m.f.length:=by omega
     simp [g3,hrn,aT hig2]
     have hrl : (stT m r).length < (fH (cM m i)).length:=by simp [fH,hol];exact hmt.1
     have hrl2 : (stT m r).length < (cM m i).length:=by rw [hol];exact hmt.1
     have hgs : ∀ x,((fH (cM m i)).set (stT m r).length x)[(stT m r).length]? = some x:=fun x=>List.getElem?_set_self hrl
     simp [aT hrow,hrow,hrl2]
     refine ⟨by omega,?_⟩
     simp [hgs]
     have hns : stB m i=false:=by simp [stB,<- hr];exact fun _ h=>g3 (by rw [h])
     have hso : (cM m i).length=(cM m (i + 1)).length:=by rw [dY,dY,gD,if_neg (by simp [hns])]
     refine ⟨?_,aC (by decide +kernel),i + 1,hlL f i,⟨by omega,L1,fun x hx=>by rw [L2 x hx,K2 x hx]⟩,by omega,hso,hw,rfl,by rw [sm];exact hset,by rw [nJ hns]⟩
     rintro e (he | rfl) c hc
     ·exact vJ _ _ he _ hc
     ·simp at hc;subst hc;rfl
  ·have e : i=m.f.length:=by omega
   subst e
   have hpl : (fH (aQ m)).length=(aQ m).length:=by simp [fH]
   exact ⟨by simp [fH],by rw [show cM m m.f.length=aQ m from rfl,yq];exact List.take_of_length_le (by simp [gr])⟩
end
end Go.Gv

namespace Go.Gv
def SS (m : Msh) (a b : Int) : Int:=if qf m a b < 0 then 0 else hJ (fun j=>decide (crn (fce m (qf m a b).toNat) j=a) && decide (crn (fce m (qf m a b).toNat) (j + 1)=b)) (List.range 3)
def acK (m : Msh) (i k : Nat) : Int:=SS m (crn (fce m i) (k + 1)) (crn (fce m i) k)
def nbT (m : Msh) (i : Nat) : List (List D):=(List.range i).map fun j=>[.int .i64 (nbF m j 0),.int .i64 (nbF m j 1),.int .i64 (nbF m j 2)]
@[simp] theorem Qr (m : Msh) (i : Nat) : (nbT m i).length=i:=by simp [nbT]
@[simp] theorem KS (m : Msh) (i : Nat) : List.take i (nbT m i)=nbT m i:=List.take_of_length_le (by simp)
@[simp] theorem SF (m : Msh) (i : Nat) : List.map (fun e=>List.map aW e) (nbT m i)=nbT m i:=by simp [nbT]
variable {C : CC} (hC : aB prog C)
include hC
end Go.Gv

namespace Go.Gv
open Go.Lib
variable {C : CC} (hC : aB prog C)
include hC
def nmD (x : Nat) : D:=.agg [.int .u64 ((x / 18446744073709551616 : Nat) : Int),.int .u64 ((x % 18446744073709551616 : Nat) : Int),.bool false]
end Go.Gv

namespace Go.Gv
variable {C : CC} (hC : aB prog C)
include hC
end Go.Gv

namespace Go.Gv
def bdB (m : Msh) (i k : Nat) : Bool:=(List.range k).any fun c=>decide (nbF m i c < 0)
def ini (m : Msh) (i k : Nat) : Int:=if bdB m i k then -1 else -2
def qup (m : Msh) (i k : Nat) : Int:=if upF m i k < 0 then ini m i 3 else upF m i k
variable {C : CC} (hC : aB prog C)
include hC
end Go.Gv

namespace Go.Gv
def exM (z : Int) : Msh:=⟨false,[⟨0,0,0⟩,⟨30,0,z⟩,⟨30,30,9⟩,⟨0,30,0⟩],false,[⟨0,1,2,0⟩,⟨0,2,3,0⟩]⟩
variable {C : CC} (hC : aB prog C)
include hC
theorem uV (b b' : Bool) (xs ys : List Int) (hx : xs.length < 2 ^ 62) (hy : ys.length < 2 ^ 62) : C 19 [slx b (xs.map fun n=>[.int .i64 n]),slx b' (ys.map fun n=>[.int .i64 n])] (.bool (decide (xs=ys))) []:=by
 refine aF hC (nf:=N19) rfl rfl ?_
 simp [N19]
 refine al (fun h=>?_) (fun h=>?_) <;> simp at h <;> simp [h]
 ·rintro rfl;exact h rfl
 have h' : xs.length=ys.length:=by omega
 refine aE Nat (fun i=>[(0,slx b (xs.map fun n=>[.int .i64 n])),(1,slx b' (ys.map fun n=>[.int .i64 n])),(12,.int .i64 ys.length),(13,.int .i64 i)])
  (fun i=>i <= ys.length /\ ∀ k,k < i -> xs[k]? = ys[k]?) (fun i=>ys.length - i) 0 (by simp) (by simp) ?_
 rintro i ⟨hi,hok⟩
 simp
 refine al (fun h1=>?_) (fun h1=>?_) <;> simp at h1 <;> simp [h1]
 ·have hw : IntKind.wrap .i64 ((i : Int) + 1)=((i + 1 : Nat) : Int):=ai (by omega) (by omega)
  have hx1 : i < xs.length:=by omega
  simp [h1,hx1]
  refine ⟨aC (by decide +kernel),?_⟩
  refine al (fun h2=>?_) (fun h2=>?_) <;> simp [h1,hx1] at h2 <;> simp [h1,hx1,h2,hw]
  ·rintro rfl
   exact h2 rfl
  ·refine ⟨i + 1,⟨by omega,fun k hk=>?_⟩,by omega,rfl⟩
   rcases Nat.lt_succ_iff_lt_or_eq.1 hk with h5 | rfl
   ·exact hok k h5
   ·rw [List.getElem?_eq_getElem h1,List.getElem?_eq_getElem hx1,h2]
 ·refine List.ext_getElem? fun k=>?_
  rcases Nat.lt_or_ge k i with h2 | h2
  ·exact hok k h2
  ·rw [List.getElem?_eq_none (by omega),List.getElem?_eq_none (by omega)]
end Go.Gv

namespace Go.Gv
variable {C : CC} (hC : aB prog C)
include hC
end Go.Gv

namespace Go.Gv
variable {C : CC} (hC : aB prog C)
include hC
end Go.Gv

namespace Go.Gv
def qfl (m : Msh) (i : Nat) : List Int:=(List.range i).map fun j=>gy m j
@[simp] theorem LI (m : Msh) (i : Nat) : List.take i (inR (qfl m i))=inR (qfl m i):=List.take_of_length_le (by simp [qfl])
@[simp] theorem Q8 (m : Msh) (i : Nat) : (qfl m i).length=i:=by simp [qfl]
variable {C : CC} (hC : aB prog C)
include hC
end Go.Gv

namespace Go.Gv
def Sx (m : Msh) : Bool:=(decide ((80 : Int) < (m.s.length : Int)) && decide ((m.s.length : Int) <= 2000)) || (decide ((80 : Int) < (m.f.length : Int)) && decide ((m.f.length : Int) <= 4000)) || decide ((2010 : Int) < (m.s.length : Int)) || decide ((4010 : Int) < (m.f.length : Int))
variable {C : CC} (hC : aB prog C)
include hC
end Go.Gv

namespace Go.Gv
def ze (f : Nat -> Int) : Nat -> Int
 | 0=>0
 | n + 1=>ze f n + f n
def Bx (l : List Int) (x : Nat) : Int:=((l.filter fun y=>decide (y=(x : Int))).length : Int)
def twF (m : Msh) (i : Nat) : Int:=lF (a8 m (fce m i))
def Il (m : Msh) (x : Nat) : Int:=ze (fun j=>twF m j * Bx (AV m (j : Int)) x) m.f.length
def Tp (m : Msh) : Int:=ze (twF m) m.f.length
theorem wK {m : Msh} (hv : ar m=true) {i : Nat} (hi : i < m.f.length) : 0 <= twF m i /\ twF m i <= 2251799813685248:=by
 have h:=(gV hv hi).2
 have ht:=zu hv hi
 unfold okT at ht
 simp only [Bool.and_eq_true] at ht
 have:=sH ht.1.1 ht.1.2 ht.2
 unfold twF
 unfold lF d5 at *
 omega
end Go.Gv

namespace Go.Gv
def KG (f : Nat -> Int) : List Nat -> Int
 | []=>0
 | x::r=>f x + KG f r
def giv (m : Msh) (x y : Nat) : Int:=if gy m y=(x : Int) then Il m y else 0
def Rm (m : Msh) (P : List Nat) (x : Nat) : Int:=twF m x + KG (giv m x) P
structure Ord (m : Msh) (P : List Nat) : Prop where
 perm : P.Perm (List.range m.f.length)
 srt : P.Pairwise fun a b=>cv m b <= cv m a
theorem Ord.len {m : Msh} {P : List Nat} (h : Ord m P) : P.length=m.f.length:=by
 have:=h.perm.length_eq
 simpa using this
theorem Ord.lt {m : Msh} {P : List Nat} (h : Ord m P) {p : Nat} (hp : p < P.length) : P[p] < m.f.length:=by
 have:=h.perm.mem_iff.1 (List.getElem_mem hp)
 simpa using this
def KM (l : List Nat) : List (List D):=l.map fun (i : Nat)=>[D.int .i64 ((i : Nat) : Int)]
def acR (m : Msh) (P : List Nat) : List Int:=(List.range m.f.length).map (Rm m P)
def Tg (m : Msh) : List Int:=(List.range m.f.length).map (Il m)
def SO (m : Msh) (i : Nat) (l : List Int) (x : Nat) : Int:=ze (fun j=>twF m j * Bx (AV m (j : Int)) x) i + twF m i * Bx l x
def Tm (m : Msh) (i : Nat) (l : List Int) : List Int:=(List.range m.f.length).map (SO m i l)
end Go.Gv

set_option maxRecDepth 4000
namespace Go.Gv
def mvS (x y z : Int) (s : Spt) : Spt:=⟨s.x + x,s.y + y,s.z + z⟩
def mvM (m : Msh) (x y z : Int) : Msh:=⟨false,m.s.map (mvS x y z),false,m.f⟩
def SG (n : Int) : Bool:=decide (n < -67108864) || decide (67108864 < n)
def mvE (m : Msh) (x y z : Int) : Int:=if ar m=true then (if ([x,y,z].any SG)=true then 5 else if (m.s.all fun s=>bx (mvS x y z s))=true then 0 else 5) else 1
def SD (x y z : Int) (ss : List Spt) (i : Nat) : List Spt:=(ss.take i).map (mvS x y z)++ss.drop i
def mvR (x y z : Int) (ss : List Spt) (i : Nat) : List (List D):=(SD x y z ss i).map jd
variable {C : CC} (hC : aB prog C)
include hC
end Go.Gv

namespace Go.Gv
def trP (x y : Int) (p : Pnt) : Pnt:=(p.1 + x,p.2 + y)
def trT (x y : Int) (t : Tri) : Tri:=(trP x y t.1,trP x y t.2.1,trP x y t.2.2)
section
variable {m : Msh} {x y z : Int} (hv : ar m=true) (hr : ∀ i,i < m.s.length -> bx (mvS x y z (spt m i))=true)
include hv hr
omit hr
omit hv in
end
end Go.Gv

set_option maxRecDepth 4000
namespace Go.Gv
def upT (f : Nat -> Int) (n i : Nat) : List Int:=(List.range n).map fun j=>if j < i then f j else 0
def Td (C : CC) : Prop:=∀ (m : Msh) (cs : List D),m.f.length < 2 ^ 62 -> (∀ a b : Nat,a < m.f.length -> b < m.f.length -> C 375 (.int .i64 a::.int .i64 b::cs) (.int .i64 (cv m b - cv m a)) []) -> ∃ Q,Ord m Q /\ C 374 [.own 1 (KM (List.range m.f.length)),.fn 375 cs] .any [.own 1 (KM Q),.nilp]
variable {C : CC} (hC : aB prog C)
include hC
end Go.Gv

set_option maxRecDepth 4000
namespace Go.Gv
variable {C : CC} (hC : aB prog C)
include hC
end Go.Gv

set_option maxRecDepth 4000
namespace Go.Gv
variable {C : CC} (hC : aB prog C)
include hC
end Go.Gv

namespace Go.Gv
structure RFW (m : Msh) (r : RF) : Prop where
 rc : r.rc.length=m.f.length
 lf : r.lf.length=m.f.length
 lv : r.lv.length=m.f.length
 ou : r.ou.length=m.f.length
theorem RFW.p1 {m : Msh} {i : Nat} {r : RF} {k : Int} (h : RFW m r) : RFW m (gx m i r k):=by
 unfold gx
 split
 ·exact ⟨by simp [h.rc],h.lf,by simp [h.lv],by simp [h.ou]⟩
 ·exact h
theorem RFW.i {m : Msh} {i : Nat} {r : RF} (h : RFW m r) : ∀ j,RFW m (rfI m i r j)
 | 0=>h
 | j + 1=>(RFW.i h j).p1
section
variable {C : Nat -> List D -> D -> List D -> Prop} (hC : aB prog C)
include hC
end
end Go.Gv

namespace Go.Gv
section
variable {C : Nat -> List D -> D -> List D -> Prop} (hC : aB prog C)
include hC
theorem t7 (dec : Nat -> List UInt8) (hI : ∀ n : Nat,n < 100 -> C 127 [.int .i64 n] (.str (dec n)) []) (m : Msh) (hz : cO m=true -> m.s.length <= 100 /\ m.f.length <= 100) :
  C 243 [.agg (cm m)] (if ar m then .tup [.sl (inR (aX m).sp),.int .i64 0] else .tup [.nils,.int .i64 1]) []:=by
 have k:=fp hC dec hI m hz
 simp only [am] at k
 refine aF hC (nf:=N243) rfl rfl ?_
 simp [N243,am]
 refine ab k (.inr rfl) ?_
 cases hv : ar m
 ·simp
 ·simp [dS]
theorem sL (dec : Nat -> List UInt8) (hI : ∀ n : Nat,n < 100 -> C 127 [.int .i64 n] (.str (dec n)) []) (m : Msh) (hz : cO m=true -> m.s.length <= 100 /\ m.f.length <= 100) :
  C 244 [.agg (cm m)] (if ar m then .tup [.sl (inR (aX m).ou),.int .i64 0] else .tup [.nils,.int .i64 1]) []:=by
 have k:=fp hC dec hI m hz
 simp only [am] at k
 refine aF hC (nf:=N244) rfl rfl ?_
 simp [N244,am]
 refine ab k (.inr rfl) ?_
 cases hv : ar m
 ·simp
 ·simp [dS]
end
end Go.Gv

namespace Go.Gv
theorem vE {ou : List Int} {a : Nat} (h : ou.getD a 0=-1) : ∀ k,mth ou k a=a
 | 0=>rfl
 | k + 1=>by simp only [mth,h,if_true]
theorem vD {n : Nat} {ou : List Int} {rc : List Bool} {d a b : Nat} (e1 : ou.getD a 0=b) (e3 : jz n ou rc d b) {k : Nat} (hk : d + 1 <= k) : mth ou k a=mth ou k b:=by
 cases k with
 | zero=>omega
 | succ k =>
  rw [oA e3 (k + 1) (by omega),<- oA e3 k (by omega)]
  simp only [mth,e1]
  rw [if_neg (by omega)]
  simp
def rg (m : Msh) (a : Nat) : Int:=(mth (aX m).ou m.f.length a : Nat)
def drT (m : Msh) (i : Nat) : List Int:=(List.range i).map (rg m)++List.replicate (m.f.length - i) 0
def drL (m : Msh) : List Int:=(List.range m.f.length).map (rg m)
theorem xC {m : Msh} {i : Nat} (h : i <= m.f.length) : (drT m i).length=m.f.length:=by simp [drT];omega
theorem xD {m : Msh} {i : Nat} (h : i < m.f.length) : (drT m i).set i (rg m i)=drT m (i + 1):=by
 unfold drT
 apply List.ext_getElem (by simp;omega)
 intro j h1 h2
 simp only [List.getElem_set,List.getElem_append,List.length_map,List.length_range,List.getElem_map,List.getElem_range,List.getElem_replicate]
 split <;> split <;> (try split) <;> first | rfl | omega | (simp_all;done)
theorem xB (m : Msh) : drT m m.f.length=drL m:=by simp [drT,drL]
section
variable {C : Nat -> List D -> D -> List D -> Prop} (hC : aB prog C)
include hC
set_option maxHeartbeats 1000000 in
theorem sJ (dec : Nat -> List UInt8) (hI : ∀ n : Nat,n < 100 -> C 127 [.int .i64 n] (.str (dec n)) []) (m : Msh) (hz : cO m=true -> m.s.length <= 100 /\ m.f.length <= 100) :
  C 245 [.agg (cm m)] (if ar m then .tup [.sl (inR (drL m)),.int .i64 0] else .tup [.nils,.int .i64 1]) []:=by
 have k:=fp hC dec hI m hz
 simp only [am] at k
 refine aF hC (nf:=N245) rfl rfl ?_
 simp [N245,am]
 refine ab k (.inr rfl) ?_
 cases hv : ar m
 ·simp
 ·have hsz:=(cD hv).2
  have W:=iR m
  obtain ⟨ou,hou⟩ : ∃ ou,ou=(aX m).ou:=⟨_,rfl⟩
  have hol : ou.length=m.f.length:=by rw [hou];exact W.ou
  have hen : ∀ a,a < m.f.length -> ∃ d,d <= m.f.length /\ jz m.f.length ou (co m).rc d a:=fun a ha=>by rw [hou];exact mc hv ha
  have hmo : ∀ a,rg m a=(mth ou m.f.length a : Nat):=fun a=>by rw [hou];rfl
  simp [dS,<- hou,hol]
  refine ⟨by omega,?_⟩
  refine aE Nat (fun i=>[(4,.ptr [.sl (nbA m),slx true (inR (bJ m)),.sl (inR (aX m).sp),.sl (inR ou)]),(6,.ref (.r 10096) 0 m.f.length),(24,.int .i64 m.f.length),(25,.int .i64 i),(10096,.blk 1 (inR (drT m i)))]) (fun i=>i <= m.f.length) (fun i=>m.f.length - i) 0 (by simp) (by simp [drT,inR]) ?_
  rintro i hi
  have hw : IntKind.wrap .i64 ((i : Int) + 1)=((i + 1 : Nat) : Int):=ai (by omega) (by omega)
  have hdl:=xC hi
  simp
  refine al (fun g1=>?_) (fun g1=>?_) <;> simp at g1 <;> simp [g1]
  ·obtain ⟨d0,hd0,he0⟩:=hen i g1
   refine aE (Nat × Nat) (fun s=>[(4,.ptr [.sl (nbA m),slx true (inR (bJ m)),.sl (inR (aX m).sp),.sl (inR ou)]),(6,.ref (.r 10096) 0 m.f.length),(7,.int .i64 i),(8,.int .i64 s.1),(24,.int .i64 m.f.length),(25,.int .i64 i),(10096,.blk 1 (inR (drT m i)))]) (fun s=>s.1 < m.f.length /\ s.2 <= m.f.length /\ jz m.f.length ou (co m).rc s.2 s.1 /\ mth ou m.f.length s.1=mth ou m.f.length i) (fun s=>s.2) (i,d0) ⟨g1,hd0,he0,rfl⟩ (by simp) ?_
   rintro ⟨a,d⟩ ⟨q1,q2,q3,q4⟩
   simp only at q1 q2 q3 q4
   have hao : a < ou.length:=by omega
   simp [av (cd hao)]
   refine al (fun g2=>?_) (fun g2=>?_) <;> simp at g2
   ·cases d with
    | zero =>
     have : ou.getD a 0=-1:=q3
     simp at this
     exact absurd this g2
    | succ d =>
     obtain ⟨b,hb,e1,e2,e3⟩:=q3
     have e1' : ou[a]?.getD 0=(b : Int):=by simpa using e1
     simp [g2,av (cd hao),e1']
     exact ⟨b,d,⟨hb,by omega,e3,by rw [<- q4,vD e1 e3 q2]⟩,by omega,rfl⟩
   ·have h1 : ou.getD a 0=-1:=by simpa using g2
    rw [vE h1] at q4
    have hmi : rg m i=(a : Int):=by rw [hmo,<- q4]
    have hst:=xD g1
    rw [hmi] at hst
    have hil : i < (drT m i).length:=by omega
    simp [g2,g1,cd hil,ov,hst]
    exact ⟨i + 1,by omega,by omega,hw,rfl⟩
  ·have hin : i=m.f.length:=by omega
   subst hin
   rw [xB] at hdl ⊢
   have:=jL (drL m)
   rw [hdl] at this
   simp [this]
   omega
end
end Go.Gv

namespace Go.Gv
def exS : Msh:=⟨false,[⟨0,0,1⟩,⟨10,0,2⟩,⟨0,10,4⟩],false,[⟨0,1,2,0⟩]⟩
theorem uZ : ar exS=true:=by decide +kernel
theorem Am : (co exS).lv=[7] /\ (co exS).ou=[-1]:=by decide +kernel
theorem Id : bJ exS=[7]:=by decide +kernel
theorem uY : (aX exS).sp=[7]:=(fo uZ).1.trans Am.1
theorem uX : (aX exS).ou=[-1]:=(fo uZ).2.trans Am.2
theorem BH : drL exS=[0]:=by
 show [rg exS 0]=[0]
 unfold rg
 rw [uX]
 rfl
theorem BI : aQ exS=[]:=by
 show cM exS 1=[]
 rw [mE (by unfold dA;rw [uY,Id];rfl)]
 rfl
section
variable {C : Nat -> List D -> D -> List D -> Prop} (hC : aB prog C)
include hC
theorem ua (dec : Nat -> List UInt8) (hI : ∀ n : Nat,n < 100 -> C 127 [.int .i64 n] (.str (dec n)) []) (m : Msh) (hz : cO m=true -> m.s.length <= 100 /\ m.f.length <= 100) :
  C 279 [.agg (cm m)] (if ar m then .tup [.sl (gr (aQ m)),.int .i64 0] else .tup [.nils,.int .i64 1]) []:=by
 have k:=fp hC dec hI m hz
 simp only [am] at k
 refine aF hC (nf:=N279) rfl rfl ?_
 simp [N279,am]
 refine ab k (.inr rfl) ?_
 cases hv : ar m
 ·simp
 ·have kp:=vR hC m hv
  rw [show dS m=.ptr [.sl (nbA m),slx true (inR (bJ m)),.sl (inR (aX m).sp),.sl (inR (aX m).ou)] from rfl] at kp ⊢
  simp
  refine ab kp (.inr rfl) ?_
  simp
theorem sS (dec : Nat -> List UInt8) (hI : ∀ n : Nat,n < 100 -> C 127 [.int .i64 n] (.str (dec n)) []) : C 241 [] (.bool true) []:=by
 have hz : cO exS=true -> exS.s.length <= 100 /\ exS.f.length <= 100:=fun _=>by simp [exS]
 have k1:=t7 hC dec hI exS hz
 have k2:=sL hC dec hI exS hz
 have k3:=sJ hC dec hI exS hz
 have k4:=ua hC dec hI exS hz
 have q1:=uV hC false false [7] [7] (by simp) (by simp)
 have q2:=uV hC false false [-1] [-1] (by simp) (by simp)
 have q3:=uV hC false false [0] [0] (by simp) (by simp)
 rw [uZ] at k1 k2 k3 k4
 rw [uY] at k1
 rw [uX] at k2
 rw [BH] at k3
 rw [BI] at k4
 simp only [am] at k1 k2 k3 k4
 simp [exS,vq,gr,jd,cJ] at k1 k2 k3 k4 q1 q2 q3
 refine aF hC (nf:=N241) rfl rfl ?_
 simp [N241]
 refine ab k1 (.inr rfl) ?_
 simp
 refine ab k2 (.inr rfl) ?_
 simp
 refine ab k3 (.inr rfl) ?_
 simp
 refine ab k4 (.inr rfl) ?_
 simp
 refine ab q1 (.inl rfl) ?_
 simp
 refine ab q2 (.inl rfl) ?_
 simp
 refine ab q3 (.inl rfl) ?_
 simp
end
end Go.Gv

namespace Go.Gv
structure LvI (m : Msh) (r : RF) (P : Nat -> Nat -> Prop) : Prop where
 rcl : r.rc.length=m.f.length
 lfl : r.lf.length=m.f.length
 lvl : r.lv.length=m.f.length
 oul : r.ou.length=m.f.length
 l1 : ∀ a,r.lf.getD a false=true -> r.rc.getD a false=true
 l2 : ∀ a b,r.lf.getD a false=true -> r.rc.getD b false=true -> r.lf.getD b false=false -> r.lv.getD a 0 <= r.lv.getD b 0
 bd : ∀ a,a < m.f.length -> bsd m a (-1)=true -> r.rc.getD a false=true
 l3 : ∀ a,a < m.f.length -> r.rc.getD a false=true -> (bsd m a (-1)=true /\ r.ou.getD a 0=-1 /\ r.lv.getD a 0=(bJ m).getD a 0) \/
  (bsd m a (-1)=false /\ ∃ z : Nat,z < m.f.length /\ r.ou.getD a 0=z /\ r.lf.getD z false=true /\ (∃ c,c < 3 /\ nbF m a c=z) /\ r.lv.getD a 0=max ((bJ m).getD a 0) (r.lv.getD z 0))
 l4 : ∀ y,r.lf.getD y false=true -> ∀ c,c < 3 -> P y c -> ∀ x : Nat,nbF m y c=x -> r.rc.getD x false=true /\ r.lv.getD x 0 <= max ((bJ m).getD x 0) (r.lv.getD y 0)
theorem LvI.p1 {m : Msh} (hv : ar m=true) {a j : Nat} {r : RF} (ha : a < m.f.length) (hj : j < 3) (hla : r.lf.getD a false=true) (hat : ∀ z,r.lf.getD z false=true -> r.lv.getD z 0 <= r.lv.getD a 0) {P : Nat -> Nat -> Prop} (h : LvI m r P) :
  LvI m (gx m a r (nbF m a j)) (fun y c=>P y c \/ (y=a /\ c=j)) /\ (gx m a r (nbF m a j)).lf=r.lf /\ ∀ z,r.lf.getD z false=true -> (gx m a r (nbF m a j)).lv.getD z 0=r.lv.getD z 0:=by
 have hb:=dw m a j
 unfold gx
 split
 ·rename_i hc
  obtain ⟨x0,hx0⟩ : ∃ x0 : Nat,nbF m a j=x0:=⟨(nbF m a j).toNat,by omega⟩
  rw [hx0] at hc hb ⊢
  simp only [Int.toNat_natCast] at hc ⊢
  have hxn : x0 < m.f.length:=by omega
  obtain ⟨v,hvv⟩ : ∃ v,v=(if r.lv.getD a 0 < (bJ m).getD x0 0 then (bJ m).getD x0 0 else r.lv.getD a 0):=⟨_,rfl⟩
  have hv1 : v=max ((bJ m).getD x0 0) (r.lv.getD a 0):=by rw [hvv];split <;> omega
  rw [<- hvv]
  have grc : ∀ i,(r.rc.set x0 true).getD i false=if i=x0 then true else r.rc.getD i false:=fun i=>bY (by rw [h.rcl];exact hxn)
  have glv : ∀ i,(r.lv.set x0 v).getD i 0=if i=x0 then v else r.lv.getD i 0:=fun i=>bY (by rw [h.lvl];exact hxn)
  have gou : ∀ i,(r.ou.set x0 (a : Int)).getD i 0=if i=x0 then (a : Int) else r.ou.getD i 0:=fun i=>bY (by rw [h.oul];exact hxn)
  have hne : ∀ i,r.rc.getD i false=true -> i ≠ x0:=fun i hi e=>by rw [e,hc.2] at hi;cases hi
  have hmono : ∀ i,r.rc.getD i false=true -> (r.rc.set x0 true).getD i false=true:=fun i hi=>by rw [grc,if_neg (hne i hi)];exact hi
  have hkeep : ∀ z,r.lf.getD z false=true -> (r.lv.set x0 v).getD z 0=r.lv.getD z 0:=fun z hz=>by rw [glv,if_neg (hne z (h.l1 z hz))]
  refine ⟨⟨by simp [h.rcl],h.lfl,by simp [h.lvl],by simp [h.oul],fun i hi=>hmono i (h.l1 i hi),fun i k hi hk hk2=>?_,fun i hi hbi=>hmono i (h.bd i hi hbi),fun i hi hir=>?_,fun y hy c hc3 hP x hx=>?_⟩,trivial,hkeep⟩
  ·simp only at hi hk hk2 ⊢
   rw [hkeep i hi,glv]
   split
   ·have:=hat i hi
    omega
   ·rename_i e
    rw [grc,if_neg e] at hk
    exact h.l2 i k hi hk hk2
  ·simp only at hir ⊢
   by_cases e : i=x0
   ·subst e
    right
    have hnb : bsd m i (-1)=false:=by
     cases hh : bsd m i (-1)
     ·rfl
     ·have:=h.bd i hi hh
      rw [hc.2] at this
      cases this
    obtain ⟨c',hc',e'⟩:=oH hv ha hj (by omega)
    rw [hx0] at e'
    refine ⟨hnb,a,ha,by rw [gou,if_pos rfl],hla,⟨c',hc',by simpa using e'⟩,?_⟩
    rw [glv,if_pos rfl,hkeep a hla,hv1]
   ·rw [grc,if_neg e] at hir
    rw [gou,if_neg e,glv,if_neg e]
    rcases h.l3 i hi hir with h5 | ⟨h5,z,hz,h6,h7,h8,h9⟩
    ·exact .inl h5
    ·exact .inr ⟨h5,z,hz,h6,h7,h8,by rw [hkeep z h7];exact h9⟩
  ·simp only at hy ⊢
   rw [hkeep y hy]
   rcases hP with hP | ⟨rfl,rfl⟩
   ·obtain ⟨h5,h6⟩:=h.l4 y hy c hc3 hP x hx
    rw [glv,if_neg (hne x h5)]
    exact ⟨hmono x h5,h6⟩
   ·have e : x=x0:=by omega
    subst e
    rw [grc,if_pos rfl,glv,if_pos rfl,hv1]
    exact ⟨by simp,Int.le_refl _⟩
 ·rename_i hc
  refine ⟨⟨h.rcl,h.lfl,h.lvl,h.oul,h.l1,h.l2,h.bd,h.l3,fun y hy c hc3 hP x hx=>?_⟩,rfl,fun _ _=>rfl⟩
  rcases hP with hP | ⟨rfl,rfl⟩
  ·exact h.l4 y hy c hc3 hP x hx
  ·have hxn : x < m.f.length:=by omega
   have hr : r.rc.getD x false=true:=by
    cases hh : r.rc.getD x false
    ·exact absurd ⟨by omega,by rw [hx];simpa using hh⟩ hc
    ·rfl
   refine ⟨hr,?_⟩
   rcases h.l3 x hxn hr with h5 | ⟨h5,z,hz,h6,h7,h8,h9⟩
   ·omega
   ·have:=hat z h7
    omega
theorem LvI.weaken {m : Msh} {r : RF} {P Q : Nat -> Nat -> Prop} (h : LvI m r P) (hPQ : ∀ y c,c < 3 -> r.lf.getD y false=true -> Q y c -> P y c) : LvI m r Q :=
 ⟨h.rcl,h.lfl,h.lvl,h.oul,h.l1,h.l2,h.bd,h.l3,fun y hy c hc hq=>h.l4 y hy c hc (hPQ y c hc hy hq)⟩
theorem LvI.i {m : Msh} (hv : ar m=true) {a : Nat} {r : RF} (ha : a < m.f.length) (hla : r.lf.getD a false=true) (hat : ∀ z,r.lf.getD z false=true -> r.lv.getD z 0 <= r.lv.getD a 0) {P : Nat -> Nat -> Prop} (h : LvI m r P) : ∀ j,j <= 3 ->
  LvI m (rfI m a r j) (fun y c=>P y c \/ (y=a /\ c < j)) /\ (rfI m a r j).lf=r.lf /\ ∀ z,r.lf.getD z false=true -> (rfI m a r j).lv.getD z 0=r.lv.getD z 0
 | 0,_=>⟨h.weaken fun y c _ _ hq=>by rcases hq with h | h;exact h;omega,rfl,fun _ _=>rfl⟩
 | j + 1,hj=>by
  obtain ⟨h1,h2,h3⟩:=LvI.i hv ha hla hat h j (by omega)
  obtain ⟨q1,q2,q3⟩:=h1.p1 hv ha (show j < 3 by omega) (by rw [h2];exact hla) (fun z hz=>by rw [h2] at hz;rw [h3 z hz,h3 a hla];exact hat z hz)
  refine ⟨q1.weaken fun y c hc _ hq=>?_,by show (gx m a (rfI m a r j) (nbF m a j)).lf=_;rw [q2,h2],fun z hz=>by show (gx m a (rfI m a r j) (nbF m a j)).lv.getD z 0=_;rw [q3 z (by rw [h2];exact hz),h3 z hz]⟩
  rcases hq with h | ⟨h4,h5⟩
  ·exact .inl (.inl h)
  ·by_cases e : c=j
   ·exact .inr ⟨h4,e⟩
   ·exact .inl (.inr ⟨h4,by omega⟩)
theorem LvI.step {m : Msh} (hv : ar m=true) {r : RF} (h : LvI m r fun _ _=>True) : LvI m (f7 m r) fun _ _=>True:=by
 unfold f7
 split
 ·exact h
 ·rename_i h0
  rcases jX r m.f.length with ⟨h1,_⟩ | ⟨a,h1,h2,h3,h4⟩
  ·omega
  ·rw [h1]
   simp only [Int.toNat_natCast]
   have h3' : r.rc.getD a false=true /\ r.lf.getD a false=false:=by simpa [act] using h3
   have glf : ∀ i,(r.lf.set a true).getD i false=if i=a then true else r.lf.getD i false:=fun i=>bY (by rw [h.lfl];exact h2)
   have hat : ∀ z,(r.lf.set a true).getD z false=true -> r.lv.getD z 0 <= r.lv.getD a 0:=fun z hz=>by
    rw [glf] at hz
    split at hz
    ·rename_i e;rw [e];exact Int.le_refl _
    ·exact h.l2 z a hz h3'.1 h3'.2
   have hI : LvI m { r with lf:=r.lf.set a true } fun y _=>y ≠ a:=by
    refine ⟨h.rcl,by simp [h.lfl],h.lvl,h.oul,fun i hi=>?_,fun i k hi hk hk2=>?_,h.bd,fun i hi hir=>?_,fun y hy c hc hne x hx=>?_⟩
    ·simp only at hi
     rw [glf] at hi
     split at hi
     ·rename_i e;rw [e];exact h3'.1
     ·exact h.l1 i hi
    ·simp only at hi hk hk2 ⊢
     rw [glf] at hk2
     split at hk2
     ·cases hk2
     ·rename_i e
      have hak : act r k=true:=by simp only [act,hk,hk2];rfl
      by_cases hkn : k < m.f.length
      ·have h5:=h4 k hkn hak
       have h6:=hat i hi
       omega
      ·have : r.rc.getD k false=false:=by
        rw [List.getD_eq_getElem?_getD,List.getElem?_eq_none (by rw [h.rcl];omega)];rfl
       rw [this] at hk;cases hk
    ·rcases h.l3 i hi hir with h5 | ⟨h5,z,hz,h6,h7,h8,h9⟩
     ·exact .inl h5
     ·refine .inr ⟨h5,z,hz,h6,?_,h8,h9⟩
      show (r.lf.set a true).getD z false=true
      rw [glf];split
      ·rfl
      ·exact h7
    ·simp only at hy
     rw [glf,if_neg hne] at hy
     exact h.l4 y hy c hc trivial x hx
   have:=(hI.i (a:=a) hv h2 (by show (r.lf.set a true).getD a false=true;rw [glf,if_pos rfl]) hat 3 (Nat.le_refl _)).1
   refine this.weaken fun y c hc _ _=>?_
   by_cases e : y=a
   ·exact .inr ⟨e,hc⟩
   ·exact .inl e
theorem LvI.run {m : Msh} (hv : ar m=true) : ∀ (k : Nat) {r : RF},LvI m r (fun _ _=>True) -> LvI m (rfN m k r) fun _ _=>True
 | 0,_,h=>h
 | k + 1,_,h=>LvI.run hv k (h.step hv)
theorem kS (m : Msh) : ∀ i a,(rf0 m i).1.getD a false=true -> bsd m a (-1)=true
 | 0,a,h=>by
  simp [rf0,List.getElem?_replicate] at h
  split at h <;> cases h
 | i + 1,a,h=>by
  unfold rf0 at h
  split at h
  ·rename_i hb
   rcases mg h with rfl | h
   ·exact hb
   ·exact kS m i a h
  ·exact kS m i a h
theorem LvI.init (m : Msh) : LvI m (fa m) fun _ _=>True:=by
 have hf : ∀ i,(List.replicate m.f.length false).getD i false=false:=fun i=>by simp [List.getElem?_replicate];split <;> rfl
 refine ⟨(fU m _).1,by simp [fa],(fU m _).2,by simp [fa],fun a ha=>?_,fun a b ha _ _=>?_,fun a ha hb=>rA m _ (Nat.le_refl _) a ha hb,fun a ha hr=>.inl ⟨kS m _ a hr,?_,oO m _ (Nat.le_refl _) a hr⟩,fun y hy=>?_⟩
 ·exact absurd ((hf a).symm.trans ha) (by decide)
 ·exact absurd ((hf a).symm.trans ha) (by decide)
 ·show (List.replicate m.f.length (-1 : Int)).getD a 0=-1
  simp [List.getElem?_replicate,ha]
 ·exact absurd ((hf y).symm.trans hy) (by decide)
def spF (m : Msh) (a : Nat) : Int:=(aX m).sp.getD a 0
def suF (m : Msh) (a : Nat) : Int:=(bJ m).getD a 0
def ouF (m : Msh) (a : Nat) : Int:=(aX m).ou.getD a 0
theorem kD {m : Msh} (hv : ar m=true) : LvI m (co m) fun _ _=>True:=(LvI.init m).run hv _
theorem kY {m : Msh} (hv : ar m=true) {a : Nat} (ha : a < m.f.length) (hb : bsd m a (-1)=true) : spF m a=suF m a /\ ouF m a=-1:=by
 obtain ⟨e1,e2⟩:=fo hv
 unfold spF suF ouF
 rw [e1,e2]
 rcases (kD hv).l3 a ha (eD hv a ha) with h | ⟨h,_⟩
 ·exact ⟨h.2.2,h.2.1⟩
 ·rw [hb] at h;cases h
theorem kZ {m : Msh} (hv : ar m=true) {a : Nat} (ha : a < m.f.length) (hb : bsd m a (-1)=false) : ∃ z : Nat,z < m.f.length /\ ouF m a=z /\ (∃ c,c < 3 /\ nbF m a c=z) /\ spF m a=max (suF m a) (spF m z):=by
 obtain ⟨e1,e2⟩:=fo hv
 unfold spF suF ouF
 rw [e1,e2]
 rcases (kD hv).l3 a ha (eD hv a ha) with h | ⟨_,z,h1,h2,_,h4,h5⟩
 ·rw [hb] at h;cases h.1
 ·exact ⟨z,h1,h2,h4,h5⟩
theorem wF {m : Msh} (hv : ar m=true) {a x c : Nat} (ha : a < m.f.length) (hc : c < 3) (hx : nbF m a c=x) : spF m a <= max (suF m a) (spF m x):=by
 obtain ⟨e1,_⟩:=fo hv
 have hb:=dw m a c
 have hxn : x < m.f.length:=by omega
 obtain ⟨c',hc',e⟩:=oH hv ha hc (by omega)
 rw [hx] at e
 unfold spF suF
 rw [e1]
 exact ((kD hv).l4 x (lD m x (eD hv x hxn)) c' hc' trivial a (by simpa using e)).2
theorem wE {m : Msh} (hv : ar m=true) {a : Nat} (ha : a < m.f.length) : suF m a <= spF m a:=by
 cases hb : bsd m a (-1)
 ·obtain ⟨z,_,_,_,h⟩:=kZ hv ha hb
  omega
 ·have:=kY hv ha hb
  omega
end Go.Gv

namespace Go.Gv
open Go.Lib
variable {C : CC} (hC : aB prog C)
include hC
end Go.Gv

namespace Go.Gv
def DvS (x b i a q r : Nat) : Prop:=i <= 128 /\ r < b /\ ∃ c,a=c * 2 ^ i /\ c < 2 ^ (128 - i) /\ (q * b + r) * 2 ^ (128 - i) + c=x
theorem DvS.step {x b i a q r : Nat} (h : DvS x b i a q r) (hi : i < 128) (hb : 0 < b) :
  a < 340282366920938463463374607431768211456 /\ 2 * q <= x /\
  ∀ w r' a',2 * r + a / 170141183460469231731687303715884105728=w * b + r' -> r' < b -> a'=2 * a % 340282366920938463463374607431768211456 -> DvS x b (i + 1) a' (2 * q + w) r' /\ 2 * q + w <= x:=by
 obtain ⟨_,hr,c,h1,h2,h3⟩:=h
 obtain ⟨m,hm⟩ : ∃ m,m + 1=128 - i:=⟨127 - i,by omega⟩
 have hm2 : m=128 - (i + 1):=by omega
 rw [<- hm,Nat.pow_succ] at h2 h3
 obtain ⟨V,hV⟩ : ∃ V,V=2 ^ m:=⟨_,rfl⟩
 obtain ⟨W,hW⟩ : ∃ W,W=2 ^ i:=⟨_,rfl⟩
 have hVW : V * W=170141183460469231731687303715884105728:=by
  rw [hV,hW,<- Nat.pow_add,show m + i=127 by omega]
 have hVp : 0 < V:=by rw [hV];exact Nat.two_pow_pos m
 rw [<- hV] at h2 h3
 rw [<- hW] at h1
 obtain ⟨t,ht⟩ : ∃ t,t=c / V:=⟨_,rfl⟩
 obtain ⟨d,hd⟩ : ∃ d,d=c % V:=⟨_,rfl⟩
 have hc : c=t * V + d:=by rw [ht,hd,Nat.mul_comm];exact (Nat.div_add_mod c V).symm
 have hdV : d < V:=by rw [hd];exact Nat.mod_lt _ hVp
 have ht1 : t <= 1:=by
  have : t < 2:=by rw [ht,Nat.div_lt_iff_lt_mul hVp];omega
  omega
 have ha : a=t * 170141183460469231731687303715884105728 + d * W:=by
  rw [h1,hc,Nat.add_mul,Nat.mul_assoc,hVW]
 have hdW : d * W < 170141183460469231731687303715884105728:=by
  have : (d + 1) * W <= V * W:=Nat.mul_le_mul_right _ hdV
  rw [hVW,Nat.add_mul] at this
  have hWp : 0 < W:=by rw [hW];exact Nat.two_pow_pos i
  omega
 have hbit : a / 170141183460469231731687303715884105728=t:=by
  rw [ha];generalize d * W=z at *;omega
 have fin : ∀ w r',2 * r + t=w * b + r' -> ((2 * q + w) * b + r') * V + d=x:=fun w r' e=>by
  have e1 : (2 * q + w) * b + r'=2 * (q * b + r) + t:=by
   rw [Nat.add_mul,Nat.mul_assoc]
   generalize q * b=z at *
   generalize w * b=z' at *
   omega
  rw [e1,<- h3,hc,Nat.add_mul,Nat.mul_comm V 2,<- Nat.mul_assoc,Nat.mul_comm (q * b + r) 2]
  omega
 have big : ∀ w r',2 * r + t=w * b + r' -> 2 * q + w <= x:=fun w r' e=>by
  have e1:=fin w r' e
  have e2 : 2 * q + w <= (2 * q + w) * b:=Nat.le_mul_of_pos_right _ hb
  have e3 : (2 * q + w) * b + r' <= ((2 * q + w) * b + r') * V:=Nat.le_mul_of_pos_right _ hVp
  omega
 refine ⟨?_,?_,?_⟩
 ·rw [ha];generalize d * W=z at *;omega
 ·exact Nat.le_trans (Nat.le_add_right _ _) (big _ _ (Nat.div_add_mod' (2 * r + t) b).symm)
 ·intro w r' a' e hr' ha'
  rw [hbit] at e
  refine ⟨⟨by omega,hr',d,?_,?_,?_⟩,big w r' e⟩
  ·rw [ha',ha,Nat.pow_succ,<- hW,Nat.mul_comm W 2,Nat.mul_left_comm]
   generalize d * W=z at *
   omega
  ·rw [<- hm2,<- hV];exact hdV
  ·rw [<- hm2,<- hV];exact fin w r' e
theorem DvS.last {x b a q r : Nat} (h : DvS x b 128 a q r) : q=x / b /\ r=x % b:=by
 obtain ⟨_,hr,c,h1,h2,h3⟩:=h
 simp at h2 h3
 subst h2
 simp at h3
 subst h3
 have hb : 0 < b:=by omega
 rw [Nat.mul_comm,Nat.mul_add_div hb,Nat.div_eq_of_lt hr,Nat.mul_add_mod,Nat.mod_eq_of_lt hr]
 exact ⟨rfl,rfl⟩
variable {C : CC} (hC : aB prog C)
include hC
end Go.Gv

namespace Go.Gv
variable {C : CC} (hC : aB prog C)
include hC
end Go.Gv

namespace Go.Gv
open Go.Lib
def jb (v : Int) : D:=f5 v.natAbs (decide (v < 0))
theorem gQ {v : Int} {p : Nat} {b : Bool} (h1 : v.natAbs=p) (h2 : decide (v < 0)=b) : jb v=f5 p b:=by rw [jb,h1,h2]
theorem ee (p : Nat) (b : Bool) : ∃ x y : Nat,x=p / 18446744073709551616 /\ y=p % 18446744073709551616 /\ f5 p b=.agg [.int .u64 x,.int .u64 y,.bool b]:=⟨_,_,rfl,rfl,rfl⟩
variable {C : CC} (hC : aB prog C)
include hC
end Go.Gv

namespace Go.Gv
open Go.Lib
variable {C : CC} (hC : aB prog C)
include hC
end Go.Gv

namespace Go.Gv
open Go.Lib
theorem ek (v : Int) : ∃ h l : Int,h=v / 1152921504606846976 /\ l=v % 1152921504606846976 /\ wiS v=.agg [.int .i64 h,.int .i64 l]:=⟨_,_,rfl,rfl,rfl⟩
variable {C : CC} (hC : aB prog C)
include hC
theorem tC (v : Int) (h : -1329227995784915872903807060280344576 < v /\ v < 1329227995784915872903807060280344576) : C 105 [jb v] (.tup [wiS v,.int .i64 0]) []:=by
 by_cases v0 : v < 0
 ·have k:=nT hC v.natAbs (by omega) (by omega)
  rw [show -((v.natAbs : Nat) : Int)=v by omega] at k
  rw [jb,decide_eq_true v0]
  exact k
 ·have k:=mH hC v.natAbs (by omega)
  rw [<- lT,show ((v.natAbs : Nat) : Int)=v by omega] at k
  rw [jb,decide_eq_false v0]
  exact k
set_option maxHeartbeats 2000000 in
theorem na (v : Int) (h : -1329227995784915872903807060280344576 <= v /\ v < 1329227995784915872903807060280344576) : C 108 [wiS v] (jb v) []:=by
 by_cases v0 : v < 0
 ·obtain ⟨ph,pl,hph,hpl,e0⟩:=ek v
  obtain ⟨n,hn⟩ : ∃ n : Nat,n=ph.natAbs:=⟨_,rfl⟩
  obtain ⟨l,hl⟩ : ∃ l : Nat,l=pl.natAbs:=⟨_,rfl⟩
  obtain ⟨p,hp⟩ : ∃ p,p=v.natAbs:=⟨_,rfl⟩
  obtain ⟨zh,zl,hzh,hzl,e1⟩:=ee p true
  have epl : pl=(l : Int):=by omega
  have eph : ph=-(n : Int):=by omega
  have k1:=qn hC n (by omega) (by omega)
  rw [gQ hp.symm (decide_eq_true v0),e0,e1,epl,eph]
  have h1 : ¬ (0 : Int) <= -(n : Int):=by omega
  obtain ⟨w,hw⟩ : ∃ z,z=n % 16:=⟨_,rfl⟩
  obtain ⟨t,ht⟩ : ∃ z,z=n / 16:=⟨_,rfl⟩
  have s1 : Int.fdiv (n : Int) (2 ^ min 4 IntKind.u64.bits)=(t : Int):=by rw [LX,ht]
  have s2 : IntKind.u64.wrap ((n : Int) * 2 ^ min 60 IntKind.u64.bits)=((w * 1152921504606846976 : Nat) : Int):=AZ n _ (by omega)
  have s3 : IntKind.u64.wrap (l : Int)=(l : Int):=dj l (by omega)
  have c1 : (l : Int) < 18446744073709551616:=by omega
  have c2 : ((w * 1152921504606846976 : Nat) : Int) < 18446744073709551616:=by omega
  have s4 : (((w * 1152921504606846976 : Nat) : Int) - (l : Int)) % 18446744073709551616=(zl : Int):=by omega
  have s5 : IntKind.u64.wrap ((t : Int) - (if w * 1152921504606846976 < l then 1 else 0))=(zh : Int):=by
   split <;> exact uw (by omega) (by omega)
  obtain ⟨W,hW⟩ : ∃ W,W=w * 1152921504606846976:=⟨_,rfl⟩
  rw [<- hW] at s2 s4 s5 c2
  obtain ⟨z,hz⟩ : ∃ z,z=-(n : Int):=⟨_,rfl⟩
  rw [<- hz] at k1 h1 ⊢
  have c3 : (0 : Int) <= W:=by omega
  have c4 : (0 : Int) <= l:=by omega
  refine aF hC (nf:=N108) rfl rfl ?_
  simp [N108]
  refine ab k1 (.inl rfl) ?_
  simp [h1]
  rw [s1,s2,s3]
  simp [c1,c2,s4,s5]
 ·have k:=zz hC v.natAbs (by omega)
  rw [<- lT,show ((v.natAbs : Nat) : Int)=v by omega] at k
  rw [jb,decide_eq_false v0]
  exact k
set_option maxRecDepth 20000 in
set_option maxHeartbeats 4000000 in
theorem Da (x y : Int) (hx : x.natAbs < 170141183460469231731687303715884105728) (hy : y.natAbs < 170141183460469231731687303715884105728) : C 107 [jb x,jb y] (jb (x + y)) []:=by
 obtain ⟨p,hp⟩ : ∃ p,p=x.natAbs:=⟨_,rfl⟩
 obtain ⟨r,hr⟩ : ∃ r,r=y.natAbs:=⟨_,rfl⟩
 obtain ⟨s,hs⟩ : ∃ s,s=decide (x < 0):=⟨_,rfl⟩
 obtain ⟨t,ht⟩ : ∃ t,t=decide (y < 0):=⟨_,rfl⟩
 rw [gQ hp.symm hs.symm,gQ hr.symm ht.symm]
 obtain ⟨ph,pl,hph,hpl,ep⟩:=ee p s
 obtain ⟨rh,rl,hrh,hrl,er⟩:=ee r t
 rw [ep,er]
 have k0 : (0 : Int) <= pl:=by omega
 have k1 : (0 : Int) <= rl:=by omega
 have k3 : (pl : Int) < 18446744073709551616:=by omega
 have k4 : (rl : Int) < 18446744073709551616:=by omega
 by_cases c : s=t
 ·have e : jb (x + y)=f5 (p + r) (s && !decide (p + r=0)):=gQ (by
   subst c
   rw [hs,decide_eq_decide] at ht
   omega) (by
   subst c
   rw [hs] at ht ⊢
   rw [decide_eq_decide] at ht
   rw [Bool.eq_iff_iff]
   simp
   omega)
  obtain ⟨dh,dl,hdh,hdl,ed⟩:=ee (p + r) (s && !decide (p + r=0))
  rw [e,ed]
  have kk:=iL hC dh dl s
  rw [show (s && (!decide ((dh : Int)=0) || !decide ((dl : Int)=0)))=(s && !decide (p + r=0)) by
   congr 1;rw [Bool.eq_iff_iff];simp;omega] at kk
  obtain ⟨w,hw⟩ : ∃ w,w=(s && !decide (p + r=0)):=⟨_,rfl⟩
  rw [<- hw] at kk ⊢
  subst c
  clear hs ht hw e ed
  have e1 : ((pl : Int) + rl) % 18446744073709551616=(dl : Int):=by omega
  have e2 : IntKind.u64.wrap ((ph : Int) + rh)=(ph : Int) + rh:=uw (m:=ph + rh) (by omega) (by omega)
  have e3 : IntKind.u64.wrap ((ph : Int) + rh + ((pl : Int) + rl) / 18446744073709551616)=(dh : Int):=uw (by omega) (by omega)
  obtain ⟨g,hg⟩ : ∃ g,g=((pl : Int) + rl) / 18446744073709551616:=⟨_,rfl⟩
  rw [<- hg] at e3
  refine aF hC (nf:=N107) rfl rfl ?_
  simp [N107,k0,k1,k3,k4,e1,e2,e3,<- hg]
  refine ab kk (.inl rfl) ?_
  simp
 ·have c3 : (s == t)=false:=by simpa using c
  rw [hs,ht,decide_eq_decide] at c
  by_cases l : p < r
  ·have e : jb (x + y)=f5 (r - p) (t && !decide (r - p=0)):=gQ (by
    omega) (by
    rw [Bool.eq_iff_iff,ht]
    simp
    omega)
   obtain ⟨dh,dl,hdh,hdl,ed⟩:=ee (r - p) (t && !decide (r - p=0))
   rw [e,ed]
   have kk:=iL hC dh dl t
   rw [show (t && (!decide ((dh : Int)=0) || !decide ((dl : Int)=0)))=(t && !decide (r - p=0)) by
    congr 1;rw [Bool.eq_iff_iff];simp;omega] at kk
   obtain ⟨w,hw⟩ : ∃ w,w=(t && !decide (r - p=0)):=⟨_,rfl⟩
   rw [<- hw] at kk ⊢
   have e1 : ((rl : Int) - pl) % 18446744073709551616=(dl : Int):=by omega
   have e2 : IntKind.u64.wrap ((rh : Int) - ph)=((rh - ph : Nat) : Int):=uw (by omega) (by omega)
   have e3 : IntKind.u64.wrap (((rh - ph : Nat) : Int) - (if rl < pl then 1 else 0))=(dh : Int):=by
    split <;> exact uw (by omega) (by omega)
   have c5 : ph < rh \/ (ph=rh /\ pl < rl):=by omega
   clear hs ht hw e ed c
   refine aF hC (nf:=N107) rfl rfl ?_
   simp [N107,c3]
   rcases c5 with c5 | ⟨c5,c6⟩
   ·simp [c5,k3,k4,e1,e2]
    rw [e3]
    refine ab kk (.inl rfl) ?_
    simp
   ·have c7 : ¬ rl < pl:=by omega
    have hd : dh=0:=by omega
    have hz : IntKind.u64.wrap 0=0:=dj 0 (by omega)
    subst hd
    clear hph hpl hrh hrl hdh hdl k0 k1
    subst c5
    refine al (fun c4=>?_) (fun c4=>?_) <;> simp at c4
    simp
    refine al (fun c4=>?_) (fun c4=>?_) <;> simp at c4
    ·simp [c4,c7,k3,k4,e1,hz]
     refine ab kk (.inl rfl) ?_
     simp
    ·omega
  ·have e : jb (x + y)=f5 (p - r) (s && !decide (p - r=0)):=gQ (by
    omega) (by
    rw [Bool.eq_iff_iff,hs]
    simp
    omega)
   obtain ⟨dh,dl,hdh,hdl,ed⟩:=ee (p - r) (s && !decide (p - r=0))
   rw [e,ed]
   have kk:=iL hC dh dl s
   rw [show (s && (!decide ((dh : Int)=0) || !decide ((dl : Int)=0)))=(s && !decide (p - r=0)) by
    congr 1;rw [Bool.eq_iff_iff];simp;omega] at kk
   obtain ⟨w,hw⟩ : ∃ w,w=(s && !decide (p - r=0)):=⟨_,rfl⟩
   rw [<- hw] at kk ⊢
   have e1 : ((pl : Int) - rl) % 18446744073709551616=(dl : Int):=by omega
   have e2 : IntKind.u64.wrap ((ph : Int) - rh)=((ph - rh : Nat) : Int):=uw (by omega) (by omega)
   have e3 : IntKind.u64.wrap (((ph - rh : Nat) : Int) - (if pl < rl then 1 else 0))=(dh : Int):=by
    split <;> exact uw (by omega) (by omega)
   have c5 : ¬ ph < rh:=by omega
   have c6 : ph=rh -> ¬ pl < rl:=by omega
   clear hs ht hw e ed c
   refine aF hC (nf:=N107) rfl rfl ?_
   simp [N107,c3]
   simp [c5]
   refine al (fun c7=>?_) (fun c7=>?_) <;> simp at c7 <;> simp [c7]
   ·have c8 : ¬ pl < rl:=c6 (by omega)
    have hd : dh=0:=by omega
    have hz : IntKind.u64.wrap 0=0:=dj 0 (by omega)
    subst hd
    refine al (fun c4=>?_) (fun c4=>?_) <;> simp at c4 <;> simp [c4]
    ·omega
    simp [c8,k3,k4,e1,hz]
    refine ab kk (.inl rfl) ?_
    simp
   ·simp [k3,k4,e1,e2]
    rw [e3]
    refine ab kk (.inl rfl) ?_
    simp
theorem A7 (x y : Int) (hx : -664613997892457936451903530140172288 <= x /\ x <= 664613997892457936451903530140172287) (hy : -664613997892457936451903530140172288 < y /\ y <= 664613997892457936451903530140172287) : C 327 [wiS x,wiS y] (.tup [wiS (x + y),.int .i64 0]) []:=by
 have k1:=lb hC x (by omega)
 have k2:=lb hC y (by omega)
 have k3:=na hC x (by omega)
 have k4:=na hC y (by omega)
 have k5:=Da hC x y (by omega) (by omega)
 have k6:=tC hC (x + y) (by omega)
 obtain ⟨a1,a2,_,_,ea⟩:=ek x
 obtain ⟨b1,b2,_,_,eb⟩:=ek y
 obtain ⟨c1,c2,_,_,ec⟩:=ek (x + y)
 obtain ⟨f1,f2,f3,ef⟩ : ∃ (a1 a2 : Nat) (a3 : Bool),jb x=.agg [.int .u64 a1,.int .u64 a2,.bool a3]:=⟨_,_,_,rfl⟩
 obtain ⟨g1,g2,g3,eg⟩ : ∃ (a1 a2 : Nat) (a3 : Bool),jb y=.agg [.int .u64 a1,.int .u64 a2,.bool a3]:=⟨_,_,_,rfl⟩
 obtain ⟨h1,h2,h3,eh⟩ : ∃ (a1 a2 : Nat) (a3 : Bool),jb (x + y)=.agg [.int .u64 a1,.int .u64 a2,.bool a3]:=⟨_,_,_,rfl⟩
 rw [ea] at k1 k3 ⊢
 rw [eb] at k2 k4 ⊢
 rw [ef] at k3 k5
 rw [eg] at k4 k5
 rw [eh] at k5 k6
 rw [ec] at k6 ⊢
 clear ea eb ec ef eg eh
 refine aF hC (nf:=N327) rfl rfl ?_
 simp [N327]
 refine ab k1 (.inl rfl) ?_
 simp
 refine ab k2 (.inl rfl) ?_
 simp
 refine ab k3 (.inl rfl) ?_
 simp
 refine ab k4 (.inl rfl) ?_
 simp
 refine ab k5 (.inl rfl) ?_
 simp
 refine ab k6 (.inr rfl) ?_
 simp
 exact aC (by decide +kernel)
end Go.Gv

namespace Go.Gv
def tn0 (m : Msh) (i : Nat) (p : Pnt) : Int:=d5 (ptS (spA m i)) (ptS (spB m i)) p
def tn1 (m : Msh) (i : Nat) (p : Pnt) : Int:=d5 (ptS (spB m i)) (ptS (spC m i)) p
def tn2 (m : Msh) (i : Nat) (p : Pnt) : Int:=d5 (ptS (spC m i)) (ptS (spA m i)) p
def osF (m : Msh) (i : Nat) (p : Pnt) : Int:=if tn0 m i p < 0 then 0 else if tn1 m i p < 0 then 1 else if tn2 m i p < 0 then 2 else -1
def Ii (m : Msh) (p : Pnt) : Int:=hJ (fun i=>decide (osF m i p < 0)) (List.range m.f.length)
def Te (m : Msh) (i : Nat) : List D:=[.int .i64 (spA m i).x,.int .i64 (spA m i).y,.int .i64 (spA m i).z,.int .i64 (spB m i).x,.int .i64 (spB m i).y,.int .i64 (spB m i).z,.int .i64 (spC m i).x,.int .i64 (spC m i).y,.int .i64 (spC m i).z]
@[simp] theorem Q7 (p : Pnt) : (ptD p).length=2:=_root_.id rfl
@[simp] theorem LH (p : Pnt) : List.take 2 (ptD p)=ptD p:=_root_.id rfl
@[simp] theorem S7 (p : Pnt) : (∀ x,x ∈ ptD p -> isV x=true)=True:=by simp [ptD]
@[simp] theorem S6 (p : Pnt) : (∀ x,x ∈ ptD p -> ay x=true)=True:=by simp [ptD]
variable {C : CC} (hC : aB prog C)
include hC
end Go.Gv

namespace Go.Gv
def onE (m : Msh) (p : Pnt) : Int:=if ar m=true /\ okP p=true then (if Ii m p < 0 then 12 else 0) else 1
def onV (m : Msh) (p : Pnt) : Int:=if onE m p=0 then Ii m p else 0
def wlk (m : Msh) (p : Pnt) : Nat -> Nat -> Int × Int × Int
 | r,f=>if osF m f p < 0 then ((f : Int),((m.f.length - r : Nat) : Int),0) else if nbF m f (osF m f p).toNat < 0 then (0,0,12) else match r with
  | 0=>(0,0,6)
  | r + 1=>wlk m p r (nbF m f (osF m f p).toNat).toNat
def wkR (m : Msh) (from_ : Int) (p : Pnt) : Int × Int × Int:=if ar m=true /\ okP p=true then (if f4 m.f.length from_=true then wlk m p m.f.length from_.toNat else (0,0,2)) else (0,0,1)
def Ts (t : Int × Int × Int) : D:=.tup [.int .i64 t.1,.int .i64 t.2.1,.int .i64 t.2.2]
variable {C : CC} (hC : aB prog C)
include hC
end Go.Gv

namespace Go.Gv
open Go.Lib
def tv (m : Msh) (i : Nat) (p : Pnt) : Int:=(spA m i).z * tn1 m i p + (spB m i).z * tn2 m i p + (spC m i).z * tn0 m i p
def pt (m : Msh) (i : Nat) : Int:=d5 (ptS (spA m i)) (ptS (spB m i)) (ptS (spC m i))
theorem Db (m : Msh) (i : Nat) (p : Pnt) : tn0 m i p + tn1 m i p + tn2 m i p=pt m i:=by
 unfold tn0 tn1 tn2 pt d5 ptS
 grind
structure OnF (m : Msh) (i : Nat) (p : Pnt) : Prop where
 z0 : -4194304 <= (spA m i).z /\ (spA m i).z <= 4194304
 z1 : -4194304 <= (spB m i).z /\ (spB m i).z <= 4194304
 z2 : -4194304 <= (spC m i).z /\ (spC m i).z <= 4194304
 t0 : 0 <= tn0 m i p /\ tn0 m i p <= 2251799813685248
 t1 : 0 <= tn1 m i p /\ tn1 m i p <= 2251799813685248
 t2 : 0 <= tn2 m i p /\ tn2 m i p <= 2251799813685248
 d : 0 < pt m i /\ pt m i <= 2251799813685248
theorem oB {z t : Int} (hz : -4194304 <= z /\ z <= 4194304) (ht : 0 <= t) : -(4194304 * t) <= z * t /\ z * t <= 4194304 * t:=by
 have h1:=Int.mul_nonneg (show 0 <= 4194304 - z by omega) ht
 have h2:=Int.mul_nonneg (show 0 <= 4194304 + z by omega) ht
 rw [Int.sub_mul] at h1
 rw [Int.add_mul] at h2
 omega
theorem OnF.num {m : Msh} {i : Nat} {p : Pnt} (h : OnF m i p) : -(4194304 * pt m i) <= tv m i p /\ tv m i p <= 4194304 * pt m i:=by
 have e:=Db m i p
 have h1:=oB h.z0 h.t1.1
 have h2:=oB h.z1 h.t2.1
 have h3:=oB h.z2 h.t0.1
 unfold tv
 rw [<- e]
 omega
theorem uI {n d k : Int} (hd : 0 < d) (h : -(k * d) <= n /\ n <= k * d) : -k <= n / d /\ n / d <= k:=by
 constructor
 ·exact (Int.le_ediv_iff_mul_le hd).2 (by rw [Int.neg_mul];exact h.1)
 ·exact Int.le_of_lt_add_one ((Int.ediv_lt_iff_lt_mul hd).2 (by rw [Int.add_mul];omega))
def loF (m : Msh) (i : Nat) (p : Pnt) : Int:=tv m i p / pt m i
def hiF (m : Msh) (i : Nat) (p : Pnt) : Int:=-(-tv m i p / pt m i)
theorem OnF.lo {m : Msh} {i : Nat} {p : Pnt} (h : OnF m i p) : -4194304 <= loF m i p /\ loF m i p <= 4194304:=uI h.d.1 h.num
theorem OnF.hi {m : Msh} {i : Nat} {p : Pnt} (h : OnF m i p) : -4194304 <= hiF m i p /\ hiF m i p <= 4194304:=by
 have:=uI (n:=-tv m i p) (k:=4194304) h.d.1 (by have:=h.num;omega)
 unfold hiF
 omega
variable {C : CC} (hC : aB prog C)
include hC
def wz : D:=.agg [.int .i64 0,.int .i64 0]
end Go.Gv

namespace Go.Gv
theorem sj {x y : Int} (hx : -33554432 <= x /\ x <= 33554432) (hy : -33554432 <= y /\ y <= 33554432) : -1125899906842624 <= x * y /\ x * y <= 1125899906842624:=by
 have h1 : 0 <= (33554432 - x) * (33554432 - y):=Int.mul_nonneg (by omega) (by omega)
 have h2 : 0 <= (33554432 + x) * (33554432 + y):=Int.mul_nonneg (by omega) (by omega)
 have h3 : 0 <= (33554432 - x) * (33554432 + y):=Int.mul_nonneg (by omega) (by omega)
 have h4 : 0 <= (33554432 + x) * (33554432 - y):=Int.mul_nonneg (by omega) (by omega)
 rw [Int.sub_mul,Int.mul_sub,Int.mul_sub] at h1
 rw [Int.add_mul,Int.mul_add,Int.mul_add] at h2
 rw [Int.sub_mul,Int.mul_add,Int.mul_add] at h3
 rw [Int.add_mul,Int.mul_sub,Int.mul_sub] at h4
 omega
variable {C : CC} (hC : aB prog C)
include hC
set_option maxRecDepth 20000 in
set_option maxHeartbeats 2000000 in
theorem wH (m : Msh) (hv : ar m=true) (i : Nat) (hi : i < m.f.length) : C 846 [.agg (cm m),.int .i64 i] (.int .i64 (twF m i)) []:=by
 obtain ⟨⟨a1,a2⟩,⟨b1,b2⟩,⟨c1,c2⟩⟩:=mr (iM hv hi)
 obtain ⟨h1,h2,h3⟩:=sE hv hi
 have h1:=cp h1
 have h2:=cp h2
 have h3:=cp h3
 have htw:=wK hv hi
 refine aF hC (nf:=N846) rfl rfl ?_
 have e0 : twF m i=((spB m i).x - (spA m i).x) * ((spC m i).y - (spA m i).y) - ((spB m i).y - (spA m i).y) * ((spC m i).x - (spA m i).x):=rfl
 simp [N846,am,hi,a1,a2,b1,b2,c1,c2,bu,j5,wB,wC,wD]
 refine ⟨aC (by decide +kernel),?_⟩
 have b1 : -33554432 <= (spB m i).x - (spA m i).x /\ (spB m i).x - (spA m i).x <= 33554432:=by omega
 have b2 : -33554432 <= (spC m i).y - (spA m i).y /\ (spC m i).y - (spA m i).y <= 33554432:=by omega
 have b3 : -33554432 <= (spB m i).y - (spA m i).y /\ (spB m i).y - (spA m i).y <= 33554432:=by omega
 have b4 : -33554432 <= (spC m i).x - (spA m i).x /\ (spC m i).x - (spA m i).x <= 33554432:=by omega
 generalize (spB m i).x - (spA m i).x=x1 at *
 generalize (spC m i).y - (spA m i).y=x2 at *
 generalize (spB m i).y - (spA m i).y=x3 at *
 generalize (spC m i).x - (spA m i).x=x4 at *
 have p1 : -1125899906842624 <= x1 * x2 /\ x1 * x2 <= 1125899906842624:=sj b1 b2
 have p2 : -1125899906842624 <= x3 * x4 /\ x3 * x4 <= 1125899906842624:=sj b3 b4
 rw [ai (m:=x1) rfl (by omega),ai (m:=x2) rfl (by omega),ai (m:=x3) rfl (by omega),ai (m:=x4) rfl (by omega),ai (m:=x1 * x2) rfl (by omega),ai (m:=x3 * x4) rfl (by omega)]
 exact ai e0.symm (by omega)
theorem wQ (n : Nat) (h : n < 18446744073709551616) : C 110 [.int .u64 n,.bool false] (if n < 9223372036854775808 then .tup [.int .i64 n,.int .i64 0] else .tup [.int .i64 0,.int .i64 5]) []:=by
 by_cases h0 : n < 9223372036854775808
 ·rw [if_pos h0]
  exact zB hC n h0
 ·rw [if_neg h0]
  refine aF hC (nf:=N110) rfl rfl ?_
  have h1 : ¬ (n : Int) <= 9223372036854775807:=by omega
  simp [N110,h1]
theorem p6 (p : Nat) (up : Bool) (hp : p < 340282366920938463463374607431768211456) : C 104 [f5 p false,.int .i64 6000,.bool up] (if (if up then (p + 5999) / 6000 else p / 6000) < 9223372036854775808 then .tup [.int .i64 ((if up then (p + 5999) / 6000 else p / 6000 : Nat) : Int),.int .i64 0] else .tup [.int .i64 0,.int .i64 5]) []:=by
 obtain ⟨ph,hph⟩ : ∃ z,z=p / 18446744073709551616:=⟨_,rfl⟩
 obtain ⟨pl,hpl⟩ : ∃ z,z=p % 18446744073709551616:=⟨_,rfl⟩
 have hpp : ph * 18446744073709551616 + pl=p:=by omega
 obtain ⟨q0,hq0⟩ : ∃ z,z=p / 6000:=⟨_,rfl⟩
 obtain ⟨r0,hr0⟩ : ∃ z,z=p % 6000:=⟨_,rfl⟩
 obtain ⟨q,hq⟩ : ∃ z,z=(if up then (p + 5999) / 6000 else p / 6000):=⟨_,rfl⟩
 have hs:=ki hC 6000 (by omega)
 rw [<- hq,f5,<- hph,<- hpl]
 by_cases hbig : 6000 <= ph
 ·rw [if_neg (by rw [hq];split <;> omega)]
  have h1 : (6000 : Int) <= (ph : Int):=by omega
  refine aF hC (nf:=N104) rfl rfl ?_
  simp [N104]
  refine ab hs (.inl rfl) ?_
  simp [h1]
 ·have hdiv:=xj hC ph pl 6000 (by omega) (by omega) (by omega)
  rw [hpp,<- hq0,<- hr0] at hdiv
  have h1 : ¬ (6000 : Int) <= (ph : Int):=by omega
  refine aF hC (nf:=N104) rfl rfl ?_
  simp [N104]
  refine ab hs (.inl rfl) ?_
  simp [h1]
  refine ab hdiv (.inl rfl) ?_
  have kw:=fun n h=>wQ hC n h
  simp
  cases up
  ·have e : q=q0:=by rw [hq,hq0];rfl
   rw [e]
   have k0:=kw q0 (by omega)
   refine al (fun h=>?_) (fun h=>?_) <;> simp at h <;> simp [h]
   ·refine ab k0 (.inl (by split <;> rfl)) ?_
    split <;> simp <;> omega
   ·refine ab k0 (.inl (by split <;> rfl)) ?_
    split <;> simp <;> omega
  ·refine al (fun h=>?_) (fun h=>?_) <;> simp at h
   ·have hi : (0 : Int) < r0:=by omega
    have e : q=q0 + 1:=by rw [hq];simp only [if_true];omega
    by_cases h9 : q0 + 1 < 18446744073709551616
    ·have h3 : IntKind.u64.wrap ((q0 : Int) + 1)=((q0 + 1 : Nat) : Int):=uw (by omega) (by omega)
     have h4 : ¬ ((q0 : Int) + 1=0):=by omega
     have k1:=kw (q0 + 1) h9
     rw [e]
     simp [h,h3,h4]
     simp at k1
     refine ab k1 (.inl (by split <;> rfl)) ?_
     split <;> simp <;> omega
    ·have h3 : IntKind.u64.wrap ((q0 : Int) + 1)=0:=by
      have e9 : q0=18446744073709551615:=by omega
      rw [e9];decide
     rw [if_neg (by omega)]
     simp [h,h3]
   ·have e : q=q0:=by rw [hq];simp only [if_true];omega
    have k0:=kw q0 (by omega)
    rw [e]
    simp [h]
    refine ab k0 (.inl (by split <;> rfl)) ?_
    split <;> simp <;> omega
theorem uG (p : Nat) (up : Bool) (hp : p < 1329227995784915872903807060280344576) : C 301 [wiS p,.int .i64 6000,.bool up] (if (if up then (p + 5999) / 6000 else p / 6000) < 9223372036854775808 then .tup [.int .i64 ((if up then (p + 5999) / 6000 else p / 6000 : Nat) : Int),.int .i64 0] else .tup [.int .i64 0,.int .i64 5]) []:=by
 have k1:=lb hC (p : Int) (by omega)
 have k2:=na hC (p : Int) (by omega)
 have k3:=p6 hC p up (by omega)
 rw [gQ (p:=p) (b:=false) (by omega) (by simp)] at k2
 obtain ⟨Q,hQ⟩ : ∃ Q,Q=(if up then (p + 5999) / 6000 else p / 6000):=⟨_,rfl⟩
 rw [<- hQ] at k3 ⊢
 obtain ⟨a1,a2,_,_,ea⟩:=ek (p : Int)
 obtain ⟨f1,f2,_,_,ef⟩:=ee p false
 rw [ea] at k1 k2 ⊢
 rw [ef] at k2 k3
 refine aF hC (nf:=N301) rfl rfl ?_
 simp [N301]
 refine ab k1 (.inl rfl) ?_
 simp
 refine ab k2 (.inl rfl) ?_
 simp
 refine ab k3 (.inr (by rfl)) ?_
 split <;> simp <;> omega
theorem t8 (p : Nat) (hp : p < 1329227995784915872903807060280344576) : C 271 [wiS p,.int .i64 6000] (if p / 6000 < 9223372036854775808 then .tup [.int .i64 (p / 6000 : Nat),.int .i64 0] else .tup [.int .i64 0,.int .i64 5]) []:=by
 have k:=uG hC p false hp
 simp only [Bool.false_eq_true,if_false] at k
 obtain ⟨Q,hQ⟩ : ∃ Q,Q=p / 6000:=⟨_,rfl⟩
 rw [<- hQ] at k ⊢
 obtain ⟨a1,a2,_,_,ea⟩:=ek (p : Int)
 rw [ea] at k ⊢
 refine aF hC (nf:=N271) rfl rfl ?_
 simp [N271]
 refine ab k (.inl (by split <;> rfl)) ?_
 split <;> simp <;> omega
theorem xf (p : Nat) (hp : p < 1329227995784915872903807060280344576) : C 272 [wiS p,.int .i64 6000] (if (p + 5999) / 6000 < 9223372036854775808 then .tup [.int .i64 ((p + 5999) / 6000 : Nat),.int .i64 0] else .tup [.int .i64 0,.int .i64 5]) []:=by
 have k:=uG hC p true hp
 simp only [if_true] at k
 obtain ⟨Q,hQ⟩ : ∃ Q,Q=(p + 5999) / 6000:=⟨_,rfl⟩
 rw [<- hQ] at k ⊢
 obtain ⟨a1,a2,_,_,ea⟩:=ek (p : Int)
 rw [ea] at k ⊢
 refine aF hC (nf:=N272) rfl rfl ?_
 simp [N272]
 refine ab k (.inl (by split <;> rfl)) ?_
 split <;> simp <;> omega
end Go.Gv

namespace Go.Gv
section
variable {C : Nat -> List D -> D -> List D -> Prop} (hC : aB prog C)
include hC
end
end Go.Gv

namespace Go.Gv
section
variable {C : Nat -> List D -> D -> List D -> Prop} (hC : aB prog C)
include hC
theorem tn (m : Msh) : C 242 [.agg (cm m)] (.bool (decide (60 < m.s.length) || decide (80 < m.f.length))) []:=by
 refine aF hC (nf:=N242) rfl rfl ?_
 simp [N242,am]
 refine al (fun g1=>?_) (fun g1=>?_) <;> simp at g1
 ·simp [show (60 : Int) < m.s.length by omega]
  exact .inl (by omega)
 ·simp [show ¬ (60 : Int) < m.s.length by omega]
  rw [decide_eq_false (show ¬ 60 < m.s.length by omega),Bool.false_or]
  by_cases h : 80 < m.f.length
  ·rw [decide_eq_true h,decide_eq_true (by omega)]
  ·rw [decide_eq_false h,decide_eq_false (by omega)]
end
end Go.Gv

namespace Go.Gv
theorem iA {m : Msh} {i : Nat} (h : i < m.f.length) : (inR (aX m).sp)[i]? = some [.int .i64 (spF m i)]:=cd (by rw [(iR m).sp];exact h)
theorem vr {m : Msh} {i : Nat} (h : i < m.f.length) : (inR (bJ m))[i]? = some [.int .i64 (suF m i)]:=cd (by simpa using h)
section
variable {C : Nat -> List D -> D -> List D -> Prop} (hC : aB prog C)
include hC
end
end Go.Gv

namespace Go.Gv
def lM (m : Msh) (i : Nat) : Nat:=((spF m i - suF m i) * twF m i).toNat
def dz (m : Msh) (l : List Nat) : Nat:=(l.map (lM m)).sum
def wO (m : Msh) (l : List Nat) : D:=if (dz m l + 5999) / 6000 <= 1125899906842624 then .tup [.agg [.int .i64 (dz m l / 6000 : Nat),.int .i64 ((dz m l + 5999) / 6000 : Nat)],.int .i64 0] else .tup [.agg [.int .i64 0,.int .i64 0],.int .i64 5]
theorem oW {m : Msh} (hv : ar m=true) : ∀ {a : Nat},a < m.f.length -> -12582912 <= spF m a /\ spF m a <= 12582912:=by
 have key : ∀ (d a : Nat),a < m.f.length -> jz m.f.length (aX m).ou (co m).rc d a -> -12582912 <= spF m a /\ spF m a <= 12582912:=by
  intro d
  induction d with
  | zero =>
   intro a ha he
   have e : ouF m a=-1:=he
   have hb : bsd m a (-1)=true:=by
    cases h : bsd m a (-1)
    ·obtain ⟨z,_,h2,_⟩:=kZ hv ha h
     omega
    ·rfl
   have h1:=(kY hv ha hb).1
   have h2:=eC hv ha
   have h3 : suF m a=cv m a:=by simp [suF,bJ,ha]
   omega
  | succ d ih =>
   intro a ha ⟨b,hb,e1,_,e3⟩
   have h4:=ih b hb e3
   have h2:=eC hv ha
   have h3 : suF m a=cv m a:=by simp [suF,bJ,ha]
   have e : ouF m a=b:=e1
   cases h : bsd m a (-1)
   ·obtain ⟨z,_,h5,_,h6⟩:=kZ hv ha h
    have : z=b:=by omega
    subst this
    omega
   ·have:=(kY hv ha h).2
    omega
 intro a ha
 obtain ⟨d,_,he⟩:=mc hv ha
 exact key d a ha he
theorem k8 {m : Msh} {a : Nat} (ha : a < m.f.length) : suF m a=cv m a:=by simp [suF,bJ,ha]
theorem o7 {m : Msh} (hv : ar m=true) {i : Nat} (hi : i < m.f.length) : (lM m i : Int)=(spF m i - suF m i) * twF m i /\ lM m i < 75557863725914323419136:=by
 have h1:=oW hv hi
 have h2:=eC hv hi
 have h3:=wK hv hi
 have h4:=wE hv hi
 rw [k8 hi] at h4
 obtain ⟨x,hx⟩ : ∃ x : Nat,spF m i - suF m i=x:=⟨(spF m i - suF m i).toNat,by rw [k8 hi];omega⟩
 obtain ⟨y,hy⟩ : ∃ y : Nat,twF m i=y:=⟨(twF m i).toNat,by omega⟩
 have hx2 : x <= 25165824:=by rw [k8 hi] at hx;omega
 have hy2 : y <= 2251799813685248:=by omega
 unfold lM
 rw [hx,hy]
 have e : ((x : Int) * (y : Int)).toNat=x * y:=by rw [<- Int.natCast_mul];exact Int.toNat_natCast _
 rw [e]
 exact ⟨by simp,Nat.lt_of_le_of_lt (Nat.mul_le_mul hx2 hy2) (by decide)⟩
theorem tV (m : Msh) (l : List Nat) {k : Nat} (h : k < l.length) : dz m (l.take (k + 1))=dz m (l.take k) + lM m l[k]:=by
 unfold dz
 rw [List.take_succ_eq_append_getElem h,List.map_append,List.sum_append]
 simp
theorem o8 {m : Msh} (hv : ar m=true) : ∀ (l : List Nat),(∀ i ∈ l,i < m.f.length) -> dz m l <= l.length * 75557863725914323419136
 | [],_=>by simp [dz]
 | i::l,h=>by
  have h1:=o8 hv l fun j hj=>h j (List.mem_cons_of_mem _ hj)
  have h2:=(o7 hv (h i (List.mem_cons_self ..))).2
  have e : dz m (i::l)=lM m i + dz m l:=by simp [dz]
  rw [e,List.length_cons,Nat.add_mul]
  omega
theorem sq {m : Msh} {l : List Nat} (h : l ∈ aQ m) : (∀ i ∈ l,i < m.f.length) /\ l.length <= m.f.length:=by
 unfold aQ cM at h
 obtain ⟨s,_,rfl⟩:=List.mem_map.1 h
 refine ⟨fun i hi=>by simpa using (List.mem_filter.1 hi).1,?_⟩
 have:=List.length_filter_le (inP m s) (List.range m.f.length)
 simpa using this
def zSp : D:=.agg [.int .i64 0,.int .i64 0]
variable {C : CC} (hC : aB prog C)
include hC
set_option maxHeartbeats 2000000 in
set_option maxRecDepth 8000 in
theorem um (dec : Nat -> List UInt8) (hI : ∀ n : Nat,n < 100 -> C 127 [.int .i64 n] (.str (dec n)) []) (m : Msh) (hz : cO m=true -> m.s.length <= 100 /\ m.f.length <= 100) (p : Int) :
  C 842 [.agg (cm m),.int .i64 p] (if ar m then (if 0 <= p /\ p < (aQ m).length then wO m ((aQ m)[p.toNat]?.getD []) else .tup [zSp,.int .i64 2]) else .tup [zSp,.int .i64 1]) []:=by
 have k:=fp hC dec hI m hz
 simp only [am] at k
 cases hv : ar m
 ·simp only [hv,Bool.false_eq_true,if_false] at k ⊢
  refine aF hC (nf:=N842) rfl rfl ?_
  simp [N842,am,zSp]
  refine ab k (.inr rfl) ?_
  simp
 ·have kp:=vR hC m hv
  simp only [hv,if_true] at k ⊢
  have e0 : dS m=.ptr [.sl (nbA m),slx true (inR (bJ m)),.sl (inR (aX m).sp),.sl (inR (aX m).ou)]:=rfl
  rw [e0] at k kp
  have hpl : (gr (aQ m)).length=(aQ m).length:=by simp [gr]
  by_cases hp : 0 <= p /\ p < (aQ m).length
  ·rw [if_pos hp]
   obtain ⟨q,rfl⟩ : ∃ q : Nat,p=q:=⟨p.toNat,by omega⟩
   have hq : q < (aQ m).length:=by omega
   obtain ⟨l,hl⟩ : ∃ l,(aQ m)[q]? = some l:=⟨_,List.getElem?_eq_getElem hq⟩
   have hlr : (gr (aQ m))[q]? = some [.sl (nfR l)]:=by unfold gr;rw [List.getElem?_map,hl];rfl
   obtain ⟨hli,hll⟩:=sq (List.mem_of_getElem? hl)
   have hbd:=o8 hv l hli
   simp only [Int.toNat_natCast,hl,Option.getD_some]
   refine aF hC (nf:=N842) rfl rfl ?_
   simp [N842,am]
   refine ab k (.inr rfl) ?_
   simp
   refine ab kp (.inr rfl) ?_
   simp [hpl,show ¬ (q : Int) < 0 by omega,show ¬ (aQ m).length <= q by omega,av hlr]
   have hsz:=(cD hv).2
   refine aE Nat (fun k=>[(2,.ptr [slx m.sn (List.map jd m.s),slx m.fn (List.map cJ m.f)]),(4,.adr (.r 10064) 0 0),(6,.ptr [.sl (nbA m),slx true (inR (bJ m)),.sl (inR (aX m).sp),.sl (inR (aX m).ou)]),(9,.adr (.r 10144) 0 0),(40,.sl (nfR l)),(41,.int .i64 l.length),(42,.int .i64 k),(10064,.blk 2 [[.int .i64 0,.int .i64 0]]),(10144,.blk 2 [[.int .i64 ((dz m (l.take k) : Int) / 1152921504606846976),.int .i64 ((dz m (l.take k) : Int) % 1152921504606846976)]])])
    (fun k=>k <= l.length) (fun k=>l.length - k) 0 (by simp) (by simp [dz]) ?_
   rintro k hk
   have hw : IntKind.wrap .i64 ((k : Int) + 1)=((k + 1 : Nat) : Int):=ai (by omega) (by omega)
   have hb1:=o8 hv (l.take k) fun i hi=>hli i (List.mem_of_mem_take hi)
   rw [List.length_take_of_le hk] at hb1
   simp
   refine al (fun g1=>?_) (fun g1=>?_) <;> simp at g1
   ·obtain ⟨i,hi⟩ : ∃ i,i=l[k]:=⟨_,rfl⟩
    have hin : i < m.f.length:=by rw [hi];exact hli _ (List.getElem_mem _)
    have hnk : (nfR l)[k]? = some [.int .i64 (i : Nat)]:=by rw [eA g1,hi]
    have kt:=wH hC m hv i hin
    have htw:=wK hv hin
    have s1:=oW hv hin
    have s2:=eC hv hin
    have s3:=wE hv hin
    rw [<- k8 hin] at s2
    obtain ⟨y,hy⟩ : ∃ y : Nat,twF m i=y:=⟨(twF m i).toNat,by omega⟩
    obtain ⟨v1,v2⟩:=o7 hv hin
    have hvt:=tV m l g1
    rw [<- hi] at hvt
    rw [hy] at kt htw v1
    obtain ⟨x,hx⟩ : ∃ x,x=spF m i - suF m i:=⟨_,rfl⟩
    rw [<- hx] at v1
    have w1 : IntKind.wrap .i64 (spF m i - suF m i)=x:=ai hx.symm (by omega)
    have hna : x.natAbs * y=lM m i:=by
     have : (x.natAbs : Int)=x:=by omega
     have h9 : ((x.natAbs * y : Nat) : Int)=(lM m i : Int):=by rw [v1,Int.natCast_mul,this]
     exact Int.ofNat.inj h9
    have kp2:=qq hC x y (by omega) (by omega) (by rw [hna];omega)
    rw [<- v1] at kp2
    have ka:=A7 hC (dz m (l.take k) : Nat) (lM m i : Nat) (by omega) (by omega)
    rw [<- Int.natCast_add,<- hvt] at ka
    simp only [wiS] at kp2 ka
    simp only [am] at kt
    obtain ⟨a1,ha1⟩ : ∃ a,a=((dz m (l.take k) : Nat) : Int) / 1152921504606846976:=⟨_,rfl⟩
    obtain ⟨a2,ha2⟩ : ∃ a,a=((dz m (l.take k) : Nat) : Int) % 1152921504606846976:=⟨_,rfl⟩
    obtain ⟨b1,hbb1⟩ : ∃ a,a=((lM m i : Nat) : Int) / 1152921504606846976:=⟨_,rfl⟩
    obtain ⟨b2,hbb2⟩ : ∃ a,a=((lM m i : Nat) : Int) % 1152921504606846976:=⟨_,rfl⟩
    obtain ⟨c1,hc1⟩ : ∃ a,a=((dz m (l.take (k + 1)) : Nat) : Int) / 1152921504606846976:=⟨_,rfl⟩
    obtain ⟨c2,hc2⟩ : ∃ a,a=((dz m (l.take (k + 1)) : Nat) : Int) % 1152921504606846976:=⟨_,rfl⟩
    rw [<- ha1,<- ha2,<- hbb1,<- hbb2,<- hc1,<- hc2] at ka
    rw [<- hbb1,<- hbb2] at kp2
    rw [<- ha1,<- ha2]
    simp [g1,av hnk]
    simp [av (iA hin),av (vr hin),w1]
    refine ab kt (.inl rfl) ?_
    simp
    refine ab kp2 (.inl rfl) ?_
    simp
    refine ⟨aC (by decide +kernel),?_⟩
    refine ab ka (.inl rfl) ?_
    simp
    exact ⟨k + 1,by omega,by omega,hw,hc1,hc2⟩
   ·have e : k=l.length:=by omega
    subst e
    have hq1:=t8 hC (dz m l) (by omega)
    have hq2:=xf hC (dz m l) (by omega)
    simp only [wiS] at hq1 hq2
    obtain ⟨A,hA⟩ : ∃ A,A=dz m l / 6000:=⟨_,rfl⟩
    obtain ⟨B,hB⟩ : ∃ B,B=(dz m l + 5999) / 6000:=⟨_,rfl⟩
    have hAB : A <= B /\ B <= A + 1:=by omega
    have e3 : wO m l=if B <= 1125899906842624 then .tup [.agg [.int .i64 (A : Nat),.int .i64 (B : Nat)],.int .i64 0] else .tup [.agg [.int .i64 0,.int .i64 0],.int .i64 5]:=by unfold wO;rw [<- hA,<- hB]
    rw [e3]
    rw [<- hA] at hq1
    rw [<- hB] at hq2
    obtain ⟨a1,ha1⟩ : ∃ a,a=((dz m l : Nat) : Int) / 1152921504606846976:=⟨_,rfl⟩
    obtain ⟨a2,ha2⟩ : ∃ a,a=((dz m l : Nat) : Int) % 1152921504606846976:=⟨_,rfl⟩
    rw [<- ha1,<- ha2] at hq1 hq2
    rw [List.take_length,<- ha1,<- ha2]
    simp
    refine ab hq1 (.inl (by split <;> rfl)) ?_
    by_cases c1 : A < 9223372036854775808
    ·by_cases c2 : B < 9223372036854775808
     ·by_cases c3 : B <= 1125899906842624
      ·rw [if_pos c1]
       simp
       refine ab hq2 (.inl (by split <;> rfl)) ?_
       rw [if_pos c2,if_pos c3]
       simp [show ¬ (1125899906842624 : Int) < B by omega]
      ·rw [if_pos c1]
       simp
       refine ab hq2 (.inl (by split <;> rfl)) ?_
       rw [if_pos c2,if_neg c3]
       simp [show (1125899906842624 : Int) < B by omega]
     ·rw [if_pos c1]
      simp
      refine ab hq2 (.inl (by split <;> rfl)) ?_
      rw [if_neg c2,if_neg (by omega)]
      simp
    ·rw [if_neg c1]
     simp
     refine ab hq2 (.inl (by split <;> rfl)) ?_
     rw [if_neg (by omega),if_neg (by omega)]
     simp
  ·rw [if_neg hp]
   refine aF hC (nf:=N842) rfl rfl ?_
   simp [N842,am,zSp]
   refine ab k (.inr rfl) ?_
   simp
   refine ab kp (.inr rfl) ?_
   by_cases h0 : p < 0
   ·simp [hpl,h0]
   ·simp [hpl,h0,show ((aQ m).length : Int) <= p by omega]
theorem xi (dec : Nat -> List UInt8) (hI : ∀ n : Nat,n < 100 -> C 127 [.int .i64 n] (.str (dec n)) []) (m : Msh) (hz : cO m=true -> m.s.length <= 100 /\ m.f.length <= 100) (p : Int) :
  C 844 [.agg (cm m),.int .i64 p] (if ar m then (if 0 <= p /\ p < m.f.length then .tup [.int .i64 (spF m p.toNat - suF m p.toNat),.int .i64 0] else .tup [.int .i64 0,.int .i64 2]) else .tup [.int .i64 0,.int .i64 1]) []:=by
 have k:=fp hC dec hI m hz
 simp only [am] at k
 refine aF hC (nf:=N844) rfl rfl ?_
 simp [N844,am]
 refine ab k (.inr rfl) ?_
 cases hv : ar m
 ·simp
 ·simp [dS]
  by_cases h0 : p < 0
  ·simp [h0,show ¬ (0 <= p) by omega]
  ·by_cases h1 : p < m.f.length
   ·obtain ⟨i,rfl⟩ : ∃ i : Nat,p=i:=⟨p.toNat,by omega⟩
    have hin : i < m.f.length:=by omega
    have s1:=oW hv hin
    have s2:=eC hv hin
    rw [<- k8 hin] at s2
    have w1 : IntKind.wrap .i64 (spF m i - suF m i)=spF m i - suF m i:=ai rfl (by omega)
    simp [show ¬ (i : Int) < 0 by omega,hin,show ¬ m.f.length <= i by omega,av (iA hin),av (vr hin),w1]
    exact aC (by decide +kernel)
   ·simp [h0,h1,show (m.f.length : Int) <= p by omega]
end Go.Gv

namespace Go.Gv
theorem wL (m : Msh) (i : Nat) : ∀ k,upF m i k=-2 \/ ∃ c,c < k /\ nbF m i c=upF m i k
 | 0=>.inl rfl
 | k + 1=>by
  have hs : upF m i (k + 1)=d4 m i (upF m i k) (nbF m i k):=rfl
  have hc : upF m i (k + 1)=upF m i k \/ upF m i (k + 1)=nbF m i k:=by
   rw [hs]
   unfold d4
   split
   ·exact .inl rfl
   ·split
    ·exact .inr rfl
    ·split
     ·exact .inr rfl
     ·exact .inl rfl
  rcases hc with h | h
  ·rcases wL m i k with h2 | ⟨c,h2,h3⟩
   ·exact .inl (by rw [h,h2])
   ·exact .inr ⟨c,by omega,by rw [h,h3]⟩
  ·exact .inr ⟨k,by omega,h.symm⟩
theorem CY {m : Msh} {i : Nat} (h : 0 <= gy m i) : ∃ c,c < 3 /\ nbF m i c=gy m i:=by
 unfold gy at h ⊢
 split at h
 ·omega
 ·rename_i hc
  rw [if_neg hc]
  rcases wL m i 3 with h2 | h2
  ·omega
  ·exact h2
theorem sI {m : Msh} (a : Nat) : dA m a=true ↔ suF m a < spF m a:=by unfold dA suF spF;rw [decide_eq_true_eq]
theorem vQ {m : Msh} {l : List Nat} (h : l ∈ aQ m) : l.Pairwise (· < ·):=by
 unfold aQ cM at h
 obtain ⟨s,_,rfl⟩:=List.mem_map.1 h
 exact List.Pairwise.filter _ List.pairwise_lt_range
theorem mG {m : Msh} {i : Nat} (h : i < (aQ m).length) : ∃ h2 : i < (stT m m.f.length).length,(aQ m)[i]=(List.range m.f.length).filter (inP m (stT m m.f.length)[i]):=by
 have h2 : i < (stT m m.f.length).length:=by
  have:=dY m m.f.length
  unfold aQ at h
  omega
 refine ⟨h2,?_⟩
 have e : (aQ m)[i]? = some ((List.range m.f.length).filter (inP m (stT m m.f.length)[i])):=by
  unfold aQ cM
  rw [List.getElem?_map,List.getElem?_eq_getElem h2]
  rfl
 rw [List.getElem?_eq_getElem h] at e
 exact Option.some.inj e
theorem oX {m : Msh} {s i : Nat} : s ∈ stT m i ↔ s < i /\ stB m s=true:=by
 unfold stT
 rw [List.mem_filter,List.mem_range]
theorem sF (m : Msh) (i : Nat) : (stT m i).Pairwise (· < ·):=List.Pairwise.filter _ List.pairwise_lt_range
theorem kP {m : Msh} (hv : ar m=true) {i : Nat} (h : i < (aQ m).length) : ∃ h2 : i < (stT m m.f.length).length,∃ r,(aQ m)[i]=(stT m m.f.length)[i]::r:=by
 obtain ⟨h2,e⟩:=mG h
 refine ⟨h2,?_⟩
 obtain ⟨s,hs⟩ : ∃ s,s=(stT m m.f.length)[i]:=⟨_,rfl⟩
 have hsm : s ∈ stT m m.f.length:=by rw [hs];exact List.getElem_mem _
 obtain ⟨hsn,hsb⟩:=oX.1 hsm
 rw [e,<- hs]
 have hsb2 : dA m s=true /\ rtP m s=s:=by simpa [stB] using hsb
 have hin : s ∈ (List.range m.f.length).filter (inP m s):=List.mem_filter.2 ⟨List.mem_range.2 hsn,by simp [inP,hsb2.1,hsb2.2]⟩
 have hasc : ((List.range m.f.length).filter (inP m s)).Pairwise (· < ·):=List.Pairwise.filter _ List.pairwise_lt_range
 have hle : ∀ k ∈ (List.range m.f.length).filter (inP m s),s <= k:=fun k hk=>by
  obtain ⟨k1,k2⟩:=List.mem_filter.1 hk
  have k3:=(oU hv (List.mem_range.1 k1)).1
  simp only [inP,Bool.and_eq_true,decide_eq_true_eq] at k2
  omega
 cases hl : (List.range m.f.length).filter (inP m s) with
 | nil=>rw [hl] at hin;cases hin
 | cons a r =>
  refine ⟨r,?_⟩
  rw [hl] at hin hasc hle
  have h1:=hle a (List.mem_cons_self ..)
  rcases List.mem_cons.1 hin with h3 | h3
  ·rw [h3]
  ·have:=(List.pairwise_cons.1 hasc).1 s h3
   omega
theorem vT {m : Msh} {i k : Nat} (h : i < (aQ m).length) (hk : k ∈ (aQ m)[i]) : ∃ h2 : i < (stT m m.f.length).length,k < m.f.length /\ dA m k=true /\ rtP m k=(stT m m.f.length)[i]:=by
 obtain ⟨h2,e⟩:=mG h
 rw [e] at hk
 obtain ⟨k1,k2⟩:=List.mem_filter.1 hk
 simp only [inP,Bool.and_eq_true,decide_eq_true_eq] at k2
 exact ⟨h2,List.mem_range.1 k1,k2.1,k2.2⟩
theorem rn {m : Msh} (hv : ar m=true) {i k : Nat} (h : i < (aQ m).length) (hk : k ∈ (aQ m)[i]) : ∃ h2 : i < (stT m m.f.length).length,spF m k=spF m (stT m m.f.length)[i]:=by
 obtain ⟨h2,k1,k2,k3⟩:=vT h hk
 exact ⟨h2,by have:=(oV hv k1).2;rw [k3] at this;exact this.symm⟩
def inN (m : Msh) (i : Nat) (k : Nat) : Int:=if dA m k=true /\ rtP m k ∈ (stT m m.f.length).take i then 1 else 0
theorem vp (m : Msh) (k : Nat) : inN m 0 k=0:=by simp [inN]
theorem vo {m : Msh} {i k : Nat} (h : i < (aQ m).length) (hk : k < m.f.length) : inN m (i + 1) k=inN m i k + (if k ∈ (aQ m)[i] then 1 else 0):=by
 obtain ⟨h2,e⟩:=mG h
 have hm : k ∈ (aQ m)[i] ↔ dA m k=true /\ rtP m k=(stT m m.f.length)[i]:=by
  rw [e,List.mem_filter]
  simp only [List.mem_range,inP,Bool.and_eq_true,decide_eq_true_eq]
  exact ⟨fun h=>h.2,fun h=>⟨hk,h⟩⟩
 have ht : (stT m m.f.length).take (i + 1)=(stT m m.f.length).take i++[(stT m m.f.length)[i]]:=List.take_succ_eq_append_getElem h2
 have hnot : (stT m m.f.length)[i] ∉ (stT m m.f.length).take i:=by
  intro hc
  obtain ⟨j,hj,ej⟩:=List.getElem_of_mem hc
  have hj2 : j < i:=by rw [List.length_take] at hj;omega
  rw [List.getElem_take] at ej
  have:=List.pairwise_iff_getElem.1 (sF m m.f.length) j i (by omega) h2 hj2
  omega
 unfold inN
 rw [ht]
 by_cases hw : dA m k=true
 ·by_cases h3 : rtP m k=(stT m m.f.length)[i]
  ·rw [if_pos ⟨hw,List.mem_append.2 (.inr (List.mem_singleton.2 h3))⟩,if_neg (fun hc=>hnot (by rw [<- h3];exact hc.2)),if_pos (hm.2 ⟨hw,h3⟩)]
   rfl
  ·have h4 : k ∉ (aQ m)[i]:=fun hc=>h3 (hm.1 hc).2
   have h5 : rtP m k ∈ (stT m m.f.length).take i++[(stT m m.f.length)[i]] ↔ rtP m k ∈ (stT m m.f.length).take i:=by
    rw [List.mem_append,List.mem_singleton]
    exact ⟨fun h=>h.resolve_right h3,.inl⟩
   rw [if_neg h4]
   simp only [h5,Int.add_zero]
 ·have h4 : k ∉ (aQ m)[i]:=fun hc=>hw (hm.1 hc).1
  rw [if_neg h4,if_neg (fun h=>hw h.1),if_neg (fun h=>hw h.1)]
  rfl
theorem x6 {m : Msh} (hv : ar m=true) {k : Nat} (hk : k < m.f.length) : inN m (aQ m).length k=if dA m k=true then 1 else 0:=by
 have e : (aQ m).length=(stT m m.f.length).length:=dY m m.f.length
 unfold inN
 rw [e,List.take_length]
 by_cases hw : dA m k=true
 ·obtain ⟨r1,r2⟩:=oU hv hk
  have r3:=(oV hv hk).1
  rw [if_pos hw,if_pos ⟨hw,oX.2 ⟨by omega,by simp [stB,r3,hw,r2]⟩⟩]
 ·rw [if_neg hw,if_neg fun h=>hw h.1]
def inT (m : Msh) (i : Nat) (p : List Nat) : List Int:=(List.range m.f.length).map fun k=>inN m i k + (if k ∈ p then 1 else 0)
theorem sd (m : Msh) (i : Nat) (p : List Nat) : (inT m i p).length=m.f.length:=by simp [inT]
theorem vu (m : Msh) : inT m 0 []=List.replicate m.f.length 0:=by
 unfold inT
 apply List.ext_getElem (by simp)
 intro j h1 h2
 simp [vp]
theorem sc {m : Msh} {i k : Nat} {p : List Nat} (h : k < m.f.length) : (inT m i p).getD k 0=inN m i k + (if k ∈ p then 1 else 0):=by simp [inT,h]
theorem x9 {m : Msh} {i k : Nat} {p : List Nat} (h : k < m.f.length) (hn : k ∉ p) : (inT m i p).set k (inN m i k + 1)=inT m i (p++[k]):=by
 unfold inT
 apply List.ext_getElem (by simp)
 intro j h1 h2
 simp only [List.getElem_set,List.getElem_map,List.getElem_range,List.mem_append,List.mem_singleton]
 by_cases e : k=j
 ·subst e
  rw [if_pos rfl,if_pos (.inr rfl)]
 ·rw [if_neg e]
  congr 1
  by_cases hj : j ∈ p
  ·rw [if_pos hj,if_pos (.inl hj)]
  ·rw [if_neg hj,if_neg (fun h=>by rcases h with h | h;exact hj h;exact e h.symm)]
theorem vt {m : Msh} {i : Nat} (h : i < (aQ m).length) : inT m i (aQ m)[i]=inT m (i + 1) []:=by
 unfold inT
 refine List.map_congr_left fun k hk=>?_
 rw [vo h (List.mem_range.1 hk)]
 simp
theorem x8 {m : Msh} (hv : ar m=true) {k : Nat} (hk : k < m.f.length) : (inT m (aQ m).length []).getD k 0=if dA m k=true then 1 else 0:=by
 rw [sc hk,x6 hv hk]
 simp
theorem zA {m : Msh} (hv : ar m=true) {i : Nat} (h : i < (aQ m).length) : 0 < dz m (aQ m)[i]:=by
 obtain ⟨h2,r,e⟩:=kP hv h
 obtain ⟨s,hs⟩ : ∃ s,s=(stT m m.f.length)[i]:=⟨_,rfl⟩
 have hsm : s ∈ stT m m.f.length:=by rw [hs];exact List.getElem_mem _
 obtain ⟨hsn,hsb⟩:=oX.1 hsm
 have hsb2 : dA m s=true /\ rtP m s=s:=by simpa [stB] using hsb
 rw [e,<- hs]
 have h1:=(o7 hv hsn).1
 have h3:=sI (m:=m) s |>.1 hsb2.1
 have h4 : 0 < twF m s:=(gV hv hsn).2
 have h5 : 0 < (spF m s - suF m s) * twF m s:=Int.mul_pos (by omega) h4
 have e2 : dz m (s::r)=lM m s + dz m r:=by simp [dz]
 omega
end Go.Gv

namespace Go.Gv
theorem pW {l : List (List Nat)} {i : Nat} (h : i < l.length) : (gr l)[i]? = some [.sl (nfR l[i])]:=by simp [gr,h]
@[simp] theorem LG (l : List (List Nat)) : (gr l).length=l.length:=by simp [gr]
variable {C : CC} (hC : aB prog C)
include hC
end Go.Gv

namespace Go.Gv
theorem qu {l : List Nat} (h : l.Pairwise (· < ·)) {i j : Nat} (hi : i < l.length) (hj : j < l.length) (hij : i < j) : l[i] < l[j]:=List.pairwise_iff_getElem.1 h i j hi hj hij
section
variable {C : CC} (hC : aB prog C)
include hC
theorem Ce (x y : Int) : C 411 [.int .i64 x,.int .i64 y] (.bool (decide (x < y))) []:=by
 have k1:=ow hC x
 refine aF hC (nf:=N411) rfl rfl ?_
 simp [N411]
 refine ab k1 (.inl rfl) ?_
 simp
theorem wA (l : List Nat) (h : l.Pairwise (· < ·)) (h2 : l.length < 2 ^ 40) : C 843 [.sl (nfR l)] (.bool true) []:=by
 refine aF hC (nf:=N843) rfl rfl ?_
 by_cases h0 : l.length=0
 ·have e : l=[]:=List.eq_nil_of_length_eq_zero h0
  subst e
  have w : IntKind.wrap .i64 (-1)=-1:=by decide
  simp [N843,nfR,w]
  refine aE Unit (fun _=>[(0,.sl []),(3,.int .i64 (-1))]) (fun _=>True) (fun _=>0) () trivial (by simp) ?_
  rintro _ _
  simp
 ·have w : IntKind.wrap .i64 ((l.length : Int) - 1)=((l.length - 1 : Nat) : Int):=ai (by omega) (by omega)
  simp [N843,w]
  refine aE Nat (fun i=>[(0,.sl (nfR l)),(3,.int .i64 i)]) (fun i=>i < l.length) (fun i=>i) (l.length - 1) (by omega) (by simp) ?_
  rintro i hi
  simp
  refine al (fun g1=>?_) (fun g1=>?_) <;> simp at g1
  ·have w2 : IntKind.wrap .i64 ((i : Int) - 1)=((i - 1 : Nat) : Int):=ai (by omega) (by omega)
   have hi2 : i - 1 < l.length:=by omega
   have hlt:=qu h hi2 hi (by omega)
   have kl:=Ce hC (l[i] : Nat) (l[i - 1] : Nat)
   rw [decide_eq_false (by omega)] at kl
   simp [g1,av (eA hi),w2,av (eA hi2)]
   refine ab kl (.inl rfl) ?_
   simp
   exact ⟨aC (by decide +kernel),i - 1,by omega,by omega,by omega⟩
  ·simp [g1]
end
section
variable {C : CC} (hC : aB prog C)
include hC
set_option maxHeartbeats 4000000 in
set_option maxRecDepth 8000 in
theorem n8 (dec : Nat -> List UInt8) (hI : ∀ n : Nat,n < 100 -> C 127 [.int .i64 n] (.str (dec n)) []) (m : Msh) : C 840 [.agg (cm m)] (.bool true) []:=by
 have ka:=sS hC dec hI
 have kl:=tn hC m
 simp only [am] at kl
 refine aF hC (nf:=N840) rfl rfl ?_
 simp [N840,am]
 refine ab ka (.inl rfl) ?_
 simp
 refine ab kl (.inl rfl) ?_
 simp
 refine al (fun g1=>?_) (fun g1=>?_)
 ·simp
 ·simp at g1
  have hz : cO m=true -> m.s.length <= 100 /\ m.f.length <= 100:=fun _=>by omega
  have k1:=ua hC dec hI m hz
  have k2:=pO hC dec hI m hz
  have k3:=t7 hC dec hI m hz
  have k4:=A9 hC dec hI m hz
  have k5:=fun p=>um hC dec hI m hz p
  have k6:=fun p=>xi hC dec hI m hz p
  simp only [am] at k1 k2 k3 k4 k5 k6
  simp
  refine ab k1 (.inr rfl) ?_
  cases hv : ar m
  ·simp [hv] at k1 k2 ⊢
   refine ab k2 (.inl rfl) ?_
   simp
  ·have W:=iR m
   have hsz:=(cD hv).2
   have hfl : (jK m).length=m.f.length:=by simp [jK]
   simp only [hv,if_true] at k3 k4 k5 k6
   simp
   refine ab k3 (.inr rfl) ?_
   simp
   refine ab k4 (.inr rfl) ?_
   simp [W.sp,hfl]
   refine ⟨by omega,?_⟩
   have hz0 : List.replicate m.f.length [D.int .i64 0]=inR (inT m 0 []):=by rw [vu];simp [inR]
   have hpn : (aQ m).length <= m.f.length:=by unfold aQ;rw [dY];exact wG m _
   rw [hz0]
   refine aE Nat (fun i=>[(1,.ptr [slx m.sn (List.map jd m.s),slx m.fn (List.map cJ m.f)]),(3,.sl (gr (aQ m))),(5,.sl (inR (aX m).sp)),(7,.sl (inR (jK m))),(9,.ref (.r 10144) 0 m.f.length),(67,.sl (gr (aQ m))),(68,.int .i64 (aQ m).length),(69,.int .i64 i),(10144,.blk 1 (inR (inT m i [])))])
    (fun i=>i <= (aQ m).length) (fun i=>(aQ m).length - i) 0 (by simp) (by simp) ?_
   rintro i hi
   have hw : IntKind.wrap .i64 ((i : Int) + 1)=((i + 1 : Nat) : Int):=ai (by omega) (by omega)
   simp
   refine al (fun g2=>?_) (fun g2=>?_) <;> simp at g2 <;> simp [g2]
   ·obtain ⟨p,hp⟩ : ∃ p,p=(aQ m)[i]:=⟨_,rfl⟩
    obtain ⟨h2,r,he⟩:=kP hv g2
    obtain ⟨s,hs⟩ : ∃ s,s=(stT m m.f.length)[i]:=⟨_,rfl⟩
    rw [<- hp,<- hs] at he
    have hpm : p ∈ aQ m:=by rw [hp];exact List.getElem_mem _
    have hasc:=vQ hpm
    obtain ⟨hpi,hpl⟩:=sq hpm
    have hpg : (gr (aQ m))[i]? = some [.sl (nfR p)]:=by rw [pW g2,hp]
    have hp0 : (nfR p)[0]? = some [.int .i64 (s : Nat)]:=by rw [he];simp [nfR]
    have hp1 : ¬ p.length=0:=by rw [he];simp
    have hsn : s < m.f.length:=hpi s (by rw [he];exact List.mem_cons_self ..)
    have ks:=wA hC p hasc (by omega)
    have lev : ∀ k ∈ p,spF m k=spF m s:=fun k hk=>by
     rw [hp] at hk
     obtain ⟨_,e⟩:=rn hv g2 hk
     rw [hs];exact e
    have hvp:=zA hv g2
    rw [<- hp] at hvp
    have hnx:=vt g2
    rw [<- hp] at hnx
    have kv:=k5 (i : Int)
    rw [if_pos ⟨by omega,by omega⟩] at kv
    simp only [Int.toNat_natCast,List.getElem?_eq_getElem g2,Option.getD_some,<- hp] at kv
    simp [av hpg,hp1]
    refine ab ks (.inl rfl) ?_
    simp
    refine al (fun g3=>?aa) (fun g3=>?bb)
    case' aa =>
     simp at g3
     have hw1 : IntKind.wrap .i64 ((i : Int) - 1)=((i - 1 : Nat) : Int):=ai (by omega) (by omega)
     have g2' : i - 1 < (aQ m).length:=by omega
     obtain ⟨h2',r',he'⟩:=kP hv g2'
     have hpg' : (gr (aQ m))[i - 1]? = some [.sl (nfR (aQ m)[i - 1])]:=pW g2'
     have hp0' : (nfR (aQ m)[i - 1])[0]? = some [.int .i64 ((stT m m.f.length)[i - 1] : Nat)]:=by rw [he'];simp [nfR]
     have hlt:=qu (sF m m.f.length) h2' h2 (by omega)
     rw [<- hs] at hlt
     have hge : ¬ s <= (stT m m.f.length)[i - 1]:=by omega
     simp [g3,hw1,av hpg',av hp0',av hp0,hge]
    case' bb =>
     simp at g3
     simp [g3]
    all_goals
     refine ⟨aC (by decide +kernel),?_⟩
     refine aE Nat (fun j=>[(1,.ptr [slx m.sn (List.map jd m.s),slx m.fn (List.map cJ m.f)]),(3,.sl (gr (aQ m))),(5,.sl (inR (aX m).sp)),(7,.sl (inR (jK m))),(9,.ref (.r 10144) 0 m.f.length),(10,.int .i64 i),(11,.sl (nfR p)),(67,.sl (gr (aQ m))),(68,.int .i64 (aQ m).length),(69,.int .i64 i),
      (99,.sl (nfR p)),(100,.int .i64 p.length),(101,.int .i64 j),(10144,.blk 1 (inR (inT m i (p.take j))))])
      (fun j=>j <= p.length) (fun j=>p.length - j) 0 (by simp) (by simp [g3]) ?_
     rintro j hj
     have hw2 : IntKind.wrap .i64 ((j : Int) + 1)=((j + 1 : Nat) : Int):=ai (by omega) (by omega)
     simp
     refine al (fun g4=>?_) (fun g4=>?_) <;> simp at g4 <;> simp [g4]
     ·obtain ⟨k,hk⟩ : ∃ k,k=p[j]:=⟨_,rfl⟩
      have hkm : k ∈ p:=by rw [hk];exact List.getElem_mem _
      have hkn:=hpi k hkm
      have hkg : (nfR p)[j]? = some [.int .i64 (k : Nat)]:=by rw [eA g4,hk]
      have hlk:=lev k hkm
      have hnt : k ∉ p.take j:=by
       intro hc
       obtain ⟨q,hq,eq⟩:=List.getElem_of_mem hc
       rw [List.length_take] at hq
       rw [List.getElem_take] at eq
       have:=qu hasc (show q < p.length by omega) g4 (by omega)
       omega
      have hig:=sc (m:=m) (i:=i) (p:=p.take j) hkn
      rw [if_neg hnt,Int.add_zero] at hig
      have hil : k < (inT m i (p.take j)).length:=by rw [sd];exact hkn
      have hig2 : (inR (inT m i (p.take j)))[k]? = some [.int .i64 (inN m i k)]:=by rw [cd hil,hig]
      have hst:=x9 (i:=i) hkn hnt
      rw [hk,<- List.take_succ_eq_append_getElem g4,<- hk] at hst
      have hwn : IntKind.wrap .i64 (inN m i k + 1)=inN m i k + 1:=ai rfl (by unfold inN;split <;> omega)
      simp [av hkg,show ¬ (k : Int) < 0 by omega,show ¬ m.f.length <= k by omega,av (iA hkn),hlk,av hp0,av (iA hsn)]
      refine ⟨aC (by decide +kernel),?_⟩
      simp [hkn,aT hig2,hig2,hwn,ov,hst]
      exact ⟨j + 1,by omega,by omega,hw2,rfl⟩
     ·have e4 : j=p.length:=by omega
      subst e4
      rw [List.take_length,hnx]
      refine ab kv (.inl (by unfold wO;split <;> rfl)) ?_
      unfold wO
      split
      ·simp [show ¬ (dz m p + 5999) / 6000=0 by omega,show ¬ (((dz m p : Int) + 5999) / 6000 < 1) by omega,show ¬ ((dz m p : Int) / 6000 < 0) by omega]
       exact ⟨i + 1,by omega,by omega,hw,rfl⟩
      ·simp
       exact ⟨i + 1,by omega,by omega,hw,rfl⟩
   ·have e5 : i=(aQ m).length:=by omega
    subst e5
    refine aE Nat (fun k=>[(1,.ptr [slx m.sn (List.map jd m.s),slx m.fn (List.map cJ m.f)]),(5,.sl (inR (aX m).sp)),(7,.sl (inR (jK m))),(160,.ref (.r 12560) 0 m.f.length),(161,.int .i64 m.f.length),(162,.int .i64 k),(12560,.blk 1 (inR (inT m (aQ m).length [])))])
     (fun k=>k <= m.f.length) (fun k=>m.f.length - k) 0 (by simp) (by simp) ?_
    rintro k hk
    have hw3 : IntKind.wrap .i64 ((k : Int) + 1)=((k + 1 : Nat) : Int):=ai (by omega) (by omega)
    simp
    refine al (fun g4=>?_) (fun g4=>?_) <;> simp at g4 <;> simp [g4]
    ·have hil : k < (inT m (aQ m).length []).length:=by rw [sd];exact g4
     have hie:=x8 hv g4
     have hig : (inR (inT m (aQ m).length []))[k]? = some [.int .i64 (if dA m k=true then 1 else 0)]:=by rw [cd hil,hie]
     have hge:=wE hv g4
     have hwi:=sI (m:=m) k
     have kd:=k6 (k : Int)
     rw [if_pos ⟨by omega,by omega⟩] at kd
     simp only [Int.toNat_natCast] at kd
     obtain ⟨d,hd⟩ : ∃ d,d=spF m k - suF m k:=⟨_,rfl⟩
     rw [<- hd] at kd
     have hfk : (inR (jK m))[k]? = some [.int .i64 (gy m k)]:=by
      rw [cd (by rw [hfl];exact g4)]
      simp [jK,g4]
     simp [aT hig]
     refine ab kd (.inl rfl) ?_
     have hwd : (dA m k=true /\ 0 < d) \/ (dA m k=false /\ d=0):=by
      cases hh : dA m k
      ·right
       refine ⟨rfl,?_⟩
       rw [hh] at hwi
       have : ¬ suF m k < spF m k:=fun h=>by have:=hwi.2 h;cases this
       omega
      ·left
       exact ⟨rfl,by have:=hwi.1 hh;omega⟩
     have hbd:=oW hv g4
     have w9 : IntKind.wrap .i64 (spF m k - d)=suF m k:=ai (by omega) (by rw [k8 g4];have:=eC hv g4;omega)
     have run : 0 <= gy m k -> ∃ x : Nat,gy m k=x /\ x < m.f.length /\ ¬ (if spF m x < suF m k then suF m k else spF m x) < spF m k:=fun h=>by
      obtain ⟨c,hc,e⟩:=CY h
      have hb:=dw m k c
      obtain ⟨x,hx⟩ : ∃ x : Nat,gy m k=x:=⟨(gy m k).toNat,by omega⟩
      have hle:=wF hv g4 hc (e.trans hx)
      exact ⟨x,hx,by omega,by split <;> omega⟩
     rcases hwd with ⟨e1,e2⟩ | ⟨e1,e2⟩
     ·simp [e1,show ¬ d < 0 by omega,e2]
      by_cases h0 : 0 <= gy m k
      ·obtain ⟨x,hx,hxn,hgt⟩:=run h0
       simp [av hfk,hx,av (iA g4),av (iA hxn),w9,hgt]
       exact ⟨aC (by decide +kernel),k + 1,by omega,by omega,hw3⟩
      ·simp [av hfk,h0]
       exact ⟨aC (by decide +kernel),k + 1,by omega,by omega,hw3⟩
     ·have w8 : IntKind.wrap .i64 (spF m k)=suF m k:=by rw [<- w9,e2,Int.sub_zero]
      simp [e1,e2]
      by_cases h0 : 0 <= gy m k
      ·obtain ⟨x,hx,hxn,hgt⟩:=run h0
       simp [av hfk,hx,av (iA g4),av (iA hxn),w8,hgt]
       exact ⟨aC (by decide +kernel),k + 1,by omega,by omega,hw3⟩
      ·simp [av hfk,h0]
       exact ⟨aC (by decide +kernel),k + 1,by omega,by omega,hw3⟩
end
end Go.Gv
