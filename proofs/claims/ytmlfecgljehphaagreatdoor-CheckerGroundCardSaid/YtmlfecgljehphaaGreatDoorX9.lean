/-
  Texts of the proof: A6, A7, A8, A9, A10, A12, A13, A14, A16, A17, A11, A18, A26.
-/
import Derived.Test.YtmlfecgljehphaaGreatDoorX8
set_option linter.all false
namespace Go.Gv
def pk (ns : List Nod) (k : Nat) : Int:=(ns[k]?.map (·.kind)).getD 0
theorem mR {ns : List Nod} {k : Nat} (h : k < ns.length) : pk ns k=ns[k].kind:=by simp [pk,h]
def iv (l : Lnk) : Bool:=decide (l.kind=1) && decide (l.up < l.down)
noncomputable def ol (ns : List Nod) (es : List Edg) (i : Nat) : Bool:=!decide (pk ns i=3) && !((List.range ns.length).any fun k=>wyB es i k && decide (pk ns k=3))
def lmT (ls : List Lnk) (f : Lnk -> Bool) (j : Nat) : List (List UInt8):=((ls.take j).filter f).map (·.name)
theorem xc (ls : List Lnk) (f : Lnk -> Bool) : lmT ls f 0=[]:=by simp [lmT]
theorem xb {ls : List Lnk} (f : Lnk -> Bool) {j : Nat} (h : j < ls.length) : lmT ls f (j + 1)=lmT ls f j++(if f ls[j]=true then [ls[j].name] else []):=by
 unfold lmT
 rw [List.take_succ_eq_append_getElem h,List.filter_append,List.map_append]
 by_cases e : f ls[j]=true <;> simp [e]
theorem Ag (ls : List Lnk) (f : Lnk -> Bool) (j : Nat) : (lmT ls f j).length <= j:=by
 unfold lmT
 rw [List.length_map]
 exact Nat.le_trans (List.length_filter_le _ _) (by simp;omega)
theorem yo (l : List (List UInt8)) : ∀ e ∈ fz l,∀ c ∈ e,aB c=true:=by
 intro e he c hc
 obtain ⟨x,_,rfl⟩:=List.mem_map.1 he
 simp at hc;subst hc;rfl
theorem va (l : List (List UInt8)) (s : List UInt8) : fz l++[[.str s]]=fz (l++[s]):=by simp [fz]
theorem tv (l : List (List UInt8)) : (fz l).take l.length=fz l:=List.take_of_length_le (by rw [nu];exact Nat.le_refl _)
def Tj (R : Nat -> Nat -> Bool) (i k : Nat) : List Nat:=(List.range k).filter fun k'=>decide (k'=i) || (decide (i < k') && uD R i k')
def lpS (R : Nat -> Nat -> Bool) (i k v : Nat) : Bool:=if v < k then rU R (i + 1) v else rU R i v
def lpR (ns : List Nod) (l : List (List Nat)) : List (List D):=l.map fun x=>[.own 1 (fz (x.map (fx ns)))]
def Tk (l : List (List (List UInt8))) : List (List D):=l.map fun x=>[.sl (fz x)]
noncomputable def SV (ns : List Nod) (es : List Edg) : List (List (List UInt8)):=(La ns.length (wyB es) ns.length).map fun x=>x.map (fx ns)
variable {C : CC} (hC : ao prog C)
include hC
theorem vz (l : Lnk) : C 601 [.agg (aS l)] (.bool (iv l)) []:=by
 refine start hC (nf:=N601) rfl rfl ?_
 simp [N601,aS]
 unfold iv
 refine ab (fun h=>?_) (fun h=>?_) <;> simp at h <;> simp [h]
theorem wT (b1 b2 : Bool) (ns : List Nod) (ls : List Lnk) (es : List Edg) (i : Nat) (hn : ns.length <= 300) (hi : i < ns.length) : C 602 [.agg [slx b1 (ns.map bk),slx b2 (ls.map aS)],yt ns.length es,.int .i64 i] (.bool (ol ns es i)) []:=by
 obtain ⟨X,hX,hXg⟩ : ∃ X,yt ns.length es=.sl X /\ ∀ i,i < ns.length -> X[i]? = some [D.sl (bu ns.length (wyB es i))]:=⟨_,rfl,fun i hi=>by simp [hi]⟩
 rw [hX]
 have hB:=cm ns.length (wyB es i)
 refine start hC (nf:=N602) rfl rfl ?_
 simp [N602,bk,hi]
 unfold ol
 rw [mR hi]
 refine ab (fun h=>?_) (fun h=>?_) <;> simp at h
 ·simp [h]
 ·simp [h,av (hXg i hi),hB]
  refine aq Nat (fun c=>[(3,.ptr [slx b1 (ns.map bk),slx b2 (ls.map aS)]),(19,.sl (bu ns.length (wyB es i))),(20,.int .i64 ns.length),(21,.int .i64 c)]) (fun c=>c <= ns.length /\ ∀ k,k < c -> (wyB es i k && decide (pk ns k=3))=false) (fun c=>ns.length - c) 0 ⟨by omega,by simp⟩ (by simp) ?_
  rintro c ⟨hc,hf⟩
  simp
  refine ab (fun h2=>?_) (fun h2=>?_) <;> simp at h2
  ·have hw2 : IntKind.wrap .i64 ((c : Int) + 1)=((c + 1 : Nat) : Int):=ai (by omega) (by omega)
   simp [h2,av (cY (wyB es i) h2)]
   refine ab (fun h3=>?_) (fun h3=>?_)
   ·simp [h3,h2,bk]
    refine ab (fun h4=>?_) (fun h4=>?_) <;> simp at h4
    ·have : ((List.range ns.length).any fun k=>wyB es i k && decide (pk ns k=3))=true:=List.any_eq_true.2 ⟨c,by simpa using h2,by simp [h3,mR h2,h4]⟩
     simp [h4,this]
    ·simp [h4,hw2]
     refine ⟨c + 1,⟨by omega,fun k hk=>?_⟩,by omega,by omega⟩
     rcases (show k < c \/ k=c by omega) with h5 | rfl
     ·have:=hf k h5
      simpa using this
     ·simp [mR h2,h4]
   ·simp [h3,hw2]
    refine ⟨c + 1,⟨by omega,fun k hk=>?_⟩,by omega,by omega⟩
    rcases (show k < c \/ k=c by omega) with h5 | rfl
    ·have:=hf k h5
     simpa using this
    ·simp [h3]
  ·have ec : c=ns.length:=by omega
   subst ec
   have : ((List.range ns.length).any fun k=>wyB es i k && decide (pk ns k=3))=false:=by
    rw [List.any_eq_false]
    intro k hk
    rw [hf k (by simpa using hk)];simp
   simp [h2,h,this]
theorem tB (b1 b2 : Bool) (ns : List Nod) (ls : List Lnk) (hcv : ∀ l ∈ ls,l.curve.length < 2 ^ 62) : C 556 [.agg [slx b1 (ns.map bk),slx b2 (ls.map aS)]] (.tup (if bZ ns ls then [.sl (fz (lmT ls iv ls.length)),.int .i64 0] else [.nils,.int .i64 1])) []:=by
 have k0:=mi hC b1 b2 ns ls hcv
 refine start hC (nf:=N556) rfl rfl ?_
 simp [N556]
 refine aa k0 (.inl rfl) ?_
 cases hv : bZ ns ls
 ·simp
 have hl:=(cZ hv).2
 simp
 refine aq Nat (fun j=>[(4,.ref (.r 10064) 0 (lmT ls iv j).length),(10064,.blk 1 (fz (lmT ls iv j))),(11,slx b2 (ls.map aS)),(12,.int .i64 ls.length),(13,.int .i64 j)]) (fun j=>j <= ls.length) (fun j=>ls.length - j) 0 (by simp) (by simp [xc,fz]) ?_
 intro j hj
 simp
 refine ab (fun h=>?_) (fun h=>?_) <;> simp at h
 ·have hw : IntKind.wrap .i64 ((j : Int) + 1)=((j + 1 : Nat) : Int):=ai (by omega) (by omega)
  have k1:=vz hC ls[j]
  have hs:=xb iv h
  have hlen:=Ag ls iv j
  have ht:=tv (lmT ls iv j)
  have hc:=yo (lmT ls iv j)
  simp [h,aS]
  refine aa (by simpa [aS] using k1) (.inr rfl) ?_
  simp
  refine ab (fun h2=>?_) (fun h2=>?_)
  ·rw [if_pos h2] at hs
   simp [h2,nu,ht,va,hw]
   exact ⟨by omega,j + 1,by omega,by omega,by rw [hs];simp,by rw [hs],by omega⟩
  ·rw [if_neg (by rw [h2];simp),List.append_nil] at hs
   simp [h2,hw]
   exact ⟨j + 1,by omega,by omega,by rw [hs],by rw [hs],by omega⟩
 ·have ej : j=ls.length:=by omega
  subst ej
  simp [h,nu,EL,tv]
end Go.Gv

namespace Go.Gv
theorem uj {α : Type} {p : α -> Bool} {xs : List α} (h : 0 <= bC p xs) : ∃ h : (bC p xs).toNat < xs.length,p xs[(bC p xs).toNat]=true:=by
 have key : ∀ i : Nat,bC p xs=(i : Int) -> ∃ h : i < xs.length,p xs[i]=true:=by
  intro i h
  unfold bC at h
  cases e : xs.findIdx? p with
  | none=>rw [e] at h;simp at h
  | some k =>
   rw [e] at h
   obtain ⟨h1,h2,_⟩:=List.findIdx?_eq_some_iff_getElem.1 e
   have ek : k=i:=by have h : (k : Int)=(i : Int):=h;omega
   subst ek
   exact ⟨h1,h2⟩
 exact key _ (by omega)
variable {C : CC} (hC : ao prog C)
include hC
end Go.Gv

namespace Go.Gv
def jY (s : Sec) : Bool:=br s.name && decide (1 <= s.height) && decide (s.height <= 32768)
def nx (l : List Sec) : Bool:=decide (l.length <= 40) && l.all jY && decide ((l.map (·.name)).Nodup)
def hgF (l : List Sec) (k : Lnk) : Int:=if k.kind=1 then (match l.find? (fun s=>s.name == k.sect) with | some s=>s.height | none=>-1) else -1
def hgA (l : List Sec) (ls : List Lnk) : List (List D):=ls.map fun k=>[.int .i64 (hgF l k)]
theorem bv (l : List Sec) (ls : List Lnk) : (hgA l ls).length=ls.length:=by simp [hgA]
theorem mf (l : List Sec) {ls : List Lnk} {i : Nat} (h : i < ls.length) : (hgA l ls)[i]? = some [.int .i64 (hgF l ls[i])]:=by simp [hgA,h]
def hgI (l : List Sec) (ls : List Lnk) (j : Nat) : List (List D):=(List.range ls.length).map fun i=>[.int .i64 (if i < j then ((ls[i]?).map (hgF l)).getD 0 else 0)]
theorem kh (l : List Sec) (ls : List Lnk) (j : Nat) : (hgI l ls j).length=ls.length:=by simp [hgI]
theorem zV {l : List Sec} {ls : List Lnk} {j i : Nat} (h : i < ls.length) : (hgI l ls j)[i]? = some [.int .i64 (if i < j then ((ls[i]?).map (hgF l)).getD 0 else 0)]:=by simp [hgI,h]
theorem wG (l : List Sec) (ls : List Lnk) : List.replicate ls.length [D.int .i64 0]=hgI l ls 0:=by simp [hgI,List.map_const']
theorem zW {l : List Sec} {ls : List Lnk} {j : Nat} (h : j < ls.length) : (hgI l ls j).set j [D.int .i64 (hgF l ls[j])]=hgI l ls (j + 1):=by
 unfold hgI
 rw [lC]
 apply List.map_congr_left
 intro v _
 by_cases e : v=j
 ·subst e;simp [h]
 ·have : (v < j)=(v < j + 1):=by apply propext;omega
  simp only [if_neg e,this]
theorem zU (l : List Sec) (ls : List Lnk) : hgI l ls ls.length=hgA l ls:=by
 apply List.ext_getElem (by simp [hgI,hgA])
 intro i h1 h2
 have h : i < ls.length:=by simpa [hgA] using h2
 simp [hgI,hgA,h]
def iE (nm : List UInt8) (s : Sec) : Bool:=s.name == nm
theorem zT (l : List Sec) {k : Lnk} (hk : k.kind=1) : hgF l k=if h : 0 <= bC (iE k.sect) l then (l[(bC (iE k.sect) l).toNat]?.map (·.height)).getD (-1) else -1:=by
 unfold hgF
 rw [if_pos hk]
 have hf : l.find? (fun s=>s.name == k.sect)=l.find? (iE k.sect):=rfl
 rw [hf]
 unfold bC
 cases e : l.findIdx? (iE k.sect) with
 | none =>
  have : l.find? (iE k.sect)=none:=by
   rw [List.find?_eq_none]
   exact fun x hx=>by have:=List.findIdx?_eq_none_iff.1 e x hx;simp [this]
  rw [this];simp
 | some i =>
  obtain ⟨h1,h2,h3⟩:=List.findIdx?_eq_some_iff_getElem.1 e
  have : l.find? (iE k.sect)=some l[i]:=by
   rw [List.find?_eq_some_iff_getElem]
   exact ⟨h2,i,h1,rfl,fun j hj=>by have:=h3 j hj;simpa using this⟩
  rw [this]
  have e1 : ((some i).map (fun i : Nat=>(i : Int))).getD (-1)=(i : Int):=rfl
  simp [h1]
variable {C : CC} (hC : ao prog C)
include hC
theorem vL (b1 b2 b3 : Bool) (ns : List Nod) (ls : List Lnk) (l : List Sec) (hcv : ∀ l ∈ ls,l.curve.length < 2 ^ 62) : C 587 [.agg [slx b1 (ns.map bk),slx b2 (ls.map aS)],slx b3 (l.map jB)] (.bool (bZ ns ls && nx l)) []:=by
 have k0:=mi hC b1 b2 ns ls hcv
 refine start hC (nf:=N587) rfl rfl ?_
 simp [N587]
 refine aa k0 (.inl rfl) ?_
 cases hv : bZ ns ls
 ·simp
 simp
 refine ab (fun h=>?_) (fun h=>?_) <;> simp at h
 ·simp [nx];omega
 simp
 refine aq Nat (fun i=>[(5,.mrf 10256),(10256,.mp 0 1 (gC (l.take i)) (List.replicate i (.bool true))),(17,slx b3 (l.map jB)),(18,.int .i64 l.length),(19,.int .i64 i)])
  (fun i=>i <= l.length /\ (∀ x ∈ l.take i,jY x=true) /\ ((l.map (·.name)).take i).Nodup) (fun i=>l.length - i) 0 (by simp) (by simp [gC]) ?_
 rintro i ⟨hi,hv,hn⟩
 simp
 refine ab (fun h3=>?_) (fun h3=>?_) <;> simp at h3
 ·have ht : l.take (i + 1)=l.take i++[l[i]]:=List.take_succ_eq_append_getElem h3
  have hg:=om ((l.take i).map (·.name)).reverse i (by simp;omega) l[i].name
  rw [show ((l.take i).map (·.name)).reverse.map D.str=gC (l.take i) from rfl] at hg
  have hk : D.str l[i].name::gC (l.take i)=gC (l.take (i + 1)):=by
   rw [gC,gC,ht]
   simp only [List.map_append,List.map_cons,List.map_nil,List.reverse_append,List.reverse_cons,List.reverse_nil,List.nil_append,List.cons_append]
  have hlen : (gC (l.take i)).length < maxLen:=by
   have : (gC (l.take i)).length <= 40:=by simp [gC];omega
   unfold maxLen;omega
  have hw : IntKind.wrap .i64 ((i : Int) + 1)=((i + 1 : Nat) : Int):=ai (by omega) (by omega)
  have bad1 : jY l[i]=false -> nx l=false:=fun e=>by
   simp only [nx,Bool.and_eq_false_iff,List.all_eq_false]
   exact .inl (.inr ⟨l[i],List.getElem_mem h3,by simp [e]⟩)
  have h5 : (l.map (·.name)).take (i + 1)=(l.map (·.name)).take i++[l[i].name]:=by
   rw [List.take_succ_eq_append_getElem (by simpa using h3)];simp
  have bad2 : l[i].name ∈ (l.map (·.name)).take i -> nx l=false:=fun e=>by
   simp only [nx,Bool.and_eq_false_iff,decide_eq_false_iff_not]
   right
   intro hnd
   have h6:=(List.take_sublist (i + 1) _).nodup hnd
   rw [h5,List.nodup_append] at h6
   exact h6.2.2 _ e _ (by simp) rfl
  simp [h3,jB]
  refine aa (gG hC l[i].name) (.inl rfl) ?_
  cases hvi : br l[i].name
  ·have:=bad1 (by simp [jY,hvi])
   simp [this]
  ·have hnm : l[i].name.length <= maxLen:=by
    simp only [br,Bool.and_eq_true,decide_eq_true_eq] at hvi
    unfold maxLen;omega
   simp [hg,hnm]
   refine ab (fun h4=>?_) (fun h4=>?_)
   ·have:=bad2 (by simpa using h4)
    simp [h4,this]
   ·have h4b : l[i].name ∉ (l.map (·.name)).take i:=by simpa using h4
    simp [h4]
    by_cases h6 : l[i].height < 1
    ·have:=bad1 (by simp [jY];omega)
     simp [h6,this]
    by_cases h7 : 32768 < l[i].height
    ·have:=bad1 (by simp [jY];omega)
     simp [h6,h7,this]
    simp [h6,h7,hlen,hnm,hw]
    refine ⟨i + 1,⟨by omega,?_,?_⟩,by omega,?_⟩
    ·intro x hx
     rw [ht] at hx
     rcases List.mem_append.1 hx with hx | hx
     ·exact hv x hx
     ·simp at hx;subst hx;simp [jY,hvi];omega
    ·rw [h5,List.nodup_append]
     refine ⟨hn,by simp,fun a ha b hb=>?_⟩
     simp at hb
     subst hb
     rintro rfl
     exact h4b ha
    ·rw [List.replicate_succ]
     exact ⟨⟨hk,rfl⟩,by omega⟩
 ·have hil : i=l.length:=by omega
  subst hil
  rw [List.take_of_length_le (by simp)] at hn
  simp at hv
  simp [nx,hn]
  exact ⟨by omega,hv⟩
theorem DC (s : Sec) (k : Lnk) : C 647 [.agg (jB s),.ptr (aS k)] (.bool (iE k.sect s)) []:=by
 refine start hC (nf:=N647) rfl rfl ?_
 simp [N647,jB,aS,iE]
 rw [Bool.eq_iff_iff];simp
theorem uh (b1 b2 b3 : Bool) (ns : List Nod) (ls : List Lnk) (l : List Sec) (hls : ls.length <= 400) (hl : l.length <= 40) : C 629 [.agg [slx b1 (ns.map bk),slx b2 (ls.map aS)],slx b3 (l.map jB)] (.sl (hgA l ls)) []:=by
 refine start hC (nf:=N629) rfl rfl ?_
 simp [N629]
 rw [wG l]
 refine ⟨by omega,?_⟩
 refine aq Nat (fun i=>[(1,slx b3 (l.map jB)),(5,.ref (.r 10080) 0 ls.length),(10080,.blk 1 (hgI l ls i)),(14,slx b2 (ls.map aS)),(15,.int .i64 ls.length),(16,.int .i64 i)]) (fun i=>i <= ls.length) (fun i=>ls.length - i) 0 (by simp) (by simp) ?_
 intro i hi
 simp
 refine ab (fun h=>?_) (fun h=>?_) <;> simp at h
 ·have hw : IntKind.wrap .i64 ((i : Int) + 1)=((i + 1 : Nat) : Int):=ai (by omega) (by omega)
  have hset:=zW (l:=l) h
  have hg1:=zV (l:=l) (j:=i) h
  rw [if_neg (Nat.lt_irrefl i)] at hg1
  have hm1:=fun x=>show (hgI l ls i).set i [D.int .i64 x]=(hgI l ls i).set i [D.int .i64 x] from rfl
  have hg1E : (hgI l ls i)[i]'(by rw [kh];exact h)=[D.int .i64 0]:=(List.getElem?_eq_some_iff.1 hg1).2
  have k1:=wK hC (b:=b3) (xs:=l) (g:=647) (cs:=[.ptr (aS ls[i])]) (iE ls[i].sect) (by omega) (fun x _=>DC hC x ls[i])
  have hx:=zT l (k:=ls[i])
  simp [h,aS,kh,hg1,hg1E]
  refine ab (fun h2=>?_) (fun h2=>?_) <;> simp at h2
  ·have hf : hgF l ls[i]=-1:=by unfold hgF;rw [if_neg h2]
   rw [hf] at hset
   simp [h2,hw,hset]
   exact ⟨i + 1,by omega,by omega,rfl,by omega⟩
  ·have hf:=hx h2
   simp [h2,aS] at k1 ⊢
   refine aa k1 (.inl rfl) ?_
   simp
   refine ab (fun h3=>?_) (fun h3=>?_) <;> simp at h3
   ·obtain ⟨hi1,_⟩:=uj h3
    have hf' : hgF l ls[i]=l[(bC (iE ls[i].sect) l).toNat].height:=by rw [hf,dif_pos h3,List.getElem?_eq_getElem hi1];rfl
    rw [hf'] at hset
    have hs1 : ((hgI l ls i).set i [D.int .i64 (-1)])[i]? = some [D.int .i64 (-1)]:=List.getElem?_set_self (by rw [kh];exact h)
    simp [h3,hi1,jB,hs1,h,hw,hset,kh]
    exact ⟨i + 1,by omega,by omega,rfl,by omega⟩
   ·have hf' : hgF l ls[i]=-1:=by rw [hf,dif_neg (by omega)]
    rw [hf'] at hset
    simp [h3,hw,hset]
    exact ⟨i + 1,by omega,by omega,rfl,by omega⟩
 ·have ei : i=ls.length:=by omega
  subst ei
  simp [h,kh,zU,bv]
  rw [List.take_of_length_le (by simp [bv])]
  unfold hgA
  rw [List.map_map]
  apply List.map_congr_left
  intro v _
  simp [aX]
end Go.Gv

namespace Go.Gv
def cc {α : Type} (f : Nat -> List α) (j : Nat) : List α:=(List.range j).flatMap f
theorem fh {α : Type} (f : Nat -> List α) : cc f 0=[]:=rfl
theorem eu {α : Type} (f : Nat -> List α) (j : Nat) : cc f (j + 1)=cc f j++f j:=by simp [cc,List.range_succ]
theorem cI {α : Type} {f : Nat -> List α} {k : Nat} (h : ∀ i,(f i).length <= k) (j : Nat) : (cc f j).length <= k * j:=by
 induction j with
 | zero=>simp [cc]
 | succ j ih =>
  rw [eu,List.length_append,Nat.mul_succ]
  have:=h j
  omega
def one {α : Type} (b : Bool) (x : α) : List α:=if b=true then [x] else []
theorem eX {α : Type} (b : Bool) (x : α) : (one b x).length <= 1:=by cases b <;> simp [one]
def im (es : List Edg) (j v : Nat) : Bool:=(es.take j).any fun e=>decide (e.1=v) || decide (e.2=v)
theorem uA (es : List Edg) : im es 0=fun _=>false:=by funext v;simp [im]
theorem uz {es : List Edg} {j : Nat} (h : j < es.length) (v : Nat) : im es (j + 1) v=(im es j v || (decide (es[j].1=v) || decide (es[j].2=v))):=by
 unfold im
 rw [List.take_succ_eq_append_getElem h,List.any_append]
 simp
theorem xn {es : List Edg} {j n : Nat} (h : j < es.length) : ((bu n (im es j)).set es[j].1 [D.bool true]).set es[j].2 [D.bool true]=bu n (im es (j + 1)):=by
 rw [gJ,gJ]
 apply gk
 intro v _
 rw [uz h]
 by_cases e1 : v=es[j].2
 ·subst e1;simp
 ·have e1' : ¬ es[j].2=v:=fun e=>e1 e.symm
  by_cases e2 : v=es[j].1
  ·subst e2;simp [e1]
  ·have e2' : ¬ es[j].1=v:=fun e=>e2 e.symm
   simp [e1,e2,e1',e2']
noncomputable def stF (ns : List Nod) (es : List Edg) (i : Nat) : List Fnd:=one (wyB es i i) (1,fx ns i)++one (ol ns es i) (3,fx ns i)++one (!im es es.length i) (8,fx ns i)
def jG (ls : List Lnk) (k : Nat) : List UInt8:=(ls[k]?.map (·.name)).getD []
theorem lm {ls : List Lnk} {k : Nat} (h : k < ls.length) : jG ls k=ls[k].name:=by simp [jG,h]
def bkF (ls : List Lnk) (i : Nat) : List Fnd:=one ((ls[i]?.map iv).getD false) (2,jG ls i)
theorem tu (ns : List Nod) (es : List Edg) (i : Nat) : (stF ns es i).length <= 3:=by
 unfold stF
 have:=eX (wyB es i i) ((1,fx ns i) : Fnd)
 have:=eX (ol ns es i) ((3,fx ns i) : Fnd)
 have:=eX (!im es es.length i) ((8,fx ns i) : Fnd)
 simp only [List.length_append];omega
theorem sF (ls : List Lnk) (i : Nat) : (bkF ls i).length <= 1:=eX _ _
noncomputable def nN (ns : List Nod) (ls : List Lnk) : List Fnd:=cc (stF ns (dD ns ls)) ns.length++cc (bkF ls) ls.length
variable {C : CC} (hC : ao prog C)
include hC
set_option maxHeartbeats 4000000 in
theorem qS (hS : SlC C) (b1 b2 : Bool) (ns : List Nod) (ls : List Lnk) (hv : bZ ns ls=true) (hcv : ∀ l ∈ ls,l.curve.length < 2 ^ 62) (L : List Fnd) (hL : L.length < 2 ^ 30) : C 588 [.blk 1 [[.own 2 (aP L)]],.agg [slx b1 (ns.map bk),slx b2 (ls.map aS)]] (.tup []) [.blk 1 [[.own 2 (aP (L++nN ns ls))]]]:=by
 have hn:=(cZ hv).1
 have hl:=(cZ hv).2
 have hg:=oZ hv
 have he : (dD ns ls).length <= 400:=by rw [gM];omega
 have k1:=yW hC hS b1 b2 ns ls hv hcv
 have k2:=rA hC b1 b2 ns ls hv hcv
 have k3:=fun i hi=>wT hC b1 b2 ns ls (dD ns ls) i hn hi
 have k4:=vx hC
 have k5:=vz hC
 unfold nN
 generalize dD ns ls=es at *
 obtain ⟨X,hX,hXg⟩ : ∃ X,yt ns.length es=.sl X /\ ∀ i,i < ns.length -> X[i]? = some [D.sl (bu ns.length (wyB es i))]:=⟨_,rfl,fun i hi=>by simp [hi]⟩
 rw [hX] at k1
 simp only [hX] at k3
 clear hX
 have hrep : List.replicate ns.length [D.bool false]=bu ns.length (im es 0):=by rw [uA];simp [bu,ml]
 refine sr hC (nf:=N588) rfl rfl ?_
 simp [N588]
 refine aa k1 (.inr rfl) ?_
 simp
 refine ⟨by omega,?_⟩
 refine aa k2 (.inr rfl) ?_
 simp
 refine aq Nat (fun j=>[(0,.adr (.r 10015) 0 0),(10015,.blk 1 [[.own 2 (aP L)]]),(3,.ptr [slx b1 (ns.map bk),slx b2 (ls.map aS)]),(4,.sl X),(5,.ref (.r 10080) 0 ns.length),(10080,.blk 1 (bu ns.length (im es j))),(19,.sl (es.map edK)),(20,.int .i64 es.length),(21,.int .i64 j)]) (fun j=>j <= es.length) (fun j=>es.length - j) 0 (by simp) (by simp [hrep]) ?_
 ·intro j hj
  simp
  refine ab (fun h=>?_) (fun h=>?_) <;> simp at h
  ·have hw : IntKind.wrap .i64 ((j : Int) + 1)=((j + 1 : Nat) : Int):=ai (by omega) (by omega)
   have hset:=xn (n:=ns.length) h
   have hin:=hg es[j] (List.getElem_mem _)
   have hw : IntKind.wrap .i64 ((j : Int) + 1)=((j + 1 : Nat) : Int):=ai (by omega) (by omega)
   obtain ⟨i,e,hie⟩ : ∃ i e,es[j]=(i,e):=⟨_,_,rfl⟩
   rw [hie] at hset hin
   simp at hset hin
   have hA : (bu ns.length (im es j))[i]'(by rw [cm];exact hin.1)=[D.bool (im es j i)]:=(List.getElem?_eq_some_iff.1 (cY _ hin.1)).2
   have hB : ((bu ns.length (im es j)).set i [D.bool true])[e]'(by rw [List.length_set,cm];exact hin.2)=[D.bool (if e=i then true else im es j e)]:=by
    simp only [gJ]
    exact (List.getElem?_eq_some_iff.1 (cY _ hin.2)).2
   simp [h,edK,knD,hie,hin.1,hin.2,cm,hA,hB,hset,hw]
   exact ⟨ae (by decide +kernel),j + 1,by omega,by omega,rfl,by omega⟩
  ·have ej : j=es.length:=by omega
   subst ej
   simp [h]
   have hst : ∀ i,(L++cc (stF ns es) i).length <= 2 ^ 30 + 3 * i:=fun i=>by
    have:=cI (tu ns es) i
    rw [List.length_append];omega
   refine aq Nat (fun j=>[(0,.adr (.r 10015) 0 0),(10015,.blk 1 [[.own 2 (aP (L++cc (stF ns es) j))]]),(3,.ptr [slx b1 (ns.map bk),slx b2 (ls.map aS)]),(4,.sl X),(5,.ref (.r 10080) 0 ns.length),(10080,.blk 1 (bu ns.length (im es es.length))),(35,slx b1 (ns.map bk)),(36,.int .i64 ns.length),(37,.int .i64 j)]) (fun j=>j <= ns.length) (fun j=>ns.length - j) 0 (by simp) (by simp [fh]) ?_
   intro j hj
   simp
   have hl0:=hst j
   have hfs:=eu (stF ns es) j
   generalize hW : cc (stF ns es) j=W at *
   refine ab (fun h=>?_) (fun h=>?_) <;> simp at h
   ·have hw : IntKind.wrap .i64 ((j : Int) + 1)=((j + 1 : Nat) : Int):=ai (by omega) (by omega)
    have hme:=cY (im es es.length) h
    have k3':=k3 j h
    have hsj : stF ns es j=one (wyB es j j) (1,fx ns j)++one (ol ns es j) (3,fx ns j)++one (!im es es.length j) (8,fx ns j):=rfl
    rw [uE h] at hsj
    simp [h,bk,av (hXg j h),av (cY (wyB es j) h)]
    refine ab (fun q1=>?_) (fun q1=>?_)
    ·simp [q1]
     refine cd (k4 _ 1 _ (by simp only [List.length_append,List.length_cons,List.length_nil] at *;omega)) (by simp) ?_
     simp
     refine aa (by simpa [bk] using k3') (.inl rfl) ?_
     simp
     refine ab (fun q2=>?_) (fun q2=>?_)
     ·simp [q2]
      refine cd (k4 _ 3 _ (by simp only [List.length_append,List.length_cons,List.length_nil] at *;omega)) (by simp) ?_
      simp
      simp [aF hme,hw,h]
      refine ab (fun q3=>?_) (fun q3=>?_)
      ·simp [q3]
       refine cd (k4 _ 8 _ (by simp only [List.length_append,List.length_cons,List.length_nil] at *;omega)) (by simp) ?_
       simp [hw]
       refine ⟨j + 1,by omega,by omega,?_,by omega⟩;rw [hfs,hsj];simp [one,q1,q2,q3]
      ·simp [q3,hw]
       refine ⟨j + 1,by omega,by omega,?_,by omega⟩;rw [hfs,hsj];simp [one,q1,q2,q3]
     ·simp [q2]
      simp [aF hme,hw,h]
      refine ab (fun q3=>?_) (fun q3=>?_)
      ·simp [q3]
       refine cd (k4 _ 8 _ (by simp only [List.length_append,List.length_cons,List.length_nil] at *;omega)) (by simp) ?_
       simp [hw]
       refine ⟨j + 1,by omega,by omega,?_,by omega⟩;rw [hfs,hsj];simp [one,q1,q2,q3]
      ·simp [q3,hw]
       refine ⟨j + 1,by omega,by omega,?_,by omega⟩;rw [hfs,hsj];simp [one,q1,q2,q3]
    ·simp [q1]
     refine aa (by simpa [bk] using k3') (.inl rfl) ?_
     simp
     refine ab (fun q2=>?_) (fun q2=>?_)
     ·simp [q2]
      refine cd (k4 _ 3 _ (by simp only [List.length_append,List.length_cons,List.length_nil] at *;omega)) (by simp) ?_
      simp
      simp [aF hme,hw,h]
      refine ab (fun q3=>?_) (fun q3=>?_)
      ·simp [q3]
       refine cd (k4 _ 8 _ (by simp only [List.length_append,List.length_cons,List.length_nil] at *;omega)) (by simp) ?_
       simp [hw]
       refine ⟨j + 1,by omega,by omega,?_,by omega⟩;rw [hfs,hsj];simp [one,q1,q2,q3]
      ·simp [q3,hw]
       refine ⟨j + 1,by omega,by omega,?_,by omega⟩;rw [hfs,hsj];simp [one,q1,q2,q3]
     ·simp [q2]
      simp [aF hme,hw,h]
      refine ab (fun q3=>?_) (fun q3=>?_)
      ·simp [q3]
       refine cd (k4 _ 8 _ (by simp only [List.length_append,List.length_cons,List.length_nil] at *;omega)) (by simp) ?_
       simp [hw]
       refine ⟨j + 1,by omega,by omega,?_,by omega⟩;rw [hfs,hsj];simp [one,q1,q2,q3]
      ·simp [q3,hw]
       refine ⟨j + 1,by omega,by omega,?_,by omega⟩;rw [hfs,hsj];simp [one,q1,q2,q3]
   ·have ej : j=ns.length:=by omega
    subst ej
    simp [h]
    have hbt : ∀ i,(L++W++cc (bkF ls) i).length <= 2 ^ 31 + i:=fun i=>by
     have:=cI (sF ls) i
     simp only [List.length_append] at *;omega
    refine aq Nat (fun j=>[(0,.adr (.r 10015) 0 0),(10015,.blk 1 [[.own 2 (aP (L++W++cc (bkF ls) j))]]),(72,slx b2 (ls.map aS)),(73,.int .i64 ls.length),(74,.int .i64 j)]) (fun j=>j <= ls.length) (fun j=>ls.length - j) 0 (by simp) (by simp [fh]) ?_
    intro j hj
    simp
    have hl0:=hbt j
    have hfs:=eu (bkF ls) j
    generalize hW2 : cc (bkF ls) j=W2 at *
    refine ab (fun h=>?_) (fun h=>?_) <;> simp at h
    ·have hw : IntKind.wrap .i64 ((j : Int) + 1)=((j + 1 : Nat) : Int):=ai (by omega) (by omega)
     have hsj : bkF ls j=one (iv ls[j]) (2,ls[j].name):=by unfold bkF;rw [lm h];simp [h]
     simp [h,aS]
     refine aa (by simpa [aS] using k5 ls[j]) (.inr rfl) ?_
     simp
     refine ab (fun q1=>?_) (fun q1=>?_)
     ·simp [q1]
      refine cd (k4 _ 2 _ (by simp only [List.length_append] at *;omega)) (by simp) ?_
      simp [hw]
      refine ⟨j + 1,by omega,by omega,?_,by omega⟩
      rw [hfs,hsj];simp [one,q1]
     ·simp [q1,hw]
      refine ⟨j + 1,by omega,by omega,?_,by omega⟩
      rw [hfs,hsj];simp [one,q1]
    ·have ej : j=ls.length:=by omega
     subst ej
     simp [h,hW,hW2]
end Go.Gv

set_option maxRecDepth 4000
namespace Go.Gv
def edG (es : List Edg) (i : Nat) : Edg:=es[i]?.getD (0,0)
def lnG (ls : List Lnk) (i : Nat) : Lnk:=ls[i]?.getD ⟨[],[],[],0,0,0,0,[],0,0,true,[]⟩
def nH (ns : List Nod) (i : Nat) : Nod:=ns[i]?.getD ⟨[],0,0,0,0,0,true,[],false,0⟩
theorem oY {es : List Edg} {i : Nat} (h : i < es.length) : edG es i=es[i]:=by simp [edG,h]
theorem pf {ls : List Lnk} {i : Nat} (h : i < ls.length) : lnG ls i=ls[i]:=by simp [lnG,h]
theorem qt {ns : List Nod} {i : Nat} (h : i < ns.length) : nH ns i=ns[i]:=by simp [nH,h]
def lX (k : Lnk) (a b : Nod) : Bool:=if k.kind=4 then decide (k.down < a.invert) else decide (k.up < a.invert) || (decide (k.kind=1) && decide (k.down < b.invert))
def lW (k : Lnk) (a b : Nod) (h : Int) (known : Bool) : Bool :=
 if k.kind=1 then known && (decide (a.ground < IntKind.wrap .i64 (k.up + h)) || decide (b.ground < IntKind.wrap .i64 (k.down + h)))
 else if k.kind=3 then decide (a.ground < IntKind.wrap .i64 (k.up + k.height)) else decide (a.ground < k.up)
def nG (es : List Edg) (l : List Sec) (ls : List Lnk) (i j : Nat) : List Fnd:=one (decide ((edG es j).2=(edG es i).1) && decide (hgF l (lnG ls i) < hgF l (lnG ls j))) (7,jG ls i)
def iV (ns : List Nod) (es : List Edg) (l : List Sec) (ls : List Lnk) (i : Nat) : List Fnd :=
 one (lX (lnG ls i) (nH ns (edG es i).1) (nH ns (edG es i).2)) (4,jG ls i)++one (lW (lnG ls i) (nH ns (edG es i).1) (nH ns (edG es i).2) (hgF l (lnG ls i)) (decide (0 <= hgF l (lnG ls i)))) (5,jG ls i) ++
 one (decide ((lnG ls i).kind=1) && decide (hgF l (lnG ls i) < 0)) (6,jG ls i)++(if hgF l (lnG ls i) < 0 then [] else cc (nG es l ls i) ls.length)
theorem qr (es : List Edg) (l : List Sec) (ls : List Lnk) (i j : Nat) : (nG es l ls i j).length <= 1:=eX _ _
theorem qd (ns : List Nod) (es : List Edg) (l : List Sec) (ls : List Lnk) (i : Nat) : (iV ns es l ls i).length <= 3 + ls.length:=by
 unfold iV
 have:=eX (lX (lnG ls i) (nH ns (edG es i).1) (nH ns (edG es i).2)) ((4,jG ls i) : Fnd)
 have:=eX (lW (lnG ls i) (nH ns (edG es i).1) (nH ns (edG es i).2) (hgF l (lnG ls i)) (decide (0 <= hgF l (lnG ls i)))) ((5,jG ls i) : Fnd)
 have:=eX (decide ((lnG ls i).kind=1) && decide (hgF l (lnG ls i) < 0)) ((6,jG ls i) : Fnd)
 have h4 : (if hgF l (lnG ls i) < 0 then [] else cc (nG es l ls i) ls.length).length <= ls.length:=by
  split
  ·simp
  ·have:=cI (qr es l ls i) ls.length;omega
 simp only [List.length_append];omega
noncomputable def pi (ns : List Nod) (ls : List Lnk) (l : List Sec) : List Fnd:=cc (iV ns (dD ns ls) l ls) ls.length
def pg : dL:=match N589.body with
 | .seq _ (.seq _ (.seq _ (.seq _ (.block _ (.loop (.seq _ (.seq _ (.seq (.block _ (.seq _ (.seq _ (.seq _ (.seq _ t))))) _))))))))=>t
 | _=>.skip
def sZ : dL:=match pg with
 | .seq _ (.seq _ (.seq _ (.seq _ t)))=>t
 | _=>.skip
variable {C : CC} (hC : ao prog C)
include hC
set_option maxHeartbeats 4000000 in
theorem wY (b1 b2 b3 : Bool) (ns : List Nod) (ls : List Lnk) (l : List Sec) (hv : bZ ns ls=true) (hcv : ∀ l ∈ ls,l.curve.length < 2 ^ 62) (hll : l.length <= 40) (L : List Fnd) (hL : L.length < 2 ^ 30) : C 589 [.blk 1 [[.own 2 (aP L)]],.agg [slx b1 (ns.map bk),slx b2 (ls.map aS)],slx b3 (l.map jB)] (.tup []) [.blk 1 [[.own 2 (aP (L++pi ns ls l))]]]:=by
 have hn:=(cZ hv).1
 have hl:=(cZ hv).2
 have hg:=oZ hv
 have hel:=gM ns ls
 have k1:=uh hC b1 b2 b3 ns ls l hl hll
 have k2:=rA hC b1 b2 ns ls hv hcv
 have k4:=vx hC
 have hknd : ∀ (i : Nat) (h : i < ls.length),ls[i].kind=1 \/ ls[i].kind=2 \/ ls[i].kind=3 \/ ls[i].kind=4:=fun i h=>by
  have h0:=(lv hv h).1
  simp only [dg,Bool.and_eq_true] at h0
  have h1:=h0.2
  unfold jO at h1
  by_cases e1 : ls[i].kind=1
  ·exact .inl e1
  by_cases e2 : ls[i].kind=2
  ·exact .inr (.inl e2)
  by_cases e3 : ls[i].kind=3
  ·exact .inr (.inr (.inl e3))
  by_cases e4 : ls[i].kind=4
  ·exact .inr (.inr (.inr e4))
  simp [e1,e2,e3,e4] at h1
 unfold pi
 generalize dD ns ls=es at *
 obtain ⟨T,hT⟩ : ∃ T,T=pg:=⟨_,rfl⟩
 obtain ⟨T7,hT7⟩ : ∃ T,T=sZ:=⟨_,rfl⟩
 simp [sZ,pg,N589] at hT7
 simp [pg,N589] at hT
 have tail7 : ∀ (j : Nat) (h : j < ls.length) (Q : cx -> Env -> Prop) (kd : Int) (M1 M' : List Fnd),M1.length <= 2 ^ 31 + 2 ->
   M'=M1++cc (nG es l ls j) ls.length ->
   (bL Q ⟨⟩ .nrm [(0,.adr (.r 10015) 0 0),(4,.ptr [slx b1 (ns.map bk),slx b2 (ls.map aS)]),(6,.sl (hgA l ls)),(7,.sl (es.map edK)),(8,.int .i64 j),(9,.adr (.r 10144) 0 0),(21,slx b2 (ls.map aS)),(22,.int .i64 ls.length),(23,.int .i64 j),(161,.int .i64 ls.length),(162,.int .i64 ls.length),(163,.bool false),(10015,.blk 1 [[.own 2 (aP M')]]),(10144,.blk 11 [[.str ls[j].name,.str ls[j].src,.str ls[j].dst,.int .i64 kd,.int .i64 ls[j].len,.int .i64 ls[j].up,.int .i64 ls[j].down,.str ls[j].sect,.int .i64 ls[j].width,.int .i64 ls[j].height,slx ls[j].curveN (ls[j].curve.map knD)]])]) ->
   wN C T7 Q ⟨⟩ [(0,.adr (.r 10015) 0 0),(4,.ptr [slx b1 (ns.map bk),slx b2 (ls.map aS)]),(6,.sl (hgA l ls)),(7,.sl (es.map edK)),(8,.int .i64 j),(9,.adr (.r 10144) 0 0),(21,slx b2 (ls.map aS)),(22,.int .i64 ls.length),(23,.int .i64 j),(158,.bool false),(10015,.blk 1 [[.own 2 (aP M1)]]),(10144,.blk 11 [[.str ls[j].name,.str ls[j].src,.str ls[j].dst,.int .i64 kd,.int .i64 ls[j].len,.int .i64 ls[j].up,.int .i64 ls[j].down,.str ls[j].sect,.int .i64 ls[j].width,.int .i64 ls[j].height,slx ls[j].curveN (ls[j].curve.map knD)]])]:=by
  intro j h Q kd M1 M' hM1l hM' hQ
  have hgj:=mf l h
  have hje : j < es.length:=by omega
  rw [hT7]
  simp
  refine aq Nat (fun k=>[(0,.adr (.r 10015) 0 0),(4,.ptr [slx b1 (ns.map bk),slx b2 (ls.map aS)]),(6,.sl (hgA l ls)),(7,.sl (es.map edK)),(8,.int .i64 j),(9,.adr (.r 10144) 0 0),(21,slx b2 (ls.map aS)),(22,.int .i64 ls.length),(23,.int .i64 j),(161,.int .i64 ls.length),(162,.int .i64 k),(10015,.blk 1 [[.own 2 (aP (M1++cc (nG es l ls j) k))]]),(10144,.blk 11 [[.str ls[j].name,.str ls[j].src,.str ls[j].dst,.int .i64 kd,.int .i64 ls[j].len,.int .i64 ls[j].up,.int .i64 ls[j].down,.str ls[j].sect,.int .i64 ls[j].width,.int .i64 ls[j].height,slx ls[j].curveN (ls[j].curve.map knD)]])]) (fun k=>k <= ls.length) (fun k=>ls.length - k) 0 (by simp) (by simp [fh]) ?_
  intro k hk
  simp
  refine ab (fun h8=>?_) (fun h8=>?_) <;> simp at h8
  ·have hke : k < es.length:=by omega
   have hw8 : IntKind.wrap .i64 ((k : Int) + 1)=((k + 1 : Nat) : Int):=ai (by omega) (by omega)
   have hfk:=eu (nG es l ls j) k
   have hsk : nG es l ls j k=one (decide (es[k].2=es[j].1) && decide (hgF l ls[j] < hgF l ls[k])) (7,ls[j].name):=by unfold nG;rw [lm h,oY hje,oY hke,pf h,pf h8]
   have hlk:=cI (qr es l ls j) k
   rw [hsk] at hfk
   have hgk:=mf l h8
   simp [h8,hke,hje,edK,knD,bv,h]
   by_cases c1 : es[k].2=es[j].1
   ·simp [c1,h8,h,hke,hje,edK,knD,bv,av hgj,av hgk]
    refine ⟨ae (by decide +kernel),?_⟩
    refine ab (fun c2=>?_) (fun c2=>?_)
    ·rw [c2]
     simp at c2
     simp [c2]
     refine cd (k4 _ 7 _ (by (try simp only [List.length_append,List.length_cons,List.length_nil]);omega)) (by simp) ?_
     simp [hw8]
     exact ⟨k + 1,by omega,by omega,by omega,by rw [hfk];simp [one,c1,c2]⟩
    ·rw [c2]
     simp at c2
     simp [c2,hw8]
     exact ⟨k + 1,by omega,by omega,by omega,by rw [hfk];simp [one,c1,Int.not_lt.2 c2]⟩
   ·have c1' : ¬ (es[k].2 : Int)=es[j].1:=by omega
    simp [c1,c1',hw8]
    exact ⟨ae (by decide +kernel),k + 1,by omega,by omega,by omega,by rw [hfk];simp [one,c1]⟩
  ·have ek : k=ls.length:=by omega
   subst ek
   simp [h8]
   subst hM'
   simpa using hQ
 have tail : ∀ (lo hi : Bool) (j : Nat) (h : j < ls.length) (Q : cx -> Env -> Prop) (kd : Int) (M M' : List Fnd),M.length <= 2 ^ 31 ->
   M'=M++one lo (4,ls[j].name)++one hi (5,ls[j].name)++one (decide (kd=1) && decide (hgF l ls[j] < 0)) (6,ls[j].name)++(if hgF l ls[j] < 0 then [] else cc (nG es l ls j) ls.length) ->
   (bL Q ⟨⟩ .nrm [(0,.adr (.r 10015) 0 0),(4,.ptr [slx b1 (ns.map bk),slx b2 (ls.map aS)]),(6,.sl (hgA l ls)),(7,.sl (es.map edK)),(8,.int .i64 j),(9,.adr (.r 10144) 0 0),(21,slx b2 (ls.map aS)),(22,.int .i64 ls.length),(23,.int .i64 j),(161,.int .i64 ls.length),(162,.int .i64 ls.length),(163,.bool false),(10015,.blk 1 [[.own 2 (aP M')]]),(10144,.blk 11 [[.str ls[j].name,.str ls[j].src,.str ls[j].dst,.int .i64 kd,.int .i64 ls[j].len,.int .i64 ls[j].up,.int .i64 ls[j].down,.str ls[j].sect,.int .i64 ls[j].width,.int .i64 ls[j].height,slx ls[j].curveN (ls[j].curve.map knD)]])]) ->
   (bL Q ⟨⟩ (.ext 1) [(0,.adr (.r 10015) 0 0),(4,.ptr [slx b1 (ns.map bk),slx b2 (ls.map aS)]),(6,.sl (hgA l ls)),(7,.sl (es.map edK)),(8,.int .i64 j),(9,.adr (.r 10144) 0 0),(21,slx b2 (ls.map aS)),(22,.int .i64 ls.length),(23,.int .i64 j),(158,.bool true),(10015,.blk 1 [[.own 2 (aP M')]]),(10144,.blk 11 [[.str ls[j].name,.str ls[j].src,.str ls[j].dst,.int .i64 kd,.int .i64 ls[j].len,.int .i64 ls[j].up,.int .i64 ls[j].down,.str ls[j].sect,.int .i64 ls[j].width,.int .i64 ls[j].height,slx ls[j].curveN (ls[j].curve.map knD)]])]) ->
   wN C T Q ⟨⟩ [(0,.adr (.r 10015) 0 0),(4,.ptr [slx b1 (ns.map bk),slx b2 (ls.map aS)]),(6,.sl (hgA l ls)),(7,.sl (es.map edK)),(8,.int .i64 j),(9,.adr (.r 10144) 0 0),(12,.bool lo),(13,.bool hi),(21,slx b2 (ls.map aS)),(22,.int .i64 ls.length),(23,.int .i64 j),(10015,.blk 1 [[.own 2 (aP M)]]),(10144,.blk 11 [[.str ls[j].name,.str ls[j].src,.str ls[j].dst,.int .i64 kd,.int .i64 ls[j].len,.int .i64 ls[j].up,.int .i64 ls[j].down,.str ls[j].sect,.int .i64 ls[j].width,.int .i64 ls[j].height,slx ls[j].curveN (ls[j].curve.map knD)]])]:=by
  intro lo hi j h Q kd M M' hM hM' hQ hX
  have hgj:=mf l h
  have hje : j < es.length:=by omega
  obtain ⟨M1,hM1⟩ : ∃ M1,M1=M++one lo (4,ls[j].name)++one hi (5,ls[j].name):=⟨_,rfl⟩
  have hM1l : M1.length <= 2 ^ 31 + 2:=by
   rw [hM1]
   have:=eX lo ((4,ls[j].name) : Fnd)
   have:=eX hi ((5,ls[j].name) : Fnd)
   simp only [List.length_append];omega
  rw [hT,<- hT7]
  simp
  refine ab (fun q1=>?_) (fun q1=>?_)
  ·simp [q1]
   refine cd (k4 _ 4 _ (by (try simp only [List.length_append,List.length_cons,List.length_nil]);omega)) (by simp) ?_
   simp
   refine ab (fun q2=>?_) (fun q2=>?_)
   ·simp [q2]
    refine cd (k4 _ 5 _ (by (try simp only [List.length_append,List.length_cons,List.length_nil]);omega)) (by simp) ?_
    simp
    by_cases q3 : kd=1
    ·simp [q3,h,bv,av hgj]
     by_cases q4 : hgF l ls[j] < 0
     ·simp [q4]
      refine cd (k4 _ 6 _ (by (try simp only [List.length_append,List.length_cons,List.length_nil]);omega)) (by simp) ?_
      simp [h,bv,av hgj,q4]
      subst hM'
      simpa [one,q3,q4,q1,q2] using hX
     ·simp [q4,h,bv,av hgj]
      refine tail7 j h _ kd M1 M' hM1l (by rw [hM',hM1];simp [one,q3,q4]) (by simpa [q3] using hQ) |> fun x=>?_
      simpa [hM1,one,q1,q2,q3,q4] using x
    ·simp [q3,h,bv,av hgj]
     by_cases q4 : hgF l ls[j] < 0
     ·simp [q4];subst hM';simpa [one,q3,q4,q1,q2] using hX
     ·simp [q4]
      refine tail7 j h _ kd M1 M' hM1l (by rw [hM',hM1];simp [one,q3,q4]) (by simpa [q3] using hQ) |> fun x=>?_
      simpa [hM1,one,q1,q2,q3,q4] using x
   ·simp [q2]
    by_cases q3 : kd=1
    ·simp [q3,h,bv,av hgj]
     by_cases q4 : hgF l ls[j] < 0
     ·simp [q4]
      refine cd (k4 _ 6 _ (by (try simp only [List.length_append,List.length_cons,List.length_nil]);omega)) (by simp) ?_
      simp [h,bv,av hgj,q4]
      subst hM'
      simpa [one,q3,q4,q1,q2] using hX
     ·simp [q4,h,bv,av hgj]
      refine tail7 j h _ kd M1 M' hM1l (by rw [hM',hM1];simp [one,q3,q4]) (by simpa [q3] using hQ) |> fun x=>?_
      simpa [hM1,one,q1,q2,q3,q4] using x
    ·simp [q3,h,bv,av hgj]
     by_cases q4 : hgF l ls[j] < 0
     ·simp [q4];subst hM';simpa [one,q3,q4,q1,q2] using hX
     ·simp [q4]
      refine tail7 j h _ kd M1 M' hM1l (by rw [hM',hM1];simp [one,q3,q4]) (by simpa [q3] using hQ) |> fun x=>?_
      simpa [hM1,one,q1,q2,q3,q4] using x
  ·simp [q1]
   refine ab (fun q2=>?_) (fun q2=>?_)
   ·simp [q2]
    refine cd (k4 _ 5 _ (by (try simp only [List.length_append,List.length_cons,List.length_nil]);omega)) (by simp) ?_
    simp
    by_cases q3 : kd=1
    ·simp [q3,h,bv,av hgj]
     by_cases q4 : hgF l ls[j] < 0
     ·simp [q4]
      refine cd (k4 _ 6 _ (by (try simp only [List.length_append,List.length_cons,List.length_nil]);omega)) (by simp) ?_
      simp [h,bv,av hgj,q4]
      subst hM'
      simpa [one,q3,q4,q1,q2] using hX
     ·simp [q4,h,bv,av hgj]
      refine tail7 j h _ kd M1 M' hM1l (by rw [hM',hM1];simp [one,q3,q4]) (by simpa [q3] using hQ) |> fun x=>?_
      simpa [hM1,one,q1,q2,q3,q4] using x
    ·simp [q3,h,bv,av hgj]
     by_cases q4 : hgF l ls[j] < 0
     ·simp [q4];subst hM';simpa [one,q3,q4,q1,q2] using hX
     ·simp [q4]
      refine tail7 j h _ kd M1 M' hM1l (by rw [hM',hM1];simp [one,q3,q4]) (by simpa [q3] using hQ) |> fun x=>?_
      simpa [hM1,one,q1,q2,q3,q4] using x
   ·simp [q2]
    by_cases q3 : kd=1
    ·simp [q3,h,bv,av hgj]
     by_cases q4 : hgF l ls[j] < 0
     ·simp [q4]
      refine cd (k4 _ 6 _ (by (try simp only [List.length_append,List.length_cons,List.length_nil]);omega)) (by simp) ?_
      simp [h,bv,av hgj,q4]
      subst hM'
      simpa [one,q3,q4,q1,q2] using hX
     ·simp [q4,h,bv,av hgj]
      refine tail7 j h _ kd M1 M' hM1l (by rw [hM',hM1];simp [one,q3,q4]) (by simpa [q3] using hQ) |> fun x=>?_
      simpa [hM1,one,q1,q2,q3,q4] using x
    ·simp [q3,h,bv,av hgj]
     by_cases q4 : hgF l ls[j] < 0
     ·simp [q4];subst hM';simpa [one,q3,q4,q1,q2] using hX
     ·simp [q4]
      refine tail7 j h _ kd M1 M' hM1l (by rw [hM',hM1];simp [one,q3,q4]) (by simpa [q3] using hQ) |> fun x=>?_
      simpa [hM1,one,q1,q2,q3,q4] using x
 refine sr hC (nf:=N589) rfl rfl ?_
 simp [N589]
 refine aa k1 (.inr rfl) ?_
 simp
 refine aa k2 (.inr rfl) ?_
 simp
 refine aq Nat (fun j=>[(0,.adr (.r 10015) 0 0),(10015,.blk 1 [[.own 2 (aP (L++cc (iV ns es l ls) j))]]),(4,.ptr [slx b1 (ns.map bk),slx b2 (ls.map aS)]),(6,.sl (hgA l ls)),(7,.sl (es.map edK)),(21,slx b2 (ls.map aS)),(22,.int .i64 ls.length),(23,.int .i64 j)]) (fun j=>j <= ls.length) (fun j=>ls.length - j) 0 (by simp) (by simp [fh]) ?_
 intro j hj
 simp
 refine ab (fun h=>?_) (fun h=>?_) <;> simp at h
 ·have hje : j < es.length:=by omega
  have hin:=hg es[j] (List.getElem_mem _)
  obtain ⟨a,b,hab⟩ : ∃ a b,es[j]=(a,b):=⟨_,_,rfl⟩
  rw [hab] at hin
  simp at hin
  simp [h,hje,aS,hab,edK,knD,hin.1,hin.2,bk]
  refine ⟨ae (by decide +kernel),?_⟩
  rw [<- hT]
  have hw : IntKind.wrap .i64 ((j : Int) + 1)=((j + 1 : Nat) : Int):=ai (by omega) (by omega)
  have hgj:=mf l h
  have hfs:=eu (iV ns es l ls) j
  have hfl:=cI (qd ns es l ls) j
  have hjm : (3 + ls.length) * j <= 403 * 400:=Nat.mul_le_mul (by omega) (by omega)
  have hlv : iV ns es l ls j=one (lX ls[j] ns[a] ns[b]) (4,ls[j].name)++one (lW ls[j] ns[a] ns[b] (hgF l ls[j]) (decide (0 <= hgF l ls[j]))) (5,ls[j].name)++one (decide (ls[j].kind=1) && decide (hgF l ls[j] < 0)) (6,ls[j].name)++(if hgF l ls[j] < 0 then [] else cc (nG es l ls j) ls.length):=by
   unfold iV
   rw [lm h,oY hje,pf h,hab]
   simp only
   rw [qt hin.1,qt hin.2]
  have hM0 : (L++cc (iV ns es l ls) j).length <= 2 ^ 31:=by rw [List.length_append];omega
  have hk4:=hknd j h
  refine ab (fun c1=>?_) (fun c1=>?_) <;> simp at c1
  ·simp [c1]
   by_cases p1 : ls[j].up < ns[a].invert
   ·simp [p1,c1,h,bv,av hgj]
    by_cases p2 : 0 <= hgF l ls[j]
    ·simp [p2,h,bv,av hgj]
     by_cases p3 : ns[a].ground < IntKind.wrap .i64 (ls[j].up + hgF l ls[j])
     ·simp [p3,p2,h,bv,av hgj]
      refine ⟨ae (by decide +kernel),?_⟩
      refine tail _ _ j h _ 1 _ (L++cc (iV ns es l ls) (j + 1)) hM0 (by rw [hfs,hlv];simp [lX,lW, *]) ?_ ?_ <;> (simp [hw];exact ⟨j + 1,by omega,by omega,rfl,by omega⟩)
     ·simp [p3,p2,h,bv,av hgj]
      refine ⟨ae (by decide +kernel),?_⟩
      refine tail _ _ j h _ 1 _ (L++cc (iV ns es l ls) (j + 1)) hM0 (by rw [hfs,hlv];simp [lX,lW, *]) ?_ ?_ <;> (simp [hw];exact ⟨j + 1,by omega,by omega,rfl,by omega⟩)
    ·simp [p2]
     refine ⟨ae (by decide +kernel),?_⟩
     refine tail _ _ j h _ 1 _ (L++cc (iV ns es l ls) (j + 1)) hM0 (by rw [hfs,hlv];simp [lX,lW, *]) ?_ ?_ <;> (simp [hw];exact ⟨j + 1,by omega,by omega,rfl,by omega⟩)
   ·simp [p1,c1,h,bv,av hgj]
    by_cases p2 : 0 <= hgF l ls[j]
    ·simp [p2,h,bv,av hgj]
     by_cases p3 : ns[a].ground < IntKind.wrap .i64 (ls[j].up + hgF l ls[j])
     ·simp [p3,p2,h,bv,av hgj]
      refine ⟨ae (by decide +kernel),?_⟩
      refine tail _ _ j h _ 1 _ (L++cc (iV ns es l ls) (j + 1)) hM0 (by rw [hfs,hlv];simp [lX,lW, *]) ?_ ?_ <;> (simp [hw];exact ⟨j + 1,by omega,by omega,rfl,by omega⟩)
     ·simp [p3,p2,h,bv,av hgj]
      refine ⟨ae (by decide +kernel),?_⟩
      refine tail _ _ j h _ 1 _ (L++cc (iV ns es l ls) (j + 1)) hM0 (by rw [hfs,hlv];simp [lX,lW, *]) ?_ ?_ <;> (simp [hw];exact ⟨j + 1,by omega,by omega,rfl,by omega⟩)
    ·simp [p2]
     refine ⟨ae (by decide +kernel),?_⟩
     refine tail _ _ j h _ 1 _ (L++cc (iV ns es l ls) (j + 1)) hM0 (by rw [hfs,hlv];simp [lX,lW, *]) ?_ ?_ <;> (simp [hw];exact ⟨j + 1,by omega,by omega,rfl,by omega⟩)
  ·simp [c1]
   refine ab (fun c2=>?_) (fun c2=>?_) <;> simp at c2
   ·simp [c1,c2]
    refine ⟨ae (by decide +kernel),?_⟩
    refine tail _ _ j h _ 2 _ (L++cc (iV ns es l ls) (j + 1)) hM0 (by rw [hfs,hlv];simp [lX,lW, *]) ?_ ?_ <;> (simp [hw];exact ⟨j + 1,by omega,by omega,rfl,by omega⟩)
   ·simp [c2]
    refine ab (fun c3=>?_) (fun c3=>?_) <;> simp at c3
    ·simp [c1,c2,c3]
     refine ⟨ae (by decide +kernel),?_⟩
     refine tail _ _ j h _ 3 _ (L++cc (iV ns es l ls) (j + 1)) hM0 (by rw [hfs,hlv];simp [lX,lW, *]) ?_ ?_ <;> (simp [hw];exact ⟨j + 1,by omega,by omega,rfl,by omega⟩)
    ·have c4 : ls[j].kind=4:=by omega
     simp [c1,c2,c3,c4]
     refine ⟨ae (by decide +kernel),?_⟩
     refine tail _ _ j h _ 4 _ (L++cc (iV ns es l ls) (j + 1)) hM0 (by rw [hfs,hlv];simp [lX,lW, *]) ?_ ?_ <;> (simp [hw];exact ⟨j + 1,by omega,by omega,rfl,by omega⟩)
 ·have ej : j=ls.length:=by omega
  subst ej
  simp [h]
end Go.Gv

namespace Go.Gv
open Go.Lib
theorem yV (x : UInt8) (a b : List UInt8) : compareBytes (x::a) (x::b)=compareBytes a b:=by
 simp only [compareBytes,oH]
 rw [if_neg (Nat.lt_irrefl _),if_neg (Nat.lt_irrefl _)]
theorem sJ : ∀ (i : Nat) (a b : List UInt8),a.take i=b.take i -> i <= a.length -> i <= b.length -> compareBytes a b=compareBytes (a.drop i) (b.drop i)
 | 0,a,b,_,_,_=>rfl
 | i + 1,[],b,_,h,_=>absurd h (by simp)
 | i + 1,x::a,[],_,_,h=>absurd h (by simp)
 | i + 1,x::a,y::b,h,h1,h2=>by
  simp only [List.take_succ_cons,List.cons.injEq] at h
  obtain ⟨rfl,h⟩:=h
  rw [yV,sJ i a b h (by simpa using h1) (by simpa using h2)]
  rfl
theorem wj (x y : Fnd) : bP x y < 0 ↔ x.1 < y.1 \/ (x.1=y.1 /\ compareBytes x.2 y.2 < 0):=by
 unfold bP lV
 by_cases h1 : x.1 < y.1
 ·rw [if_pos h1];simp [h1]
 ·rw [if_neg h1]
  by_cases h2 : y.1 < x.1
  ·rw [if_pos h2];simp;omega
  ·rw [if_neg h2,if_pos rfl]
   have : x.1=y.1:=by omega
   simp [this]
theorem tO {α : Type} [DecidableEq α] {c : α -> α -> Int} (h : TC c) (M : List α) (x : α) : nK c (dQ c M) x=dQ c (M++[x]):=(sK h (mZ h (mF h M) x) fun y=>by rw [mY h,mE];simp).symm
theorem pL {α : Type} [DecidableEq α] (c : α -> α -> Int) (M : List α) : (dQ c M).length <= M.length:=by
 unfold dQ
 exact Nat.le_trans (y7 _) (by rw [je];exact Nat.le_refl _)
theorem tc {W : List Fnd} (hs : jJ bP W) (x : Fnd) {at' : Nat} (h1 : at' <= W.length) (h2 : ∀ (j : Nat) (h : j < W.length),at' <= j -> bP x W[j] < 0) (h3 : ∀ (h : at' - 1 < W.length),0 < at' -> bP W[at' - 1] x < 0) : nK bP W x=W.take at'++x::W.drop at':=by
 have hc:=fq
 have hpw:=List.pairwise_iff_getElem.1 hs
 have hlt : ∀ y ∈ W.take at',bP y x < 0:=fun y hy=>by
  obtain ⟨j,hj,rfl⟩:=List.mem_iff_getElem.1 hy
  have hj' : j < at':=by simp at hj;omega
  have hjw : j < W.length:=by omega
  rw [List.getElem_take]
  have h4:=h3 (by omega) (by omega)
  by_cases e : j=at' - 1
  ·subst e;exact h4
  ·exact hc.trans _ _ _ (hpw j (at' - 1) hjw (by omega) (by omega)) h4
 have hgt : ∀ y ∈ W.drop at',bP x y < 0:=fun y hy=>by
  obtain ⟨j,hj,rfl⟩:=List.mem_iff_getElem.1 hy
  rw [List.getElem_drop]
  exact h2 _ _ (by omega)
 refine (mZ hc hs x).unique hc (List.pairwise_append.2 ⟨hs.sublist (List.take_sublist _ _),List.pairwise_cons.2 ⟨hgt,hs.sublist (List.drop_sublist _ _)⟩,fun a ha b hb=>?_⟩) fun y=>?_
 ·rcases List.mem_cons.1 hb with rfl | hb
  ·exact hlt a ha
  ·exact hc.trans _ _ _ (hlt a ha) (hgt b hb)
 ·rw [mY hc,List.mem_append,List.mem_cons]
  conv=>lhs;rw [<- List.take_append_drop at' W,List.mem_append]
  constructor
  ·rintro ((h | h) | h)
   ·exact .inl h
   ·exact .inr (.inr h)
   ·exact .inr (.inl h)
  ·rintro (h | h | h)
   ·exact .inl (.inl h)
   ·exact .inr h
   ·exact .inl (.inr h)
variable {C : CC} (hC : ao prog C)
include hC
theorem vA (a b : List UInt8) (ha : a.length < 2 ^ 62) : C 634 [.str a,.str b] (.bool (decide (compareBytes a b < 0))) []:=by
 refine start hC (nf:=N634) rfl rfl ?_
 simp [N634]
 refine aq Nat (fun i=>[(0,.str a),(1,.str b),(5,.int .i64 i)]) (fun i=>i <= a.length /\ i <= b.length /\ a.take i=b.take i) (fun i=>a.length - i) 0 (by simp) (by simp) ?_
 rintro i ⟨h1,h2,h3⟩
 simp
 have hd:=sJ i a b h3 h1 h2
 have fin : ∀ (hn : i=a.length \/ i=b.length),decide (a.length < b.length)=decide (compareBytes a b < 0):=fun hn=>by
  rw [hd]
  rcases hn with e | e
  ·rw [e,List.drop_length]
   cases hb : b.drop a.length with
   | nil =>
    have : b.length - a.length=0:=by rw [<- List.length_drop,hb];rfl
    simp [compareBytes];omega
   | cons y ys =>
    have : b.length - a.length ≠ 0:=by rw [<- List.length_drop,hb];simp
    simp [compareBytes];omega
  ·rw [e,List.drop_length]
   cases hb : a.drop b.length with
   | nil =>
    have : a.length - b.length=0:=by rw [<- List.length_drop,hb];rfl
    simp [compareBytes];omega
   | cons y ys =>
    have : a.length - b.length ≠ 0:=by rw [<- List.length_drop,hb];simp
    simp [compareBytes];omega
 refine ab (fun h=>?_) (fun h=>?_) <;> simp at h
 ·simp [h]
  refine ab (fun h4=>?_) (fun h4=>?_) <;> simp at h4
  ·have hw : IntKind.wrap .i64 ((i : Int) + 1)=((i + 1 : Nat) : Int):=ai (by omega) (by omega)
   simp [h,h4]
   refine ⟨ae (by decide +kernel),?_⟩
   have da : a.drop i=a[i]::a.drop (i + 1):=List.drop_eq_getElem_cons h
   have db : b.drop i=b[i]::b.drop (i + 1):=List.drop_eq_getElem_cons h4
   have hne : ∀ {x y : UInt8},x ≠ y -> ¬ x.toNat=y.toNat:=fun h e=>h (CI e)
   by_cases e : a[i]=b[i]
   ·simp [e,hw]
    exact ⟨i + 1,⟨by omega,by omega,by rw [List.take_succ_eq_append_getElem h,List.take_succ_eq_append_getElem h4,h3,e]⟩,by omega,by omega⟩
   ·have e':=hne e
    have e'' : ¬ (a[i].toNat : Int)=b[i].toNat:=by omega
    simp [e,e',e'',h,h4]
    refine ⟨ae (by decide +kernel),?_⟩
    rw [hd]
    by_cases c : a[i].toNat < b[i].toNat
    ·have : compareBytes (a.drop i) (b.drop i)=-1:=by rw [da,db];simp only [compareBytes,oH];rw [if_pos c]
     simp [this];omega
    ·have : compareBytes (a.drop i) (b.drop i)=1:=by rw [da,db];simp only [compareBytes,oH];rw [if_neg c,if_pos (by omega)]
     simp [this];omega
  ·simp [h4]
   have:=fin (.inr (by omega))
   exact decide_eq_decide.1 this
 ·simp [h]
  have:=fin (.inl (by omega))
  exact decide_eq_decide.1 this
end Go.Gv

set_option maxRecDepth 4000
namespace Go.Gv
open Go.Lib
theorem uc (L : List Fnd) (k : Nat) : (aP L).drop k=aP (L.drop k):=by simp [aP]
theorem wu (L M : List Fnd) : aP L++aP M=aP (L++M):=by simp [aP]
theorem o8 (L : List Fnd) : List.map (fun e=>List.map aX e) (aP L)=aP L:=by
 unfold aP
 rw [List.map_map]
 apply List.map_congr_left
 intro v _
 simp [fj,aX]
theorem qy {W : List Fnd} {i : Nat} (h1 : i <= W.length) (x : Fnd) : List.take (min i W.length + 1 + (W.length - i)) (List.take (min i W.length + 1) (List.take (min i W.length) (List.take i (List.map (fun e=>List.map aX e) (aP W)))++[[D.int IntKind.i64 x.1,D.str x.2]])++List.drop i (List.take W.length (List.map (fun e=>List.map aX e) (aP W))))=aP (List.take i W++x::List.drop i W):=by
 rw [o8,Nat.min_eq_left h1,List.take_take,Nat.min_self,List.take_of_length_le (l:=aP W) (i:=W.length) (by rw [aH];exact Nat.le_refl _),nX,uc]
 have e1 : List.take (i + 1) (aP (W.take i)++[[D.int IntKind.i64 x.1,D.str x.2]])=aP (W.take i++[x]):=by
  rw [List.take_of_length_le (by simp [aH];omega)]
  simp [aP,fj]
 rw [e1,wu,List.take_of_length_le (by simp [aH];omega)]
 simp
variable {C : CC} (hC : ao prog C)
include hC
set_option maxHeartbeats 2000000 in
theorem AB (W : List Fnd) (k : Int) (nm : List UInt8) (hs : jJ bP W) (hW : W.length < 2 ^ 40) (hn : nm.length < 2 ^ 62) : C 593 [slx true (aP W),.int .i64 k,.str nm] (.sl (aP (nK bP W (k,nm)))) []:=by
 have k1:=fun b=>vA hC nm b hn
 by_cases hE : W=[]
 ·subst hE
  have e0 : slx true (aP [])=.nils:=rfl
  have e1 : nK bP [] (k,nm)=[(k,nm)]:=rfl
  rw [e0,e1]
  refine start hC (nf:=N593) rfl rfl ?_
  simp [N593]
  refine aq Nat (fun i=>[(0,.nils),(1,.int .i64 k),(2,.str nm),(7,.int .i64 0)]) (fun i=>True) (fun i=>0) 0 trivial (by simp) ?_
  rintro i _
  simp
  simp [aP,fj]
 ·have e0 : slx true (aP W)=.sl (aP W):=by
   unfold slx
   cases W with
   | nil=>exact absurd rfl hE
   | cons x r=>rfl
  rw [e0]
  have hWl : 0 < W.length:=List.length_pos_iff.2 hE
  refine start hC (nf:=N593) rfl rfl ?_
  simp [N593,aH]
  refine aq Nat (fun i=>[(0,.sl (aP W)),(1,.int .i64 k),(2,.str nm),(7,.int .i64 i)]) (fun i=>i <= W.length /\ ∀ (j : Nat) (h : j < W.length),i <= j -> bP (k,nm) W[j] < 0) (fun i=>i) W.length ⟨by omega,fun j h h2=>by omega⟩ (by simp) ?_
  rintro i ⟨h1,h2⟩
  simp
  by_cases h3 : 0 < i
  ·have hi1 : i - 1 < W.length:=by omega
   have hw : IntKind.wrap .i64 ((i : Int) - 1)=((i - 1 : Nat) : Int):=by
    rw [show (i : Int) - 1=((i - 1 : Nat) : Int) by omega]
    exact ai (by omega) (by omega)
   have hg:=j9 hi1
   have hfc:=wj (k,nm) W[i - 1]
   simp only at hfc
   simp [h3,hw,aF hg,av hg,hi1,aH]
   have hnext : bP (k,nm) W[i - 1] < 0 -> ∀ (j : Nat) (h : j < W.length),i - 1 <= j -> bP (k,nm) W[j] < 0:=fun hf j hj hij=>by
    by_cases e : j=i - 1
    ·subst e;exact hf
    ·exact h2 j hj (by omega)
   have hput : ¬ bP (k,nm) W[i - 1] < 0 -> ¬ (k=W[i - 1].1 /\ nm=W[i - 1].2) -> nK bP W (k,nm)=W.take i++(k,nm)::W.drop i:=fun hf hne=>tc hs _ h1 h2 fun hh _=>by
    have ha:=fq.anti (k,nm) W[i - 1]
    have h0 : bP (k,nm) W[i - 1] ≠ 0:=fun e=>hne (by have:=fq.eq0 _ _ e;rw [<- this];exact ⟨rfl,rfl⟩)
    omega
   by_cases p1 : k < W[i - 1].1
   ·have hf:=hfc.2 (.inl p1)
    simp [p1]
    exact ⟨i - 1,⟨by omega,hnext hf⟩,by omega,by omega⟩
   ·by_cases p2 : W[i - 1].1=k
    ·simp [p1,p2,hg,aF hg,av hg,hi1,aH,hw]
     refine aa (k1 _) (.inl rfl) ?_
     simp
     refine ab (fun p3=>?_) (fun p3=>?_) <;> simp at p3
     ·have hf:=hfc.2 (.inr ⟨p2.symm,p3⟩)
      simp [p3,hw]
      exact ⟨i - 1,⟨by omega,hnext hf⟩,by omega,by omega⟩
     ·have hf : ¬ bP (k,nm) W[i - 1] < 0:=fun e=>by
       rcases hfc.1 e with e | e
       ·exact p1 e
       ·omega
      simp [h3,Int.not_lt.2 p3,p2,hw,hg,aF hg,av hg,hi1,aH]
      by_cases p4 : W[i - 1].2=nm
      ·have hx : (k,nm) ∈ W:=by
        have : W[i - 1]=(k,nm):=Prod.ext p2 p4
        rw [<- this];exact List.getElem_mem _
       have hpe:=At fq hs hx
       simp [p4,hpe]
      ·have hpe:=hput hf (fun e=>p4 e.2.symm)
       simp [p4,aH,hpe]
       exact ⟨cM W,h1,fun e he=>⟨cM W e (List.mem_of_mem_take he),eN W e (List.mem_of_mem_take he)⟩,by omega,by omega,cM W,h1,fun e he=>⟨cM W e (List.mem_of_mem_take (List.mem_of_mem_drop he)),eN W e (List.mem_of_mem_take (List.mem_of_mem_drop he))⟩,by omega,qy h1 (k,nm)⟩
    ·have hf : ¬ bP (k,nm) W[i - 1] < 0:=fun e=>by
      rcases hfc.1 e with e | e
      ·exact p1 e
      ·exact p2 e.1.symm
     have hpe:=hput hf (fun e=>p2 e.1.symm)
     simp [p1,p2,hg,aF hg,av hg,hi1,aH,hw,h3,hpe]
     exact ⟨cM W,h1,fun e he=>⟨cM W e (List.mem_of_mem_take he),eN W e (List.mem_of_mem_take he)⟩,by omega,by omega,cM W,h1,fun e he=>⟨cM W e (List.mem_of_mem_take (List.mem_of_mem_drop he)),eN W e (List.mem_of_mem_take (List.mem_of_mem_drop he))⟩,by omega,qy h1 (k,nm)⟩
  ·have hi0 : i=0:=by omega
   subst hi0
   have hpe:=tc hs (k,nm) (Nat.zero_le _) h2 (fun _ h=>absurd h (by omega))
   simp [aH,hpe]
   have htk : List.take W.length (aP W)=aP W:=List.take_of_length_le (by rw [aH];exact Nat.le_refl _)
   rw [o8,htk]
   exact ⟨cM W,fun e he=>⟨cM W e he,eN W e he⟩,by omega,by omega,by rw [List.take_of_length_le (by simp [aH];omega)];simp [aP,fj]⟩
theorem Ev (M : List Fnd) (k : Int) (nm : List UInt8) (hM : M.length < 2 ^ 40) (hn : nm.length < 2 ^ 62) : C 593 [slx true (aP (dQ bP M)),.int .i64 k,.str nm] (.sl (aP (dQ bP (M++[(k,nm)])))) []:=by
 have h:=AB hC (dQ bP M) k nm (mF fq M) (by have:=pL bP M;omega) hn
 rw [tO fq] at h
 exact h
def Tf (l : List Sec) (nm : List UInt8) : Int × Bool:=if 0 <= bC (iE nm) l then ((l[(bC (iE nm) l).toNat]?.map (·.height)).getD 0,true) else (0,false)
end Go.Gv

set_option maxRecDepth 4000
namespace Go.Gv
theorem Dx (L : List Fnd) : List.map (fun e=>List.map aX e) (aP L)=aP L:=by
 unfold aP
 rw [List.map_map]
 apply List.map_congr_left
 intro v _
 simp [fj,aX]
theorem yn (ns : List Nod) (ls : List Lnk) : (nN ns ls).length <= 3 * ns.length + ls.length:=by
 unfold nN
 have:=cI (tu ns (dD ns ls)) ns.length
 have:=cI (sF ls) ls.length
 rw [List.length_append];omega
theorem xj (ns : List Nod) (ls : List Lnk) (l : List Sec) : (pi ns ls l).length <= (3 + ls.length) * ls.length:=cI (qd ns (dD ns ls) l ls) ls.length
noncomputable def y4 (ns : List Nod) (ls : List Lnk) (l : List Sec) : List Fnd:=dQ bP (nN ns ls++pi ns ls l)
noncomputable def Tl (ns : List Nod) (ls : List Lnk) (l : List Sec) : List Fnd:=dQ bP (pi ns ls l)
variable {C : CC} (hC : ao prog C)
include hC
set_option maxHeartbeats 2000000 in
theorem CL (hS : SlC C) (hK : re C) (b1 b2 b3 : Bool) (ns : List Nod) (ls : List Lnk) (l : List Sec) (hcv : ∀ l ∈ ls,l.curve.length < 2 ^ 62) : C 543 [.agg [slx b1 (ns.map bk),slx b2 (ls.map aS)],slx b3 (l.map jB)] (.tup (if bZ ns ls && nx l then [.sl (aP (y4 ns ls l)),.int .i64 0] else [.nils,.int .i64 1])) []:=by
 have k0:=vL hC b1 b2 b3 ns ls l hcv
 refine start hC (nf:=N543) rfl rfl ?_
 simp [N543]
 refine aa k0 (.inl rfl) ?_
 cases hv : (bZ ns ls && nx l)
 ·simp
 obtain ⟨hv1,hv2⟩:=Bool.and_eq_true_iff.1 hv
 obtain ⟨l1,l2⟩:=cZ hv1
 have hll : l.length <= 40:=by
  simp only [nx,Bool.and_eq_true,decide_eq_true_eq] at hv2
  exact hv2.1.1
 have hsl:=yn ns ls
 have hvl:=xj ns ls l
 have hml : (3 + ls.length) * ls.length <= 403 * 400:=Nat.mul_le_mul (by omega) (by omega)
 have k1:=qS hC hS b1 b2 ns ls hv1 hcv [] (by simp)
 have k2:=wY hC b1 b2 b3 ns ls l hv1 hcv hll (nN ns ls) (by omega)
 have e0 : aP []=[]:=rfl
 rw [e0,List.nil_append] at k1
 have k3:=tt hC hK (nN ns ls++pi ns ls l) (by rw [List.length_append];omega)
 unfold y4
 generalize nN ns ls=A at *
 generalize pi ns ls l=B at *
 simp
 refine cd k1 (by simp) ?_
 simp
 refine cd k2 (by simp) ?_
 simp
 refine ⟨dX _,?_⟩
 refine md k3 (fun e he=>⟨cM _ e he,dX _ e he⟩) ?_
 simp [aH,Dx]
 exact (List.take_of_length_le (by rw [aH];exact Nat.le_refl _)).symm
end Go.Gv

namespace Go.Gv
def mD (n : Nod) : Bool:=decide (20 < n.shape.length) || decide (60 < n.name.length)
def oO (l : Lnk) : Bool:=decide (20 < l.curve.length) || decide (60 < l.name.length) || decide (60 < l.src.length) || decide (60 < l.dst.length) || decide (60 < l.sect.length)
def C0 (s : Sec) : Bool:=decide (20 < s.area.length) || decide (20 < s.conv.length) || decide (60 < s.name.length)
def sX (ns : List Nod) (ls : List Lnk) : Bool:=decide (14 < ns.length) || decide (16 < ls.length) || ns.any mD || ls.any oO
def Si (l : List Sec) : Bool:=decide (8 < l.length) || l.any C0
def fc : List Nod:=[⟨[109],1,0,0,0,1000,false,[(0,0),(1000,900)],false,0⟩,⟨[111],3,0,0,0,1000,true,[],false,0⟩]
def gP : List Lnk:=[⟨[97],[109],[111],1,100,10,20,[115],0,0,true,[]⟩]
variable {C : CC} (hC : ao prog C)
include hC
theorem vC (n : Nod) : C 584 [.agg (bk n)] (.bool (mD n)) []:=by
 refine start hC (nf:=N584) rfl rfl ?_
 simp [N584,bk]
 unfold mD
 by_cases h1 : (20 : Int) < n.shape.length
 ·simp [h1,show 20 < n.shape.length by omega]
 ·simp [h1,show ¬ 20 < n.shape.length by omega]
  omega
theorem vB (l : Lnk) : C 585 [.agg (aS l)] (.bool (oO l)) []:=by
 refine start hC (nf:=N585) rfl rfl ?_
 simp [N585,aS]
 unfold oO
 by_cases h1 : (20 : Int) < l.curve.length
 ·simp [h1,show 20 < l.curve.length by omega]
 by_cases h2 : (60 : Int) < l.name.length
 ·simp [h1,h2,show 60 < l.name.length by omega]
 by_cases h3 : (60 : Int) < l.src.length
 ·simp [h1,h2,h3,show 60 < l.src.length by omega]
 by_cases h4 : (60 : Int) < l.dst.length
 ·simp [h1,h2,h3,h4,show 60 < l.dst.length by omega]
 simp [h1,h2,h3,h4,show ¬ 20 < l.curve.length by omega,show ¬ 60 < l.name.length by omega,show ¬ 60 < l.src.length by omega,show ¬ 60 < l.dst.length by omega]
 omega
theorem ul (b1 b2 : Bool) (ns : List Nod) (ls : List Lnk) (h1 : ns.length < 2 ^ 62) (h2 : ls.length < 2 ^ 62) : C 541 [.agg [slx b1 (ns.map bk),slx b2 (ls.map aS)]] (.bool (sX ns ls)) []:=by
 have k1:=wE hC (b:=b1) (xs:=ns) (g:=584) (cs:=[]) mD h1 (fun x _=>vC hC x)
 have k2:=wD hC (b:=b2) (xs:=ls) (g:=585) (cs:=[]) oO h2 (fun x _=>vB hC x)
 refine start hC (nf:=N541) rfl rfl ?_
 simp [N541]
 unfold sX
 by_cases c1 : (14 : Int) < ns.length
 ·simp [c1,show 14 < ns.length by omega]
 by_cases c2 : (16 : Int) < ls.length
 ·simp [c1,c2,show 16 < ls.length by omega]
 have c1' : decide (14 < ns.length)=false:=decide_eq_false (by omega)
 have c2' : decide (16 < ls.length)=false:=decide_eq_false (by omega)
 rw [c1',c2']
 simp [c1,c2]
 refine aa k1 (.inl rfl) ?_
 cases d1 : ns.any mD
 ·simp
  refine aa k2 (.inl rfl) ?_
  simp
 ·simp
theorem Dr : C 583 [] (.agg [.sl (fc.map bk),.sl (gP.map aS)]) []:=by
 have e0 : slx true ([] : List (List D))=.nils:=rfl
 refine start hC (nf:=N583) rfl rfl ?_
 simp [N583,fc,gP,bk,aS,knD]
 rfl
theorem zK (b b' : Bool) (xs ys : List Fnd) (hx : xs.length < 2 ^ 62) (hy : ys.length < 2 ^ 62) : C 147 [slx b (aP xs),slx b' (aP ys)] (.bool (decide (xs=ys))) []:=by
 obtain ⟨r,hr⟩ : ∃ r,r=decide (xs=ys):=⟨_,rfl⟩
 rw [<- hr]
 refine start hC (nf:=N147) rfl rfl ?_
 simp [N147,aP]
 refine ab (fun h=>?_) (fun h=>?_) <;> simp at h <;> simp [h]
 ·rw [hr,decide_eq_false]
  intro e
  exact h (by rw [e])
 have h' : xs.length=ys.length:=by omega
 refine aq Nat (fun i=>[(0,slx b (xs.map fj)),(1,slx b' (ys.map fj)),(12,.int .i64 xs.length),(13,.int .i64 i)])
  (fun i=>i <= xs.length /\ ∀ (k : Nat) (h1 : k < xs.length) (h2 : k < ys.length),k < i -> xs[k]=ys[k]) (fun i=>xs.length - i) 0 (by simp) (by simp [h']) ?_
 rintro i ⟨hi,hok⟩
 simp
 refine ab (fun h1=>?_) (fun h1=>?_) <;> simp at h1 <;> simp [h1]
 ·have hw : IntKind.wrap .i64 ((i : Int) + 1)=((i + 1 : Nat) : Int):=ai (by omega) (by omega)
  have hy1 : i < ys.length:=by omega
  simp [h1,hy1,fj]
  refine ⟨ae (by decide +kernel),?_⟩
  by_cases h2 : xs[i]=ys[i]
  ·simp [h2,hw]
   refine ⟨i + 1,⟨by omega,fun k k1 k2 hk=>?_⟩,by omega,rfl⟩
   rcases Nat.lt_succ_iff_lt_or_eq.1 hk with h5 | rfl
   ·exact hok k k1 k2 h5
   ·exact h2
  ·have h3 : ¬ (xs[i].1=ys[i].1 /\ xs[i].2=ys[i].2):=fun e=>h2 (Prod.ext e.1 e.2)
   refine ab (fun h4=>?_) (fun h4=>?_) <;> simp at h4 <;> simp [h4]
   ·rw [hr,decide_eq_false]
    intro e
    exact h2 (by simp [e])
   ·exact absurd h4 h3
 ·rw [hr,decide_eq_true]
  exact List.ext_getElem h' fun k k1 k2=>hok k k1 k2 (by omega)
end Go.Gv

namespace Go.Gv
theorem pT : dD fc gP=[(0,1)]:=by decide +kernel
theorem sR : (bZ fc gP && nx [])=true:=by decide +kernel
theorem LS {k : Nat} (h : Pth [(0,1)] 1 k) : k=1:=by
 cases h with
 | refl=>rfl
 | step e _=>simp at e
theorem SM (i k : Nat) : wyB [(0,1)] i k=(decide (i=0) && decide (k=1)):=by
 rw [Bool.eq_iff_iff,tA]
 simp only [Bool.and_eq_true,decide_eq_true_eq]
 constructor
 ·rintro ⟨s,h1,h2⟩
  simp at h1
  obtain ⟨rfl,rfl⟩:=h1
  exact ⟨rfl,LS h2⟩
 ·rintro ⟨rfl,rfl⟩
  exact ⟨1,by simp,.refl 1⟩
theorem we : nN fc gP=[(2,[97])]:=by
 unfold nN
 rw [pT]
 have e1 : stF fc [(0,1)]=fun i=>one (decide (i=0) && decide (i=1)) (1,fx fc i)++one (!decide (pk fc i=3) && !((List.range fc.length).any fun k=>(decide (i=0) && decide (k=1)) && decide (pk fc k=3))) (3,fx fc i)++one (!im [(0,1)] 1 i) (8,fx fc i):=by
  funext i
  unfold stF ol
  simp only [SM,List.length_cons,List.length_nil]
 rw [e1]
 decide +kernel
theorem wc : pi fc gP []=[(6,[97])]:=by
 unfold pi
 rw [pT]
 decide +kernel
theorem wa : y4 fc gP []=[(2,[97]),(6,[97])]:=by
 unfold y4
 rw [we,wc]
 refine sK fq ?_ fun x=>Iff.rfl
 refine List.pairwise_cons.2 ⟨fun y hy=>?_,List.pairwise_singleton _ _⟩
 simp at hy
 subst hy
 decide +kernel
variable {C : CC} (hC : ao prog C)
include hC
theorem tK (hS : SlC C) (hK : re C) : C 540 [] (.bool true) []:=by
 have k1:=Dr hC
 have k2:=CL hC hS hK false false true fc gP [] (by decide)
 have k3:=tB hC false false fc gP (by decide)
 rw [sR,wa] at k2
 have e1 : bZ fc gP=true:=(Bool.and_eq_true_iff.1 sR).1
 have e2 : lmT gP iv gP.length=[[97]]:=by decide +kernel
 rw [e1,e2] at k3
 simp only [bI,if_true] at k2 k3
 have e3 : slx true (([] : List Sec).map jB)=.nils:=rfl
 rw [e3] at k2
 have k4:=zK hC false false [(2,[97]),(6,[97])] [(2,[97]),(6,[97])] (by simp) (by simp)
 have k5:=zM hC false false [[97]] [[97]] (by simp) (by simp)
 simp only [bI] at k4 k5
 have f1 : aP [(2,[97]),(6,[97])]=[[.int .i64 2,.str [97]],[.int .i64 6,.str [97]]]:=rfl
 have f2 : fz [[97]]=[[.str [97]]]:=rfl
 rw [f1] at k2 k4
 rw [f2] at k3 k5
 generalize fc.map bk=X at *
 generalize gP.map aS=Y at *
 refine start hC (nf:=N540) rfl rfl ?_
 simp [N540]
 refine aa k1 (.inr rfl) ?_
 simp
 refine aa k2 (.inr rfl) ?_
 simp
 refine aa k1 (.inr rfl) ?_
 simp
 refine aa k3 (.inr rfl) ?_
 simp
 refine aa k4 (.inl rfl) ?_
 simp
 refine aa k5 (.inl rfl) ?_
 simp
end Go.Gv

namespace Go.Gv
def lpM (R : Nat -> Nat -> Bool) (i k : Nat) : List Nat:=(List.range k).filter fun k'=>uD R i k'
def lpE (R : Nat -> Nat -> Bool) (i k v : Nat) : Bool:=DP R i v || (decide (v < k) && uD R i v)
variable {C : CC} (hC : ao prog C)
include hC
end Go.Gv

namespace Go.Gv
variable {C : CC} (hC : ao prog C)
include hC
end Go.Gv

set_option maxRecDepth 4000
namespace Go.Gv
def gh (n : Nod) : Pnt:=(n.x,n.y)
def grF (m : Msh) (tol : Int) (n : Nod) : List Fnd :=
 if dx m (gh n) < 0 then [(10,n.name)]
 else one (decide (n.ground < IntKind.wrap .i64 (loF m (dx m (gh n)).toNat (gh n) - tol)) || decide (IntKind.wrap .i64 (hiF m (dx m (gh n)).toNat (gh n) + tol) < n.ground)) (9,n.name)
def grA (m : Msh) (tol : Int) (ns : List Nod) (i : Nat) : List Fnd:=(ns[i]?.map (grF m tol)).getD []
theorem sU (m : Msh) (tol : Int) {ns : List Nod} {i : Nat} (h : i < ns.length) : grA m tol ns i=grF m tol ns[i]:=by simp [grA,h]
theorem zQ (m : Msh) (tol : Int) (n : Nod) : (grF m tol n).length <= 1:=by
 unfold grF
 split
 ·simp
 ·exact eX _ _
theorem me (m : Msh) (tol : Int) (ns : List Nod) (i : Nat) : (grA m tol ns i).length <= 1:=by
 unfold grA
 cases ns[i]? with
 | none=>simp
 | some n=>exact zQ m tol n
def ke (m : Msh) (tol : Int) (ns : List Nod) : List Fnd:=cc (grA m tol ns) ns.length
def nr (m : Msh) : Bool:=decide (40 < m.s.length) || decide (60 < m.f.length)
theorem s9 {ns : List Nod} {ls : List Lnk} (hv : bZ ns ls=true) {i : Nat} (hi : i < ns.length) : okP (gh ns[i])=true:=by
 have h:=(ot hv hi).1
 simp only [iz,aI,Bool.and_eq_true,decide_eq_true_eq] at h
 simp [okP,gh]
 refine ⟨⟨⟨decide_eq_true ?_,decide_eq_true ?_⟩,decide_eq_true ?_⟩,decide_eq_true ?_⟩ <;> omega
variable {C : CC} (hC : ao prog C)
include hC
theorem Bm (m : Msh) : C 664 [.agg (bz m)] (.bool (nr m)) []:=by
 refine start hC (nf:=N664) rfl rfl ?_
 simp [N664,bz]
 unfold nr
 by_cases h1 : (40 : Int) < m.s.length
 ·simp [h1,show 40 < m.s.length by omega]
 ·have h1' : decide (40 < m.s.length)=false:=decide_eq_false (by omega)
  rw [h1']
  simp [h1]
  omega
set_option maxHeartbeats 4000000 in
theorem vi (hK : re C) (dec : Nat -> List UInt8) (hI : ∀ n : Nat,n < 100 -> C 127 [.int .i64 n] (.str (dec n)) []) (b1 b2 : Bool) (ns : List Nod) (ls : List Lnk) (m : Msh) (hz : fp m=true -> m.s.length <= 100 /\ m.f.length <= 100) (tol : Int) (hcv : ∀ l ∈ ls,l.curve.length < 2 ^ 62) : C 665 [.agg [slx b1 (ns.map bk),slx b2 (ls.map aS)],.agg (bz m),.int .i64 tol] (.tup (if (bZ ns ls && bi m)=true then (if 0 <= tol /\ tol <= 4194304 then [.sl (aP (dQ bP (ke m tol ns))),.int .i64 0] else [.nils,.int .i64 2]) else [.nils,.int .i64 1])) []:=by
 have k0:=mi hC b1 b2 ns ls hcv
 have k1:=qk hC dec hI m hz
 have k2:=fun p=>wW hC dec hI m hz p
 have k4:=vx hC
 refine start hC (nf:=N665) rfl rfl ?_
 simp only [aj] at k1 k2
 simp [N665,aj]
 refine aa k0 (.inl rfl) ?_
 cases hv : bZ ns ls
 ·simp
 simp [aj]
 refine aa k1 (.inl rfl) ?_
 cases hm : bi m
 ·simp
 simp
 by_cases t1 : tol < 0
 ·have : ¬ (0 <= tol /\ tol <= 4194304):=by omega
  simp [t1,this]
 by_cases t2 : 4194304 < tol
 ·have : ¬ (0 <= tol /\ tol <= 4194304):=by omega
  simp [t1,t2,this]
 have t3 : (0 <= tol /\ tol <= 4194304):=by omega
 have hn:=(cZ hv).1
 have hgl : (ke m tol ns).length <= 300:=by
  unfold ke
  have:=cI (me m tol ns) ns.length
  omega
 have k3:=tt hC hK (ke m tol ns) (by omega)
 simp [t1,t2,t3]
 refine aq Nat (fun j=>[(2,.int .i64 tol),(4,.ptr [slx m.sn (m.s.map fU),slx m.fn (m.f.map bE)]),(8,.adr (.r 10128) 0 0),(28,slx b1 (ns.map bk)),(29,.int .i64 ns.length),(30,.int .i64 j),(10128,.blk 1 [[.own 2 (aP (cc (grA m tol ns) j))]])]) (fun j=>j <= ns.length) (fun j=>ns.length - j) 0 (by simp) (by simp [fh,aP]) ?_
 intro j hj
 simp
 have hfl:=cI (me m tol ns) j
 refine ab (fun h=>?_) (fun h=>?_) <;> simp at h
 ·have hw : IntKind.wrap .i64 ((j : Int) + 1)=((j + 1 : Nat) : Int):=ai (by omega) (by omega)
  have hfs:=eu (grA m tol ns) j
  have hp:=s9 hv h
  have k5:=k2 (gh ns[j])
  have hon : onE m (gh ns[j])=if dx m (gh ns[j]) < 0 then 12 else 0:=by
   unfold onE
   rw [if_pos ⟨hm,hp⟩]
  rw [sU m tol h] at hfs
  unfold grF at hfs
  simp only [ptD,gh] at k5 hon hfs
  simp [h,bk]
  by_cases q1 : dx m (ns[j].x,ns[j].y) < 0
  ·simp only [q1,↓reduceIte] at hfs
   simp [hon,q1] at k5
   refine aa k5 (.inl rfl) ?_
   simp [wz]
   refine cd (k4 _ 10 _ (by omega)) (by simp) ?_
   simp [hw]
   exact ⟨j + 1,by omega,by omega,by omega,by rw [hfs]⟩
  ·simp only [q1,↓reduceIte] at hfs
   simp [hon,q1] at k5
   refine aa k5 (.inl rfl) ?_
   simp
   by_cases q2 : ns[j].ground < IntKind.wrap .i64 (loF m (dx m (ns[j].x,ns[j].y)).toNat (ns[j].x,ns[j].y) - tol)
   ·simp [q2]
    refine cd (k4 _ 9 _ (by omega)) (by simp) ?_
    simp [hw]
    exact ⟨j + 1,by omega,by omega,by omega,by rw [hfs];simp [one,q2]⟩
   ·by_cases q3 : IntKind.wrap .i64 (hiF m (dx m (ns[j].x,ns[j].y)).toNat (ns[j].x,ns[j].y) + tol) < ns[j].ground
    ·simp [q2,q3]
     refine cd (k4 _ 9 _ (by omega)) (by simp) ?_
     simp [hw]
     exact ⟨j + 1,by omega,by omega,by omega,by rw [hfs];simp [one,q3]⟩
    ·simp [q2,q3,hw]
     exact ⟨j + 1,by omega,by omega,by omega,by rw [hfs];simp [one,q2,q3]⟩
 ·have ej : j=ns.length:=by omega
  subst ej
  have hg : cc (grA m tol ns) ns.length=ke m tol ns:=rfl
  rw [hg] at hfl ⊢
  generalize ke m tol ns=A at *
  simp [h]
  refine ⟨dX _,?_⟩
  refine md k3 (fun e he=>⟨cM _ e he,dX _ e he⟩) ?_
  have e1 : List.take (dQ bP A).length (aP (dQ bP A))=aP (dQ bP A):=List.take_of_length_le (by rw [aH];exact Nat.le_refl _)
  simp [aH,o8,e1]
  exact t3
theorem xR (b b' : Bool) (xs ys : List Fnd) (hx : xs.length < 2 ^ 62) (hy : ys.length < 2 ^ 62) : C 548 [slx b (aP xs),slx b' (aP ys)] (.bool (decide (xs=ys))) []:=by
 obtain ⟨r,hr⟩ : ∃ r,r=decide (xs=ys):=⟨_,rfl⟩
 rw [<- hr]
 refine start hC (nf:=N548) rfl rfl ?_
 simp [N548,aP]
 refine ab (fun h=>?_) (fun h=>?_) <;> simp at h <;> simp [h]
 ·rw [hr,decide_eq_false]
  intro e
  exact h (by rw [e])
 have h' : xs.length=ys.length:=by omega
 refine aq Nat (fun i=>[(0,slx b (xs.map fj)),(1,slx b' (ys.map fj)),(5,.int .i64 i)])
  (fun i=>i <= xs.length /\ ∀ (k : Nat) (h1 : k < xs.length) (h2 : k < ys.length),k < i -> xs[k]=ys[k]) (fun i=>xs.length - i) 0 (by simp) (by simp [h']) ?_
 rintro i ⟨hi,hok⟩
 simp
 refine ab (fun h1=>?_) (fun h1=>?_) <;> simp at h1 <;> simp [h1]
 ·have hw : IntKind.wrap .i64 ((i : Int) + 1)=((i + 1 : Nat) : Int):=ai (by omega) (by omega)
  have hy1 : i < ys.length:=by omega
  simp [h1,hy1,fj]
  refine ⟨ae (by decide +kernel),?_⟩
  by_cases h2 : xs[i]=ys[i]
  ·simp [h2,hw]
   refine ⟨i + 1,⟨by omega,fun k k1 k2 hk=>?_⟩,by omega,by omega⟩
   rcases Nat.lt_succ_iff_lt_or_eq.1 hk with h5 | rfl
   ·exact hok k k1 k2 h5
   ·exact h2
  ·have h3 : ¬ (xs[i].1=ys[i].1 /\ xs[i].2=ys[i].2):=fun e=>h2 (Prod.ext e.1 e.2)
   refine ab (fun h4=>?_) (fun h4=>?_) <;> simp at h4 <;> simp [h4]
   ·rw [hr,decide_eq_false]
    intro e
    exact h2 (by simp [e])
   ·exact absurd h4 h3
 ·rw [hr,decide_eq_true]
  exact List.ext_getElem h' fun k k1 k2=>hok k k1 k2 (by omega)
theorem xQ {bT : Bool} (hb : bT=true) (M : List Fnd) (k : Int) (nm : List UInt8) (hM : M.length < 2 ^ 40) (hn : nm.length < 2 ^ 62) : C 593 [slx bT (aP (dQ bP M)),.int .i64 k,.str nm] (slx bT (aP (dQ bP (M++[(k,nm)])))) []:=by
 subst hb
 have hne : dQ bP (M++[(k,nm)]) ≠ []:=fun e=>by
  have:=(mE (c:=bP)).2 (show (k,nm) ∈ M++[(k,nm)] by simp)
  rw [e] at this;cases this
 have e : slx true (aP (dQ bP (M++[(k,nm)])))=.sl (aP (dQ bP (M++[(k,nm)]))):=by
  unfold slx
  cases hc : dQ bP (M++[(k,nm)]) with
  | nil=>exact absurd hc hne
  | cons x r=>rfl
 rw [e]
 exact Ev hC M k nm hM hn
set_option maxHeartbeats 4000000 in
theorem uP {bT : Bool} (hb : bT=true) (b1 b2 : Bool) (ns : List Nod) (ls : List Lnk) (m : Msh) (hmf : m.f.length <= 100) (tol : Int) (hv : bZ ns ls=true) (hm : bi m=true) : C 666 [.agg [slx b1 (ns.map bk),slx b2 (ls.map aS)],.agg (bz m),.int .i64 tol] (slx bT (aP (dQ bP (ke m tol ns)))) []:=by
 have hn:=(cZ hv).1
 have k1:=fun p hp=>Av hC m hm hmf p hp
 have k2:=fun i hi p hp ho=>xG hC m hm i hi p hp ho
 have k4:=xQ hC hb
 have hnn : ∀ (j : Nat) (h : j < ns.length),ns[j].name.length <= 20:=fun j h=>by
  have h0:=(ot hv h).1
  simp only [iz,br,Bool.and_eq_true,decide_eq_true_eq] at h0
  omega
 have e0 : slx true (aP (dQ bP []))=.nils:=by
  have : dQ bP ([] : List Fnd)=[]:=by simp [dQ,nl,ddL]
  rw [this];rfl
 unfold ke
 simp only [aj] at k1 k2
 refine start hC (nf:=N666) rfl rfl ?_
 simp [N666,aj]
 refine aq Nat (fun j=>[(2,.int .i64 tol),(3,.ptr [slx b1 (ns.map bk),slx b2 (ls.map aS)]),(4,.ptr [slx m.sn (m.s.map fU),slx m.fn (m.f.map bE)]),(7,slx bT (aP (dQ bP (cc (grA m tol ns) j)))),(8,.int .i64 j)]) (fun j=>j <= ns.length) (fun j=>ns.length - j) 0 (by simp) (by simp [hb,fh,e0]) ?_
 intro j hj
 simp
 have hfl:=cI (me m tol ns) j
 refine ab (fun h=>?_) (fun h=>?_) <;> simp at h
 ·have hw : IntKind.wrap .i64 ((j : Int) + 1)=((j + 1 : Nat) : Int):=ai (by omega) (by omega)
  have hfs:=eu (grA m tol ns) j
  have hp:=s9 hv h
  have hnj:=hnn j h
  have k5:=k1 (gh ns[j]) hp
  rw [sU m tol h] at hfs
  unfold grF at hfs
  have k6:=fun (a1 : (dx m (gh ns[j])).toNat < m.f.length) (a2 : osF m (dx m (gh ns[j])).toNat (gh ns[j]) < 0)=>k2 (dx m (gh ns[j])).toNat a1 (gh ns[j]) hp a2
  have hon : 0 <= dx m (gh ns[j]) -> (dx m (gh ns[j])).toNat < m.f.length /\ osF m (dx m (gh ns[j])).toNat (gh ns[j]) < 0:=fun h=>o7 h
  simp only [ptD,gh] at k5 k6 hfs hon
  simp [h,bk]
  refine aa k5 (.inl rfl) ?_
  simp
  by_cases q1 : dx m (ns[j].x,ns[j].y) < 0
  ·simp only [q1,↓reduceIte] at hfs
   simp [q1]
   refine aa (k4 _ 10 _ (by omega) (by omega)) (.inr rfl) ?_
   simp [hw]
   exact ⟨j + 1,by omega,by omega,by rw [hfs],by omega⟩
  ·simp only [q1,↓reduceIte] at hfs
   obtain ⟨hi,ho⟩:=hon (by omega)
   have k7:=k6 hi ho
   have hcast : (((dx m (ns[j].x,ns[j].y)).toNat : Nat) : Int)=dx m (ns[j].x,ns[j].y):=by omega
   rw [hcast] at k7
   simp [q1]
   refine aa k7 (.inr rfl) ?_
   simp
   by_cases q2 : ns[j].ground < IntKind.wrap .i64 (loF m (dx m (ns[j].x,ns[j].y)).toNat (ns[j].x,ns[j].y) - tol)
   ·simp [q2]
    refine aa (k4 _ 9 _ (by omega) (by omega)) (.inr rfl) ?_
    simp [hw]
    exact ⟨j + 1,by omega,by omega,by rw [hfs];simp [one,q2],by omega⟩
   ·by_cases q3 : IntKind.wrap .i64 (hiF m (dx m (ns[j].x,ns[j].y)).toNat (ns[j].x,ns[j].y) + tol) < ns[j].ground
    ·simp [q2,q3]
     refine aa (k4 _ 9 _ (by omega) (by omega)) (.inr rfl) ?_
     simp [hw]
     exact ⟨j + 1,by omega,by omega,by rw [hfs];simp [one,q3],by omega⟩
    ·simp [q2,q3,hw]
     exact ⟨j + 1,by omega,by omega,by rw [hfs];simp [one,q2,q3],by omega⟩
 ·have ej : j=ns.length:=by omega
  subst ej
  simp [h]
set_option maxHeartbeats 4000000 in
theorem lS (hS : SlC C) (hK : re C) (dec : Nat -> List UInt8) (hI : ∀ n : Nat,n < 100 -> C 127 [.int .i64 n] (.str (dec n)) []) (b1 b2 : Bool) (ns : List Nod) (ls : List Lnk) (hn : ns.length < 2 ^ 62) (hl : ls.length < 2 ^ 62) (hcv : ∀ l ∈ ls,l.curve.length < 2 ^ 62) (m : Msh) (tol : Int) : C 662 [.agg [slx b1 (ns.map bk),slx b2 (ls.map aS)],.agg (bz m),.int .i64 tol] (.bool true) []:=by
 have k0:=tK hC hS hK
 have k1:=ul hC b1 b2 ns ls hn hl
 have k1':=Bm hC m
 have k5:=uQ hC b1 b2 ns ls
 obtain ⟨bT,hb⟩ : ∃ b,b=true:=⟨true,rfl⟩
 by_cases hst : nr m=true
 ·simp only [aj] at k1'
  refine start hC (nf:=N662) rfl rfl ?_
  simp [N662,aj]
  refine aa k0 (.inl rfl) ?_
  simp
  refine aa k1 (.inl rfl) ?_
  simp
  refine ab (fun hlg=>?_) (fun hlg=>?_)
  ·simp [hlg]
  simp [hlg,aj]
  refine aa k1' (.inl rfl) ?_
  simp [hst]
 have hst' : nr m=false:=by simpa using hst
 have hmf : m.s.length <= 40 /\ m.f.length <= 60:=by
  simp only [nr,Bool.or_eq_false_iff,decide_eq_false_iff_not] at hst'
  omega
 have hz : fp m=true -> m.s.length <= 100 /\ m.f.length <= 100:=fun _=>by omega
 have k2:=vi hC hK dec hI b1 b2 ns ls m hz tol hcv
 have k6:=xT hC m hz
 have k7:=fun hv hm=>uP hC hb b1 b2 ns ls m (by omega) tol hv hm
 have hA : bZ ns ls=true -> (dQ bP (ke m tol ns)).length < 2 ^ 62:=fun hv=>by
  have:=pL bP (ke m tol ns)
  have h2 : (ke m tol ns).length <= 1 * ns.length:=cI (me m tol ns) ns.length
  omega
 have k8:=fun hv=>xR hC false bT (dQ bP (ke m tol ns)) (dQ bP (ke m tol ns)) (hA hv) (hA hv)
 generalize dQ bP (ke m tol ns)=A at *
 simp only [aj] at k1' k2 k6 k7
 rw [hst'] at k1'
 refine start hC (nf:=N662) rfl rfl ?_
 simp [N662,aj]
 refine aa k0 (.inl rfl) ?_
 simp
 refine aa k1 (.inl rfl) ?_
 simp
 refine ab (fun hlg=>?_) (fun hlg=>?_)
 ·simp [hlg]
 simp [hlg,aj]
 refine aa k1' (.inl rfl) ?_
 simp [aj]
 cases hv : bZ ns ls
 ·rw [hv] at k2 k5
  simp at k2
  refine aa k2 (.inr rfl) ?_
  simp
  refine aa k5 (.inl rfl) ?_
  simp
 cases hm : bi m
 ·rw [hv,hm] at k2
  rw [hv] at k5
  rw [hm] at k6
  simp at k2
  refine aa k2 (.inr rfl) ?_
  simp
  refine aa k5 (.inl rfl) ?_
  simp [aj]
  refine aa k6 (.inl rfl) ?_
  simp
 ·have k7':=k7 hv hm
  have k8':=k8 hv
  rw [hv,hm] at k2
  rw [hv] at k5
  rw [hm] at k6
  by_cases t1 : tol < 0
  ·have : ¬ (0 <= tol /\ tol <= 4194304):=by omega
   rw [if_pos (by rfl),if_neg this] at k2
   refine aa k2 (.inr rfl) ?_
   simp
   refine aa k5 (.inl rfl) ?_
   simp [aj]
   refine aa k6 (.inl rfl) ?_
   simp [t1]
  by_cases t2 : 4194304 < tol
  ·have : ¬ (0 <= tol /\ tol <= 4194304):=by omega
   rw [if_pos (by rfl),if_neg this] at k2
   refine aa k2 (.inr rfl) ?_
   simp
   refine aa k5 (.inl rfl) ?_
   simp [aj]
   refine aa k6 (.inl rfl) ?_
   simp [t1,t2]
  rw [if_pos (by rfl),if_pos (by omega)] at k2
  simp only [bI] at k8'
  refine aa k2 (.inr rfl) ?_
  simp
  refine aa k5 (.inl rfl) ?_
  simp [aj]
  refine aa k6 (.inl rfl) ?_
  simp [t1,t2,aj]
  refine aa k7' (.inr rfl) ?_
  simp
  refine aa k8' (.inl rfl) ?_
  simp
end Go.Gv
