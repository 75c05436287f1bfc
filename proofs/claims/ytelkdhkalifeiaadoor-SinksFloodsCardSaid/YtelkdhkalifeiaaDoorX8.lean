/-
  Texts of the proof: H3, H4, H5, H6, H10, K4, K5, K6, K7, K8, M0, W1, W2, W3, H8, H7, H9, H11, H12, SK1, SK2, PH1, SK3p, S0, S3, SK3, PF1, PF2, V1, V2, V3, V4, PF3, PF4.
-/
import Derived.Test.YtelkdhkalifeiaaDoorX7
import Derived.Lib.Mul64
import Derived.Laws.Bits64b
import Derived.Laws.MathBits
set_option linter.all false
namespace Go.Gv
def okc (m : Msh) (a b : Int) : Bool:=fL m.s.length a && decide (a ≠ b) && aU (spt m a.toNat)
def okF (m : Msh) (f : Fce) : Bool:=okc m f.a f.b && okc m f.b f.c && okc m f.c f.a && decide (0 <= f.k) && decide (f.k < 16)
def mtc (f g : Fce) (i k : Nat) : Bool:=decide (crn f i=crn g k) && decide (crn f (i + 1)=crn g (k + 1))
def gc (f g : Fce) : Bool:=(List.range 3).any fun i=>(List.range 3).any fun k=>mtc f g i k
theorem ik {m : Msh} {f : Fce} (h : okF m f=true) : inS m f=true:=by
 simp only [okF,okc,Bool.and_eq_true] at h
 simp only [inS,Bool.and_eq_true]
 exact ⟨⟨h.1.1.1.1.1.1,h.1.1.1.2.1.1⟩,h.1.1.2.1.1⟩
theorem cF {m : Msh} {f : Fce} (h : okF m f=true) : okT (aQ m f)=true:=by
 simp only [okF,okc,Bool.and_eq_true] at h
 simp only [okT,aQ,Bool.and_eq_true]
 exact ⟨⟨nG h.1.1.1.1.2,nG h.1.1.1.2.2⟩,nG h.1.1.2.2⟩
def oe (n : Nat) : UInt8:=UInt8.ofNat (48 + n % 10)
def nh (n : Nat) (out : List UInt8) : List UInt8:=if n < 10 then oe n::out else nh (n / 10) (oe n::out)
def ph (n : Nat) (out : List UInt8) : List UInt8:=if n=0 then out else nh n out
theorem mD (n : Nat) (out : List UInt8) : nh n out=ph (n / 10) (oe n::out):=by
 rw [nh,ph]
 by_cases h : n < 10
 ·rw [if_pos h,if_pos (by omega)]
 ·rw [if_neg h,if_neg (by omega)]
variable {C : CC} (hC : aI prog C)
include hC
theorem wt (m : Msh) (f : Fce) (hs : inS m f=true) (ht : okT (aQ m f)=true) : C 293 [.agg (bk m),.agg (bz f)] (.int .i64 (jv (aQ m f))) []:=by
 have k1:=p6 hC m f hs
 have k2:=ht
 simp only [okT,Bool.and_eq_true] at k2
 have k3:=qz hC k2.1.1 k2.1.2 k2.2
 obtain ⟨t,e⟩ : ∃ t,t=aQ m f:=⟨_,rfl⟩
 rw [<- e] at k1 k3 ⊢
 refine aT hC (nf:=N293) rfl rfl ?_
 rw [bk,bz] at k1 ⊢
 simp only [ptD] at k1 k3
 simp [N293]
 refine aa k1 (.inr rfl) ?_
 simp
 refine aa k3 (.inl rfl) ?_
 simp [jv]
 exact al (by decide +kernel)
theorem pZ (m : Msh) (f g : Fce) (hs : inS m f=true) (ht : okT (aQ m f)=true) (hs' : inS m g=true) (ht' : okT (aQ m g)=true) : C 295 [.agg (bk m),.agg (bz f),.agg (bz g)] (.bool (ovT (aQ m f) (aQ m g))) []:=by
 have k1:=p6 hC m f hs
 have k2:=p6 hC m g hs'
 have k3:=oN hC ht ht'
 have k4:=oN hC ht' ht
 obtain ⟨t,e⟩ : ∃ t,t=aQ m f:=⟨_,rfl⟩
 obtain ⟨u,e'⟩ : ∃ u,u=aQ m g:=⟨_,rfl⟩
 rw [<- e] at k1 k3 k4 ⊢
 rw [<- e'] at k2 k3 k4 ⊢
 refine aT hC (nf:=N295) rfl rfl ?_
 rw [bk,bz] at k1 k2 ⊢
 rw [bz]
 simp only [mj,ptD] at k1 k2 k3 k4
 simp [N295]
 refine aa k1 (.inr rfl) ?_
 simp
 refine aa k2 (.inr rfl) ?_
 simp
 refine ⟨al (by decide +kernel),?_⟩
 refine aa k3 (.inl rfl) ?_
 simp
 cases h1 : oY t u <;> simp [ovT,h1]
 refine aa k4 (.inl rfl) ?_
 simp
 exact fun _=>h1
theorem wn (f g : Fce) : C 294 [.agg (bz f),.agg (bz g)] (.bool (gc f g)) []:=by
 have kf:=fun k (h : k < 4)=>fN hC f k h
 have kg:=fun k (h : k < 4)=>fN hC g k h
 refine aT hC (nf:=N294) rfl rfl ?_
 rw [bz] at kf ⊢
 rw [bz] at kg ⊢
 simp [N294]
 refine ay Nat (fun i=>[(2,.ptr (bz f)),(3,.ptr (bz g)),(5,.int .i64 i)]) (fun i=>i <= 3 /\ ∀ a,a < i -> ∀ b,b < 3 -> mtc f g a b=false) (fun i=>3 - i) 0 (by simp) (by simp [bz]) ?_
 rintro i ⟨hi,hI⟩
 simp [bz]
 refine am (fun c1=>?_) (fun c1=>?_) <;> simp at c1 <;> simp [c1]
 ·have hw : IntKind.wrap .i64 ((i : Int) + 1)=((i + 1 : Nat) : Int):=aj (by omega) (by omega)
  refine ay Nat (fun k=>[(2,.ptr (bz f)),(3,.ptr (bz g)),(5,.int .i64 i),(6,.int .i64 k)]) (fun k=>k <= 3 /\ ∀ b,b < k -> mtc f g i b=false) (fun k=>3 - k) 0 (by simp) (by simp [bz]) ?_
  rintro k ⟨hk,hK⟩
  simp [bz]
  refine am (fun c2=>?_) (fun c2=>?_) <;> simp at c2 <;> simp [c2]
  ·have hw2 : IntKind.wrap .i64 ((k : Int) + 1)=((k + 1 : Nat) : Int):=aj (by omega) (by omega)
   refine aa (kf i (by omega)) (.inl rfl) ?_
   simp
   refine aa (kg k (by omega)) (.inl rfl) ?_
   simp
   by_cases h1 : crn f i=crn g k
   ·simp [h1,hw,hw2]
    refine aa (kf (i + 1) (by omega)) (.inl rfl) ?_
    simp [hw2]
    refine aa (kg (k + 1) (by omega)) (.inl rfl) ?_
    simp
    refine ⟨al (by decide +kernel),?_⟩
    by_cases h2 : crn f (i + 1)=crn g (k + 1)
    ·simp [h2]
     refine List.any_eq_true.2 ⟨i,List.mem_range.2 (by omega),List.any_eq_true.2 ⟨k,List.mem_range.2 (by omega),?_⟩⟩
     simp [mtc,h1,h2]
    ·simp [h2,hw2]
     refine ⟨k + 1,⟨by omega,fun b hb=>?_⟩,by omega,?_⟩
     rotate_left
     ·omega
     rcases Nat.lt_succ_iff_lt_or_eq.1 hb with h | rfl
     ·exact hK b h
     ·simp [mtc,h2]
   ·simp [h1,hw2]
    refine ⟨al (by decide +kernel),?_⟩
    refine ⟨k + 1,⟨by omega,fun b hb=>?_⟩,by omega,?_⟩
    rotate_left
    ·omega
    rcases Nat.lt_succ_iff_lt_or_eq.1 hb with h | rfl
    ·exact hK b h
    ·simp [mtc,h1]
  ·simp [hw]
   refine ⟨i + 1,⟨by omega,fun a ha b hb=>?_⟩,by omega,?_⟩
   rotate_left
   ·omega
   rcases Nat.lt_succ_iff_lt_or_eq.1 ha with h | rfl
   ·exact hI a h b hb
   ·exact hK b (by omega)
 ·rw [gc]
  rw [Bool.eq_false_iff]
  intro h
  rw [List.any_eq_true] at h
  obtain ⟨a,ha,h⟩:=h
  rw [List.any_eq_true] at h
  obtain ⟨b,hb,h⟩:=h
  rw [hI a (by have:=List.mem_range.1 ha;omega) b (List.mem_range.1 hb)] at h
  cases h
set_option maxHeartbeats 2000000 in
theorem AX (m : Msh) (f : Fce) (hn : m.s.length < 2 ^ 40) : C 292 [.agg (bk m),.agg (bz f)] (.bool (okF m f)) []:=by
 have ks:=fun s=>qy hC s
 have E : ∀ a b : Int,okc m a b=(decide (0 <= a) && decide (a < m.s.length) && decide (a ≠ b) && aU (spt m a.toNat)):=fun a b=>rfl
 have E2 : okF m f=(okc m f.a f.b && okc m f.b f.c && okc m f.c f.a && decide (0 <= f.k) && decide (f.k < 16)):=rfl
 refine aT hC (nf:=N292) rfl rfl ?_
 rw [bk,bz]
 simp only [eW] at ks
 simp [N292]
 refine ay Nat (fun i=>[(2,.ptr (bk m)),(3,.ptr (bz f)),(5,.ref (.r 10080) 0 3),(10080,.blk 1 [[.int .i64 f.a],[.int .i64 f.b],[.int .i64 f.c]]),(6,.int .i64 i)]) (fun i=>i <= 3 /\ (1 <= i -> okc m f.a f.b=true) /\ (2 <= i -> okc m f.b f.c=true) /\ (3 <= i -> okc m f.c f.a=true)) (fun i=>3 - i) 0 (by simp) (by simp [bz,bk]) ?_
 rintro i ⟨hi,s1,s2,s3⟩
 rcases (by omega : i=0 \/ i=1 \/ i=2 \/ i=3) with rfl | rfl | rfl | rfl
 ·have no : okc m f.a f.b=false -> okF m f=false:=fun h=>by simp [E2,h]
  simp [bz,bk,bm,bv,bx]
  refine am (fun c1=>?_) (fun c1=>?_) <;> simp at c1
  ·simp [c1]
   exact ⟨al (by decide +kernel),no (by rw [E,decide_eq_false (by omega)];simp)⟩
  ·simp [Int.not_lt.2 c1]
   refine am (fun c2=>?_) (fun c2=>?_) <;> simp at c2
   ·simp [c2]
    exact ⟨al (by decide +kernel),no (by rw [E,decide_eq_false (show ¬ f.a < m.s.length by omega)];simp)⟩
   ·simp [Int.not_le.2 c2,bm,bv,bx]
    by_cases c3 : f.a=f.b
    ·simp [c3,bm,bv,bx]
     exact ⟨al (by decide +kernel),no (by rw [E,decide_eq_false (show ¬ f.a ≠ f.b by omega)];simp)⟩
    ·simp [c3,c1,bm,bv,bx]
     refine ⟨by omega,by simp [eW],?_⟩
     simp [b8]
     refine aa (ks (spt m f.a.toNat)) (.inl rfl) ?_
     cases c4 : aU (spt m f.a.toNat)
     ·simp
      exact ⟨al (by decide +kernel),no (by rw [E,c4];simp)⟩
     ·simp
      refine ⟨al (by decide +kernel),?_⟩
      refine ⟨1,⟨by omega,fun _=>by rw [E];simp [c1,c3,c4];omega,fun h=>by omega,fun h=>by omega⟩,by omega,?_⟩ <;> simp [bm,bv,bx]
 ·have no : okc m f.b f.c=false -> okF m f=false:=fun h=>by simp [E2,h]
  simp [bz,bk,bm,bv,bx]
  refine am (fun c1=>?_) (fun c1=>?_) <;> simp at c1
  ·simp [c1]
   exact ⟨al (by decide +kernel),no (by rw [E,decide_eq_false (by omega)];simp)⟩
  ·simp [Int.not_lt.2 c1]
   refine am (fun c2=>?_) (fun c2=>?_) <;> simp at c2
   ·simp [c2]
    exact ⟨al (by decide +kernel),no (by rw [E,decide_eq_false (show ¬ f.b < m.s.length by omega)];simp)⟩
   ·simp [Int.not_le.2 c2,bm,bv,bx]
    by_cases c3 : f.b=f.c
    ·simp [c3,bm,bv,bx]
     exact ⟨al (by decide +kernel),no (by rw [E,decide_eq_false (show ¬ f.b ≠ f.c by omega)];simp)⟩
    ·simp [c3,c1,bm,bv,bx]
     refine ⟨by omega,by simp [eW],?_⟩
     simp [b8]
     refine aa (ks (spt m f.b.toNat)) (.inl rfl) ?_
     cases c4 : aU (spt m f.b.toNat)
     ·simp
      exact ⟨al (by decide +kernel),no (by rw [E,c4];simp)⟩
     ·simp
      refine ⟨al (by decide +kernel),?_⟩
      refine ⟨2,⟨by omega,fun _=>s1 (by omega),fun _=>by rw [E];simp [c1,c3,c4];omega,fun h=>by omega⟩,by omega,?_⟩ <;> simp [bm,bv,bx]
 ·have no : okc m f.c f.a=false -> okF m f=false:=fun h=>by simp [E2,h]
  simp [bz,bk,bm,bv,bx]
  refine am (fun c1=>?_) (fun c1=>?_) <;> simp at c1
  ·simp [c1]
   exact ⟨al (by decide +kernel),no (by rw [E,decide_eq_false (by omega)];simp)⟩
  ·simp [Int.not_lt.2 c1]
   refine am (fun c2=>?_) (fun c2=>?_) <;> simp at c2
   ·simp [c2]
    exact ⟨al (by decide +kernel),no (by rw [E,decide_eq_false (show ¬ f.c < m.s.length by omega)];simp)⟩
   ·simp [Int.not_le.2 c2,bm,bv,bx]
    by_cases c3 : f.c=f.a
    ·simp [c3,bm,bv,bx]
     exact ⟨al (by decide +kernel),no (by rw [E,decide_eq_false (show ¬ f.c ≠ f.a by omega)];simp)⟩
    ·simp [c3,c1,bm,bv,bx]
     refine ⟨by omega,by simp [eW],?_⟩
     simp [b8]
     refine aa (ks (spt m f.c.toNat)) (.inl rfl) ?_
     cases c4 : aU (spt m f.c.toNat)
     ·simp
      exact ⟨al (by decide +kernel),no (by rw [E,c4];simp)⟩
     ·simp
      refine ⟨al (by decide +kernel),?_⟩
      refine ⟨3,⟨by omega,fun _=>s1 (by omega),fun _=>s2 (by omega),fun _=>by rw [E];simp [c1,c3,c4];omega⟩,by omega,?_⟩ <;> simp [bm,bv,bx]
 ·have t1:=s1 (by omega)
  have t2:=s2 (by omega)
  have t3:=s3 (by omega)
  simp [bz,bk,E2,t1,t2,t3]
  refine am (fun c1=>?_) (fun c1=>?_) <;> simp at c1 <;> simp [c1] <;> rw [E2,t1,t2,t3] <;> simp [c1]
  omega
theorem AV (n : Nat) (hn : n < 100) : C 290 [.int .i64 n] (.str (nh n [])) []:=by
 refine aT hC (nf:=N290) rfl rfl ?_
 simp [N290]
 refine ay (Nat × List UInt8) (fun s=>[(0,.int .i64 s.1),(3,.str s.2)]) (fun s=>s.1 + s.2.length <= n + 1 /\ ((s.2=[] /\ s.1=n) \/ (s.2 ≠ [] /\ ph s.1 s.2=nh n []))) (fun s=>s.1 + if s.2=[] then 1 else 0) (n,[]) (by simp) (by simp) ?_
 rintro ⟨k,out⟩ ⟨hl,hI⟩
 simp only at hl hI
 have ww : IntKind.wrap .i64 ((k : Int) / 10)=((k / 10 : Nat) : Int):=aj (by omega) (by omega)
 have wq : IntKind.wrap .i64 (48 + (k : Int) % 10)=48 + (k : Int) % 10:=aj rfl (by omega)
 have et : (k : Int).tmod 10=(k : Int) % 10:=Int.tmod_eq_emod_of_nonneg (by omega)
 have wd : IntKind.u8.wrap (48 + (k : Int) % 10)=48 + (k : Int) % 10:=by
  have e1 : IntKind.u8.signed=false:=rfl
  have e3 : (2 ^ IntKind.u8.bits : Int)=256:=rfl
  unfold IntKind.wrap
  simp only [e1,e3,Bool.false_and]
  simp
  omega
 have wdd : IntKind.u8.wrap (IntKind.wrap .i64 (48 + (k : Int).tmod 10))=48 + (k : Int) % 10:=by rw [et,wq,wd]
 have hda : (k : Int) / 10=((k / 10 : Nat) : Int):=by omega
 have wb : fm [.int .u8 (48 + (k : Int) % 10)]=oe k:=by
  have : (48 + (k : Int) % 10).toNat=48 + k % 10:=by omega
  simp only [fm,oe,this]
 have hstep : ph (k / 10) (oe k::out)=nh n [] \/ (k=0 /\ out ≠ []):=by
  rcases hI with ⟨rfl,rfl⟩ | ⟨h1,h2⟩
  ·exact .inl (mD _ _).symm
  ·by_cases h : k=0
   ·exact .inr ⟨h,h1⟩
   ·rw [ph,if_neg h] at h2
    rw [<- mD,h2]
    exact .inl rfl
 by_cases hk : 0 < k
 ·have h3 : ph (k / 10) (oe k::out)=nh n []:=by
   rcases hstep with h | h
   ·exact h
   ·omega
  simp [hk,wdd,ww]
  refine ⟨⟨48 + k % 10,by omega,by omega⟩,by omega,k / 10,_,⟨by simp;omega,.inr ⟨by simp,?_⟩⟩,?_,hda,rfl⟩
  ·rw [wb];exact h3
  ·simp
   split <;> omega
 ·have h0 : k=0:=by omega
  subst h0
  by_cases ho : out=[]
  ·subst ho
   simp at hstep
   have w48 : IntKind.u8.wrap (IntKind.wrap .i64 48)=48:=by decide
   simp [w48]
   refine ⟨⟨48,rfl,by omega⟩,0,_,⟨by simp,.inr ⟨by simp,?_⟩⟩,⟨rfl,by simp⟩,by decide,rfl⟩
   have : fm [.int .u8 48]=oe 0:=by decide
   rw [this]
   exact hstep
  ·rcases hI with ⟨h1,_⟩ | ⟨_,h2⟩
   ·exact absurd h1 ho
   ·rw [ph,if_pos rfl] at h2
    rw [<- h2]
    simp [ho]
end Go.Gv

namespace Go.Gv
def fw (m : Msh) (i : Nat) : Pnt:=ptS (spt m i)
def fil (p : Nat -> Bool) (n : Nat) : List Nat:=(List.range n).filter p
theorem iZ (p : Nat -> Bool) : fil p 0=[]:=rfl
theorem cu {p : Nat -> Bool} {n : Nat} (h : p n=true) : fil p (n + 1)=fil p n++[n]:=by
 rw [fil,List.range_succ,List.filter_append]
 simp [h,fil]
theorem jJ {p : Nat -> Bool} {n : Nat} (h : p n=false) : fil p (n + 1)=fil p n:=by
 rw [fil,List.range_succ,List.filter_append]
 simp [h,fil]
theorem aG (p : Nat -> Bool) (n : Nat) : (fil p n).length <= n:=by
 have:=List.length_filter_le p (List.range n)
 rw [fil]
 simpa using this
theorem dG {p : Nat -> Bool} {n i : Nat} (h : i ∈ fil p n) : i < n /\ p i=true:=by
 rw [fil,List.mem_filter,List.mem_range] at h
 exact h
theorem kP {p : Nat -> Bool} {n : Nat} : fil p n=[] ↔ ∀ i,i < n -> p i=false:=by
 rw [fil,List.filter_eq_nil_iff]
 simp
def cI (m : Msh) (i : Nat) : Bool:=!aU (spt m i)
def bR (m : Msh) (i : Nat) : Bool:=aU (spt m i) && (List.range i).any fun k=>aU (spt m k) && decide (fw m k=fw m i)
def db (m : Msh) (i : Nat) : Bool:=!okF m (fce m i)
def ce (m : Msh) (i : Nat) : Bool:=okF m (fce m i) && decide (jv (aQ m (fce m i)) <= 0)
def av (m : Msh) (i : Nat) : Bool:=okF m (fce m i) && decide (0 < jv (aQ m (fce m i)))
def bP (m : Msh) (i : Nat) : Bool:=av m i && (List.range i).any fun k=>av m k && gc (fce m i) (fce m k)
def aP (m : Msh) (i : Nat) : Bool:=av m i && (List.range i).any fun k=>av m k && ovT (aQ m (fce m i)) (aQ m (fce m k))
def LL (m : Msh) : List (List Nat):=[[],fil (cI m) m.s.length,fil (bR m) m.s.length,fil (db m) m.f.length,fil (ce m) m.f.length,fil (bP m) m.f.length,fil (aP m) m.f.length]
def cj (dec : Nat -> List UInt8) : Nat -> List (List Nat) -> List (Int × List UInt8)
 | _,[]=>[]
 | k,l::r=>(l.map fun i=>((k : Int),dec i))++cj dec (k + 1) r
def fnD (x : Int × List UInt8) : List D:=[.int .i64 x.1,.str x.2]
def cL (m : Msh) : Bool:=decide (m.s.length <= 2000) && decide (m.f.length <= 4000)
def aE (m : Msh) : Bool:=cL m && (LL m).all fun l=>decide (l=[])
theorem lK (dec : Nat -> List UInt8) : ∀ (k : Nat) (ls : List (List Nat)),cj dec k ls=[] ↔ (ls.all fun l=>decide (l=[]))=true
 | _,[]=>by simp [cj]
 | k,l::r=>by simp [cj,lK dec (k + 1) r]
def iz (m : Msh) : Nat -> List D
 | 0=>[]
 | i + 1=>if aU (spt m i) then .agg (ptD (fw m i))::iz m i else iz m i
def jX (m : Msh) : Nat -> List D
 | 0=>[]
 | i + 1=>if aU (spt m i) then .bool true::jX m i else jX m i
theorem oK (m : Msh) : ∀ i,(iz m i).length <= i
 | 0=>by simp [iz]
 | i + 1=>by
  have:=oK m i
  rw [iz]
  split <;> simp <;> omega
theorem zA (p q : Pnt) : eqD (.agg (ptD p)) (.agg (ptD q))=decide (q=p):=by
 obtain ⟨a,b⟩:=p
 obtain ⟨c,d⟩:=q
 simp [eqD,nj,ni,ptD]
 rw [Bool.eq_iff_iff]
 simp
 exact ⟨fun h=>⟨h.1.symm,h.2.symm⟩,fun h=>⟨h.1.symm,h.2.symm⟩⟩
theorem pQ (m : Msh) (p : Pnt) : ∀ i,(cX (iz m i) (jX m i) (.agg (ptD p))).getD (.bool false)=.bool ((List.range i).any fun k=>aU (spt m k) && decide (fw m k=p))
 | 0=>rfl
 | i + 1=>by
  rw [iz,jX,List.range_succ,List.any_append]
  by_cases h : aU (spt m i)=true
  ·rw [if_pos h,if_pos h,cX,zA]
   by_cases h2 : fw m i=p
   ·simp [h,h2]
   ·simp [h2,pQ m p i]
  ·rw [if_neg h,if_neg h,pQ m p i]
   simp [h]
def d8 (m : Msh) (i : Nat) : List Bool:=(List.range m.s.length).map fun j=>decide (j < i) && cI m j
theorem iX (m : Msh) (i : Nat) : (d8 m i).length=m.s.length:=by simp [d8]
theorem ri (m : Msh) : d8 m 0=List.replicate m.s.length false:=by
 refine List.ext_getElem (by simp [d8]) fun k h1 h2=>?_
 simp [d8]
theorem ti (m : Msh) {i : Nat} (h : i < m.s.length) : (d8 m i).set i (cI m i)=d8 m (i + 1):=by
 refine List.ext_getElem (by simp [d8]) fun k h1 h2=>?_
 rw [List.getElem_set]
 simp only [d8,List.getElem_map,List.getElem_range]
 by_cases e : i=k
 ·subst e;simp
 ·rw [if_neg e]
  by_cases e2 : k < i
  ·simp [e2,show k < i + 1 by omega]
  ·simp [e2,show ¬ k < i + 1 by omega]
theorem tg (m : Msh) {k : Nat} (h : k < m.s.length) : (d8 m m.s.length)[k]'(by rw [iX];exact h)=cI m k:=by simp [d8,h]
variable {C : CC} (hC : aI prog C)
include hC
theorem tD {b : Bool} {xs : List Tri} {g : Nat} {cs : List D} (p : Tri -> Bool) (hs : xs.length < 2 ^ 62) (hp : ∀ x ∈ xs,C g (.agg (cd x)::cs) (.bool (p x)) []) : C 328 [slx b (xs.map cd),.fn g cs] (.int .i64 (gM p xs)) []:=by
 refine aT hC (nf:=N328) rfl rfl ?_
 simp [N328]
 refine ay Nat (fun i=>[(0,slx b (xs.map cd)),(1,.fn g cs),(7,.int .i64 xs.length),(8,.int .i64 i)]) (fun i=>i <= xs.length /\ ∀ (j : Nat) (h : j < xs.length),j < i -> p xs[j]=false) (fun i=>xs.length - i) 0 (by simp) (by simp) ?_
 rintro i ⟨hi,hj⟩
 simp
 refine am (fun h=>?_) (fun h=>?_) <;> simp [h] <;> simp at h
 ·have hw : IntKind.wrap .i64 ((i : Int) + 1)=((i + 1 : Nat) : Int):=aj (by omega) (by omega)
  have hc:=hp _ (List.getElem_mem h)
  simp [h,List.getElem_map,cd] at hc ⊢
  refine aa hc (.inl rfl) ?_
  simp
  refine am (fun h1=>?_) (fun h1=>?_) <;> simp [h1,hw]
  ·rw [dR hj h h1]
  ·refine ⟨i + 1,⟨by omega,fun j hl hjj=>?_⟩,by omega,by simp [cd]⟩
   rcases Nat.lt_succ_iff_lt_or_eq.1 hjj with h2 | rfl
   ·exact hj j hl h2
   ·exact h1
 ·rw [fJ (fun j hl=>hj j hl (by omega))]
theorem cJ {b : Bool} {xs : List Tri} {g : Nat} {cs : List D} (p : Tri -> Bool) (hs : xs.length < 2 ^ 62) (hp : ∀ x ∈ xs,C g (.agg (cd x)::cs) (.bool (p x)) []) : C 309 [slx b (xs.map cd),.fn g cs] (.bool (xs.any p)) []:=by
 refine aT hC (nf:=N309) rfl rfl ?_
 simp [N309]
 refine aa (tD hC p hs hp) (.inl rfl) ?_
 simp [lA]
theorem y9 (m : Msh) (k : Int) (hn : m.s.length < 2 ^ 40) : C 306 [.int .i64 k,.ptr (bk m),.ptr [.sl ((d8 m m.s.length).map fun b=>[.bool b])]] (.bool (!(fL m.s.length k && aU (spt m k.toNat)))) []:=by
 have E : fL m.s.length k=(decide (0 <= k) && decide (k < m.s.length)):=rfl
 refine aT hC (nf:=N306) rfl rfl ?_
 simp [N306,bk]
 refine am (fun c1=>?_) (fun c1=>?_) <;> simp at c1
 ·simp [c1]
  rw [E,decide_eq_false (by omega)];simp
 ·simp [Int.not_lt.2 c1]
  refine am (fun c2=>?_) (fun c2=>?_) <;> simp at c2
  ·simp [c2]
   rw [E,decide_eq_false (show ¬ k < m.s.length by omega)];simp
  ·have c3 : k.toNat < m.s.length:=by omega
   have c4:=tg m c3
   simp [Int.not_le.2 c2,c1,c3,iX]
   rw [c4,E,decide_eq_true c1,decide_eq_true c2]
   simp [cI]
theorem d7 {t o : Tri} (ht : okT t=true) (ho : okT o=true) : C 310 [.agg (cd o),.ptr (cd t)] (.bool (ovT t o)) []:=by
 have k1:=yC hC ht ho
 have k2:=yC hC ho ht
 refine aT hC (nf:=N310) rfl rfl ?_
 rw [cd,cd] at k1 k2 ⊢
 simp [N310]
 refine aa k1 (.inl rfl) ?_
 simp
 cases h1 : oY t o <;> simp [ovT,h1]
 refine aa k2 (.inl rfl) ?_
 simp
 exact fun _=>h1
end Go.Gv

namespace Go.Gv
def nmR (l : List Nat) : List (List D):=l.map fun (k : Nat)=>[D.int .i64 k]
theorem eg (l : List Nat) : nmR l=l.map fun (k : Nat)=>[D.int .i64 k]:=_root_.id rfl
theorem ij {p : Nat -> Bool} {n : Nat} (h : p n=true) : nmR (fil p n)++[[D.int .i64 n]]=nmR (fil p (n + 1)):=by
 rw [cu h];simp [nmR]
theorem ek {p : Nat -> Bool} {n : Nat} (h : p n=false) : nmR (fil p n)=nmR (fil p (n + 1)):=by rw [jJ h]
@[simp] theorem Ov (l : List Nat) : (nmR l).length=l.length:=by simp [nmR]
@[simp] theorem AL (l : List Nat) : (∀ e ∈ nmR l,∀ c ∈ e,aw c=true)=True:=by simp [nmR]
@[simp] theorem Jc (l : List Nat) : List.take l.length (nmR l)=nmR l:=List.take_of_length_le (by simp)
@[simp] theorem Ou (l : List Nat) (x : List D) : (∀ e,e ∈ nmR l \/ e=x -> ∀ c,c ∈ e -> aw c=true)=∀ c,c ∈ x -> aw c=true:=by
 apply propext
 constructor
 ·exact fun h=>h x (.inr rfl)
 ·rintro h e (he | rfl)
  ·exact (AL l).mpr trivial e he
  ·exact h
@[simp] theorem Ow : nmR []=[]:=rfl
def boR (l : List Bool) : List (List D):=l.map fun b=>[D.bool b]
theorem ng (l : List Bool) : boR l=l.map fun b=>[D.bool b]:=_root_.id rfl
@[simp] theorem Kb (l : List Bool) : (boR l).length=l.length:=by simp [boR]
@[simp] theorem Ka (l : List Bool) (i : Nat) (h : i < (boR l).length) : (boR l)[i]=[D.bool (l[i]'(by simpa using h))]:=by simp [boR]
@[simp] theorem Kc (l : List Bool) (i : Nat) (b : Bool) : (boR l).set i [D.bool b]=boR (l.set i b):=by simp [boR,List.map_set]
theorem rh (m : Msh) {i : Nat} (h : i < m.s.length) : (d8 m i).set i (!aU (spt m i))=d8 m (i + 1):=ti m h
theorem vE (m : Msh) {i : Nat} (h : i < m.s.length) (h' : i < (d8 m (i + 1)).length) : (d8 m (i + 1))[i]=!aU (spt m i):=by simp [d8,cI]
theorem th (m : Msh) : List.replicate m.s.length [D.bool false]=boR (d8 m 0):=by rw [ri];simp [boR]
def xN (m : Msh) (i : Nat) : Env:=[(1,.ptr (bk m)),(4,.adr (.r 10064) 0 0),(10064,.blk 7 [[.own 1 [],.own 1 (nmR (fil (cI m) i)),.own 1 (nmR (fil (bR m) i)),.own 1 [],.own 1 [],.own 1 [],.own 1 []]]),(5,.adr (.r 10080) 0 0),(10080,.blk 1 [[.own 1 (boR (d8 m i))]]),(6,.mrf 10464),(10464,.mp 4 1 (iz m i) (jX m i)),(31,slx m.sn (m.s.map eW)),(32,.int .i64 m.s.length),(33,.int .i64 i)]
theorem gx (m : Msh) (i : Nat) : xN m i=[(1,.ptr (bk m)),(4,.adr (.r 10064) 0 0),(10064,.blk 7 [[.own 1 [],.own 1 (nmR (fil (cI m) i)),.own 1 (nmR (fil (bR m) i)),.own 1 [],.own 1 [],.own 1 [],.own 1 []]]),(5,.adr (.r 10080) 0 0),(10080,.blk 1 [[.own 1 (boR (d8 m i))]]),(6,.mrf 10464),(10464,.mp 4 1 (iz m i) (jX m i)),(31,slx m.sn (m.s.map eW)),(32,.int .i64 m.s.length),(33,.int .i64 i)]:=_root_.id rfl
def trR (m : Msh) (l : List Nat) : List (List D):=l.map fun k=>cd (aQ m (fce m k))
theorem eq (m : Msh) (l : List Nat) : trR m l=(l.map fun k=>aQ m (fce m k)).map cd:=by simp [trR]
@[simp] theorem O9 (m : Msh) (l : List Nat) : (trR m l).length=l.length:=by simp [trR]
@[simp] theorem JV (m : Msh) (l : List Nat) : List.take l.length (trR m l)=trR m l:=List.take_of_length_le (by simp)
@[simp] theorem QN (m : Msh) (l : List Nat) : List.map (fun e=>List.map a6 e) (trR m l)=trR m l:=by simp [trR,cd]
@[simp] theorem Pb (m : Msh) : trR m []=[]:=rfl
theorem dg {m : Msh} {i : Nat} (h : av m i=true) : trR m (fil (av m) i)++[cd (aQ m (fce m i))]=trR m (fil (av m) (i + 1)):=by rw [cu h];simp [trR]
def sdK (f : Fce) : Nat -> List D
 | 0=>[]
 | j + 1=>.agg [.int .i64 (crn f j),.int .i64 (crn f (j + 1))]::sdK f j
theorem jq (f : Fce) : ∀ j,(sdK f j).length=j
 | 0=>rfl
 | j + 1=>by simp [sdK,jq f j]
def bX (m : Msh) : Nat -> List D
 | 0=>[]
 | i + 1=>if av m i then sdK (fce m i) 3++bX m i else bX m i
def b5 (m : Msh) : Nat -> List D
 | 0=>[]
 | i + 1=>if av m i then List.replicate 3 (.bool true)++b5 m i else b5 m i
theorem cA (m : Msh) : ∀ i,(bX m i).length <= 3 * i
 | 0=>by simp [bX]
 | i + 1=>by
  have:=cA m i
  rw [bX]
  split <;> simp [jq] <;> omega
def gJ (m : Msh) (i j : Nat) : Bool:=(List.range i).any fun k=>av m k && (List.range 3).any fun j'=>mtc (fce m i) (fce m k) j j'
theorem xS (a b c d : Int) : eqD (.agg [.int .i64 a,.int .i64 b]) (.agg [.int .i64 c,.int .i64 d])=(decide (a=c) && decide (b=d)):=by
 simp [eqD,nj,ni]
theorem qf (m : Msh) (a b : Int) : ∀ i,(cX (bX m i) (b5 m i) (.agg [.int .i64 a,.int .i64 b])).getD (.bool false)=.bool ((List.range i).any fun k=>av m k && (List.range 3).any fun j=>decide (a=crn (fce m k) j) && decide (b=crn (fce m k) (j + 1)))
 | 0=>rfl
 | i + 1=>by
  rw [bX,b5,List.range_succ,List.any_append]
  have h3 : List.range 3=[0,1,2]:=rfl
  by_cases h : av m i=true
  ·rw [if_pos h,if_pos h]
   simp only [sdK,List.replicate,List.cons_append,List.nil_append,cX,xS]
   have ih:=qf m a b i
   by_cases c0 : (decide (a=crn (fce m i) 2) && decide (b=crn (fce m i) (2 + 1)))=true
   ·rw [if_pos c0]
    simp only [List.any_cons,List.any_nil,h,h3,c0]
    simp
   ·rw [if_neg c0]
    by_cases c1 : (decide (a=crn (fce m i) 1) && decide (b=crn (fce m i) (1 + 1)))=true
    ·rw [if_pos c1]
     simp only [List.any_cons,List.any_nil,h,h3,c1]
     simp
    ·rw [if_neg c1]
     by_cases c2 : (decide (a=crn (fce m i) 0) && decide (b=crn (fce m i) (0 + 1)))=true
     ·rw [if_pos c2]
      simp only [List.any_cons,List.any_nil,h,h3,c2]
      simp
     ·rw [if_neg c2,ih]
      rw [Bool.not_eq_true] at c0 c1 c2
      simp only [List.any_cons,List.any_nil,h,h3,c0,c1,c2]
      simp
  ·rw [if_neg h,if_neg h,qf m a b i]
   simp [h]
theorem u9 {α : Type} (A p q r : α -> Bool) (l : List α) : (l.any fun k=>A k && (p k || (q k || r k)))=((l.any fun k=>A k && p k) || ((l.any fun k=>A k && q k) || (l.any fun k=>A k && r k))):=by
 induction l with
 | nil=>rfl
 | cons x l ih =>
  simp only [List.any_cons,ih]
  cases A x <;> cases p x <;> cases q x <;> cases r x <;> simp
theorem ut {m : Msh} {i : Nat} (h : av m i=true) : bP m i=(gJ m i 0 || (gJ m i 1 || gJ m i 2)):=by
 unfold bP gc gJ
 rw [h,Bool.true_and,<- u9]
 have h3 : List.range 3=[0,1,2]:=rfl
 simp only [h3,List.any_cons,List.any_nil,Bool.or_false]
theorem pg {m : Msh} {f : Fce} (h : inS m f=true) (j : Nat) : 0 <= crn f j /\ crn f j < m.s.length:=by
 have:=jP h
 unfold crn
 split <;> omega
def oa (m : Msh) (i k : Nat) : Env:=[(1,.ptr (bk m)),(4,.adr (.r 10064) 0 0),(10064,.blk 7 [[.own 1 [],.own 1 (nmR (fil (cI m) m.s.length)),.own 1 (nmR (fil (bR m) m.s.length)),.own 1 (nmR (fil (db m) i)),.own 1 (nmR (fil (ce m) i)),.own 1 (nmR (fil (bP m) (i + 1))),.own 1 (nmR (fil (aP m) i))]]),(5,.adr (.r 10080) 0 0),(10080,.blk 1 [[.own 1 (boR (d8 m m.s.length))]]),(10,.mrf 11104),(11104,.mp 3 1 (sdK (fce m i) k++bX m i) (List.replicate k (.bool true)++b5 m i)),(11,.ref (.r 10176) 0 (fil (av m) i).length),(10176,.blk 6 (trR m (fil (av m) i))),(12,.int .i64 i),(13,.adr (.r 10208) 0 0),(10208,.blk 4 [bz (fce m i)]),(15,.adr (.r 10240) 0 0),(10240,.blk 6 [cd (aQ m (fce m i))]),(71,slx m.fn (m.f.map bz)),(72,.int .i64 m.f.length),(73,.int .i64 i),(159,.int .i64 k)]
theorem fA (m : Msh) (i k : Nat) : oa m i k=[(1,.ptr (bk m)),(4,.adr (.r 10064) 0 0),(10064,.blk 7 [[.own 1 [],.own 1 (nmR (fil (cI m) m.s.length)),.own 1 (nmR (fil (bR m) m.s.length)),.own 1 (nmR (fil (db m) i)),.own 1 (nmR (fil (ce m) i)),.own 1 (nmR (fil (bP m) (i + 1))),.own 1 (nmR (fil (aP m) i))]]),(5,.adr (.r 10080) 0 0),(10080,.blk 1 [[.own 1 (boR (d8 m m.s.length))]]),(10,.mrf 11104),(11104,.mp 3 1 (sdK (fce m i) k++bX m i) (List.replicate k (.bool true)++b5 m i)),(11,.ref (.r 10176) 0 (fil (av m) i).length),(10176,.blk 6 (trR m (fil (av m) i))),(12,.int .i64 i),(13,.adr (.r 10208) 0 0),(10208,.blk 4 [bz (fce m i)]),(15,.adr (.r 10240) 0 0),(10240,.blk 6 [cd (aQ m (fce m i))]),(71,slx m.fn (m.f.map bz)),(72,.int .i64 m.f.length),(73,.int .i64 i),(159,.int .i64 k)]:=_root_.id rfl
def fnR (l : List (Int × List UInt8)) : List (List D):=l.map fnD
@[simp] theorem KU (l : List (Int × List UInt8)) : (fnR l).length=l.length:=by simp [fnR]
@[simp] theorem fF (l : List (Int × List UInt8)) : List.take l.length (fnR l)=fnR l:=List.take_of_length_le (by simp)
@[simp] theorem PV (l : List (Int × List UInt8)) : List.map (fun e=>List.map a6 e) (fnR l)=fnR l:=by simp [fnR,fnD]
theorem f4 (l : List (Int × List UInt8)) (k : Int) (s : List UInt8) : fnR l++[[.int .i64 k,.str s]]=fnR (l++[(k,s)]):=by simp [fnR,fnD]
@[simp] theorem KV : fnR []=[]:=rfl
def EX (L1 L2 L3 L4 L5 L6 : List Nat) : D:=.agx [.ref (.n 10064 0 0) 0 0,.ref (.n 10064 0 1) 0 L1.length,.ref (.n 10064 0 2) 0 L2.length,.ref (.n 10064 0 3) 0 L3.length,.ref (.n 10064 0 4) 0 L4.length,.ref (.n 10064 0 5) 0 L5.length,.ref (.n 10064 0 6) 0 L6.length]
theorem aJ (L1 L2 L3 L4 L5 L6 : List Nat) : EX L1 L2 L3 L4 L5 L6=.agx [.ref (.n 10064 0 0) 0 0,.ref (.n 10064 0 1) 0 L1.length,.ref (.n 10064 0 2) 0 L2.length,.ref (.n 10064 0 3) 0 L3.length,.ref (.n 10064 0 4) 0 L4.length,.ref (.n 10064 0 5) 0 L5.length,.ref (.n 10064 0 6) 0 L6.length]:=_root_.id rfl
def E8 (L1 L2 L3 L4 L5 L6 : List Nat) : D:=.blk 7 [[.own 1 [],.own 1 (nmR L1),.own 1 (nmR L2),.own 1 (nmR L3),.own 1 (nmR L4),.own 1 (nmR L5),.own 1 (nmR L6)]]
theorem aZ (L1 L2 L3 L4 L5 L6 : List Nat) : E8 L1 L2 L3 L4 L5 L6=.blk 7 [[.own 1 [],.own 1 (nmR L1),.own 1 (nmR L2),.own 1 (nmR L3),.own 1 (nmR L4),.own 1 (nmR L5),.own 1 (nmR L6)]]:=_root_.id rfl
theorem cm (dec : Nat -> List UInt8) : ∀ (a b : List (List Nat)) (k : Nat),cj dec k (a++b)=cj dec k a++cj dec (k + a.length) b
 | [],b,k=>by simp [cj]
 | x::a,b,k=>by
  have:=cm dec a b (k + 1)
  simp only [List.cons_append,cj,this,List.append_assoc,List.length_cons]
  rw [show k + 1 + a.length=k + (a.length + 1) by omega]
def tkD (dec : Nat -> List UInt8) (k : Int) (L : List Nat) (j : Nat) : List (Int × List UInt8):=(L.take j).map fun i=>(k,dec i)
theorem eU (dec : Nat -> List UInt8) (k : Int) (L : List Nat) : tkD dec k L 0=[]:=by simp [tkD]
theorem fT (dec : Nat -> List UInt8) (k : Int) (L : List Nat) {j : Nat} (h : j < L.length) : tkD dec k L (j + 1)=tkD dec k L j++[(k,dec L[j])]:=by
 unfold tkD
 rw [List.take_add_one,List.getElem?_eq_getElem h,List.map_append]
 rfl
theorem iw (dec : Nat -> List UInt8) (k : Int) (L : List Nat) {j : Nat} (h : j <= L.length) : (tkD dec k L j).length=j:=by simp [tkD];omega
theorem iv (dec : Nat -> List UInt8) (k : Int) (L : List Nat) : tkD dec k L L.length=L.map fun i=>(k,dec i):=by simp [tkD]
def xO (m : Msh) (i : Nat) : Env:=[(1,.ptr (bk m)),(4,.adr (.r 10064) 0 0),(10064,.blk 7 [[.own 1 [],.own 1 (nmR (fil (cI m) m.s.length)),.own 1 (nmR (fil (bR m) m.s.length)),.own 1 (nmR (fil (db m) i)),.own 1 (nmR (fil (ce m) i)),.own 1 (nmR (fil (bP m) i)),.own 1 (nmR (fil (aP m) i))]]),(5,.adr (.r 10080) 0 0),(10080,.blk 1 [[.own 1 (boR (d8 m m.s.length))]]),(10,.mrf 11104),(11104,.mp 3 1 (bX m i) (b5 m i)),(11,.ref (.r 10176) 0 (fil (av m) i).length),(10176,.blk 6 (trR m (fil (av m) i))),(71,slx m.fn (m.f.map bz)),(72,.int .i64 m.f.length),(73,.int .i64 i)]
theorem cR (m : Msh) (i : Nat) : xO m i=[(1,.ptr (bk m)),(4,.adr (.r 10064) 0 0),(10064,.blk 7 [[.own 1 [],.own 1 (nmR (fil (cI m) m.s.length)),.own 1 (nmR (fil (bR m) m.s.length)),.own 1 (nmR (fil (db m) i)),.own 1 (nmR (fil (ce m) i)),.own 1 (nmR (fil (bP m) i)),.own 1 (nmR (fil (aP m) i))]]),(5,.adr (.r 10080) 0 0),(10080,.blk 1 [[.own 1 (boR (d8 m m.s.length))]]),(10,.mrf 11104),(11104,.mp 3 1 (bX m i) (b5 m i)),(11,.ref (.r 10176) 0 (fil (av m) i).length),(10176,.blk 6 (trR m (fil (av m) i))),(71,slx m.fn (m.f.map bz)),(72,.int .i64 m.f.length),(73,.int .i64 i)]:=_root_.id rfl
variable {C : CC} (hC : aI prog C)
include hC
set_option maxHeartbeats 4000000 in
theorem u5 (dec : Nat -> List UInt8) (hI : ∀ n : Nat,n < 100 -> C 127 [.int .i64 n] (.str (dec n)) []) (m : Msh) (hs : m.s.length <= 100) (hf : m.f.length <= 100) : C 273 [.agg (bk m)] (.tup [.sl ((cj dec 0 (LL m)).map fnD),.int .i64 0]) []:=by
 have ksm:=oD hC m
 rw [decide_eq_true (show m.s.length <= 2000 by omega),decide_eq_true (show m.f.length <= 4000 by omega)] at ksm
 have kr:=fun s=>tJ hC s
 have kp:=fun i h=>i9 hC m i h
 refine aT hC (nf:=N273) rfl rfl ?_
 simp only [ae] at ksm
 simp [N273,ae]
 refine aa ksm (.inl rfl) ?_
 simp
 refine ⟨by omega,?_⟩
 refine ay Nat (fun i=>xN m i) (fun i=>i <= m.s.length) (fun i=>m.s.length - i) 0 (by simp) (by simp [gx,ae,iZ,iz,jX,th]) ?_
 rintro i hi
 simp [gx,ae]
 refine am (fun g1=>?_) (fun g1=>?_) <;> simp at g1 <;> simp [g1]
 ·have hw : IntKind.wrap .i64 ((i : Int) + 1)=((i + 1 : Nat) : Int):=aj (by omega) (by omega)
  have kri:=kr (spt m i)
  simp only [b8] at kri
  simp [b8]
  refine aa kri (.inl rfl) ?_
  simp [iX,g1]
  refine ⟨al (by decide +kernel),?_⟩
  rw [rh m g1]
  rw [ng]
  simp [iX,g1,vE]
  have kpi:=kp i g1
  simp only [ae] at kpi
  have hr:=nG (s:=spt m i)
  cases hr1 : aU (spt m i)
  ·have e1:=ij (p:=cI m) (n:=i) (by simp [cI,hr1])
   have e2:=ek (p:=bR m) (n:=i) (by simp [bR,hr1])
   have e3 : iz m (i + 1)=iz m i:=by simp [iz,hr1]
   have e4 : jX m (i + 1)=jX m i:=by simp [jX,hr1]
   simp [hw]
   refine ⟨by have:=aG (cI m) i;omega,i + 1,by omega,by omega,?_⟩
   simp [gx,ae,e1,<- e2,e3,e4,<- ng]
  ·have hp:=fu (hr hr1)
   have e2:=ek (p:=cI m) (n:=i) (by simp [cI,hr1])
   have e3 : iz m (i + 1)=.agg (ptD (fw m i))::iz m i:=by simp [iz,hr1]
   have e4 : jX m (i + 1)=.bool true::jX m i:=by simp [jX,hr1]
   have kg:=pQ m (fw m i) i
   have kl:=oK m i
   have hml : maxLen=9223372036854775807:=rfl
   simp [ae]
   refine aa kpi (.inl rfl) ?_
   simp [ptD,ptS,fw] at kg hp
   simp [ptD,ptS,kg]
   refine ⟨⟨by omega,by omega⟩,?_⟩
   have hsame : ((List.range i).any fun k=>aU (spt m k) && (decide ((spt m k).x=(spt m i).x) && decide ((spt m k).y=(spt m i).y)))=bR m i:=by
    simp [bR,hr1,fw,ptS]
   rw [hsame]
   cases hs1 : bR m i
   ·have e1:=ek (p:=bR m) (n:=i) hs1
    simp [hw]
    refine ⟨by omega,⟨by omega,by omega⟩,i + 1,by omega,by omega,?_⟩
    simp [gx,ae,<- e1,<- e2,e3,e4,<- ng,ptD,fw,ptS]
   ·have e1:=ij (p:=bR m) (n:=i) hs1
    simp [hw]
    refine ⟨by have:=aG (bR m) i;omega,by omega,⟨by omega,by omega⟩,i + 1,by omega,by omega,?_⟩
    simp [gx,ae,e1,<- e2,e3,e4,<- ng,ptD,fw,ptS]
 ·have hi2 : i=m.s.length:=by omega
  subst hi2
  refine ay Nat (fun i=>xO m i) (fun i=>i <= m.f.length) (fun i=>m.f.length - i) 0 (by simp) (by simp [cR,ae,iZ,bX,b5]) ?_
  clear hi g1 kr kp ksm
  rintro i hi
  simp [cR,ae]
  refine am (fun g1=>?_) (fun g1=>?_) <;> simp at g1 <;> simp [g1]
  ·have hw : IntKind.wrap .i64 ((i : Int) + 1)=((i + 1 : Nat) : Int):=aj (by omega) (by omega)
   have kc:=lD hC (fce m i)
   have k1:=tw hC (b:=false) (xs:=[(fce m i).a,(fce m i).b,(fce m i).c]) (g:=306) (cs:=[.ptr (bk m),.ptr [.sl (boR (d8 m m.s.length))]]) (fun k=>!(fL m.s.length k && aU (spt m k.toNat))) (by simp) (fun x _=>y9 hC m x (by omega))
   simp only [ae,aD] at kc k1
   simp at k1
   simp [aD]
   refine aa kc (.inl rfl) ?_
   simp [bZ]
   obtain ⟨v,hv⟩ : ∃ v,v=(!fL m.s.length (fce m i).a || !aU (spt m (fce m i).a.toNat) || (!fL m.s.length (fce m i).b || !aU (spt m (fce m i).b.toNat) || (!fL m.s.length (fce m i).c || !aU (spt m (fce m i).c.toNat)))):=⟨_,rfl⟩
   rw [<- hv] at k1
   refine aa k1 (.inl rfl) ?_
   have E : db m i=!(okF m (fce m i)):=rfl
   have E2 : okF m (fce m i)=(okc m (fce m i).a (fce m i).b && okc m (fce m i).b (fce m i).c && okc m (fce m i).c (fce m i).a && decide (0 <= (fce m i).k) && decide ((fce m i).k < 16)):=rfl
   have E3 : ∀ a b : Int,okc m a b=(fL m.s.length a && decide (a ≠ b) && aU (spt m a.toNat)):=fun a b=>rfl
   have bad : db m i=true -> nmR (fil (db m) i)++[[D.int .i64 i]]=nmR (fil (db m) (i + 1)) /\ nmR (fil (ce m) i)=nmR (fil (ce m) (i + 1)) /\ nmR (fil (bP m) i)=nmR (fil (bP m) (i + 1)) /\ nmR (fil (aP m) i)=nmR (fil (aP m) (i + 1)) /\ fil (av m) (i + 1)=fil (av m) i /\ bX m (i + 1)=bX m i /\ b5 m (i + 1)=b5 m i:=fun h=>by
    have h0 : okF m (fce m i)=false:=by rw [E] at h;simpa using h
    have h1 : av m i=false:=by simp [av,h0]
    exact ⟨ij h,ek (by simp [ce,h0]),ek (by simp [bP,h1]),ek (by simp [aP,h1]),jJ h1,by simp [bX,h1],by simp [b5,h1]⟩
   cases v
   rotate_left
   ·obtain ⟨e1,e2,e3,e4,e5,e6,e7⟩:=bad (by
     rw [E,E2,E3,E3,E3]
     revert hv
     cases fL m.s.length (fce m i).a <;> cases aU (spt m (fce m i).a.toNat) <;> cases fL m.s.length (fce m i).b <;> cases aU (spt m (fce m i).b.toNat) <;> cases fL m.s.length (fce m i).c <;> cases aU (spt m (fce m i).c.toNat) <;> simp)
    simp [hw]
    refine ⟨by have:=aG (db m) i;omega,i + 1,by omega,by omega,?_⟩
    simp [cR,ae,e1,<- e2,<- e3,<- e4,e5,e6,e7]
   by_cases c1 : (fce m i).a=(fce m i).b
   ·obtain ⟨e1,e2,e3,e4,e5,e6,e7⟩:=bad (by
     rw [E,E2,E3,E3,E3]
     rw [decide_eq_false (show ¬ (fce m i).a ≠ (fce m i).b by omega)];simp)
    simp [c1,hw]
    refine ⟨by have:=aG (db m) i;omega,i + 1,by omega,by omega,?_⟩
    simp [cR,ae,e1,<- e2,<- e3,<- e4,e5,e6,e7]
   by_cases c2 : (fce m i).b=(fce m i).c
   ·obtain ⟨e1,e2,e3,e4,e5,e6,e7⟩:=bad (by
     rw [E,E2,E3,E3,E3]
     rw [decide_eq_false (show ¬ (fce m i).b ≠ (fce m i).c by omega)];simp)
    simp [(show ¬ (fce m i).a=(fce m i).c by rw [<- c2];exact c1),c2,hw]
    refine ⟨by have:=aG (db m) i;omega,i + 1,by omega,by omega,?_⟩
    simp [cR,ae,e1,<- e2,<- e3,<- e4,e5,e6,e7]
   by_cases c3 : (fce m i).c=(fce m i).a
   ·obtain ⟨e1,e2,e3,e4,e5,e6,e7⟩:=bad (by
     rw [E,E2,E3,E3,E3]
     rw [decide_eq_false (show ¬ (fce m i).c ≠ (fce m i).a by omega)];simp)
    simp [c1,c2,hw]
    refine am (fun _=>?_) (fun h=>by simp [c3] at h)
    simp [hw]
    refine ⟨by have:=aG (db m) i;omega,i + 1,by omega,by omega,?_⟩
    simp [cR,ae,e1,<- e2,<- e3,<- e4,e5,e6,e7]
   have c3' : ¬ (fce m i).a=(fce m i).c:=fun h=>c3 h.symm
   by_cases c4 : (fce m i).k < 0
   ·obtain ⟨e1,e2,e3,e4,e5,e6,e7⟩:=bad (by
     rw [E,E2,E3,E3,E3]
     rw [decide_eq_false (show ¬ 0 <= (fce m i).k by omega)];simp)
    simp [c1,c2,c3,c3',c4,hw]
    refine ⟨by have:=aG (db m) i;omega,i + 1,by omega,by omega,?_⟩
    simp [cR,ae,e1,<- e2,<- e3,<- e4,e5,e6,e7]
   by_cases c5 : 16 <= (fce m i).k
   ·obtain ⟨e1,e2,e3,e4,e5,e6,e7⟩:=bad (by
     rw [E,E2,E3,E3,E3]
     rw [decide_eq_false (show ¬ (fce m i).k < 16 by omega)];simp)
    simp [c1,c2,c3,c3',c4,c5,hw]
    refine ⟨by have:=aG (db m) i;omega,i + 1,by omega,by omega,?_⟩
    simp [cR,ae,e1,<- e2,<- e3,<- e4,e5,e6,e7]
   have ok : okF m (fce m i)=true:=by
    rw [E2,E3,E3,E3]
    simp only [Bool.and_eq_true,decide_eq_true_eq]
    have h:=hv.symm
    simp only [Bool.or_eq_false_iff,Bool.not_eq_false'] at h
    exact ⟨⟨⟨⟨⟨⟨h.1.1,c1⟩,h.1.2⟩,⟨h.2.1.1,c2⟩,h.2.1.2⟩,⟨h.2.2.1,c3⟩,h.2.2.2⟩,by omega⟩,by omega⟩
   have nbad : db m i=false:=by rw [E,ok];rfl
   have b1:=ek nbad
   have hT:=cF ok
   have kt:=AJ hC m (fce m i) (ik ok)
   have kn : C 308 [.agg (ptD (aQ m (fce m i)).1),.agg (ptD (aQ m (fce m i)).2.1),.agg (ptD (aQ m (fce m i)).2.2)] (.int .i64 (jv (aQ m (fce m i)))) []:=by
    have h:=hT
    simp only [okT,Bool.and_eq_true] at h
    exact qv hC h.1.1 h.1.2 h.2
   have ks:=fun k h=>nz hC (fce m i) k h
   have ks0:=ks 0 (by omega)
   have ks1:=ks 1 (by omega)
   have ks2:=ks 2 (by omega)
   have kg:=fun j=>qf m (crn (fce m i) j) (crn (fce m i) (j + 1)) i
   have kg : ∀ j,(cX (bX m i) (b5 m i) (.agg [.int .i64 (crn (fce m i) j),.int .i64 (crn (fce m i) (j + 1))])).getD (.bool false)=.bool (gJ m i j):=kg
   have kg0:=kg 0
   have kg1:=kg 1
   have kg2:=kg 2
   simp [c1,c2,c3,c3',c4,c5]
   simp only [ae,aD] at kt
   refine aa kt (.inl rfl) ?_
   simp [cd]
   simp only [ptD] at kn
   refine aa kn (.inl rfl) ?_
   simp
   refine am (fun d1=>?_) (fun d1=>?_) <;> simp at d1
   ·have hfl : ce m i=true:=by simp [ce,ok,d1]
    have hsn : av m i=false:=by simp [av,ok];omega
    have e1:=ij hfl
    have e2:=ek (p:=bP m) (n:=i) (by simp [bP,hsn])
    have e3:=ek (p:=aP m) (n:=i) (by simp [aP,hsn])
    have e5:=jJ hsn
    have e6 : bX m (i + 1)=bX m i:=by simp [bX,hsn]
    have e7 : b5 m (i + 1)=b5 m i:=by simp [b5,hsn]
    simp [d1,hw]
    refine ⟨by have:=aG (ce m) i;omega,i + 1,by omega,by omega,?_⟩
    simp [cR,ae,e1,<- e2,<- e3,<- b1,e5,e6,e7]
   ·have hfl : ce m i=false:=by simp [ce,ok];omega
    have hsn : av m i=true:=by simp [av,ok,d1]
    have b2:=ek hfl
    have hsd:=ut hsn
    simp only [aD] at ks ks0 ks1 ks2
    simp at ks0 ks1 ks2 kg0 kg1 kg2
    simp [Int.not_le.2 d1]
    refine aa ks0 (.inl rfl) ?_
    simp [kg0]
    have cb:=fun j=>pg (ik ok) j
    have cb0:=cb 0
    have cb1:=cb 1
    have cb2:=cb 2
    have cb3:=cb 3
    refine ⟨⟨by omega,by omega⟩,?_⟩
    have yes : bP m i=true -> nmR (fil (bP m) i)++[[D.int .i64 i]]=nmR (fil (bP m) (i + 1)):=ij
    have nos : bP m i=false -> nmR (fil (bP m) i)=nmR (fil (bP m) (i + 1)):=ek
    have lsd:=aG (bP m) i
    have kT:=cJ hC (b:=false) (xs:=(fil (av m) i).map fun k=>aQ m (fce m k)) (g:=310) (cs:=[.ptr (cd (aQ m (fce m i)))]) (fun o=>ovT (aQ m (fce m i)) o) (by have:=aG (av m) i;simp;omega) (fun x hx=>by
     obtain ⟨k,hk,rfl⟩:=List.mem_map.1 hx
     have hk:=(dG hk).2
     simp only [av,Bool.and_eq_true] at hk
     exact d7 hC hT (cF hk.1))
    rw [<- eq,List.any_map] at kT
    have hov : (fil (av m) i).any ((fun o=>ovT (aQ m (fce m i)) o) ∘ fun k=>aQ m (fce m k))=aP m i:=by
     rw [fil,List.any_filter,aP,hsn]
     rfl
    rw [hov] at kT
    rw [cr] at kT
    have tl:=cA m i
    have hml : maxLen=9223372036854775807:=rfl
    have e5:=dg hsn
    have e6 : bX m (i + 1)=sdK (fce m i) 3++bX m i:=by simp [bX,hsn]
    have e7 : b5 m (i + 1)=.bool true::.bool true::.bool true::b5 m i:=by
     rw [b5,if_pos hsn];rfl
    have e8 : (fil (av m) (i + 1)).length=(fil (av m) i).length + 1:=by rw [cu hsn];simp
    have l8:=aG (av m) i
    have lov:=aG (aP m) i
    have kT:=cJ hC (b:=false) (xs:=(fil (av m) i).map fun k=>aQ m (fce m k)) (g:=310) (cs:=[.ptr (cd (aQ m (fce m i)))]) (fun o=>ovT (aQ m (fce m i)) o) (by have:=aG (av m) i;simp;omega) (fun x hx=>by
     obtain ⟨k,hk,rfl⟩:=List.mem_map.1 hx
     have hk:=(dG hk).2
     simp only [av,Bool.and_eq_true] at hk
     exact d7 hC hT (cF hk.1))
    rw [<- eq,List.any_map] at kT
    have hov : (fil (av m) i).any ((fun o=>ovT (aQ m (fce m i)) o) ∘ fun k=>aQ m (fce m k))=aP m i:=by
     rw [fil,List.any_filter,aP,hsn]
     rfl
    rw [hov] at kT
    rw [cr] at kT
    have tl:=cA m i
    have hml : maxLen=9223372036854775807:=rfl
    have e5:=dg hsn
    have e6 : bX m (i + 1)=sdK (fce m i) 3++bX m i:=by simp [bX,hsn]
    have e7 : b5 m (i + 1)=.bool true::.bool true::.bool true::b5 m i:=by
     rw [b5,if_pos hsn];rfl
    have e8 : (fil (av m) (i + 1)).length=(fil (av m) i).length + 1:=by rw [cu hsn];simp
    have l8:=aG (av m) i
    have lov:=aG (aP m) i
    have kT:=cJ hC (b:=false) (xs:=(fil (av m) i).map fun k=>aQ m (fce m k)) (g:=310) (cs:=[.ptr (cd (aQ m (fce m i)))]) (fun o=>ovT (aQ m (fce m i)) o) (by have:=aG (av m) i;simp;omega) (fun x hx=>by
     obtain ⟨k,hk,rfl⟩:=List.mem_map.1 hx
     have hk:=(dG hk).2
     simp only [av,Bool.and_eq_true] at hk
     exact d7 hC hT (cF hk.1))
    rw [<- eq,List.any_map] at kT
    have hov : (fil (av m) i).any ((fun o=>ovT (aQ m (fce m i)) o) ∘ fun k=>aQ m (fce m k))=aP m i:=by
     rw [fil,List.any_filter,aP,hsn]
     rfl
    rw [hov] at kT
    rw [cr] at kT
    have tl:=cA m i
    have hml : maxLen=9223372036854775807:=rfl
    have e5:=dg hsn
    have e6 : bX m (i + 1)=sdK (fce m i) 3++bX m i:=by simp [bX,hsn]
    have e7 : b5 m (i + 1)=.bool true::.bool true::.bool true::b5 m i:=by
     rw [b5,if_pos hsn];rfl
    have e8 : (fil (av m) (i + 1)).length=(fil (av m) i).length + 1:=by rw [cu hsn];simp
    have l8:=aG (av m) i
    have lov:=aG (aP m) i
    have kT:=cJ hC (b:=false) (xs:=(fil (av m) i).map fun k=>aQ m (fce m k)) (g:=310) (cs:=[.ptr (cd (aQ m (fce m i)))]) (fun o=>ovT (aQ m (fce m i)) o) (by have:=aG (av m) i;simp;omega) (fun x hx=>by
     obtain ⟨k,hk,rfl⟩:=List.mem_map.1 hx
     have hk:=(dG hk).2
     simp only [av,Bool.and_eq_true] at hk
     exact d7 hC hT (cF hk.1))
    rw [<- eq,List.any_map] at kT
    have hov : (fil (av m) i).any ((fun o=>ovT (aQ m (fce m i)) o) ∘ fun k=>aQ m (fce m k))=aP m i:=by
     rw [fil,List.any_filter,aP,hsn]
     rfl
    rw [hov] at kT
    rw [cr] at kT
    have tl:=cA m i
    have hml : maxLen=9223372036854775807:=rfl
    have e5:=dg hsn
    have e6 : bX m (i + 1)=sdK (fce m i) 3++bX m i:=by simp [bX,hsn]
    have e7 : b5 m (i + 1)=.bool true::.bool true::.bool true::b5 m i:=by
     rw [b5,if_pos hsn];rfl
    have e8 : (fil (av m) (i + 1)).length=(fil (av m) i).length + 1:=by rw [cu hsn];simp
    have l8:=aG (av m) i
    have lov:=aG (aP m) i
    have kT:=cJ hC (b:=false) (xs:=(fil (av m) i).map fun k=>aQ m (fce m k)) (g:=310) (cs:=[.ptr (cd (aQ m (fce m i)))]) (fun o=>ovT (aQ m (fce m i)) o) (by have:=aG (av m) i;simp;omega) (fun x hx=>by
     obtain ⟨k,hk,rfl⟩:=List.mem_map.1 hx
     have hk:=(dG hk).2
     simp only [av,Bool.and_eq_true] at hk
     exact d7 hC hT (cF hk.1))
    rw [<- eq,List.any_map] at kT
    have hov : (fil (av m) i).any ((fun o=>ovT (aQ m (fce m i)) o) ∘ fun k=>aQ m (fce m k))=aP m i:=by
     rw [fil,List.any_filter,aP,hsn]
     rfl
    rw [hov] at kT
    rw [cr] at kT
    have tl:=cA m i
    have hml : maxLen=9223372036854775807:=rfl
    have e5:=dg hsn
    have e6 : bX m (i + 1)=sdK (fce m i) 3++bX m i:=by simp [bX,hsn]
    have e7 : b5 m (i + 1)=.bool true::.bool true::.bool true::b5 m i:=by
     rw [b5,if_pos hsn];rfl
    have e8 : (fil (av m) (i + 1)).length=(fil (av m) i).length + 1:=by rw [cu hsn];simp
    have l8:=aG (av m) i
    have lov:=aG (aP m) i
    have kT:=cJ hC (b:=false) (xs:=(fil (av m) i).map fun k=>aQ m (fce m k)) (g:=310) (cs:=[.ptr (cd (aQ m (fce m i)))]) (fun o=>ovT (aQ m (fce m i)) o) (by have:=aG (av m) i;simp;omega) (fun x hx=>by
     obtain ⟨k,hk,rfl⟩:=List.mem_map.1 hx
     have hk:=(dG hk).2
     simp only [av,Bool.and_eq_true] at hk
     exact d7 hC hT (cF hk.1))
    rw [<- eq,List.any_map] at kT
    have hov : (fil (av m) i).any ((fun o=>ovT (aQ m (fce m i)) o) ∘ fun k=>aQ m (fce m k))=aP m i:=by
     rw [fil,List.any_filter,aP,hsn]
     rfl
    rw [hov] at kT
    rw [cr] at kT
    have tl:=cA m i
    have hml : maxLen=9223372036854775807:=rfl
    have e5:=dg hsn
    have e6 : bX m (i + 1)=sdK (fce m i) 3++bX m i:=by simp [bX,hsn]
    have e7 : b5 m (i + 1)=.bool true::.bool true::.bool true::b5 m i:=by
     rw [b5,if_pos hsn];rfl
    have e8 : (fil (av m) (i + 1)).length=(fil (av m) i).length + 1:=by rw [cu hsn];simp
    have l8:=aG (av m) i
    have lov:=aG (aP m) i
    have kT:=cJ hC (b:=false) (xs:=(fil (av m) i).map fun k=>aQ m (fce m k)) (g:=310) (cs:=[.ptr (cd (aQ m (fce m i)))]) (fun o=>ovT (aQ m (fce m i)) o) (by have:=aG (av m) i;simp;omega) (fun x hx=>by
     obtain ⟨k,hk,rfl⟩:=List.mem_map.1 hx
     have hk:=(dG hk).2
     simp only [av,Bool.and_eq_true] at hk
     exact d7 hC hT (cF hk.1))
    rw [<- eq,List.any_map] at kT
    have hov : (fil (av m) i).any ((fun o=>ovT (aQ m (fce m i)) o) ∘ fun k=>aQ m (fce m k))=aP m i:=by
     rw [fil,List.any_filter,aP,hsn]
     rfl
    rw [hov] at kT
    rw [cr] at kT
    have tl:=cA m i
    have hml : maxLen=9223372036854775807:=rfl
    have e5:=dg hsn
    have e6 : bX m (i + 1)=sdK (fce m i) 3++bX m i:=by simp [bX,hsn]
    have e7 : b5 m (i + 1)=.bool true::.bool true::.bool true::b5 m i:=by
     rw [b5,if_pos hsn];rfl
    have e8 : (fil (av m) (i + 1)).length=(fil (av m) i).length + 1:=by rw [cu hsn];simp
    have l8:=aG (av m) i
    have lov:=aG (aP m) i
    have kT:=cJ hC (b:=false) (xs:=(fil (av m) i).map fun k=>aQ m (fce m k)) (g:=310) (cs:=[.ptr (cd (aQ m (fce m i)))]) (fun o=>ovT (aQ m (fce m i)) o) (by have:=aG (av m) i;simp;omega) (fun x hx=>by
     obtain ⟨k,hk,rfl⟩:=List.mem_map.1 hx
     have hk:=(dG hk).2
     simp only [av,Bool.and_eq_true] at hk
     exact d7 hC hT (cF hk.1))
    rw [<- eq,List.any_map] at kT
    have hov : (fil (av m) i).any ((fun o=>ovT (aQ m (fce m i)) o) ∘ fun k=>aQ m (fce m k))=aP m i:=by
     rw [fil,List.any_filter,aP,hsn]
     rfl
    rw [hov] at kT
    rw [cr] at kT
    have tl:=cA m i
    have hml : maxLen=9223372036854775807:=rfl
    have e5:=dg hsn
    have e6 : bX m (i + 1)=sdK (fce m i) 3++bX m i:=by simp [bX,hsn]
    have e7 : b5 m (i + 1)=.bool true::.bool true::.bool true::b5 m i:=by
     rw [b5,if_pos hsn];rfl
    have e8 : (fil (av m) (i + 1)).length=(fil (av m) i).length + 1:=by rw [cu hsn];simp
    have l8:=aG (av m) i
    have lov:=aG (aP m) i
    have kT:=cJ hC (b:=false) (xs:=(fil (av m) i).map fun k=>aQ m (fce m k)) (g:=310) (cs:=[.ptr (cd (aQ m (fce m i)))]) (fun o=>ovT (aQ m (fce m i)) o) (by have:=aG (av m) i;simp;omega) (fun x hx=>by
     obtain ⟨k,hk,rfl⟩:=List.mem_map.1 hx
     have hk:=(dG hk).2
     simp only [av,Bool.and_eq_true] at hk
     exact d7 hC hT (cF hk.1))
    rw [<- eq,List.any_map] at kT
    have hov : (fil (av m) i).any ((fun o=>ovT (aQ m (fce m i)) o) ∘ fun k=>aQ m (fce m k))=aP m i:=by
     rw [fil,List.any_filter,aP,hsn]
     rfl
    rw [hov] at kT
    rw [cr] at kT
    have tl:=cA m i
    have hml : maxLen=9223372036854775807:=rfl
    have e5:=dg hsn
    have e6 : bX m (i + 1)=sdK (fce m i) 3++bX m i:=by simp [bX,hsn]
    have e7 : b5 m (i + 1)=.bool true::.bool true::.bool true::b5 m i:=by
     rw [b5,if_pos hsn];rfl
    have e8 : (fil (av m) (i + 1)).length=(fil (av m) i).length + 1:=by rw [cu hsn];simp
    have l8:=aG (av m) i
    have lov:=aG (aP m) i
    have kT:=cJ hC (b:=false) (xs:=(fil (av m) i).map fun k=>aQ m (fce m k)) (g:=310) (cs:=[.ptr (cd (aQ m (fce m i)))]) (fun o=>ovT (aQ m (fce m i)) o) (by have:=aG (av m) i;simp;omega) (fun x hx=>by
     obtain ⟨k,hk,rfl⟩:=List.mem_map.1 hx
     have hk:=(dG hk).2
     simp only [av,Bool.and_eq_true] at hk
     exact d7 hC hT (cF hk.1))
    rw [<- eq,List.any_map] at kT
    have hov : (fil (av m) i).any ((fun o=>ovT (aQ m (fce m i)) o) ∘ fun k=>aQ m (fce m k))=aP m i:=by
     rw [fil,List.any_filter,aP,hsn]
     rfl
    rw [hov] at kT
    rw [cr] at kT
    have tl:=cA m i
    have hml : maxLen=9223372036854775807:=rfl
    have e5:=dg hsn
    have e6 : bX m (i + 1)=sdK (fce m i) 3++bX m i:=by simp [bX,hsn]
    have e7 : b5 m (i + 1)=.bool true::.bool true::.bool true::b5 m i:=by
     rw [b5,if_pos hsn];rfl
    have e8 : (fil (av m) (i + 1)).length=(fil (av m) i).length + 1:=by rw [cu hsn];simp
    have l8:=aG (av m) i
    have lov:=aG (aP m) i
    have kT:=cJ hC (b:=false) (xs:=(fil (av m) i).map fun k=>aQ m (fce m k)) (g:=310) (cs:=[.ptr (cd (aQ m (fce m i)))]) (fun o=>ovT (aQ m (fce m i)) o) (by have:=aG (av m) i;simp;omega) (fun x hx=>by
     obtain ⟨k,hk,rfl⟩:=List.mem_map.1 hx
     have hk:=(dG hk).2
     simp only [av,Bool.and_eq_true] at hk
     exact d7 hC hT (cF hk.1))
    rw [<- eq,List.any_map] at kT
    have hov : (fil (av m) i).any ((fun o=>ovT (aQ m (fce m i)) o) ∘ fun k=>aQ m (fce m k))=aP m i:=by
     rw [fil,List.any_filter,aP,hsn]
     rfl
    rw [hov] at kT
    rw [cr] at kT
    have tl:=cA m i
    have hml : maxLen=9223372036854775807:=rfl
    have e5:=dg hsn
    have e6 : bX m (i + 1)=sdK (fce m i) 3++bX m i:=by simp [bX,hsn]
    have e7 : b5 m (i + 1)=.bool true::.bool true::.bool true::b5 m i:=by
     rw [b5,if_pos hsn];rfl
    have e8 : (fil (av m) (i + 1)).length=(fil (av m) i).length + 1:=by rw [cu hsn];simp
    have l8:=aG (av m) i
    have lov:=aG (aP m) i
    have kT:=cJ hC (b:=false) (xs:=(fil (av m) i).map fun k=>aQ m (fce m k)) (g:=310) (cs:=[.ptr (cd (aQ m (fce m i)))]) (fun o=>ovT (aQ m (fce m i)) o) (by have:=aG (av m) i;simp;omega) (fun x hx=>by
     obtain ⟨k,hk,rfl⟩:=List.mem_map.1 hx
     have hk:=(dG hk).2
     simp only [av,Bool.and_eq_true] at hk
     exact d7 hC hT (cF hk.1))
    rw [<- eq,List.any_map] at kT
    have hov : (fil (av m) i).any ((fun o=>ovT (aQ m (fce m i)) o) ∘ fun k=>aQ m (fce m k))=aP m i:=by
     rw [fil,List.any_filter,aP,hsn]
     rfl
    rw [hov] at kT
    rw [cr] at kT
    have tl:=cA m i
    have hml : maxLen=9223372036854775807:=rfl
    have e5:=dg hsn
    have e6 : bX m (i + 1)=sdK (fce m i) 3++bX m i:=by simp [bX,hsn]
    have e7 : b5 m (i + 1)=.bool true::.bool true::.bool true::b5 m i:=by
     rw [b5,if_pos hsn];rfl
    have e8 : (fil (av m) (i + 1)).length=(fil (av m) i).length + 1:=by rw [cu hsn];simp
    have l8:=aG (av m) i
    have lov:=aG (aP m) i
    rcases (by cases gJ m i 0 <;> cases gJ m i 1 <;> cases gJ m i 2 <;> simp : gJ m i 0=true \/ (gJ m i 0=false /\ gJ m i 1=true) \/ (gJ m i 0=false /\ gJ m i 1=false /\ gJ m i 2=true) \/ (gJ m i 0=false /\ gJ m i 1=false /\ gJ m i 2=false)) with h0 | ⟨h0,h1⟩ | ⟨h0,h1,h2⟩ | ⟨h0,h1,h2⟩
    have y:=yes (by rw [hsd,h0];rfl)
    simp [h0]
    refine ⟨by omega,?_⟩
    rw [y]
    refine ay Nat (fun k=>oa m i k) (fun k=>k <= 3) (fun k=>3 - k) 0 (by simp) (by simp [fA,ae,aD,cd,sdK]) ?_
    rotate_left
    have y:=yes (by rw [hsd,h0,h1];rfl)
    simp [h0]
    refine aa ks1 (.inl rfl) ?_
    simp [kg1,h1]
    refine ⟨⟨by omega,by omega⟩,by omega,?_⟩
    rw [y]
    refine ay Nat (fun k=>oa m i k) (fun k=>k <= 3) (fun k=>3 - k) 0 (by simp) (by simp [fA,ae,aD,cd,sdK]) ?_
    rotate_left
    have y:=yes (by rw [hsd,h0,h1,h2];rfl)
    simp [h0]
    refine aa ks1 (.inl rfl) ?_
    simp [kg1,h1]
    refine ⟨⟨by omega,by omega⟩,?_⟩
    refine aa ks2 (.inl rfl) ?_
    simp [kg2,h2]
    refine ⟨⟨by omega,by omega⟩,by omega,?_⟩
    rw [y]
    refine ay Nat (fun k=>oa m i k) (fun k=>k <= 3) (fun k=>3 - k) 0 (by simp) (by simp [fA,ae,aD,cd,sdK]) ?_
    rotate_left
    have y:=nos (by rw [hsd,h0,h1,h2];rfl)
    simp [h0]
    refine aa ks1 (.inl rfl) ?_
    simp [kg1,h1]
    refine ⟨⟨by omega,by omega⟩,?_⟩
    refine aa ks2 (.inl rfl) ?_
    simp [kg2,h2]
    refine ⟨⟨by omega,by omega⟩,?_⟩
    rw [y]
    refine ay Nat (fun k=>oa m i k) (fun k=>k <= 3) (fun k=>3 - k) 0 (by simp) (by simp [fA,ae,aD,cd,sdK]) ?_
    rotate_left
    all_goals
     clear y
     rintro k hk
     simp [fA,ae,aD,cd]
     refine am (fun g2=>?_) (fun g2=>?_) <;> simp at g2 <;> simp [g2]
     ·have hw2 : IntKind.wrap .i64 ((k : Int) + 1)=((k + 1 : Nat) : Int):=aj (by omega) (by omega)
      have ck:=cb k
      have ck1:=cb (k + 1)
      refine aa (ks k (by omega)) (.inl rfl) ?_
      simp [hw2,jq]
      refine ⟨by omega,⟨⟨by omega,by omega⟩,by omega,by omega⟩,k + 1,by omega,by omega,?_⟩
      simp [fA,ae,aD,cd,sdK,List.replicate_succ]
     ·have hk3 : k=3:=by omega
      subst hk3
      simp only [cd] at kT
      simp
      refine aa kT (.inl rfl) ?_
      simp
      simp only [cd] at e5
      cases hov2 : aP m i
      ·have e9:=ek hov2
       simp [hw]
       refine ⟨by omega,i + 1,by omega,by omega,?_⟩
       simp [cR,ae,<- b1,<- b2,<- e9,e5,e6,e7,e8]
      ·have e9:=ij hov2
       simp [hw]
       refine ⟨by omega,by omega,i + 1,by omega,by omega,?_⟩
       simp [cR,ae,<- b1,<- b2,e9,e5,e6,e7,e8]
  ·have hi2 : i=m.f.length:=by omega
   subst hi2
   have bd : ∀ (p : Nat -> Bool) (n : Nat),n <= 100 -> (fil p n).length <= 100 /\ ∀ x ∈ fil p n,x < 100:=fun p n hn=>⟨by have:=aG p n;omega,fun x hx=>by have:=(dG hx).1;omega⟩
   have q1:=bd (cI m) _ hs
   have q2:=bd (bR m) _ hs
   have q3:=bd (db m) _ hf
   have q4:=bd (ce m) _ hf
   have q5:=bd (bP m) _ hf
   have q6:=bd (aP m) _ hf
   have hLL : LL m=[[],fil (cI m) m.s.length,fil (bR m) m.s.length,fil (db m) m.f.length,fil (ce m) m.f.length,fil (bP m) m.f.length,fil (aP m) m.f.length]:=rfl
   rw [hLL]
   clear hLL bd
   generalize fil (cI m) m.s.length=L1 at *
   generalize fil (bR m) m.s.length=L2 at *
   generalize fil (db m) m.f.length=L3 at *
   generalize fil (ce m) m.f.length=L4 at *
   generalize fil (bP m) m.f.length=L5 at *
   generalize fil (aP m) m.f.length=L6 at *
   obtain ⟨AG,hAG⟩ : ∃ x,x=EX L1 L2 L3 L4 L5 L6:=⟨_,rfl⟩
   obtain ⟨BK,hBK⟩ : ∃ x,x=E8 L1 L2 L3 L4 L5 L6:=⟨_,rfl⟩
   obtain ⟨U,hU⟩ : ∃ U : Nat -> List (Int × List UInt8),U=fun k=>cj dec 0 (([([] : List Nat),L1,L2,L3,L4,L5,L6]).take k):=⟨_,rfl⟩
   have hU7 : U 7=cj dec 0 [[],L1,L2,L3,L4,L5,L6]:=by rw [hU];rfl
   have hU0 : U 0=[]:=by rw [hU];rfl
   have bdU : ∀ k (L : List Nat),L.length <= 100 -> (U k).length <= 100 * k -> (U k++L.map fun i=>((k : Int),dec i)).length <= 100 * (k + 1):=fun k L h1 h2=>by simp;omega
   have hU0s : U 1=U 0++(([] : List Nat)).map fun i=>((0 : Int),dec i):=by
    rw [hU];show cj dec 0 (([([] : List Nat),L1,L2,L3,L4,L5,L6]).take 0++[([] : List Nat)])=_
    rw [cm];simp [cj]
   have hU1s : U 2=U 1++(L1).map fun i=>((1 : Int),dec i):=by
    rw [hU];show cj dec 0 (([([] : List Nat),L1,L2,L3,L4,L5,L6]).take 1++[L1])=_
    rw [cm];simp [cj]
   have hU2s : U 3=U 2++(L2).map fun i=>((2 : Int),dec i):=by
    rw [hU];show cj dec 0 (([([] : List Nat),L1,L2,L3,L4,L5,L6]).take 2++[L2])=_
    rw [cm];simp [cj]
   have hU3s : U 4=U 3++(L3).map fun i=>((3 : Int),dec i):=by
    rw [hU];show cj dec 0 (([([] : List Nat),L1,L2,L3,L4,L5,L6]).take 3++[L3])=_
    rw [cm];simp [cj]
   have hU4s : U 5=U 4++(L4).map fun i=>((4 : Int),dec i):=by
    rw [hU];show cj dec 0 (([([] : List Nat),L1,L2,L3,L4,L5,L6]).take 4++[L4])=_
    rw [cm];simp [cj]
   have hU5s : U 6=U 5++(L5).map fun i=>((5 : Int),dec i):=by
    rw [hU];show cj dec 0 (([([] : List Nat),L1,L2,L3,L4,L5,L6]).take 5++[L5])=_
    rw [cm];simp [cj]
   have hU6s : U 7=U 6++(L6).map fun i=>((6 : Int),dec i):=by
    rw [hU];show cj dec 0 (([([] : List Nat),L1,L2,L3,L4,L5,L6]).take 6++[L6])=_
    rw [cm];simp [cj]
   have lU0 : (U 0).length <= 0:=by rw [hU0];simp
   have lU1 : (U 1).length <= 100:=by rw [hU0s];simp;omega
   have lU2 : (U 2).length <= 200:=by rw [hU1s];simp;omega
   have lU3 : (U 3).length <= 300:=by rw [hU2s];simp;omega
   have lU4 : (U 4).length <= 400:=by rw [hU3s];simp;omega
   have lU5 : (U 5).length <= 500:=by rw [hU4s];simp;omega
   have lU6 : (U 6).length <= 600:=by rw [hU5s];simp;omega
   rw [<- hU7]
   refine ay Nat (fun k=>[(17,.ref (.r 10272) 0 (U k).length),(10272,.blk 2 (fnR (U k))),(181,AG),(182,.int .i64 k),(10064,BK)]) (fun k=>k <= 7) (fun k=>7 - k) 0 (by simp) (by simp [hU0,hAG,hBK,aJ,aZ]) ?_
   rintro k hk
   rcases (by omega : k=0 \/ k=1 \/ k=2 \/ k=3 \/ k=4 \/ k=5 \/ k=6 \/ k=7) with rfl | rfl | rfl | rfl | rfl | rfl | rfl | rfl
   ·simp [hAG,aJ]
    refine ay Nat (fun j=>[(17,.ref (.r 10272) 0 ((U 0).length + j)),(10272,.blk 2 (fnR (U 0++tkD dec 0 ([] : List Nat) j))),(18,.int .i64 0),(181,AG),(182,.int .i64 0),(186,.ref (.n 10064 0 0) 0 (([] : List Nat)).length),(187,.int .i64 (([] : List Nat)).length),(188,.int .i64 j),(10064,BK)]) (fun j=>j <= (([] : List Nat)).length) (fun j=>(([] : List Nat)).length - j) 0 (by simp) (by simp [hAG,hBK,aJ,aZ,eU]) ?_
    rintro j hj
    simp [hAG,hBK,aJ,aZ]
    have hj0 : j=0:=by simpa using hj
    subst hj0
    simp [bm,hAG,hBK,aJ,aZ]
    refine ⟨1,by omega,by omega,?_⟩
    rw [hU0s]
    simp [tkD]
   ·simp [hAG,aJ]
    refine ay Nat (fun j=>[(17,.ref (.r 10272) 0 ((U 1).length + j)),(10272,.blk 2 (fnR (U 1++tkD dec 1 L1 j))),(18,.int .i64 1),(181,AG),(182,.int .i64 1),(186,.ref (.n 10064 0 1) 0 (L1).length),(187,.int .i64 (L1).length),(188,.int .i64 j),(10064,BK)]) (fun j=>j <= (L1).length) (fun j=>(L1).length - j) 0 (by simp) (by simp [hAG,hBK,aJ,aZ,eU]) ?_
    rintro j hj
    simp [hAG,hBK,aJ,aZ]
    refine am (fun g3=>?_) (fun g3=>?_) <;> simp at g3 <;> simp [g3,hAG,hBK,aJ,aZ]
    ·have hj2 : j < L1.length:=by omega
     have hw3 : IntKind.wrap .i64 ((j : Int) + 1)=((j + 1 : Nat) : Int):=aj (by omega) (by omega)
     have hi:=hI (L1[j]) (q1.2 _ (List.getElem_mem hj2))
     have ht:=fT dec 1 L1 hj2
     have hl:=iw dec 1 L1 (Nat.le_of_lt hj2)
     rw [eg L1]
     try simp [hj2]
     refine aa hi (.inl rfl) ?_
     simp
     refine ⟨by omega,by omega,j + 1,by omega,by omega,by omega,?_,?_,hw3,?_⟩
     ·have e : (U 1).length + j=(U 1++tkD dec 1 L1 j).length:=by simp [hl]
      rw [e,fF,f4,ht,List.append_assoc]
     ·rw [hAG,aJ]
     ·rw [hBK,aZ];simp only [eg]
    ·have hj2 : j=L1.length:=by omega
     subst hj2
     refine ⟨2,by omega,by omega,?_⟩
     rw [hU1s,iv]
     simp [hAG,hBK,aJ,aZ]
     decide
   ·simp [hAG,aJ]
    refine ay Nat (fun j=>[(17,.ref (.r 10272) 0 ((U 2).length + j)),(10272,.blk 2 (fnR (U 2++tkD dec 2 L2 j))),(18,.int .i64 2),(181,AG),(182,.int .i64 2),(186,.ref (.n 10064 0 2) 0 (L2).length),(187,.int .i64 (L2).length),(188,.int .i64 j),(10064,BK)]) (fun j=>j <= (L2).length) (fun j=>(L2).length - j) 0 (by simp) (by simp [hAG,hBK,aJ,aZ,eU]) ?_
    rintro j hj
    simp [hAG,hBK,aJ,aZ]
    refine am (fun g3=>?_) (fun g3=>?_) <;> simp at g3 <;> simp [g3,hAG,hBK,aJ,aZ]
    ·have hj2 : j < L2.length:=by omega
     have hw3 : IntKind.wrap .i64 ((j : Int) + 1)=((j + 1 : Nat) : Int):=aj (by omega) (by omega)
     have hi:=hI (L2[j]) (q2.2 _ (List.getElem_mem hj2))
     have ht:=fT dec 2 L2 hj2
     have hl:=iw dec 2 L2 (Nat.le_of_lt hj2)
     rw [eg L2]
     try simp [hj2]
     refine aa hi (.inl rfl) ?_
     simp
     refine ⟨by omega,by omega,j + 1,by omega,by omega,by omega,?_,?_,hw3,?_⟩
     ·have e : (U 2).length + j=(U 2++tkD dec 2 L2 j).length:=by simp [hl]
      rw [e,fF,f4,ht,List.append_assoc]
     ·rw [hAG,aJ]
     ·rw [hBK,aZ];simp only [eg]
    ·have hj2 : j=L2.length:=by omega
     subst hj2
     refine ⟨3,by omega,by omega,?_⟩
     rw [hU2s,iv]
     simp [hAG,hBK,aJ,aZ]
     decide
   ·simp [hAG,aJ]
    refine ay Nat (fun j=>[(17,.ref (.r 10272) 0 ((U 3).length + j)),(10272,.blk 2 (fnR (U 3++tkD dec 3 L3 j))),(18,.int .i64 3),(181,AG),(182,.int .i64 3),(186,.ref (.n 10064 0 3) 0 (L3).length),(187,.int .i64 (L3).length),(188,.int .i64 j),(10064,BK)]) (fun j=>j <= (L3).length) (fun j=>(L3).length - j) 0 (by simp) (by simp [hAG,hBK,aJ,aZ,eU]) ?_
    rintro j hj
    simp [hAG,hBK,aJ,aZ]
    refine am (fun g3=>?_) (fun g3=>?_) <;> simp at g3 <;> simp [g3,hAG,hBK,aJ,aZ]
    ·have hj2 : j < L3.length:=by omega
     have hw3 : IntKind.wrap .i64 ((j : Int) + 1)=((j + 1 : Nat) : Int):=aj (by omega) (by omega)
     have hi:=hI (L3[j]) (q3.2 _ (List.getElem_mem hj2))
     have ht:=fT dec 3 L3 hj2
     have hl:=iw dec 3 L3 (Nat.le_of_lt hj2)
     rw [eg L3]
     try simp [hj2]
     refine aa hi (.inl rfl) ?_
     simp
     refine ⟨by omega,by omega,j + 1,by omega,by omega,by omega,?_,?_,hw3,?_⟩
     ·have e : (U 3).length + j=(U 3++tkD dec 3 L3 j).length:=by simp [hl]
      rw [e,fF,f4,ht,List.append_assoc]
     ·rw [hAG,aJ]
     ·rw [hBK,aZ];simp only [eg]
    ·have hj2 : j=L3.length:=by omega
     subst hj2
     refine ⟨4,by omega,by omega,?_⟩
     rw [hU3s,iv]
     simp [hAG,hBK,aJ,aZ]
     decide
   ·simp [hAG,aJ]
    refine ay Nat (fun j=>[(17,.ref (.r 10272) 0 ((U 4).length + j)),(10272,.blk 2 (fnR (U 4++tkD dec 4 L4 j))),(18,.int .i64 4),(181,AG),(182,.int .i64 4),(186,.ref (.n 10064 0 4) 0 (L4).length),(187,.int .i64 (L4).length),(188,.int .i64 j),(10064,BK)]) (fun j=>j <= (L4).length) (fun j=>(L4).length - j) 0 (by simp) (by simp [hAG,hBK,aJ,aZ,eU]) ?_
    rintro j hj
    simp [hAG,hBK,aJ,aZ]
    refine am (fun g3=>?_) (fun g3=>?_) <;> simp at g3 <;> simp [g3,hAG,hBK,aJ,aZ]
    ·have hj2 : j < L4.length:=by omega
     have hw3 : IntKind.wrap .i64 ((j : Int) + 1)=((j + 1 : Nat) : Int):=aj (by omega) (by omega)
     have hi:=hI (L4[j]) (q4.2 _ (List.getElem_mem hj2))
     have ht:=fT dec 4 L4 hj2
     have hl:=iw dec 4 L4 (Nat.le_of_lt hj2)
     rw [eg L4]
     try simp [hj2]
     refine aa hi (.inl rfl) ?_
     simp
     refine ⟨by omega,by omega,j + 1,by omega,by omega,by omega,?_,?_,hw3,?_⟩
     ·have e : (U 4).length + j=(U 4++tkD dec 4 L4 j).length:=by simp [hl]
      rw [e,fF,f4,ht,List.append_assoc]
     ·rw [hAG,aJ]
     ·rw [hBK,aZ];simp only [eg]
    ·have hj2 : j=L4.length:=by omega
     subst hj2
     refine ⟨5,by omega,by omega,?_⟩
     rw [hU4s,iv]
     simp [hAG,hBK,aJ,aZ]
     decide
   ·simp [hAG,aJ]
    refine ay Nat (fun j=>[(17,.ref (.r 10272) 0 ((U 5).length + j)),(10272,.blk 2 (fnR (U 5++tkD dec 5 L5 j))),(18,.int .i64 5),(181,AG),(182,.int .i64 5),(186,.ref (.n 10064 0 5) 0 (L5).length),(187,.int .i64 (L5).length),(188,.int .i64 j),(10064,BK)]) (fun j=>j <= (L5).length) (fun j=>(L5).length - j) 0 (by simp) (by simp [hAG,hBK,aJ,aZ,eU]) ?_
    rintro j hj
    simp [hAG,hBK,aJ,aZ]
    refine am (fun g3=>?_) (fun g3=>?_) <;> simp at g3 <;> simp [g3,hAG,hBK,aJ,aZ]
    ·have hj2 : j < L5.length:=by omega
     have hw3 : IntKind.wrap .i64 ((j : Int) + 1)=((j + 1 : Nat) : Int):=aj (by omega) (by omega)
     have hi:=hI (L5[j]) (q5.2 _ (List.getElem_mem hj2))
     have ht:=fT dec 5 L5 hj2
     have hl:=iw dec 5 L5 (Nat.le_of_lt hj2)
     rw [eg L5]
     try simp [hj2]
     refine aa hi (.inl rfl) ?_
     simp
     refine ⟨by omega,by omega,j + 1,by omega,by omega,by omega,?_,?_,hw3,?_⟩
     ·have e : (U 5).length + j=(U 5++tkD dec 5 L5 j).length:=by simp [hl]
      rw [e,fF,f4,ht,List.append_assoc]
     ·rw [hAG,aJ]
     ·rw [hBK,aZ];simp only [eg]
    ·have hj2 : j=L5.length:=by omega
     subst hj2
     refine ⟨6,by omega,by omega,?_⟩
     rw [hU5s,iv]
     simp [hAG,hBK,aJ,aZ]
     decide
   ·simp [hAG,aJ]
    refine ay Nat (fun j=>[(17,.ref (.r 10272) 0 ((U 6).length + j)),(10272,.blk 2 (fnR (U 6++tkD dec 6 L6 j))),(18,.int .i64 6),(181,AG),(182,.int .i64 6),(186,.ref (.n 10064 0 6) 0 (L6).length),(187,.int .i64 (L6).length),(188,.int .i64 j),(10064,BK)]) (fun j=>j <= (L6).length) (fun j=>(L6).length - j) 0 (by simp) (by simp [hAG,hBK,aJ,aZ,eU]) ?_
    rintro j hj
    simp [hAG,hBK,aJ,aZ]
    refine am (fun g3=>?_) (fun g3=>?_) <;> simp at g3 <;> simp [g3,hAG,hBK,aJ,aZ]
    ·have hj2 : j < L6.length:=by omega
     have hw3 : IntKind.wrap .i64 ((j : Int) + 1)=((j + 1 : Nat) : Int):=aj (by omega) (by omega)
     have hi:=hI (L6[j]) (q6.2 _ (List.getElem_mem hj2))
     have ht:=fT dec 6 L6 hj2
     have hl:=iw dec 6 L6 (Nat.le_of_lt hj2)
     rw [eg L6]
     try simp [hj2]
     refine aa hi (.inl rfl) ?_
     simp
     refine ⟨by omega,by omega,j + 1,by omega,by omega,by omega,?_,?_,hw3,?_⟩
     ·have e : (U 6).length + j=(U 6++tkD dec 6 L6 j).length:=by simp [hl]
      rw [e,fF,f4,ht,List.append_assoc]
     ·rw [hAG,aJ]
     ·rw [hBK,aZ];simp only [eg]
    ·have hj2 : j=L6.length:=by omega
     subst hj2
     refine ⟨7,by omega,by omega,?_⟩
     rw [hU6s,iv]
     simp [hAG,hBK,aJ,aZ]
     decide
   ·simp [hAG,aJ]
    rfl
end Go.Gv

namespace Go.Gv
theorem d5 {m : Msh} (h : aE m=true) : m.s.length <= 2000 /\ m.f.length <= 4000:=by
 simp only [aE,cL,Bool.and_eq_true,decide_eq_true_eq] at h
 exact h.1
theorem jx {m : Msh} (h : aE m=true) : ∀ l ∈ LL m,l=[]:=by
 simp only [aE,Bool.and_eq_true,List.all_eq_true,decide_eq_true_eq] at h
 exact h.2
theorem nS {m : Msh} (h : aE m=true) {i : Nat} (hi : i < m.s.length) : aU (spt m i)=true:=by
 have:=kP.1 (jx h (fil (cI m) m.s.length) (by simp [LL])) i hi
 simpa [cI] using this
theorem kY {m : Msh} (h : aE m=true) {i : Nat} (hi : i < m.f.length) : okF m (fce m i)=true /\ 0 < jv (aQ m (fce m i)):=by
 have h1:=kP.1 (jx h (fil (db m) m.f.length) (by simp [LL])) i hi
 have h2:=kP.1 (jx h (fil (ce m) m.f.length) (by simp [LL])) i hi
 have h3 : okF m (fce m i)=true:=by simpa [db] using h1
 refine ⟨h3,?_⟩
 simp [ce,h3] at h2
 omega
theorem m8 {m : Msh} (h : aE m=true) {i : Nat} (hi : i < m.f.length) : av m i=true:=by
 have:=kY h hi
 simp [av,this]
theorem ma {m : Msh} (h : aE m=true) {i k : Nat} (hi : i < m.f.length) (hk : k < i) : gc (fce m i) (fce m k)=false:=by
 have h1:=kP.1 (jx h (fil (bP m) m.f.length) (by simp [LL])) i hi
 rw [bP,m8 h hi,Bool.true_and,List.any_eq_false] at h1
 have:=h1 k (List.mem_range.2 hk)
 rw [m8 h (by omega),Bool.true_and] at this
 simpa using this
theorem hD {m : Msh} (h : aE m=true) {i : Nat} (hi : i < m.f.length) : inS m (fce m i)=true:=ik (kY h hi).1
def bU (f : Fce) (a b : Int) : Bool:=(List.range 3).any fun j=>decide (crn f j=a) && decide (crn f (j + 1)=b)
def gZ (m : Msh) (a b : Int) : Int:=gM (fun f=>bU f a b) m.f
def nbF (m : Msh) (i k : Nat) : Int:=gZ m (crn (fce m i) (k + 1)) (crn (fce m i) k)
def i7 (p : Nat -> Bool) : Nat -> Option Nat
 | 0=>none
 | i + 1=>if p i then some i else i7 p i
theorem lC (p : Nat -> Bool) : ∀ n,(i7 p n=none /\ ∀ i,i < n -> p i=false) \/ ∃ i,i7 p n=some i /\ i < n /\ p i=true
 | 0=>.inl ⟨rfl,fun i h=>by omega⟩
 | n + 1=>by
  rw [i7]
  by_cases h : p n=true
  ·rw [if_pos h];exact .inr ⟨n,rfl,by omega,h⟩
  ·rw [if_neg h]
   rcases lC p n with ⟨h1,h2⟩ | ⟨i,h1,h2,h3⟩
   ·refine .inl ⟨h1,fun i hi=>?_⟩
    rcases Nat.lt_succ_iff_lt_or_eq.1 hi with h3 | rfl
    ·exact h2 i h3
    ·simpa using h
   ·exact .inr ⟨i,h1,by omega,h3⟩
theorem tK {f g : Fce} {a b : Int} (h1 : bU f a b=true) (h2 : bU g a b=true) : gc f g=true:=by
 simp only [bU,List.any_eq_true,List.mem_range,Bool.and_eq_true,decide_eq_true_eq] at h1 h2
 obtain ⟨i,hi,rfl,rfl⟩:=h1
 obtain ⟨j,hj,e1,e2⟩:=h2
 simp only [gc,List.any_eq_true,List.mem_range]
 exact ⟨i,hi,j,hj,by simp [mtc,e1,e2]⟩
theorem jL {m : Msh} (h : aE m=true) {i k : Nat} (hi : i < m.f.length) (hk : k < m.f.length) {a b : Int} (h1 : bU (fce m i) a b=true) (h2 : bU (fce m k) a b=true) : i=k:=by
 rcases Nat.lt_trichotomy i k with h3 | h3 | h3
 ·have:=ma h hk h3
  rw [tK h2 h1] at this;cases this
 ·exact h3
 ·have:=ma h hi h3
  rw [tK h1 h2] at this;cases this
theorem qe {m : Msh} (h : aE m=true) (a b : Int) : gZ m a b=match i7 (fun i=>bU (fce m i) a b) m.f.length with
  | some i=>(i : Int)
  | none=>-1:=by
 rcases lC (fun i=>bU (fce m i) a b) m.f.length with ⟨h1,h2⟩ | ⟨i,h1,h2,h3⟩
 ·rw [h1]
  exact fJ fun j hj=>by rw [iY];exact h2 j hj
 ·rw [h1]
  refine dR (fun j hj hji=>?_) h2 (by rw [iY];exact h3)
  rw [iY]
  cases hh : bU (fce m j) a b
  ·rfl
  ·have:=jL h hj h2 hh h3
   omega
def iy (m : Msh) : Nat -> List D
 | 0=>[]
 | i + 1=>sdK (fce m i) 3++iy m i
def jV (m : Msh) : Nat -> List D
 | 0=>[]
 | i + 1=>List.replicate 3 (.int .i64 i)++jV m i
theorem oH (m : Msh) : ∀ i,(iy m i).length=3 * i
 | 0=>by simp [iy]
 | i + 1=>by
  have:=oH m i
  simp [iy,jq];omega
theorem tO (m : Msh) (a b : Int) : ∀ i,cX (iy m i) (jV m i) (.agg [.int .i64 a,.int .i64 b])=(i7 (fun i=>bU (fce m i) a b) i).map fun i=>.int .i64 i
 | 0=>rfl
 | i + 1=>by
  have h3 : List.range 3=[0,1,2]:=rfl
  simp only [iy,jV,i7,sdK,List.replicate,List.cons_append,List.nil_append,cX,xS]
  have ih:=tO m a b i
  by_cases c0 : (decide (a=crn (fce m i) 2) && decide (b=crn (fce m i) (2 + 1)))=true
  ·have : bU (fce m i) a b=true:=by
    simp only [Bool.and_eq_true,decide_eq_true_eq] at c0
    simp [bU,h3,<- c0.1,<- c0.2]
   rw [if_pos c0,if_pos this];rfl
  ·rw [if_neg c0]
   by_cases c1 : (decide (a=crn (fce m i) 1) && decide (b=crn (fce m i) (1 + 1)))=true
   ·have : bU (fce m i) a b=true:=by
     simp only [Bool.and_eq_true,decide_eq_true_eq] at c1
     simp [bU,h3,<- c1.1,<- c1.2]
    rw [if_pos c1,if_pos this];rfl
   ·rw [if_neg c1]
    by_cases c2 : (decide (a=crn (fce m i) 0) && decide (b=crn (fce m i) (0 + 1)))=true
    ·have : bU (fce m i) a b=true:=by
      simp only [Bool.and_eq_true,decide_eq_true_eq] at c2
      simp [bU,h3,<- c2.1,<- c2.2]
     rw [if_pos c2,if_pos this];rfl
    ·have : bU (fce m i) a b=false:=by
      simp only [Bool.and_eq_true,decide_eq_true_eq,not_and] at c0 c1 c2
      simp only [bU,h3,List.any_cons,List.any_nil,Bool.or_false,Bool.or_eq_false_iff,Bool.and_eq_false_iff,decide_eq_false_iff_not]
      omega
     rw [if_neg c2,if_neg (by rw [this];decide),ih]
def nbC (m : Msh) (i k j c : Nat) : Int:=if j < i \/ (j=i /\ c < k) then nbF m j c else 0
def nbR (m : Msh) (i k : Nat) : List (List D):=(List.range m.f.length).map fun j=>[.int .i64 (nbC m i k j 0),.int .i64 (nbC m i k j 1),.int .i64 (nbC m i k j 2)]
def nbA (m : Msh) : List (List D):=(List.range m.f.length).map fun j=>[.int .i64 (nbF m j 0),.int .i64 (nbF m j 1),.int .i64 (nbF m j 2)]
@[simp] theorem Ol (m : Msh) (i k : Nat) : (nbR m i k).length=m.f.length:=by simp [nbR]
@[simp] theorem II (m : Msh) (i k : Nat) : List.take m.f.length (nbR m i k)=nbR m i k:=List.take_of_length_le (by simp)
@[simp] theorem Qw (m : Msh) (i k : Nat) : List.map (fun e=>List.map a6 e) (nbR m i k)=nbR m i k:=by simp [nbR]
theorem tN (m : Msh) : List.replicate m.f.length [D.int .i64 0,D.int .i64 0,D.int .i64 0]=nbR m 0 0:=by
 refine List.ext_getElem (by simp) fun j h1 h2=>?_
 simp [nbR,nbC]
theorem tM (m : Msh) (i : Nat) : nbR m i 3=nbR m (i + 1) 0:=by
 unfold nbR
 refine List.map_congr_left fun j _=>?_
 have e : ∀ c,c < 3 -> nbC m i 3 j c=nbC m (i + 1) 0 j c:=fun c hc=>by
  unfold nbC
  by_cases h : j < i + 1
  ·rw [if_pos (by omega),if_pos (by omega)]
  ·rw [if_neg (by omega),if_neg (by omega)]
 rw [e 0 (by omega),e 1 (by omega),e 2 (by omega)]
theorem vY (m : Msh) : nbR m m.f.length 0=nbA m:=by
 unfold nbR nbA
 refine List.map_congr_left fun j hj=>?_
 have hj:=List.mem_range.1 hj
 simp [nbC,hj]
theorem vZ (m : Msh) {i k j : Nat} (h : j < m.f.length) : (nbR m i k)[j]? = some [.int .i64 (nbC m i k j 0),.int .i64 (nbC m i k j 1),.int .i64 (nbC m i k j 2)]:=by
 simp [nbR,h]
theorem v6 (m : Msh) {i k : Nat} (h : i < m.f.length) (hk : k < 3) : (nbR m i k).set i (([.int .i64 (nbC m i k i 0),.int .i64 (nbC m i k i 1),.int .i64 (nbC m i k i 2)] : List D).set k (.int .i64 (nbF m i k)))=nbR m i (k + 1):=by
 refine List.ext_getElem (by simp) fun j h1 h2=>?_
 rw [List.getElem_set]
 by_cases e : i=j
 ·subst e
  rw [if_pos rfl]
  rcases (by omega : k=0 \/ k=1 \/ k=2) with rfl | rfl | rfl <;> simp [nbR,nbC]
 ·rw [if_neg e]
  simp only [nbR,List.getElem_map,List.getElem_range]
  have e2 : ∀ c,nbC m i k j c=nbC m i (k + 1) j c:=fun c=>by
   unfold nbC
   by_cases h : j < i
   ·rw [if_pos (by omega),if_pos (by omega)]
   ·rw [if_neg (by omega),if_neg (by omega)]
  rw [e2,e2,e2]
variable {C : CC} (hC : aI prog C)
include hC
theorem su (m : Msh) (h : cL m=false) : C 273 [.agg (bk m)] (.tup [.nils,.int .i64 4]) []:=by
 have ksm:=oD hC m
 rw [show (decide (m.s.length <= 2000) && decide (m.f.length <= 4000))=false from h] at ksm
 refine aT hC (nf:=N273) rfl rfl ?_
 simp only [ae] at ksm
 simp [N273,ae]
 refine aa ksm (.inl rfl) ?_
 simp
theorem tH (dec : Nat -> List UInt8) (hI : ∀ n : Nat,n < 100 -> C 127 [.int .i64 n] (.str (dec n)) []) (m : Msh) (hz : cL m=true -> m.s.length <= 100 /\ m.f.length <= 100) : C 234 [.agg (bk m)] (.bool (aE m)) []:=by
 cases hs : cL m
 ·have k:=su hC m hs
  refine aT hC (nf:=N234) rfl rfl ?_
  simp only [ae] at k
  simp [N234,ae]
  refine aa k (.inr rfl) ?_
  simp [aE,hs]
 ·obtain ⟨h1,h2⟩:=hz hs
  have k:=u5 hC dec hI m h1 h2
  have e : aE m=decide ((cj dec 0 (LL m)).length=0):=by
   rw [aE,hs,Bool.true_and,Bool.eq_iff_iff,decide_eq_true_eq,List.length_eq_zero_iff,lK]
  obtain ⟨X,hX⟩ : ∃ X,X=cj dec 0 (LL m):=⟨_,rfl⟩
  rw [e]
  rw [<- hX] at k ⊢
  refine aT hC (nf:=N234) rfl rfl ?_
  simp only [ae] at k
  simp [N234,ae]
  refine aa k (.inr rfl) ?_
  simp
end Go.Gv

namespace Go.Gv
def fo (n : Nat) : List UInt8:=nh n []
def fdL (k : Int) (l : List Nat) : List (Int × List UInt8):=l.map fun i=>(k,fo i)
@[simp] theorem KP (k : Int) (l : List Nat) : (fdL k l).length=l.length:=by simp [fdL]
def fdR (k : Int) (l : List Nat) : List (List D):=fnR (fdL k l)
@[simp] theorem KR (k : Int) (l : List Nat) : (fdR k l).length=l.length:=by simp [fdR]
@[simp] theorem F8 (k : Int) (l : List Nat) : List.take l.length (fdR k l)=fdR k l:=List.take_of_length_le (by simp)
theorem fZ {p : Nat -> Bool} {n : Nat} {k : Int} (h : p n=true) : fdR k (fil p n)++[[D.int .i64 k,.str (fo n)]]=fdR k (fil p (n + 1)):=by
 rw [cu h];simp [fdR,f4,fdL]
theorem dP {p : Nat -> Bool} {n : Nat} {k : Int} (h : p n=false) : fdR k (fil p n)=fdR k (fil p (n + 1)):=by rw [jJ h]
@[simp] theorem zF (k : Int) (l : List Nat) : (∀ e ∈ fdR k l,∀ c ∈ e,aw c=true)=True:=by simp [fdR,fnR,fnD,fdL]
@[simp] theorem KQ (k : Int) (l : List Nat) (x : List D) : (∀ e,e ∈ fdR k l \/ e=x -> ∀ c,c ∈ e -> aw c=true)=∀ c,c ∈ x -> aw c=true:=by
 apply propext
 constructor
 ·exact fun h=>h x (.inr rfl)
 ·rintro h e (he | rfl)
  ·exact (zF k l).mpr trivial e he
  ·exact h
@[simp] theorem KS (k : Int) : fdR k []=[]:=rfl
def fcR (m : Msh) (l : List Nat) : List (List D):=l.map fun k=>bz (fce m k)
@[simp] theorem KN (m : Msh) (l : List Nat) : (fcR m l).length=l.length:=by simp [fcR]
@[simp] theorem F7 (m : Msh) (l : List Nat) : List.take l.length (fcR m l)=fcR m l:=List.take_of_length_le (by simp)
@[simp] theorem KO (m : Msh) : fcR m []=[]:=rfl
theorem vF {m : Msh} {i : Nat} (h : av m i=true) : fcR m (fil (av m) i)++[bz (fce m i)]=fcR m (fil (av m) (i + 1)):=by rw [cu h];simp [fcR]
theorem gF (m : Msh) (l : List Nat) : fcR m l=l.map fun k=>bz (fce m k):=rfl
def jC (p : Nat -> Bool) (l : List Nat) (k : Nat) : Bool:=(l.take k).any p
theorem qQ (p : Nat -> Bool) (l : List Nat) : jC p l 0=false:=by simp [jC]
theorem mt (p : Nat -> Bool) {l : List Nat} {k : Nat} (h : k < l.length) : jC p l (k + 1)=(jC p l k || p l[k]):=by
 unfold jC
 rw [List.take_add_one,List.getElem?_eq_getElem h,List.any_append]
 simp
theorem nW (p : Nat -> Bool) (l : List Nat) : jC p l l.length=l.any p:=by simp [jC]
def shP (m : Msh) (i k : Nat) : Bool:=gc (fce m i) (fce m k)
def ovP (m : Msh) (i k : Nat) : Bool:=ovT (aQ m (fce m i)) (aQ m (fce m k))
theorem rV {m : Msh} {i : Nat} (h : av m i=true) : bP m i=(fil (av m) i).any (shP m i):=by
 rw [fil,List.any_filter,bP,h];rfl
theorem rL {m : Msh} {i : Nat} (h : av m i=true) : aP m i=(fil (av m) i).any (ovP m i):=by
 rw [fil,List.any_filter,aP,h];rfl
def Jz (m : Msh) (i k : Nat) : Env:=[(1,.ptr (bk m)),(3,.ref (.r 10048) 0 7),(10048,.blk 1 [[.own 2 []],[.own 2 (fdR 1 (fil (cI m) m.s.length))],[.own 2 (fdR 2 (fil (bR m) m.s.length))],[.own 2 (fdR 3 (fil (db m) i))],[.own 2 (fdR 4 (fil (ce m) i))],[.own 2 (fdR 5 (fil (bP m) i))],[.own 2 (fdR 6 (fil (aP m) i))]]),(7,.ref (.r 10112) 0 (fil (av m) i).length),(10112,.blk 4 (fcR m (fil (av m) i))),(8,.int .i64 i),(9,.adr (.r 10144) 0 0),(10144,.blk 4 [bz (fce m i)]),(10,.bool (jC (shP m i) (fil (av m) i) k)),(11,.bool (jC (ovP m i) (fil (av m) i) k)),(12,.int .i64 k)]
theorem io (m : Msh) (i k : Nat) : Jz m i k=[(1,.ptr (bk m)),(3,.ref (.r 10048) 0 7),(10048,.blk 1 [[.own 2 []],[.own 2 (fdR 1 (fil (cI m) m.s.length))],[.own 2 (fdR 2 (fil (bR m) m.s.length))],[.own 2 (fdR 3 (fil (db m) i))],[.own 2 (fdR 4 (fil (ce m) i))],[.own 2 (fdR 5 (fil (bP m) i))],[.own 2 (fdR 6 (fil (aP m) i))]]),(7,.ref (.r 10112) 0 (fil (av m) i).length),(10112,.blk 4 (fcR m (fil (av m) i))),(8,.int .i64 i),(9,.adr (.r 10144) 0 0),(10144,.blk 4 [bz (fce m i)]),(10,.bool (jC (shP m i) (fil (av m) i) k)),(11,.bool (jC (ovP m i) (fil (av m) i) k)),(12,.int .i64 k)]:=_root_.id rfl
def Jw (m : Msh) (i : Nat) : Env:=[(1,.ptr (bk m)),(3,.ref (.r 10048) 0 7),(10048,.blk 1 [[.own 2 []],[.own 2 (fdR 1 (fil (cI m) i))],[.own 2 (fdR 2 (fil (bR m) i))],[.own 2 []],[.own 2 []],[.own 2 []],[.own 2 []]]),(4,.int .i64 i)]
theorem jj (m : Msh) (i : Nat) : Jw m i=[(1,.ptr (bk m)),(3,.ref (.r 10048) 0 7),(10048,.blk 1 [[.own 2 []],[.own 2 (fdR 1 (fil (cI m) i))],[.own 2 (fdR 2 (fil (bR m) i))],[.own 2 []],[.own 2 []],[.own 2 []],[.own 2 []]]),(4,.int .i64 i)]:=_root_.id rfl
def Jx (m : Msh) (i k : Nat) : Env:=[(1,.ptr (bk m)),(3,.ref (.r 10048) 0 7),(10048,.blk 1 [[.own 2 []],[.own 2 (fdR 1 (fil (cI m) i))],[.own 2 (fdR 2 (fil (bR m) i))],[.own 2 []],[.own 2 []],[.own 2 []],[.own 2 []]]),(4,.int .i64 i),(5,.adr (.r 10080) 0 0),(10080,.blk 3 [eW (spt m i)]),(6,.int .i64 k)]
theorem kR (m : Msh) (i k : Nat) : Jx m i k=[(1,.ptr (bk m)),(3,.ref (.r 10048) 0 7),(10048,.blk 1 [[.own 2 []],[.own 2 (fdR 1 (fil (cI m) i))],[.own 2 (fdR 2 (fil (bR m) i))],[.own 2 []],[.own 2 []],[.own 2 []],[.own 2 []]]),(4,.int .i64 i),(5,.adr (.r 10080) 0 0),(10080,.blk 3 [eW (spt m i)]),(6,.int .i64 k)]:=_root_.id rfl
def Jy (m : Msh) (i : Nat) : Env:=[(1,.ptr (bk m)),(3,.ref (.r 10048) 0 7),(10048,.blk 1 [[.own 2 []],[.own 2 (fdR 1 (fil (cI m) m.s.length))],[.own 2 (fdR 2 (fil (bR m) m.s.length))],[.own 2 (fdR 3 (fil (db m) i))],[.own 2 (fdR 4 (fil (ce m) i))],[.own 2 (fdR 5 (fil (bP m) i))],[.own 2 (fdR 6 (fil (aP m) i))]]),(7,.ref (.r 10112) 0 (fil (av m) i).length),(10112,.blk 4 (fcR m (fil (av m) i))),(8,.int .i64 i)]
theorem fe (m : Msh) (i : Nat) : Jy m i=[(1,.ptr (bk m)),(3,.ref (.r 10048) 0 7),(10048,.blk 1 [[.own 2 []],[.own 2 (fdR 1 (fil (cI m) m.s.length))],[.own 2 (fdR 2 (fil (bR m) m.s.length))],[.own 2 (fdR 3 (fil (db m) i))],[.own 2 (fdR 4 (fil (ce m) i))],[.own 2 (fdR 5 (fil (bP m) i))],[.own 2 (fdR 6 (fil (aP m) i))]]),(7,.ref (.r 10112) 0 (fil (av m) i).length),(10112,.blk 4 (fcR m (fil (av m) i))),(8,.int .i64 i)]:=_root_.id rfl
variable {C : CC} (hC : aI prog C)
include hC
set_option maxRecDepth 4000 in
set_option maxHeartbeats 4000000 in
theorem t7 (m : Msh) (hs : m.s.length <= 100) (hf : m.f.length <= 100) : C 258 [.agg (bk m)] (.sl ((cj fo 0 (LL m)).map fnD)) []:=by
 have kr:=fun s=>qy hC s
 have kd:=fun n h=>AV hC n h
 have kp:=fun s=>ji hC s
 refine aT hC (nf:=N258) rfl rfl ?_
 simp [N258,ae]
 refine ay Nat (fun i=>Jw m i) (fun i=>i <= m.s.length) (fun i=>m.s.length - i) 0 (by simp) (by simp [jj,ae,iZ,List.replicate]) ?_
 rintro i hi
 simp [jj,ae]
 refine am (fun g1=>?_) (fun g1=>?_) <;> simp at g1 <;> simp [g1]
 ·have hw : IntKind.wrap .i64 ((i : Int) + 1)=((i + 1 : Nat) : Int):=aj (by omega) (by omega)
  have kri:=kr (spt m i)
  simp only [b8] at kri
  have kdi:=kd i (by omega)
  have l1:=aG (cI m) i
  have l2:=aG (bR m) i
  simp [b8]
  refine aa kri (.inl rfl) ?_
  simp
  cases hr1 : aU (spt m i)
  ·have e1:=fZ (p:=cI m) (n:=i) (k:=1) (by simp [cI,hr1])
   have e2:=dP (p:=bR m) (n:=i) (k:=2) (by simp [bR,hr1])
   simp
   refine aa kdi (.inl rfl) ?_
   simp
   simp only [fo] at e1
   refine ⟨by omega,al (by decide +kernel),i + 1,by omega,by omega,?_⟩
   simp [jj,ae,hw,e1,<- e2]
  ·have e0:=dP (p:=cI m) (n:=i) (k:=1) (by simp [cI,hr1])
   have hsame : bR m i=(List.range i).any fun k=>aU (spt m k) && decide (fw m k=fw m i):=by rw [bR,hr1,Bool.true_and]
   simp
   refine ay Nat (fun k=>Jx m i k) (fun k=>k <= i /\ ∀ j,j < k -> aU (spt m j)=true -> ¬ fw m j=fw m i) (fun k=>i - k) 0 (by simp) (by simp [kR,ae,b8]) ?_
   rintro k ⟨hk,hK⟩
   simp [kR,ae,b8]
   refine am (fun g2=>?_) (fun g2=>?_) <;> simp at g2 <;> simp [g2]
   ·have hw2 : IntKind.wrap .i64 ((k : Int) + 1)=((k + 1 : Nat) : Int):=aj (by omega) (by omega)
    have krk:=kr (spt m k)
    have kpk:=kp (spt m k)
    have kpi:=kp (spt m i)
    simp only [b8,ptD] at krk kpk kpi
    have hks : k < m.s.length:=by omega
    simp [hks,b8]
    refine aa krk (.inl rfl) ?_
    simp
    have next : (aU (spt m k)=true -> ¬ fw m k=fw m i) -> ∀ j,j < k + 1 -> aU (spt m j)=true -> ¬ fw m j=fw m i:=fun h j hj=>by
     rcases Nat.lt_succ_iff_lt_or_eq.1 hj with h2 | rfl
     ·exact hK j h2
     ·exact h
    cases hr2 : aU (spt m k)
    ·simp
     refine ⟨al (by decide +kernel),?_⟩
     refine ⟨k + 1,⟨by omega,next (by rw [hr2];simp)⟩,by omega,?_⟩
     simp [kR,ae,b8,hw2]
    ·simp [hks,b8]
     refine aa kpk (.inl rfl) ?_
     simp
     refine aa kpi (.inl rfl) ?_
     simp
     refine ⟨al (by decide +kernel),?_⟩
     by_cases hp : fw m k=fw m i
     ·have hs1 : bR m i=true:=by
       rw [hsame,List.any_eq_true]
       exact ⟨k,List.mem_range.2 g2,by simp [hr2,hp]⟩
      have e2:=fZ (p:=bR m) (n:=i) (k:=2) hs1
      simp only [fo] at e2
      have hp1 : (ptS (spt m k)).1=(ptS (spt m i)).1:=congrArg Prod.fst hp
      have hp2 : (ptS (spt m k)).2=(ptS (spt m i)).2:=congrArg Prod.snd hp
      simp [hp1,hp2]
      refine aa kdi (.inl rfl) ?_
      simp
      refine ⟨by omega,al (by decide +kernel),i + 1,by omega,by omega,?_⟩
      simp [jj,ae,hw,<- e0,e2]
     ·have hp1 : ¬ ((ptS (spt m k)).1=(ptS (spt m i)).1 /\ (ptS (spt m k)).2=(ptS (spt m i)).2):=fun h=>hp (Prod.ext h.1 h.2)
      have hp2 : (decide ((ptS (spt m k)).1=(ptS (spt m i)).1) && decide ((ptS (spt m k)).2=(ptS (spt m i)).2))=false:=by
       rw [Bool.eq_false_iff];simpa using hp1
      simp [hp2]
      refine ⟨k + 1,⟨by omega,next (fun _=>hp)⟩,by omega,?_⟩
      simp [kR,ae,b8,hw2]
   ·have hk2 : k=i:=by omega
    subst hk2
    have hs1 : bR m k=false:=by
     rw [hsame,List.any_eq_false]
     intro j hj
     have:=hK j (List.mem_range.1 hj)
     simpa using this
    have e2:=dP (p:=bR m) (n:=k) (k:=2) hs1
    refine ⟨k + 1,by omega,by omega,?_⟩
    simp [jj,ae,hw,<- e0,<- e2]
 ·have hi2 : i=m.s.length:=by omega
  subst hi2
  clear kr kp
  have kc:=fun f=>AX hC m f (by omega)
  refine ay Nat (fun i=>Jy m i) (fun i=>i <= m.f.length) (fun i=>m.f.length - i) 0 (by simp) (by simp [fe,ae,iZ]) ?_
  clear hi g1
  rintro i hi
  simp [fe,ae]
  refine am (fun g1=>?_) (fun g1=>?_) <;> simp at g1 <;> simp [g1]
  ·have hw : IntKind.wrap .i64 ((i : Int) + 1)=((i + 1 : Nat) : Int):=aj (by omega) (by omega)
   have kci:=kc (fce m i)
   have kdi:=kd i (by omega)
   simp only [ae,aD] at kci
   have l3:=aG (db m) i
   have l4:=aG (ce m) i
   have l5:=aG (bP m) i
   have l6:=aG (aP m) i
   simp [aD]
   refine aa kci (.inl rfl) ?_
   simp
   cases ok : okF m (fce m i)
   ·have hsn : av m i=false:=by simp [av,ok]
    have e1:=fZ (p:=db m) (n:=i) (k:=3) (by simp [db,ok])
    have e2:=dP (p:=ce m) (n:=i) (k:=4) (by simp [ce,ok])
    have e3:=dP (p:=bP m) (n:=i) (k:=5) (by simp [bP,hsn])
    have e4:=dP (p:=aP m) (n:=i) (k:=6) (by simp [aP,hsn])
    have e5:=jJ hsn
    simp only [fo] at e1
    simp
    refine aa kdi (.inl rfl) ?_
    simp
    refine ⟨by omega,al (by decide +kernel),i + 1,by omega,by omega,?_⟩
    simp [fe,ae,hw,e1,<- e2,<- e3,<- e4,e5]
   ·have hT:=cF ok
    have kt:=wt hC m (fce m i) (ik ok) hT
    simp only [ae,aD] at kt
    have e1:=dP (p:=db m) (n:=i) (k:=3) (by simp [db,ok])
    simp
    refine aa kt (.inl rfl) ?_
    simp
    refine am (fun d1=>?_) (fun d1=>?_) <;> simp at d1 <;> simp [d1]
    ·have hfl : ce m i=true:=by simp [ce,ok,d1]
     have hsn : av m i=false:=by simp [av,ok];omega
     have e2:=fZ (k:=4) hfl
     have e3:=dP (p:=bP m) (n:=i) (k:=5) (by simp [bP,hsn])
     have e4:=dP (p:=aP m) (n:=i) (k:=6) (by simp [aP,hsn])
     have e5:=jJ hsn
     simp only [fo] at e2
     refine aa kdi (.inl rfl) ?_
     simp
     refine ⟨by omega,al (by decide +kernel),i + 1,by omega,by omega,?_⟩
     simp [fe,ae,hw,<- e1,e2,<- e3,<- e4,e5]
    ·have hfl : ce m i=false:=by simp [ce,ok];omega
     have hsn : av m i=true:=by simp [av,ok,d1]
     have e2:=dP (k:=4) hfl
     have lsn:=aG (av m) i
     have hsd:=rV hsn
     have hov:=rL hsn
     refine ay Nat (fun k=>Jz m i k) (fun k=>k <= (fil (av m) i).length) (fun k=>(fil (av m) i).length - k) 0 (by simp) (by simp [io,ae,aD,qQ]) ?_
     rintro k hk
     simp [io,ae,aD]
     refine am (fun g2=>?_) (fun g2=>?_) <;> simp at g2 <;> simp [g2]
     ·have hw2 : IntKind.wrap .i64 ((k : Int) + 1)=((k + 1 : Nat) : Int):=aj (by omega) (by omega)
      have hq:=(dG (List.getElem_mem g2)).2
      simp only [av,Bool.and_eq_true] at hq
      have ks:=wn hC (fce m i) (fce m (fil (av m) i)[k])
      have ko:=pZ hC m (fce m i) (fce m (fil (av m) i)[k]) (ik ok) hT (ik hq.1) (cF hq.1)
      have a1:=mt (shP m i) g2
      have a2:=mt (ovP m i) g2
      rw [show shP m i (fil (av m) i)[k]=gc (fce m i) (fce m (fil (av m) i)[k]) from rfl] at a1
      rw [show ovP m i (fil (av m) i)[k]=ovT (aQ m (fce m i)) (aQ m (fce m (fil (av m) i)[k])) from rfl] at a2
      simp only [ae,aD] at ks ko
      cases h1 : jC (shP m i) (fil (av m) i) k <;> cases h2 : jC (ovP m i) (fil (av m) i) k <;> rw [h1] at a1 <;> rw [h2] at a2 <;> simp at a1 a2
      ·simp [gF,g2,aD]
       refine aa ks (.inl rfl) ?_
       simp
       refine ⟨al (by decide +kernel),?_⟩
       simp [gF,g2,aD]
       refine aa ko (.inl rfl) ?_
       simp
       refine ⟨al (by decide +kernel),?_⟩
       refine ⟨k + 1,by omega,by omega,?_⟩
       simp [io,ae,aD,hw2,a1,a2,gF]
      ·simp [gF,g2,aD]
       refine aa ks (.inl rfl) ?_
       simp
       refine ⟨al (by decide +kernel),al (by decide +kernel),?_⟩
       refine ⟨k + 1,by omega,by omega,?_⟩
       simp [io,ae,aD,hw2,a1,a2,gF]
      ·simp
       refine ⟨al (by decide +kernel),?_⟩
       simp [gF,g2,aD]
       refine aa ko (.inl rfl) ?_
       simp
       refine ⟨al (by decide +kernel),?_⟩
       refine ⟨k + 1,by omega,by omega,?_⟩
       simp [io,ae,aD,hw2,a1,a2,gF]
      ·simp
       refine ⟨al (by decide +kernel),al (by decide +kernel),?_⟩
       refine ⟨k + 1,by omega,by omega,?_⟩
       simp [io,ae,aD,hw2,a1,a2,gF]
     ·have hk2 : k=(fil (av m) i).length:=by omega
      subst hk2
      rw [nW,nW,<- hsd,<- hov]
      have e5:=vF hsn
      have e8 : (fil (av m) (i + 1)).length=(fil (av m) i).length + 1:=by rw [cu hsn];simp
      simp only [aD] at e5
      cases h1 : bP m i
      ·have e3:=dP (k:=5) h1
       simp
       cases h2 : aP m i
       ·have e4:=dP (k:=6) h2
        simp
        refine ⟨by omega,i + 1,by omega,by omega,?_⟩
        simp [fe,ae,hw,<- e1,<- e2,<- e3,<- e4,e5,e8]
       ·have e4:=fZ (k:=6) h2
        simp only [fo] at e4
        simp
        refine aa kdi (.inl rfl) ?_
        simp
        refine ⟨by omega,al (by decide +kernel),?_⟩
        refine ⟨by omega,i + 1,by omega,by omega,?_⟩
        simp [fe,ae,hw,<- e1,<- e2,<- e3,e4,e5,e8]
      ·have e3:=fZ (k:=5) h1
       simp only [fo] at e3
       simp
       refine aa kdi (.inl rfl) ?_
       simp
       refine ⟨by omega,al (by decide +kernel),?_⟩
       cases h2 : aP m i
       ·have e4:=dP (k:=6) h2
        simp
        refine ⟨by omega,i + 1,by omega,by omega,?_⟩
        simp [fe,ae,hw,<- e1,<- e2,e3,<- e4,e5,e8]
       ·have e4:=fZ (k:=6) h2
        simp only [fo] at e4
        simp
        refine aa kdi (.inl rfl) ?_
        simp
        refine ⟨by omega,al (by decide +kernel),?_⟩
        refine ⟨by omega,i + 1,by omega,by omega,?_⟩
        simp [fe,ae,hw,<- e1,<- e2,e3,e4,e5,e8]
  ·have hi2 : i=m.f.length:=by omega
   subst hi2
   have bd : ∀ (p : Nat -> Bool) (n : Nat),n <= 100 -> (fil p n).length <= 100:=fun p n hn=>by have:=aG p n;omega
   have q1:=bd (cI m) _ hs
   have q2:=bd (bR m) _ hs
   have q3:=bd (db m) _ hf
   have q4:=bd (ce m) _ hf
   have q5:=bd (bP m) _ hf
   have q6:=bd (aP m) _ hf
   have hLL : LL m=[[],fil (cI m) m.s.length,fil (bR m) m.s.length,fil (db m) m.f.length,fil (ce m) m.f.length,fil (bP m) m.f.length,fil (aP m) m.f.length]:=rfl
   rw [hLL]
   clear hLL bd
   generalize fil (cI m) m.s.length=L1 at *
   generalize fil (bR m) m.s.length=L2 at *
   generalize fil (db m) m.f.length=L3 at *
   generalize fil (ce m) m.f.length=L4 at *
   generalize fil (bP m) m.f.length=L5 at *
   generalize fil (aP m) m.f.length=L6 at *
   obtain ⟨BK,hBK⟩ : ∃ x : D,x=.blk 1 [[.own 2 []],[.own 2 (fdR 1 L1)],[.own 2 (fdR 2 L2)],[.own 2 (fdR 3 L3)],[.own 2 (fdR 4 L4)],[.own 2 (fdR 5 L5)],[.own 2 (fdR 6 L6)]]:=⟨_,rfl⟩
   obtain ⟨U,hU⟩ : ∃ U : Nat -> List (Int × List UInt8),U=fun k=>cj fo 0 (([([] : List Nat),L1,L2,L3,L4,L5,L6]).take k):=⟨_,rfl⟩
   have hU7 : U 7=cj fo 0 [[],L1,L2,L3,L4,L5,L6]:=by rw [hU];rfl
   have hU0 : U 0=[]:=by rw [hU];rfl
   have hU0s : U 1=U 0++fdL 0 ([] : List Nat):=by
    rw [hU];show cj fo 0 (([([] : List Nat),L1,L2,L3,L4,L5,L6]).take 0++[([] : List Nat)])=_
    rw [cm];simp [cj,fdL]
   have hU1s : U 2=U 1++fdL 1 L1:=by
    rw [hU];show cj fo 0 (([([] : List Nat),L1,L2,L3,L4,L5,L6]).take 1++[L1])=_
    rw [cm];simp [cj,fdL]
   have hU2s : U 3=U 2++fdL 2 L2:=by
    rw [hU];show cj fo 0 (([([] : List Nat),L1,L2,L3,L4,L5,L6]).take 2++[L2])=_
    rw [cm];simp [cj,fdL]
   have hU3s : U 4=U 3++fdL 3 L3:=by
    rw [hU];show cj fo 0 (([([] : List Nat),L1,L2,L3,L4,L5,L6]).take 3++[L3])=_
    rw [cm];simp [cj,fdL]
   have hU4s : U 5=U 4++fdL 4 L4:=by
    rw [hU];show cj fo 0 (([([] : List Nat),L1,L2,L3,L4,L5,L6]).take 4++[L4])=_
    rw [cm];simp [cj,fdL]
   have hU5s : U 6=U 5++fdL 5 L5:=by
    rw [hU];show cj fo 0 (([([] : List Nat),L1,L2,L3,L4,L5,L6]).take 5++[L5])=_
    rw [cm];simp [cj,fdL]
   have hU6s : U 7=U 6++fdL 6 L6:=by
    rw [hU];show cj fo 0 (([([] : List Nat),L1,L2,L3,L4,L5,L6]).take 6++[L6])=_
    rw [cm];simp [cj,fdL]
   have lU0 : (U 0).length <= 0:=by rw [hU0];simp
   have lU1 : (U 1).length <= 100:=by rw [hU0s];simp;omega
   have lU2 : (U 2).length <= 200:=by rw [hU1s];simp;omega
   have lU3 : (U 3).length <= 300:=by rw [hU2s];simp;omega
   have lU4 : (U 4).length <= 400:=by rw [hU3s];simp;omega
   have lU5 : (U 5).length <= 500:=by rw [hU4s];simp;omega
   have lU6 : (U 6).length <= 600:=by rw [hU5s];simp;omega
   rw [<- hU7]
   refine ay Nat (fun k=>[(3,.ref (.r 10048) 0 7),(10048,BK),(13,.ref (.r 10208) 0 (U k).length),(10208,.blk 2 (fnR (U k))),(14,.int .i64 k)]) (fun k=>k <= 7) (fun k=>7 - k) 0 (by simp) (by simp [hU0,hBK]) ?_
   rintro k hk
   rcases (by omega : k=0 \/ k=1 \/ k=2 \/ k=3 \/ k=4 \/ k=5 \/ k=6 \/ k=7) with rfl | rfl | rfl | rfl | rfl | rfl | rfl | rfl
   ·have e : fnR (U 0)++fdR 0 ([] : List Nat)=fnR (U 1):=by rw [hU0s];simp [fnR,fdR]
    have e' : (U 1).length=(U 0).length + (([] : List Nat)).length:=by rw [hU0s];simp
    simp [hBK]
    refine ⟨by omega,1,by omega,by omega,?_,?_,by decide⟩
    ·simpa using e'.symm
    ·simpa using e
   ·have e : fnR (U 1)++fdR 1 L1=fnR (U 2):=by rw [hU1s];simp [fnR,fdR]
    have e' : (U 2).length=(U 1).length + (L1).length:=by rw [hU1s];simp
    simp [hBK]
    refine ⟨by omega,2,by omega,by omega,?_,?_,by decide⟩
    ·simpa using e'.symm
    ·simpa using e
   ·have e : fnR (U 2)++fdR 2 L2=fnR (U 3):=by rw [hU2s];simp [fnR,fdR]
    have e' : (U 3).length=(U 2).length + (L2).length:=by rw [hU2s];simp
    simp [hBK]
    refine ⟨by omega,3,by omega,by omega,?_,?_,by decide⟩
    ·simpa using e'.symm
    ·simpa using e
   ·have e : fnR (U 3)++fdR 3 L3=fnR (U 4):=by rw [hU3s];simp [fnR,fdR]
    have e' : (U 4).length=(U 3).length + (L3).length:=by rw [hU3s];simp
    simp [hBK]
    refine ⟨by omega,4,by omega,by omega,?_,?_,by decide⟩
    ·simpa using e'.symm
    ·simpa using e
   ·have e : fnR (U 4)++fdR 4 L4=fnR (U 5):=by rw [hU4s];simp [fnR,fdR]
    have e' : (U 5).length=(U 4).length + (L4).length:=by rw [hU4s];simp
    simp [hBK]
    refine ⟨by omega,5,by omega,by omega,?_,?_,by decide⟩
    ·simpa using e'.symm
    ·simpa using e
   ·have e : fnR (U 5)++fdR 5 L5=fnR (U 6):=by rw [hU5s];simp [fnR,fdR]
    have e' : (U 6).length=(U 5).length + (L5).length:=by rw [hU5s];simp
    simp [hBK]
    refine ⟨by omega,6,by omega,by omega,?_,?_,by decide⟩
    ·simpa using e'.symm
    ·simpa using e
   ·have e : fnR (U 6)++fdR 6 L6=fnR (U 7):=by rw [hU6s];simp [fnR,fdR]
    have e' : (U 7).length=(U 6).length + (L6).length:=by rw [hU6s];simp
    simp [hBK]
    refine ⟨by omega,7,by omega,by omega,?_,?_,by decide⟩
    ·simpa using e'.symm
    ·simpa using e
   ·simp [hBK]
    rfl
end Go.Gv

namespace Go.Gv
open Go.Lib
theorem tI (a : Nat) (ha : a < 18446744073709551616) : bits .and .u64 (a : Int) 4294967295=((a % 4294967296 : Nat) : Int):=by
 have h:=bits_and_u64_nat a 4294967295 ha (by omega)
 have e : a &&& 4294967295=a % 4294967296:=Nat.and_two_pow_sub_one_eq_mod a 32
 rw [e] at h
 exact h
theorem QI (a k : Nat) : Int.fdiv (a : Int) (2 ^ k)=((a / 2 ^ k : Nat) : Int):=by
 rw [Int.fdiv_eq_ediv_of_nonneg _ (by exact Int.pow_nonneg (by omega))]
 norm_cast
theorem JL (a : Nat) : Int.fdiv (a : Int) (2 ^ min 32 IntKind.u64.bits)=((a / 4294967296 : Nat) : Int):=QI a 32
theorem Qu (a b : Nat) : (a : Int) * (b : Int)=((a * b : Nat) : Int):=(Int.natCast_mul a b).symm
theorem Pi (a b : Nat) : (a : Int) + (b : Int)=((a + b : Nat) : Int):=(Int.natCast_add a b).symm
theorem kI (a : Nat) (ha : a < 18446744073709551616) : IntKind.u64.wrap (a : Int)=(a : Int):=by
 have e1 : IntKind.u64.signed=false:=rfl
 have e3 : (2 ^ IntKind.u64.bits : Int)=18446744073709551616:=rfl
 unfold IntKind.wrap
 simp only [e1,e3,Bool.false_and]
 simp
 omega
theorem J0 (a : Nat) : IntKind.u64.wrap (a : Int)=((a % 18446744073709551616 : Nat) : Int):=by
 have e1 : IntKind.u64.signed=false:=rfl
 have e3 : (2 ^ IntKind.u64.bits : Int)=18446744073709551616:=rfl
 unfold IntKind.wrap
 simp only [e1,e3,Bool.false_and]
 simp
variable {C : CC} (hC : aI prog C)
include hC
theorem u7 (x y : Nat) (hx : x < 18446744073709551616) (hy : y < 18446744073709551616) : C 91 [.int .u64 x,.int .u64 y] (.tup [.int .u64 ((x * y / 18446744073709551616 : Nat) : Int),.int .u64 ((x * y % 18446744073709551616 : Nat) : Int)]) []:=by
 refine aT hC (nf:=N91) rfl rfl ?_
 obtain ⟨bd,bt,bw,hhi⟩:=Lib.mul64_hi x y hx hy
 have ba:=Lib.half_mul_le (a:=x / 4294967296) (b:=y / 4294967296) (by omega) (by omega)
 have bb:=Lib.half_mul_le (a:=x / 4294967296) (b:=y % 4294967296) (by omega) (by omega)
 have bc:=Lib.half_mul_le (a:=x % 4294967296) (b:=y / 4294967296) (by omega) (by omega)
 have ba' : x / 4294967296 * (y / 4294967296) < 18446744073709551616:=by omega
 have bb' : x / 4294967296 * (y % 4294967296) < 18446744073709551616:=by omega
 have bc' : x % 4294967296 * (y / 4294967296) < 18446744073709551616:=by omega
 have bh1 : x / 4294967296 * (y / 4294967296) + (x / 4294967296 * (y % 4294967296) + x % 4294967296 * (y % 4294967296) / 4294967296) / 4294967296 < 18446744073709551616:=by omega
 have bh : x / 4294967296 * (y / 4294967296) + (x / 4294967296 * (y % 4294967296) + x % 4294967296 * (y % 4294967296) / 4294967296) / 4294967296 + ((x / 4294967296 * (y % 4294967296) + x % 4294967296 * (y % 4294967296) / 4294967296) % 4294967296 + x % 4294967296 * (y / 4294967296)) / 4294967296 < 18446744073709551616:=by omega
 simp [N91]
 simp only [tI x hx,tI y hy,JL,Qu,Pi,kI _ bd,kI _ bb',kI _ bt,tI _ bt,kI _ bc',kI _ bw,kI _ ba',kI _ bh1,kI _ bh,J0 (x * y)]
 rw [hhi]
 exact ⟨by omega,by omega⟩
end Go.Gv

namespace Go.Gv
variable {C : CC} (hC : aI prog C)
include hC
end Go.Gv

namespace Go.Gv
structure DvI (u d a b q r : Nat) : Prop where
 sum : q * a + r=u
 ge : (u * 4294967296 + d) / (a * 4294967296 + b) <= q
 rlt : r < 4294967296
 qle : q <= 4294967297
section
variable {u d a b q r : Nat}
theorem Dv.mul (h : q * a + r=u) : q * (a * 4294967296 + b) + r * 4294967296=u * 4294967296 + q * b:=by
 subst h
 rw [Nat.mul_add,<- Nat.mul_assoc,Nat.add_mul]
 omega
theorem Dv.lt (_ : 0 < a) (hu : u < a * 4294967296 + b) (hd : d < 4294967296) : (u * 4294967296 + d) / (a * 4294967296 + b) < 4294967296:=by
 rw [Nat.div_lt_iff_lt_mul (by omega)]
 have : (u + 1) * 4294967296 <= (a * 4294967296 + b) * 4294967296:=Nat.mul_le_mul_right _ hu
 omega
theorem DvI.first (ha : 2147483648 <= a) (ha2 : a < 4294967296) (hb : b < 4294967296) (hu : u < a * 4294967296 + b) (hd : d < 4294967296) : DvI u d a b (u / a) (u % a) where
 sum:=by rw [Nat.mul_comm];exact Nat.div_add_mod u a
 rlt:=by have:=Nat.mod_lt u (show 0 < a by omega);omega
 ge:=by
  rw [Nat.le_div_iff_mul_le (by omega)]
  have h:=Nat.div_mul_le_self (u * 4294967296 + d) (a * 4294967296 + b)
  generalize (u * 4294967296 + d) / (a * 4294967296 + b)=Q at *
  rw [Nat.mul_add,<- Nat.mul_assoc] at h
  generalize Q * b=z at *
  generalize Q * a=x at *
  omega
 qle:=by
  have : u / a < 4294967298:=by
   rw [Nat.div_lt_iff_lt_mul (by omega)]
   omega
  omega
theorem DvI.more (h : DvI u d a b q r) (ha : 0 < a) (hu : u < a * 4294967296 + b) (hd : d < 4294967296) (hc : 4294967296 <= q \/ 4294967296 * r + d < q * b) : (u * 4294967296 + d) / (a * 4294967296 + b) + 1 <= q:=by
 rcases hc with hc | hc
 ·have:=Dv.lt (d:=d) ha hu hd
  omega
 ·have h1:=Dv.mul (b:=b) h.sum
  have : (u * 4294967296 + d) / (a * 4294967296 + b) < q:=by
   rw [Nat.div_lt_iff_lt_mul (by omega)]
   generalize q * (a * 4294967296 + b)=z at *
   generalize q * b=x at *
   omega
  omega
theorem DvI.done (h : DvI u d a b q r) (ha : 0 < a) (hc : q * b <= 4294967296 * r + d) : q=(u * 4294967296 + d) / (a * 4294967296 + b):=by
 have h1:=Dv.mul (b:=b) h.sum
 have h2:=h.ge
 have : q <= (u * 4294967296 + d) / (a * 4294967296 + b):=by
  rw [Nat.le_div_iff_mul_le (by omega)]
  generalize q * (a * 4294967296 + b)=z at *
  generalize q * b=x at *
  omega
 omega
theorem DvI.next (h : DvI u d a b q r) (ha : 0 < a) (hu : u < a * 4294967296 + b) (hd : d < 4294967296) (hc : 4294967296 <= q \/ 4294967296 * r + d < q * b) :
  1 <= q /\ (q - 1) * a + (r + a)=u /\ (u * 4294967296 + d) / (a * 4294967296 + b) <= q - 1 /\ q - 1 <= 4294967296:=by
 have h1:=h.more ha hu hd hc
 have h2:=h.qle
 have h3:=h.sum
 generalize (u * 4294967296 + d) / (a * 4294967296 + b)=Q at *
 obtain ⟨q',rfl⟩ : ∃ q',q=q' + 1:=⟨q - 1,by omega⟩
 refine ⟨by omega,?_,by omega,by omega⟩
 rw [Nat.add_mul] at h3
 simp only [Nat.add_sub_cancel]
 omega
end
end Go.Gv

namespace Go.Gv
variable {C : CC} (hC : aI prog C)
include hC
end Go.Gv

namespace Go.Gv
def QZ (n : Nat) : D:=.agg [.int .u64 ((n / 18446744073709551616 : Nat) : Int),.int .u64 ((n % 18446744073709551616 : Nat) : Int)]
def yA (x : Nat) : Nat -> Nat -> Nat
 | 0,r=>r
 | i + 1,r=>yA x i (if (r + 2 ^ i) * (r + 2 ^ i) <= x then r + 2 ^ i else r)
def QV (x : Nat) : Nat:=yA x 63 0
variable {C : CC} (hC : aI prog C)
include hC
end Go.Gv

namespace Go.Gv
open Go.Lib
end Go.Gv

namespace Go.Gv
open Go.Lib
def Q3 (p : Nat) (neg : Bool) : D:=.agg [.int .u64 ((p / 18446744073709551616 : Nat) : Int),.int .u64 ((p % 18446744073709551616 : Nat) : Int),.bool neg]
def wiD (p : Nat) : D:=.agg [.int .i64 ((p / 1152921504606846976 : Nat) : Int),.int .i64 ((p % 1152921504606846976 : Nat) : Int)]
variable {C : CC} (hC : aI prog C)
include hC
end Go.Gv

namespace Go.Gv
open Go.Lib
variable {C : CC} (hC : aI prog C)
include hC
end Go.Gv

namespace Go.Gv
variable {C : CC} (hC : aI prog C)
include hC
end Go.Gv

namespace Go.Gv
def Pr (x y : Int) : Int:=if x < y then -1 else if y < x then 1 else 0
variable {C : CC} (hC : aI prog C)
include hC
end Go.Gv

namespace Go.Gv
def IE (m : Msh) (i : Nat) : Env:=[(1,.ptr (bk m)),(3,.mrf 10224),(10224,.mp 3 2 (iy m i) (jV m i)),(16,slx m.fn (m.f.map bz)),(17,.int .i64 m.f.length),(18,.int .i64 i)]
theorem nC (m : Msh) (i : Nat) : IE m i=[(1,.ptr (bk m)),(3,.mrf 10224),(10224,.mp 3 2 (iy m i) (jV m i)),(16,slx m.fn (m.f.map bz)),(17,.int .i64 m.f.length),(18,.int .i64 i)]:=_root_.id rfl
def IF (m : Msh) (i k : Nat) : Env:=[(1,.ptr (bk m)),(3,.mrf 10224),(10224,.mp 3 2 (sdK (fce m i) k++iy m i) (List.replicate k (.int .i64 i)++jV m i)),(4,.int .i64 i),(5,.adr (.r 10080) 0 0),(10080,.blk 4 [bz (fce m i)]),(16,slx m.fn (m.f.map bz)),(17,.int .i64 m.f.length),(18,.int .i64 i),(23,.int .i64 k)]
theorem nD (m : Msh) (i k : Nat) : IF m i k=[(1,.ptr (bk m)),(3,.mrf 10224),(10224,.mp 3 2 (sdK (fce m i) k++iy m i) (List.replicate k (.int .i64 i)++jV m i)),(4,.int .i64 i),(5,.adr (.r 10080) 0 0),(10080,.blk 4 [bz (fce m i)]),(16,slx m.fn (m.f.map bz)),(17,.int .i64 m.f.length),(18,.int .i64 i),(23,.int .i64 k)]:=_root_.id rfl
def IG (m : Msh) (i : Nat) : Env:=[(3,.mrf 10224),(10224,.mp 3 2 (iy m m.f.length) (jV m m.f.length)),(7,.ref (.r 10112) 0 m.f.length),(10112,.blk 3 (nbR m i 0)),(38,slx m.fn (m.f.map bz)),(39,.int .i64 m.f.length),(40,.int .i64 i)]
theorem nE (m : Msh) (i : Nat) : IG m i=[(3,.mrf 10224),(10224,.mp 3 2 (iy m m.f.length) (jV m m.f.length)),(7,.ref (.r 10112) 0 m.f.length),(10112,.blk 3 (nbR m i 0)),(38,slx m.fn (m.f.map bz)),(39,.int .i64 m.f.length),(40,.int .i64 i)]:=_root_.id rfl
def IH (m : Msh) (i k : Nat) : Env:=[(3,.mrf 10224),(10224,.mp 3 2 (iy m m.f.length) (jV m m.f.length)),(7,.ref (.r 10112) 0 m.f.length),(10112,.blk 3 (nbR m i k)),(8,.int .i64 i),(9,.adr (.r 10144) 0 0),(10144,.blk 4 [bz (fce m i)]),(38,slx m.fn (m.f.map bz)),(39,.int .i64 m.f.length),(40,.int .i64 i),(45,.int .i64 k)]
theorem fc (m : Msh) (i k : Nat) : IH m i k=[(3,.mrf 10224),(10224,.mp 3 2 (iy m m.f.length) (jV m m.f.length)),(7,.ref (.r 10112) 0 m.f.length),(10112,.blk 3 (nbR m i k)),(8,.int .i64 i),(9,.adr (.r 10144) 0 0),(10144,.blk 4 [bz (fce m i)]),(38,slx m.fn (m.f.map bz)),(39,.int .i64 m.f.length),(40,.int .i64 i),(45,.int .i64 k)]:=_root_.id rfl
variable {C : CC} (hC : aI prog C)
include hC
set_option maxHeartbeats 2000000 in
theorem nF (m : Msh) (hv : aE m=true) : C 261 [.agg (bk m)] (.sl (nbA m)) []:=by
 have hsz:=d5 hv
 have hml : maxLen=9223372036854775807:=rfl
 refine aT hC (nf:=N261) rfl rfl ?_
 simp [N261,ae]
 refine ay Nat (fun i=>IE m i) (fun i=>i <= m.f.length) (fun i=>m.f.length - i) 0 (by simp) (by simp [nC,ae,iy,jV]) ?_
 rintro i hi
 simp [nC,ae]
 refine am (fun g1=>?_) (fun g1=>?_) <;> simp at g1 <;> simp [g1]
 ·have hw : IntKind.wrap .i64 ((i : Int) + 1)=((i + 1 : Nat) : Int):=aj (by omega) (by omega)
  have cb:=fun j=>pg (hD hv g1) j
  have ks:=fun k h=>nz hC (fce m i) k h
  have nl:=oH m i
  simp only [aD] at ks
  simp [aD]
  refine ay Nat (fun k=>IF m i k) (fun k=>k <= 3) (fun k=>3 - k) 0 (by simp) (by simp [nD,ae,aD,sdK]) ?_
  rintro k hk
  simp [nD,ae,aD]
  refine am (fun g2=>?_) (fun g2=>?_) <;> simp at g2 <;> simp [g2]
  ·have hw2 : IntKind.wrap .i64 ((k : Int) + 1)=((k + 1 : Nat) : Int):=aj (by omega) (by omega)
   have ck:=cb k
   have ck1:=cb (k + 1)
   refine aa (ks k (by omega)) (.inl rfl) ?_
   simp [hw2,jq]
   refine ⟨by omega,⟨⟨by omega,by omega⟩,by omega,by omega⟩,by omega,k + 1,by omega,by omega,?_⟩
   simp [nD,ae,aD,sdK,List.replicate_succ]
  ·have hk3 : k=3:=by omega
   subst hk3
   simp [hw]
   refine ⟨i + 1,by omega,by omega,?_⟩
   simp [nC,ae,iy,jV,List.replicate]
 ·have hi2 : i=m.f.length:=by omega
  subst hi2
  refine ⟨by omega,?_⟩
  refine ay Nat (fun i=>IG m i) (fun i=>i <= m.f.length) (fun i=>m.f.length - i) 0 (by simp) (by simp [nE,ae,tN]) ?_
  clear hi g1
  rintro i hi
  simp [nE,ae]
  refine am (fun g1=>?_) (fun g1=>?_) <;> simp at g1 <;> simp [g1]
  ·have hw : IntKind.wrap .i64 ((i : Int) + 1)=((i + 1 : Nat) : Int):=aj (by omega) (by omega)
   have cb:=fun j=>pg (hD hv g1) j
   have ks:=fun k h=>nz hC (fce m i) k h
   simp only [aD] at ks
   simp [aD]
   refine ay Nat (fun k=>IH m i k) (fun k=>k <= 3) (fun k=>3 - k) 0 (by simp) (by simp [fc,ae,aD]) ?_
   rintro k hk
   simp [fc,ae,aD]
   refine am (fun g2=>?_) (fun g2=>?_) <;> simp at g2 <;> simp [g2]
   ·have hw2 : IntKind.wrap .i64 ((k : Int) + 1)=((k + 1 : Nat) : Int):=aj (by omega) (by omega)
    have ck:=cb k
    have ck1:=cb (k + 1)
    have hg:=tO m (crn (fce m i) (k + 1)) (crn (fce m i) k) m.f.length
    have hl : nbF m i k=match i7 (fun j=>bU (fce m j) (crn (fce m i) (k + 1)) (crn (fce m i) k)) m.f.length with
     | some j=>(j : Int)
     | none=>-1:=qe hv _ _
    have hset:=v6 m g1 (k:=k) (by omega)
    have hget:=vZ m (i:=i) (k:=k) g1
    cases hl0 : i7 (fun j=>bU (fce m j) (crn (fce m i) (k + 1)) (crn (fce m i) k)) m.f.length with
    | none =>
     rw [hl0] at hg hl
     simp at hg
     rcases (by omega : k=0 \/ k=1 \/ k=2) with rfl | rfl | rfl
     ·refine aa (ks 0 (by omega)) (.inl rfl) ?_
      simp at ck ck1 hset hget
      simp [hg]
      refine ⟨⟨⟨by omega,by omega⟩,by omega,by omega⟩,g1,?_⟩
      rw [hget]
      simp [hget]
      refine ⟨1,by omega,by omega,?_⟩
      rw [hl] at hset
      simp [fc,ae,aD,hset,bm,bv,bx]
     ·refine aa (ks 1 (by omega)) (.inl rfl) ?_
      simp at ck ck1 hset hget
      simp [hg]
      refine ⟨⟨⟨by omega,by omega⟩,by omega,by omega⟩,g1,?_⟩
      rw [hget]
      simp [hget]
      refine ⟨2,by omega,by omega,?_⟩
      rw [hl] at hset
      simp [fc,ae,aD,hset,bm,bv,bx]
     ·refine aa (ks 2 (by omega)) (.inl rfl) ?_
      simp at ck ck1 hset hget
      simp [hg]
      refine ⟨⟨⟨by omega,by omega⟩,by omega,by omega⟩,g1,?_⟩
      rw [hget]
      simp [hget]
      refine ⟨3,by omega,by omega,?_⟩
      rw [hl] at hset
      simp [fc,ae,aD,hset,bm,bv,bx]
    | some j =>
     rw [hl0] at hg hl
     simp at hg
     rcases (by omega : k=0 \/ k=1 \/ k=2) with rfl | rfl | rfl
     ·refine aa (ks 0 (by omega)) (.inl rfl) ?_
      simp at ck ck1 hset hget
      simp [hg]
      refine ⟨⟨⟨by omega,by omega⟩,by omega,by omega⟩,g1,?_⟩
      rw [hget]
      simp [hget]
      refine ⟨1,by omega,by omega,?_⟩
      rw [hl] at hset
      simp [fc,ae,aD,hset,bm,bv,bx]
     ·refine aa (ks 1 (by omega)) (.inl rfl) ?_
      simp at ck ck1 hset hget
      simp [hg]
      refine ⟨⟨⟨by omega,by omega⟩,by omega,by omega⟩,g1,?_⟩
      rw [hget]
      simp [hget]
      refine ⟨2,by omega,by omega,?_⟩
      rw [hl] at hset
      simp [fc,ae,aD,hset,bm,bv,bx]
     ·refine aa (ks 2 (by omega)) (.inl rfl) ?_
      simp at ck ck1 hset hget
      simp [hg]
      refine ⟨⟨⟨by omega,by omega⟩,by omega,by omega⟩,g1,?_⟩
      rw [hget]
      simp [hget]
      refine ⟨3,by omega,by omega,?_⟩
      rw [hl] at hset
      simp [fc,ae,aD,hset,bm,bv,bx]
   ·have hk3 : k=3:=by omega
    subst hk3
    simp [hw]
    refine ⟨i + 1,by omega,by omega,?_⟩
    simp [nE,ae,tM]
  ·have hi2 : i=m.f.length:=by omega
   subst hi2
   rw [vY]
end Go.Gv

namespace Go.Gv
theorem eE {s : Spt} (h : aU s=true) : -16777216 <= s.x /\ s.x <= 16777216 /\ -16777216 <= s.y /\ s.y <= 16777216 /\ -4194304 <= s.z /\ s.z <= 4194304:=by
 simp only [aU,Bool.and_eq_true,decide_eq_true_eq] at h
 omega
def spA (m : Msh) (i : Nat) : Spt:=spt m (fce m i).a.toNat
def spB (m : Msh) (i : Nat) : Spt:=spt m (fce m i).b.toNat
def spC (m : Msh) (i : Nat) : Spt:=spt m (fce m i).c.toNat
def gm (m : Msh) (i : Nat) : Int:=(spA m i).z + (spB m i).z + (spC m i).z
def n8 (m : Msh) (i : Nat) : Int:=(spA m i).x + (spB m i).x + (spC m i).x
def n9 (m : Msh) (i : Nat) : Int:=(spA m i).y + (spB m i).y + (spC m i).y
theorem uJ (m : Msh) (i : Nat) : spt m (fce m i).a.toNat=spA m i:=rfl
theorem uK (m : Msh) (i : Nat) : spt m (fce m i).b.toNat=spB m i:=rfl
theorem uL (m : Msh) (i : Nat) : spt m (fce m i).c.toNat=spC m i:=rfl
theorem yE {m : Msh} (hv : aE m=true) {i : Nat} (hi : i < m.f.length) : aU (spA m i)=true /\ aU (spB m i)=true /\ aU (spC m i)=true:=by
 obtain ⟨⟨_,h1⟩,⟨_,h2⟩,⟨_,h3⟩⟩:=jP (hD hv hi)
 exact ⟨nS hv h1,nS hv h2,nS hv h3⟩
def smR (m : Msh) (i : Nat) : List (List D):=(List.range i).map fun j=>[.int .i64 (gm m j)]
def ctR (m : Msh) (i : Nat) : List (List D):=(List.range i).map fun j=>[.int .i64 (n8 m j),.int .i64 (n9 m j)]
@[simp] theorem O6 (m : Msh) (i : Nat) : (smR m i).length=i:=by simp [smR]
@[simp] theorem Ki (m : Msh) (i : Nat) : (ctR m i).length=i:=by simp [ctR]
@[simp] theorem JR (m : Msh) (i : Nat) : List.take i (smR m i)=smR m i:=List.take_of_length_le (by simp)
@[simp] theorem Fx (m : Msh) (i : Nat) : List.take i (ctR m i)=ctR m i:=List.take_of_length_le (by simp)
theorem qE (m : Msh) (i : Nat) : smR m i++[[.int .i64 (gm m i)]]=smR m (i + 1):=by simp [smR,List.range_succ]
theorem vj (m : Msh) (i : Nat) : ctR m i++[[.int .i64 (n8 m i),.int .i64 (n9 m i)]]=ctR m (i + 1):=by simp [ctR,List.range_succ]
@[simp] theorem O5 (m : Msh) (i : Nat) (x : List D) : (∀ e,e ∈ smR m i \/ e=x -> ∀ c,c ∈ e -> aw c=true)=∀ c,c ∈ x -> aw c=true:=by
 apply propext
 constructor
 ·exact fun h=>h x (.inr rfl)
 ·rintro h e (he | rfl)
  ·obtain ⟨j,_,rfl⟩:=List.mem_map.1 he
   simp
  ·exact h
@[simp] theorem Kh (m : Msh) (i : Nat) (x : List D) : (∀ e,e ∈ ctR m i \/ e=x -> ∀ c,c ∈ e -> aw c=true)=∀ c,c ∈ x -> aw c=true:=by
 apply propext
 constructor
 ·exact fun h=>h x (.inr rfl)
 ·rintro h e (he | rfl)
  ·obtain ⟨j,_,rfl⟩:=List.mem_map.1 he
   simp
  ·exact h
def cN (sz : Nat) (es : List (List D)) : D:=match es with
 | []=>.nils
 | e::r=>.own sz (e::r)
@[simp] theorem Fk (sz : Nat) (es : List (List D)) : a6 (cN sz es)=slx true es:=by cases es <;> rfl
def grC (m : Msh) : List D:=[.sl (nbA m),slx true (smR m m.f.length),slx true (ctR m m.f.length)]
theorem tv (m : Msh) : grC m=[.sl (nbA m),slx true (smR m m.f.length),slx true (ctR m m.f.length)]:=_root_.id rfl
def mdE (m : Msh) (i : Nat) : Env:=[(1,.ptr (bk m)),(6,.adr (.r 10352) 0 0),(10352,.blk 3 [[.sl (nbA m),cN 1 (smR m i),cN 2 (ctR m i)]]),(24,slx m.fn (m.f.map bz)),(25,.int .i64 m.f.length),(26,.int .i64 i)]
theorem nx (m : Msh) (i : Nat) : mdE m i=[(1,.ptr (bk m)),(6,.adr (.r 10352) 0 0),(10352,.blk 3 [[.sl (nbA m),cN 1 (smR m i),cN 2 (ctR m i)]]),(24,slx m.fn (m.f.map bz)),(25,.int .i64 m.f.length),(26,.int .i64 i)]:=_root_.id rfl
theorem xm (m : Msh) (i : Nat) : cN 1 (smR m (i + 1))=.own 1 (smR m (i + 1)):=by
 have : (smR m (i + 1)).length=i + 1:=by simp
 cases h : smR m (i + 1) with
 | nil=>rw [h] at this;simp at this
 | cons e r=>rfl
theorem xk (m : Msh) (i : Nat) : cN 2 (ctR m (i + 1))=.own 2 (ctR m (i + 1)):=by
 have : (ctR m (i + 1)).length=i + 1:=by simp
 cases h : ctR m (i + 1) with
 | nil=>rw [h] at this;simp at this
 | cons e r=>rfl
variable {C : CC} (hC : aI prog C)
include hC
theorem iS (dec : Nat -> List UInt8) (hI : ∀ n : Nat,n < 100 -> C 127 [.int .i64 n] (.str (dec n)) []) (m : Msh) (hz : cL m=true -> m.s.length <= 100 /\ m.f.length <= 100) :
  C 221 [.agg (bk m)] (if aE m then .tup [.sl (nbA m),.int .i64 0] else .tup [.nils,.int .i64 1]) []:=by
 have k:=tH hC dec hI m hz
 refine aT hC (nf:=N221) rfl rfl ?_
 simp only [ae] at k
 simp [N221,ae]
 refine aa k (.inl rfl) ?_
 cases hv : aE m
 ·simp
 ·have k2:=nF hC m hv
  simp only [ae] at k2
  simp
  refine aa k2 (.inr rfl) ?_
  simp
set_option maxRecDepth 8000 in
set_option maxHeartbeats 2000000 in
theorem Ae (dec : Nat -> List UInt8) (hI : ∀ n : Nat,n < 100 -> C 127 [.int .i64 n] (.str (dec n)) []) (m : Msh) (hz : cL m=true -> m.s.length <= 100 /\ m.f.length <= 100) :
  C 253 [.agg (bk m)] (if aE m then .tup [.ptr (grC m),.int .i64 0] else .tup [.nilp,.int .i64 1]) []:=by
 have k:=iS hC dec hI m hz
 refine aT hC (nf:=N253) rfl rfl ?_
 simp only [ae] at k
 simp [N253,ae]
 refine aa k (.inr rfl) ?_
 cases hv : aE m
 ·simp
 ·have hsz:=d5 hv
  simp
  refine ay Nat (fun i=>mdE m i) (fun i=>i <= m.f.length) (fun i=>m.f.length - i) 0 (by simp) (by simp [nx,ae,smR,ctR,cN]) ?_
  rintro i hi
  simp [nx,ae]
  refine am (fun g1=>?_) (fun g1=>?_) <;> simp at g1 <;> simp [g1]
  ·have hw : IntKind.wrap .i64 ((i : Int) + 1)=((i + 1 : Nat) : Int):=aj (by omega) (by omega)
   obtain ⟨⟨a1,a2⟩,⟨b1,b2⟩,⟨c1,c2⟩⟩:=jP (hD hv g1)
   obtain ⟨h1,h2,h3⟩:=yE hv g1
   have h1:=eE h1
   have h2:=eE h2
   have h3:=eE h3
   have wz1 : IntKind.wrap .i64 ((spA m i).z + (spB m i).z)=(spA m i).z + (spB m i).z:=aj rfl (by omega)
   have wz2 : IntKind.wrap .i64 ((spA m i).z + (spB m i).z + (spC m i).z)=gm m i:=aj rfl (by unfold gm;omega)
   have wx1 : IntKind.wrap .i64 ((spA m i).x + (spB m i).x)=(spA m i).x + (spB m i).x:=aj rfl (by omega)
   have wx2 : IntKind.wrap .i64 ((spA m i).x + (spB m i).x + (spC m i).x)=n8 m i:=aj rfl (by unfold n8;omega)
   have wy1 : IntKind.wrap .i64 ((spA m i).y + (spB m i).y)=(spA m i).y + (spB m i).y:=aj rfl (by omega)
   have wy2 : IntKind.wrap .i64 ((spA m i).y + (spB m i).y + (spC m i).y)=n9 m i:=aj rfl (by unfold n9;omega)
   simp [aD,a1,a2,b1,b2,c1,c2,b8,uJ,uK,uL]
   refine ⟨al (by decide +kernel),?_⟩
   cases i with
   | zero =>
    simp [smR,ctR,cN]
    refine ⟨al (by decide +kernel),al (by decide +kernel),1,by omega,by omega,?_⟩
    simp [nx,ae,smR,ctR,cN,bm,wz1,wz2,wx1,wx2,wy1,wy2]
   | succ j =>
    simp [xm,xk]
    have e1:=qE m (j + 1)
    have e2:=vj m (j + 1)
    refine ⟨by omega,al (by decide +kernel),by omega,al (by decide +kernel),j + 1 + 1,by omega,by omega,?_⟩
    simp [nx,ae,xm,xk,wz1,wz2,wx1,wx2,wy1,wy2,e1,e2]
    exact aj rfl (by omega)
  ·have hi2 : i=m.f.length:=by omega
   subst hi2
   simp [tv]
end Go.Gv

namespace Go.Gv
theorem vM {α : Type} (p : α -> Bool) (xs : List α) : -1 <= gM p xs /\ gM p xs < xs.length:=by
 unfold gM
 split
 ·rename_i i h
  have:=(List.findIdx?_eq_some_iff_getElem.1 h).1
  omega
 ·omega
theorem dS (m : Msh) (i k : Nat) : -1 <= nbF m i k /\ nbF m i k < m.f.length:=vM _ _
def bsd (m : Msh) (i : Nat) (o : Int) : Bool:=decide (o=nbF m i 0) || (decide (o=nbF m i 1) || decide (o=nbF m i 2))
def sV (m : Msh) (i j : Nat) : Int:=gm m i - gm m j
def Jd (m : Msh) (i j : Nat) : Int:=sV m i j * (if sV m i j < -sV m i j then -sV m i j else sV m i j)
def Fy (m : Msh) (i j : Nat) : Int:=(n8 m i - n8 m j) * (n8 m i - n8 m j) + (n9 m i - n9 m j) * (n9 m i - n9 m j)
def Fs (m : Msh) (i a b : Nat) : Int:=Pr (Jd m i a * Fy m i b) (Jd m i b * Fy m i a)
def QL (m : Msh) (i : Nat) (best n : Int) : Int:=if n < 0 \/ gm m i <= gm m n.toNat then best else if best < 0 then n else if 0 < Fs m i n.toNat best.toNat \/ (Fs m i n.toNat best.toNat=0 /\ n < best) then n else best
def upF (m : Msh) (i : Nat) : Nat -> Int
 | 0=>-2
 | k + 1=>QL m i (upF m i k) (nbF m i k)
def rT (m : Msh) (i : Nat) : Int:=if upF m i 3=-2 /\ bsd m i (-1)=true then -1 else upF m i 3
variable {C : CC} (hC : aI prog C)
include hC
theorem vN {b : Bool} {xs : List Int} (o : Int) (hs : xs.length < 2 ^ 62) : C 262 [slx b (xs.map fun x=>[.int .i64 x]),.int .i64 o] (.int .i64 (gM (fun x=>decide (o=x)) xs)) []:=by
 refine aT hC (nf:=N262) rfl rfl ?_
 simp [N262]
 refine ay Nat (fun i=>[(0,slx b (xs.map fun x=>[.int .i64 x])),(1,.int .i64 o),(7,.int .i64 xs.length),(8,.int .i64 i)]) (fun i=>i <= xs.length /\ ∀ (j : Nat) (h : j < xs.length),j < i -> decide (o=xs[j])=false) (fun i=>xs.length - i) 0 (by simp) (by simp) ?_
 rintro i ⟨hi,hj⟩
 simp
 refine am (fun h=>?_) (fun h=>?_) <;> simp [h] <;> simp at h
 ·have hw : IntKind.wrap .i64 ((i : Int) + 1)=((i + 1 : Nat) : Int):=aj (by omega) (by omega)
  simp [h,List.getElem_map]
  refine am (fun h1=>?_) (fun h1=>?_) <;> simp at h1 <;> simp [hw]
  ·rw [dR hj h (by simpa using h1)]
  ·refine ⟨i + 1,⟨by omega,fun j hl hjj=>?_⟩,by omega,by omega⟩
   rcases Nat.lt_succ_iff_lt_or_eq.1 hjj with h2 | rfl
   ·simpa using hj j hl h2
   ·exact h1
 ·rw [fJ (fun j hl=>hj j hl (by omega))]
theorem vK {b : Bool} {xs : List Int} (o : Int) (hs : xs.length < 2 ^ 62) : C 223 [slx b (xs.map fun x=>[.int .i64 x]),.int .i64 o] (.bool (xs.any fun x=>decide (o=x))) []:=by
 refine aT hC (nf:=N223) rfl rfl ?_
 simp [N223]
 refine aa (vN hC o hs) (.inl rfl) ?_
 simp [lA]
end Go.Gv

namespace Go.Gv
def inR (l : List Int) : List (List D):=l.map fun n=>[.int .i64 n]
theorem pH (l : List Int) : inR l=l.map fun n=>[.int .i64 n]:=rfl
@[simp] theorem KY (l : List Int) : (inR l).length=l.length:=by simp [inR]
@[simp] theorem eL (l : List Int) : List.take l.length (inR l)=inR l:=List.take_of_length_le (by simp)
@[simp] theorem PW (l : List Int) : List.map (fun e=>List.map a6 e) (inR l)=inR l:=by simp [inR]
@[simp] theorem KZ : inR []=[]:=rfl
def bA (m : Msh) : List Int:=(List.range m.f.length).map fun j=>gm m j
def QU (m : Msh) : List Int:=(List.range m.f.length).map fun j=>rT m j
theorem yD (m : Msh) : smR m m.f.length=inR (bA m):=by simp [smR,inR,bA]
def flT (m : Msh) (i : Nat) : List Int:=(List.range i).map fun j=>rT m j
def flB (m : Msh) : Nat -> List (List D)
 | 0=>List.replicate m.f.length [.int .i64 0]
 | i + 1=>inR (flT m (i + 1))
def pth (m : Msh) : Nat -> Int -> List Int
 | 0,_=>[]
 | k + 1,f=>if f < 0 then [] else f::pth m k (rT m f.toNat)
def rnk (m : Msh) (i : Nat) : Nat:=((List.range m.f.length).filter fun j=>decide (gm m j < gm m i)).length
def yz (m : Msh) (f : Int) : List Int:=pth m m.f.length f
def Qn (m : Msh) (i : Nat) : List Int:=((List.range i).filter fun j=>decide (rT m j=-2)).map fun (j : Nat)=>(j : Int)
def Q2 (m : Msh) : List Int:=Qn m m.f.length
variable {C : CC} (hC : aI prog C)
include hC
theorem t8 (m : Msh) (hz : cL m=true -> m.s.length <= 100 /\ m.f.length <= 100) : C 215 [.agg (bk m)] (.bool (aE m)) []:=by
 have ks:=uj hC m
 rw [show (decide (m.s.length <= 2000) && decide (m.f.length <= 4000))=cL m from rfl] at ks
 refine aT hC (nf:=N215) rfl rfl ?_
 simp only [ae] at ks
 simp [N215,ae]
 refine aa ks (.inl rfl) ?_
 cases hs : cL m
 ·simp [aE,hs]
 ·obtain ⟨h1,h2⟩:=hz hs
  have k:=t7 hC m h1 h2
  have e : aE m=decide ((cj fo 0 (LL m)).length=0):=by
   rw [aE,hs,Bool.true_and,Bool.eq_iff_iff,decide_eq_true_eq,List.length_eq_zero_iff,lK]
  rw [e]
  obtain ⟨X,hX⟩ : ∃ X,X=cj fo 0 (LL m):=⟨_,rfl⟩
  rw [<- hX] at k ⊢
  simp only [ae] at k
  simp
  refine aa k (.inr rfl) ?_
  simp
theorem yL (dec : Nat -> List UInt8) (hI : ∀ n : Nat,n < 100 -> C 127 [.int .i64 n] (.str (dec n)) []) (m : Msh) (hz : cL m=true -> m.s.length <= 100 /\ m.f.length <= 100) :
  C 220 [.agg (bk m)] (if aE m then .tup [slx true (inR (bA m)),.int .i64 0] else .tup [.nils,.int .i64 1]) []:=by
 have k:=Ae hC dec hI m hz
 refine aT hC (nf:=N220) rfl rfl ?_
 simp only [ae] at k
 simp [N220,ae]
 refine aa k (.inr rfl) ?_
 cases hv : aE m
 ·simp
 ·simp [tv,yD]
end Go.Gv

namespace Go.Gv
def nfR (fs : List Nat) : List (List D):=fs.map fun i : Nat=>[D.int .i64 (i : Int)]
@[simp] theorem On (fs : List Nat) : (nfR fs).length=fs.length:=by simp [nfR]
theorem ii {fs : List Nat} {i : Nat} (h : i < fs.length) : (nfR fs)[i]? = some [.int .i64 (fs[i] : Int)]:=by simp [nfR,h]
theorem AK {fs : List Nat} {i : Nat} (h : i < (nfR fs).length) : (nfR fs)[i]=[.int .i64 (fs[i]'(by simpa using h) : Nat)]:=by simp [nfR]
@[simp] theorem IK (fs : List Nat) (n : Nat) : List.take n (nfR fs)=nfR (fs.take n):=by simp [nfR]
theorem jb (fs : List Nat) (i x : Nat) : (nfR fs).set i [.int .i64 (x : Int)]=nfR (fs.set i x):=by simp [nfR,List.map_set]
theorem qx (fs : List Nat) (x : Nat) : nfR fs++[[.int .i64 (x : Int)]]=nfR (fs++[x]):=by simp [nfR]
theorem iK (fs : List Nat) : ∀ e ∈ nfR fs,∀ c ∈ e,aW c=true:=by simp [nfR]
theorem tQ (fs : List Nat) : ∀ e ∈ nfR fs,∀ c ∈ e,aw c=true:=by simp [nfR]
def qB (fs : List Nat) (sp : List Int) : List (List D):=[[.own 1 (nfR fs),.slv 0 (inR sp)]]
def fAt (fs : List Nat) (i : Nat) : Nat:=fs.getD i 0
def swp (fs : List Nat) (i k : Nat) : List Nat:=(fs.set i (fAt fs k)).set k (fAt fs i)
@[simp] theorem O8 (fs : List Nat) (i k : Nat) : (swp fs i k).length=fs.length:=by simp [swp]
theorem c8 {fs : List Nat} {i : Nat} (h : i < fs.length) : fAt fs i=fs[i]:=by simp [fAt,h]
theorem eJ {fs : List Nat} {i : Nat} (h : i < fs.length) : fAt fs i ∈ fs:=by rw [c8 h];exact List.getElem_mem _
theorem bO {sp : List Int} {i : Nat} (h : i < sp.length) : (inR sp)[i]? = some [.int .i64 (sp.getD i 0)]:=by simp [inR,h]
section
variable {C : Nat -> List D -> D -> List D -> Prop} (hC : fU prog C)
include hC
theorem t6 (fs : List Nat) (sp : List Int) : C 317 [.blk 2 (qB fs sp),.adr (.r 10015) 0 0] (.int .i64 fs.length) [.blk 2 (qB fs sp),.nilp]:=by
 unfold qB
 refine eT hC (nf:=N317) rfl rfl ?_
 simp [N317]
theorem jh (fs : List Nat) (sp : List Int) (i k : Nat) (hi : i < fs.length) (hk : k < fs.length) : C 343 [.blk 2 (qB fs sp),.adr (.r 10015) 0 0,.int .i64 i,.int .i64 k] (.tup []) [.blk 2 (qB (swp fs i k) sp),.nilp]:=by
 rw [show swp fs i k=(fs.set i fs[k]).set k fs[i] by rw [<- c8 hi,<- c8 hk];rfl]
 unfold qB
 refine eT hC (nf:=N343) rfl rfl ?_
 simp [N343,aH (ii hi),aH (ii hk),hi,hk,AK,jb]
 exact al (by decide +kernel)
theorem wg (fs : List Nat) (sp : List Int) (x : Nat) (h : fs.length < 2 ^ 40) : C 342 [.blk 2 (qB fs sp),.adr (.r 10015) 0 0,.ifi 2 x] (.tup []) [.blk 2 (qB (fs++[x]) sp),.nilp]:=by
 unfold qB
 refine eT hC (nf:=N342) rfl rfl ?_
 simp [N342]
 refine ⟨by omega,?_,al (by decide +kernel),?_⟩
 ·rintro e (he | rfl) c hc
  ·exact tQ _ _ he _ hc
  ·simp at hc;subst hc;rfl
 ·exact qx fs x
theorem AS (fs : List Nat) (sp : List Int) (h : 0 < fs.length) (h2 : fs.length < 2 ^ 40) : C 341 [.blk 2 (qB fs sp),.adr (.r 10015) 0 0] (.ifi 2 (fAt fs (fs.length - 1) : Nat)) [.blk 2 (qB (fs.take (fs.length - 1)) sp),.nilp]:=by
 have e1 : IntKind.wrap .i64 ((fs.length : Int) - 1)=((fs.length - 1 : Nat) : Int):=aj (by omega) (by omega)
 have hl : fs.length - 1 < fs.length:=by omega
 rw [c8 hl]
 unfold qB
 refine eT hC (nf:=N341) rfl rfl ?_
 simp [N341,e1,aH (ii hl),hl]
 refine ⟨al (by decide +kernel),?_⟩
 refine xb (b:=10015) (i:=0) (off:=0) (n:=fs.length - 1) rfl (by simp) rfl rfl rfl (by simp) ?_
 simp
 exact al (by decide +kernel)
def ltF (sp : List Int) (a b : Nat) : Bool:=decide (sp.getD a 0 < sp.getD b 0) || (decide (sp.getD a 0=sp.getD b 0) && decide (a < b))
theorem jg (fs : List Nat) (sp : List Int) (i k : Nat) (hi : i < fs.length) (hk : k < fs.length) (hb : ∀ a ∈ fs,a < sp.length) : C 340 [.blk 2 (qB fs sp),.adr (.r 10015) 0 0,.int .i64 i,.int .i64 k] (.bool (ltF sp (fAt fs i) (fAt fs k))) [.blk 2 (qB fs sp),.nilp]:=by
 rw [c8 hi,c8 hk]
 unfold qB
 refine eT hC (nf:=N340) rfl rfl ?_
 have hi' : fs[i] < sp.length:=hb _ (List.getElem_mem _)
 have hk' : fs[k] < sp.length:=hb _ (List.getElem_mem _)
 simp [N340,aH (ii hi),aH (ii hk),hi,hk,aN (bO hi'),aN (bO hk')]
 refine ⟨al (by decide +kernel),?_⟩
 refine am (fun g1=>?_) (fun g1=>?_) <;> simp at g1
 ·simp [g1,ltF]
  exact al (by decide +kernel)
 ·simp [Int.not_lt.2 g1,aN (bO hi'),aN (bO hk')]
  refine am (fun g2=>?_) (fun g2=>?_) <;> simp at g2
  ·simp [g2,ltF]
   exact al (by decide +kernel)
  ·simp [g2,ltF,Int.not_lt.2 g1]
   exact al (by decide +kernel)
end
end Go.Gv

namespace Go.Gv
def upL (sp : List Int) (fs : List Nat) (j : Nat) : List Nat :=
 if j=0 then fs else if ltF sp (fAt fs j) (fAt fs ((j - 1) / 2)) then upL sp (swp fs ((j - 1) / 2) j) ((j - 1) / 2) else fs
 termination_by j
 decreasing_by omega
def dnJ (sp : List Int) (fs : List Nat) (j n : Nat) : Nat:=if j + 1 < n /\ ltF sp (fAt fs (j + 1)) (fAt fs j)=true then j + 1 else j
theorem lh {sp : List Int} {fs : List Nat} {j n : Nat} (h : j < n) : j <= dnJ sp fs j n /\ dnJ sp fs j n < n:=by
 unfold dnJ
 split <;> omega
def bE (sp : List Int) (fs : List Nat) (i n : Nat) : List Nat × Nat :=
 if h : n <= 2 * i + 1 then (fs,i) else if ltF sp (fAt fs (dnJ sp fs (2 * i + 1) n)) (fAt fs i) then bE sp (swp fs i (dnJ sp fs (2 * i + 1) n)) (dnJ sp fs (2 * i + 1) n) n else (fs,i)
 termination_by n - i
 decreasing_by
 have:=lh (sp:=sp) (fs:=fs) (j:=2 * i + 1) (n:=n) (by omega)
 omega
theorem qD {fs : List Nat} {i x a : Nat} (h : a ∈ fs.set i x) : a=x \/ a ∈ fs:=by
 rcases List.mem_or_eq_of_mem_set h with h | h
 ·exact .inr h
 ·exact .inl h
theorem ju {fs : List Nat} {i k a : Nat} (hi : i < fs.length) (hk : k < fs.length) (h : a ∈ swp fs i k) : a ∈ fs:=by
 rcases qD h with rfl | h
 ·exact eJ hi
 ·rcases qD h with rfl | h
  ·exact eJ hk
  ·exact h
section
variable {C : Nat -> List D -> D -> List D -> Prop} (hC : fU prog C)
include hC
theorem Gi (fs : List Nat) (sp : List Int) (j : Nat) (hj : j < fs.length) (hb : ∀ a ∈ fs,a < sp.length) (h2 : fs.length < 2 ^ 40) : C 334 [.blk 2 (qB fs sp),.ifa 20 (.r 10015) 0 0,.int .i64 j] (.tup []) [.blk 2 (qB (upL sp fs j) sp),.nilp]:=by
 refine eT hC (nf:=N334) rfl rfl ?_
 simp [N334]
 refine ay (List Nat × Nat) (fun s=>[(0,.ifa 20 (.r 10015) 0 0),(1,.int .i64 s.2),(10015,.blk 2 (qB s.1 sp))]) (fun s=>s.2 < s.1.length /\ s.1.length=fs.length /\ (∀ a ∈ s.1,a < sp.length) /\ upL sp s.1 s.2=upL sp fs j) (fun s=>s.2) (fs,j) ⟨hj,rfl,hb,rfl⟩ (by simp) ?_
 rintro ⟨l,i⟩ ⟨k1,k2,k3,k4⟩
 simp only at k1 k2 k3 k4
 obtain ⟨p,hp0⟩ : ∃ p,p=(i - 1) / 2:=⟨_,rfl⟩
 have e1 : IntKind.wrap .i64 ((IntKind.wrap .i64 ((i : Int) - 1)).tdiv 2)=(p : Int):=by
  rw [aj (m:=(i : Int) - 1) rfl (by omega),hp0]
  by_cases h0 : i=0
  ·subst h0;decide
  ·rw [Int.tdiv_eq_ediv_of_nonneg (by omega)]
   exact aj (by omega) (by omega)
 have hp : p < l.length:=by omega
 have hu : upL sp l i=if i=0 then l else if ltF sp (fAt l i) (fAt l p) then upL sp (swp l p i) p else l:=by
  conv=>lhs;unfold upL
  rw [hp0]
 simp [e1]
 refine am (fun g1=>?_) (fun g1=>?_) <;> simp at g1 <;> simp [g1]
 ·have h0 : i=0:=by omega
  subst h0
  rw [<- k4,hu]
  simp [qB]
 ·have hne : i ≠ 0:=by omega
  have hl:=jg hC l sp i p k1 hp k3
  rw [if_neg hne] at hu
  refine ⟨by simp [qB],?_⟩
  refine b7 hl (by simp [qB]) ?_
  simp [bV]
  refine am (fun g2=>?_) (fun g2=>?_) <;> simp at g2
  ·simp [g2]
   rw [<- k4,hu,g2]
   simp [qB]
  ·simp [g2]
   refine ⟨by simp [qB],?_⟩
   refine b7 (jh hC l sp p i hp k1) (by simp [qB]) ?_
   simp [bV]
   exact ⟨swp l p i,p,⟨by simp;exact hp,by simp [k2],fun a ha=>k3 a (ju hp k1 ha),by rw [<- k4,hu,g2];simp⟩,by omega,rfl,rfl⟩
theorem vI (fs : List Nat) (sp : List Int) (i0 n : Nat) (hn : n <= fs.length) (hi0 : i0 < fs.length) (hb : ∀ a ∈ fs,a < sp.length) (h2 : fs.length < 2 ^ 40) : C 335 [.blk 2 (qB fs sp),.ifa 20 (.r 10015) 0 0,.int .i64 i0,.int .i64 n] (.bool (decide (i0 < (bE sp fs i0 n).2))) [.blk 2 (qB (bE sp fs i0 n).1 sp),.nilp]:=by
 refine eT hC (nf:=N335) rfl rfl ?_
 simp [N335]
 refine ay (List Nat × Nat) (fun s=>[(0,.ifa 20 (.r 10015) 0 0),(1,.int .i64 i0),(2,.int .i64 n),(7,.int .i64 s.2),(10015,.blk 2 (qB s.1 sp))]) (fun s=>s.2 < s.1.length /\ s.1.length=fs.length /\ (∀ a ∈ s.1,a < sp.length) /\ bE sp s.1 s.2 n=bE sp fs i0 n) (fun s=>fs.length - s.2) (fs,i0) ⟨hi0,rfl,hb,rfl⟩ (by simp) ?_
 rintro ⟨l,i⟩ ⟨k1,k2,k3,k4⟩
 simp only at k1 k2 k3 k4
 have e1 : IntKind.wrap .i64 (IntKind.wrap .i64 (2 * (i : Int)) + 1)=((2 * i + 1 : Nat) : Int):=by
  rw [aj (m:=2 * (i : Int)) rfl (by omega)]
  exact aj (by omega) (by omega)
 have e2 : IntKind.wrap .i64 (((2 * i + 1 : Nat) : Int) + 1)=((2 * i + 1 + 1 : Nat) : Int):=aj (by omega) (by omega)
 obtain ⟨j1,hj1⟩ : ∃ j1,j1=2 * i + 1:=⟨_,rfl⟩
 rw [<- hj1] at e1 e2
 obtain ⟨j2,hj2⟩ : ∃ j2,j2=j1 + 1:=⟨_,rfl⟩
 rw [<- hj2] at e2
 obtain ⟨jm,hjm⟩ : ∃ jm,jm=dnJ sp l j1 n:=⟨_,rfl⟩
 have hu : bE sp l i n=if n <= j1 then (l,i) else if ltF sp (fAt l jm) (fAt l i) then bE sp (swp l i jm) jm n else (l,i):=by
  conv=>lhs;unfold bE
  rw [<- hj1,<- hjm]
  rfl
 simp [e1]
 refine am (fun g1=>?_) (fun g1=>?_) <;> simp at g1
 ·simp [g1]
  rw [<- k4,hu,if_pos g1]
  simp [qB]
 ·rw [if_neg (by omega)] at hu
  have hj:=lh (sp:=sp) (fs:=l) (j:=j1) (n:=n) g1
  rw [<- hjm] at hj
  have hjl : jm < l.length:=by omega
  simp [Nat.not_le.2 g1,show ¬ ((j1 : Int) < 0) by omega,e2]
  have hm : jm=if j2 < n /\ ltF sp (fAt l j2) (fAt l j1)=true then j2 else j1:=by rw [hjm,hj2];rfl
  refine am (fun g2=>?_) (fun g2=>?_) <;> simp at g2
  ·simp [g2]
   refine ⟨by simp [qB],?_⟩
   refine b7 (jg hC l sp j2 j1 (by omega) (by omega) k3) (by simp [qB]) ?_
   simp [bV]
   refine am (fun g3=>?_) (fun g3=>?_)
   ·rw [if_pos ⟨g2,g3⟩] at hm
    simp [g3]
    subst hm
    refine ⟨by simp [qB],?_⟩
    refine b7 (jg hC l sp _ i hjl k1 k3) (by simp [qB]) ?_
    simp [bV]
    refine am (fun g4=>?_) (fun g4=>?_) <;> simp at g4
    ·simp [g4]
     rw [<- k4,hu,if_neg (by simp [g4])]
     simp [qB]
    ·simp [g4]
     refine ⟨by simp [qB],?_⟩
     refine b7 (jh hC l sp i _ k1 hjl) (by simp [qB]) ?_
     simp [bV]
     exact ⟨swp l i _,_,⟨by simp;exact hjl,by simp [k2],fun a ha=>k3 a (ju k1 hjl ha),by rw [<- k4,hu,if_pos g4]⟩,by omega,rfl,rfl⟩
   ·rw [if_neg (by simp [g3])] at hm
    simp [g3]
    subst hm
    refine ⟨by simp [qB],?_⟩
    refine b7 (jg hC l sp _ i hjl k1 k3) (by simp [qB]) ?_
    simp [bV]
    refine am (fun g4=>?_) (fun g4=>?_) <;> simp at g4
    ·simp [g4]
     rw [<- k4,hu,if_neg (by simp [g4])]
     simp [qB]
    ·simp [g4]
     refine ⟨by simp [qB],?_⟩
     refine b7 (jh hC l sp i _ k1 hjl) (by simp [qB]) ?_
     simp [bV]
     exact ⟨swp l i _,_,⟨by simp;exact hjl,by simp [k2],fun a ha=>k3 a (ju k1 hjl ha),by rw [<- k4,hu,if_pos g4]⟩,by omega,rfl,rfl⟩
  ·rw [if_neg (by omega)] at hm
   simp [Nat.not_lt.2 g2]
   subst hm
   refine ⟨by simp [qB],?_⟩
   refine b7 (jg hC l sp _ i hjl k1 k3) (by simp [qB]) ?_
   simp [bV]
   refine am (fun g4=>?_) (fun g4=>?_) <;> simp at g4
   ·simp [g4]
    rw [<- k4,hu,if_neg (by simp [g4])]
    simp [qB]
   ·simp [g4]
    refine ⟨by simp [qB],?_⟩
    refine b7 (jh hC l sp i _ k1 hjl) (by simp [qB]) ?_
    simp [bV]
    exact ⟨swp l i _,_,⟨by simp;exact hjl,by simp [k2],fun a ha=>k3 a (ju k1 hjl ha),by rw [<- k4,hu,if_pos g4]⟩,by omega,rfl,rfl⟩
theorem vJ (fs : List Nat) (sp : List Int) (x : Nat) (hx : x < sp.length) (hb : ∀ a ∈ fs,a < sp.length) (h2 : fs.length + 1 < 2 ^ 40) : C 316 [.blk 2 (qB fs sp),.ifa 20 (.r 10015) 0 0,.ifi 2 x] (.tup []) [.blk 2 (qB (upL sp (fs++[x]) fs.length) sp),.nilp]:=by
 have hb' : ∀ a ∈ fs++[x],a < sp.length:=by
  intro a ha
  rcases List.mem_append.1 ha with ha | ha
  ·exact hb a ha
  ·simp at ha;omega
 have e1 : IntKind.wrap .i64 (((fs.length + 1 : Nat) : Int) - 1)=(fs.length : Int):=aj (by omega) (by omega)
 refine eT hC (nf:=N316) rfl rfl ?_
 simp [N316]
 refine ⟨by simp [qB],?_⟩
 refine b7 (wg hC fs sp x (by omega)) (by simp [qB]) ?_
 simp [bV]
 refine ⟨by simp [qB],?_⟩
 refine b7 (t6 hC (fs++[x]) sp) (by simp [qB]) ?_
 have hup:=Gi hC (fs++[x]) sp fs.length (by simp) hb' (by simp;omega)
 simp at e1
 simp [bV,e1]
 refine ⟨by simp [qB],?_⟩
 refine b7 hup (by simp [qB]) ?_
 simp [bV,qB]
omit hC in
theorem re (sp : List Int) (fs : List Nat) (i n : Nat) : (bE sp fs i n).1.length=fs.length:=by
 induction fs,i using bE.induct sp n with
 | case1 fs i h=>unfold bE;simp [h]
 | case2 fs i h1 h2 ih=>unfold bE;simp only [dif_neg h1,if_pos h2];rw [ih];simp
 | case3 fs i h1 h2=>unfold bE;simp only [dif_neg h1,if_neg h2]
theorem zM (fs : List Nat) (sp : List Int) (h0 : 0 < fs.length) (hb : ∀ a ∈ fs,a < sp.length) (h2 : fs.length < 2 ^ 40) : C 318 [.blk 2 (qB fs sp),.ifa 20 (.r 10015) 0 0] (.ifi 2 (fAt (bE sp (swp fs 0 (fs.length - 1)) 0 (fs.length - 1)).1 (fs.length - 1) : Nat)) [.blk 2 (qB ((bE sp (swp fs 0 (fs.length - 1)) 0 (fs.length - 1)).1.take (fs.length - 1)) sp),.nilp]:=by
 obtain ⟨n,hn⟩ : ∃ n,n=fs.length - 1:=⟨_,rfl⟩
 have e1 : IntKind.wrap .i64 ((fs.length : Int) - 1)=(n : Int):=aj (by omega) (by omega)
 rw [<- hn]
 have hsw:=jh hC fs sp 0 n h0 (by omega)
 have hdn:=vI hC (swp fs 0 n) sp 0 n (by simp;omega) (by simp;omega) (fun a ha=>hb a (ju h0 (by omega) ha)) (by simp;omega)
 have hl : (bE sp (swp fs 0 n) 0 n).1.length=fs.length:=by rw [re];simp
 have hpo:=AS hC (bE sp (swp fs 0 n) 0 n).1 sp (by omega) (by omega)
 rw [hl,<- hn] at hpo
 refine eT hC (nf:=N318) rfl rfl ?_
 simp [N318]
 refine ⟨by simp [qB],?_⟩
 refine b7 (t6 hC fs sp) (by simp [qB]) ?_
 simp [bV,e1]
 refine ⟨by simp [qB],?_⟩
 refine b7 hsw (by simp [qB]) ?_
 simp [bV]
 refine ⟨by simp [qB],?_⟩
 refine b7 hdn (by simp [qB]) ?_
 simp [bV]
 refine ⟨by simp [qB],?_⟩
 refine b7 hpo (by simp [qB]) ?_
 simp [bV,qB]
end
end Go.Gv

namespace Go.Gv
theorem i8 {sp : List Int} {a b : Nat} : ltF sp a b=true ↔ sp.getD a 0 < sp.getD b 0 \/ (sp.getD a 0=sp.getD b 0 /\ a < b):=by simp [ltF]
theorem ee {sp : List Int} {a b : Nat} : ltF sp a b=false ↔ sp.getD b 0 < sp.getD a 0 \/ (sp.getD a 0=sp.getD b 0 /\ b <= a):=by
 rw [<- Bool.not_eq_true,i8]
 omega
theorem j4 {fs : List Nat} {i k x : Nat} (hi : i < fs.length) (hk : k < fs.length) : fAt (swp fs i k) x=if x=k then fAt fs i else if x=i then fAt fs k else fAt fs x:=by
 unfold swp
 by_cases hx : x < fs.length
 ·rw [c8 (by simpa using hx)]
  simp only [List.getElem_set]
  by_cases e1 : k=x
  ·subst e1;simp
  ·rw [if_neg e1,if_neg (Ne.symm e1)]
   by_cases e2 : i=x
   ·subst e2;simp
   ·rw [if_neg e2,if_neg (Ne.symm e2),c8 hx]
 ·rw [if_neg (by omega),if_neg (by omega)]
  simp only [fAt,List.getD_eq_getElem?_getD]
  rw [List.getElem?_eq_none (by simp;omega),List.getElem?_eq_none (by omega)]
theorem iu {fs : List Nat} {i k : Nat} (hi : i < fs.length) (hk : k < fs.length) (a : Nat) : (swp fs i k).count a=fs.count a:=by
 have ha:=c8 hi
 have hb:=c8 hk
 unfold swp
 rw [List.count_set (by simpa using hk),List.count_set hi,ha,hb]
 have h1 : fs[i]=a -> 0 < fs.count a:=fun e=>List.count_pos_iff.2 (by rw [<- e];exact List.getElem_mem _)
 have h2 : fs[k]=a -> 0 < fs.count a:=fun e=>List.count_pos_iff.2 (by rw [<- e];exact List.getElem_mem _)
 simp only [List.getElem_set]
 by_cases e : i=k
 ·subst e
  simp
  by_cases e1 : fs[i]=a
  ·have:=h1 e1;simp [e1];omega
  ·simp [e1]
 ·rw [if_neg e]
  by_cases e1 : fs[i]=a <;> by_cases e2 : fs[k]=a
  ·have:=h1 e1;simp [e1,e2];omega
  ·have:=h1 e1;simp [e1,e2];omega
  ·have:=h2 e2;simp [e1,e2]
  ·simp [e1,e2]
def gK (sp : List Int) (fs : List Nat) (n : Nat) : Prop:=∀ i,0 < i -> i < n -> ltF sp (fAt fs i) (fAt fs ((i - 1) / 2))=false
theorem j5 {sp : List Int} : ∀ (j : Nat) (fs : List Nat),j < fs.length -> ∀ a,(upL sp fs j).count a=fs.count a:=by
 intro j
 induction j using Nat.strongRecOn with
 | _ j ih =>
  intro fs hj a
  unfold upL
  split
  ·rfl
  ·split
   ·rw [ih _ (by omega) _ (by simp;omega)]
    exact iu (by omega) hj a
   ·rfl
theorem jw {sp : List Int} : ∀ (j : Nat) (fs : List Nat),(upL sp fs j).length=fs.length:=by
 intro j
 induction j using Nat.strongRecOn with
 | _ j ih =>
  intro fs
  unfold upL
  split
  ·rfl
  ·split
   ·rw [ih _ (by omega)];simp
   ·rfl
theorem uN {sp : List Int} : ∀ (j : Nat) (fs : List Nat),j < fs.length -> (∀ i,0 < i -> i < fs.length -> i ≠ j -> ltF sp (fAt fs i) (fAt fs ((i - 1) / 2))=false) -> (∀ i,0 < i -> i < fs.length -> (i - 1) / 2=j -> 0 < j -> ltF sp (fAt fs i) (fAt fs ((j - 1) / 2))=false) -> gK sp (upL sp fs j) fs.length:=by
 intro j
 induction j using Nat.strongRecOn with
 | _ j ih =>
  intro fs hj h1 h2
  unfold upL
  split
  ·rename_i h0
   intro i hi hin
   exact h1 i hi hin (by omega)
  ·rename_i h0
   split
   ·rename_i hl
    have hp : (j - 1) / 2 < fs.length:=by omega
    have hpj : (j - 1) / 2 < j:=by omega
    have at_:=fun x=>j4 (x:=x) hp hj
    have key:=ih ((j - 1) / 2) hpj (swp fs ((j - 1) / 2) j) (by simp;omega) (fun i hi hin hne=>?_) (fun i hi hin hpi h0p=>?_)
    ·simpa using key
    ·simp at hin
     rw [at_,at_]
     by_cases e1 : i=j
     ·subst e1
      rw [if_pos rfl,if_neg (by omega),if_pos rfl]
      rw [ee]
      rw [i8] at hl
      omega
     ·rw [if_neg e1,if_neg hne]
      by_cases e2 : (i - 1) / 2=j
      ·rw [if_pos e2]
       exact h2 i hi hin e2 (by omega)
      ·rw [if_neg e2]
       by_cases e3 : (i - 1) / 2=(j - 1) / 2
       ·rw [if_pos e3]
        have h4:=h1 i hi hin e1
        rw [e3] at h4
        rw [ee] at h4 ⊢
        rw [i8] at hl
        omega
       ·rw [if_neg e3]
        exact h1 i hi hin e1
    ·simp at hin
     rw [at_,at_]
     rw [if_neg (show ((j - 1) / 2 - 1) / 2 ≠ j by omega),if_neg (show ((j - 1) / 2 - 1) / 2 ≠ (j - 1) / 2 by omega)]
     have h5:=h1 ((j - 1) / 2) h0p hp (by omega)
     by_cases e1 : i=j
     ·rw [if_pos e1]
      exact h5
     ·rw [if_neg e1,if_neg (by omega)]
      have h4:=h1 i hi hin e1
      rw [hpi] at h4
      rw [ee] at h4 h5 ⊢
      omega
   ·rename_i hl
    intro i hi hin
    by_cases e : i=j
    ·subst e;simpa using hl
    ·exact h1 i hi hin e
theorem sW {sp : List Int} {fs : List Nat} {j n x : Nat} (hx : (x - 1) / 2=(j - 1) / 2) (hj : j % 2=1) (h0 : 0 < x) (hn : x < n) : ltF sp (fAt fs x) (fAt fs (dnJ sp fs j n))=false:=by
 have hxj : x=j \/ x=j + 1:=by omega
 unfold dnJ
 split
 ·rename_i h
  rcases hxj with rfl | rfl
  ·have:=h.2
   rw [i8] at this
   rw [ee]
   omega
  ·rw [ee];omega
 ·rename_i h
  rcases hxj with rfl | rfl
  ·rw [ee];omega
  ·cases e : ltF sp (fAt fs (j + 1)) (fAt fs j)
   ·rfl
   ·exact absurd ⟨hn,e⟩ h
theorem kq {sp : List Int} {n : Nat} (fs : List Nat) (i : Nat) (hn : n <= fs.length) (a : Nat) : (bE sp fs i n).1.count a=fs.count a:=by
 induction fs,i using bE.induct sp n with
 | case1 fs i h=>unfold bE;simp [h]
 | case2 fs i h1 h2 ih =>
  have hb:=lh (sp:=sp) (fs:=fs) (j:=2 * i + 1) (n:=n) (by omega)
  unfold bE;simp only [dif_neg h1,if_pos h2]
  rw [ih (by simpa using hn)]
  exact iu (by omega) (by omega) a
 | case3 fs i h1 h2=>unfold bE;simp only [dif_neg h1,if_neg h2]
theorem li {sp : List Int} {n : Nat} (fs : List Nat) (i : Nat) : (bE sp fs i n).1.length=fs.length:=by
 induction fs,i using bE.induct sp n with
 | case1 fs i h=>unfold bE;simp [h]
 | case2 fs i h1 h2 ih=>unfold bE;simp only [dif_neg h1,if_pos h2];rw [ih];simp
 | case3 fs i h1 h2=>unfold bE;simp only [dif_neg h1,if_neg h2]
theorem sX {sp : List Int} {n : Nat} (fs : List Nat) (i : Nat) (hn : n <= fs.length) {x : Nat} (hx : n <= x) : fAt (bE sp fs i n).1 x=fAt fs x:=by
 induction fs,i using bE.induct sp n with
 | case1 fs i h=>unfold bE;simp [h]
 | case2 fs i h1 h2 ih =>
  have hb:=lh (sp:=sp) (fs:=fs) (j:=2 * i + 1) (n:=n) (by omega)
  unfold bE;simp only [dif_neg h1,if_pos h2]
  rw [ih (by simpa using hn),j4 (by omega) (by omega),if_neg (by omega),if_neg (by omega)]
 | case3 fs i h1 h2=>unfold bE;simp only [dif_neg h1,if_neg h2]
theorem pi {sp : List Int} {n : Nat} (fs : List Nat) (i : Nat) (hn : n <= fs.length) (hin : i < fs.length) (h1 : ∀ x,0 < x -> x < n -> (x - 1) / 2 ≠ i -> ltF sp (fAt fs x) (fAt fs ((x - 1) / 2))=false) (h2 : ∀ x,0 < x -> x < n -> (x - 1) / 2=i -> 0 < i -> ltF sp (fAt fs x) (fAt fs ((i - 1) / 2))=false) : gK sp (bE sp fs i n).1 n:=by
 induction fs,i using bE.induct sp n with
 | case1 fs i h =>
  unfold bE;simp only [dif_pos h]
  intro x h0 hx
  exact h1 x h0 hx (by omega)
 | case2 fs i g1 g2 ih =>
  obtain ⟨j,hj⟩ : ∃ j,j=dnJ sp fs (2 * i + 1) n:=⟨_,rfl⟩
  have hb:=lh (sp:=sp) (fs:=fs) (j:=2 * i + 1) (n:=n) (by omega)
  have hpar : (j - 1) / 2=i:=by
   rw [hj];unfold dnJ;split <;> omega
  unfold bE;simp only [dif_neg g1,if_pos g2]
  rw [<- hj] at hb g2 ih ⊢
  have at_:=fun x=>j4 (fs:=fs) (i:=i) (k:=j) (x:=x) (by omega) (by omega)
  refine ih (by simpa using hn) (by simp;omega) (fun x h0 hx hne=>?_) (fun x h0 hx hp hj0=>?_)
  ·rw [at_,at_]
   by_cases e1 : x=j
   ·subst e1
    rw [if_pos rfl,if_neg (by omega),if_pos (by omega)]
    rw [i8] at g2
    rw [ee]
    omega
   ·rw [if_neg e1,if_neg hne]
    by_cases e2 : x=i
    ·subst e2
     rw [if_pos rfl]
     rw [if_neg (by omega)]
     exact h2 j (by omega) (by omega) hpar (by omega)
    ·rw [if_neg e2]
     by_cases e3 : (x - 1) / 2=i
     ·rw [if_pos e3,hj]
      exact sW (by omega) (by omega) h0 hx
     ·rw [if_neg e3]
      exact h1 x h0 hx e3
  ·rw [at_,at_]
   rw [if_neg (show x ≠ j by omega),if_neg (show x ≠ i by omega),if_neg (show (j - 1) / 2 ≠ j by omega),if_pos hpar]
   have:=h1 x h0 hx (by omega)
   rw [hp] at this
   exact this
 | case3 fs i g1 g2 =>
  unfold bE;simp only [dif_neg g1,if_neg g2]
  intro x h0 hx
  by_cases e : (x - 1) / 2=i
  ·have h3:=sW (sp:=sp) (fs:=fs) (j:=2 * i + 1) (n:=n) (x:=x) (by omega) (by omega) h0 hx
   have h4 : ltF sp (fAt fs (dnJ sp fs (2 * i + 1) n)) (fAt fs i)=false:=by simpa using g2
   rw [e]
   rw [ee] at h3 h4 ⊢
   omega
  ·exact h1 x h0 hx e
theorem rq {sp : List Int} {fs : List Nat} {n : Nat} (h : gK sp fs n) : ∀ x,x < n -> ltF sp (fAt fs x) (fAt fs 0)=false:=by
 intro x
 induction x using Nat.strongRecOn with
 | _ x ih =>
  intro hx
  by_cases h0 : x=0
  ·subst h0;rw [ee];omega
  ·have h1:=h x (by omega) hx
   have h2:=ih ((x - 1) / 2) (by omega) (by omega)
   rw [ee] at h1 h2 ⊢
   omega
theorem tY {sp : List Int} {fs : List Nat} (h : gK sp fs fs.length) (h0 : 0 < fs.length) :
  let r:=(bE sp (swp fs 0 (fs.length - 1)) 0 (fs.length - 1)).1
  fAt r (fs.length - 1)=fAt fs 0 /\ r.length=fs.length /\ gK sp (r.take (fs.length - 1)) (r.take (fs.length - 1)).length /\ (∀ a,fs.count a=(r.take (fs.length - 1)).count a + if a=fAt fs 0 then 1 else 0):=by
 intro r
 have hl : r.length=fs.length:=by show (bE _ _ _ _).1.length=_;rw [li];simp
 have hlast : fAt r (fs.length - 1)=fAt fs 0:=by
  show fAt (bE _ _ _ _).1 _=_
  rw [sX _ _ (by simp) (Nat.le_refl _),j4 h0 (by omega),if_pos rfl]
 have htk : ∀ x,x < fs.length - 1 -> fAt (r.take (fs.length - 1)) x=fAt r x:=fun x hx=>by
  unfold fAt
  simp [List.getElem?_take,hx]
 have hlt : (r.take (fs.length - 1)).length=fs.length - 1:=by simp;omega
 refine ⟨hlast,hl,?_,fun a=>?_⟩
 ·rw [hlt]
  intro x hx hxn
  rw [htk x hxn,htk _ (by omega)]
  refine pi _ _ (by simp) (by simp;omega) (fun y hy hyn hp=>?_) (fun y _ _ _ h=>absurd h (by omega)) x hx hxn
  rw [j4 h0 (by omega),j4 h0 (by omega),if_neg (by omega),if_neg (by omega),if_neg (by omega),if_neg hp]
  exact h y hy (by omega)
 ·have h1 : r.count a=fs.count a:=by
   show (bE _ _ _ _).1.count a=_
   rw [kq _ _ (by simp),iu h0 (by omega)]
  rw [<- h1]
  have h2 : r=r.take (fs.length - 1)++[fAt fs 0]:=by
   have h3 : r.drop (fs.length - 1)=[fAt fs 0]:=by
    rw [<- hlast,c8 (by omega)]
    rw [List.drop_eq_getElem_cons (by omega)]
    rw [List.drop_eq_nil_of_le (by omega)]
   rw [<- h3,List.take_append_drop]
  conv=>lhs;rw [h2]
  rw [List.count_append]
  congr 1
  simp [List.count_singleton]
  by_cases e : fAt fs 0=a
  ·simp [e]
  ·simp [e,Ne.symm e]
theorem jY {sp : List Int} {fs : List Nat} {x : Nat} (h : gK sp fs fs.length) :
  gK sp (upL sp (fs++[x]) fs.length) (upL sp (fs++[x]) fs.length).length /\ (∀ a,(upL sp (fs++[x]) fs.length).count a=fs.count a + if a=x then 1 else 0) /\ (upL sp (fs++[x]) fs.length).length=fs.length + 1:=by
 have hl : (upL sp (fs++[x]) fs.length).length=fs.length + 1:=by rw [jw];simp
 have at_ : ∀ i,i < fs.length -> fAt (fs++[x]) i=fAt fs i:=fun i hi=>by
  unfold fAt
  simp [List.getElem?_append,hi]
 refine ⟨?_,fun a=>?_,hl⟩
 ·rw [hl]
  have:=uN (sp:=sp) fs.length (fs++[x]) (by simp) (fun i hi hin hne=>?_) (fun i hi hin hp _=>by simp at hin;omega)
  ·simpa using this
  ·simp at hin
   rw [at_ i (by omega),at_ _ (by omega)]
   exact h i hi (by omega)
 ·rw [j5 _ _ (by simp),List.count_append]
  congr 1
  simp [List.count_singleton]
  by_cases e : x=a
  ·simp [e]
  ·simp [e,Ne.symm e]
end Go.Gv

namespace Go.Gv
structure Fl where
 q : List Nat
 rc : List Bool
 sp : List Int
 ou : List Int
def fl0 (m : Msh) : Nat -> List Nat × List Bool
 | 0=>([],List.replicate m.f.length false)
 | i + 1=>if bsd m i (-1) then (upL (bA m) ((fl0 m i).1++[i]) (fl0 m i).1.length,(fl0 m i).2.set i true) else fl0 m i
def mxZ (a b : Int) : Int:=if a < b then b else a
def mf (m : Msh) (i : Nat) (s : Fl) (k : Int) : Fl :=
 if k=-1 \/ s.rc.getD k.toNat false=true then s else
  { q:=upL (s.sp.set k.toNat (mxZ (s.sp.getD i 0) ((bA m).getD k.toNat 0))) (s.q++[k.toNat]) s.q.length,rc:=s.rc.set k.toNat true,sp:=s.sp.set k.toNat (mxZ (s.sp.getD i 0) ((bA m).getD k.toNat 0)),ou:=s.ou.set k.toNat i }
def gk (sp : List Int) (q : List Nat) : List Nat:=(bE sp (swp q 0 (q.length - 1)) 0 (q.length - 1)).1
def flJ (m : Msh) (i : Nat) (s : Fl) : Nat -> Fl
 | 0=>s
 | j + 1=>mf m i (flJ m i s j) (nbF m i j)
def dQ (m : Msh) (s : Fl) : Fl :=
 if s.q.length=0 then s else flJ m (fAt (gk s.sp s.q) (s.q.length - 1)) { s with q:=(gk s.sp s.q).take (s.q.length - 1) } 3
def flN (m : Msh) : Nat -> Fl -> Fl
 | 0,s=>s
 | k + 1,s=>flN m k (dQ m s)
def dH (m : Msh) : Fl:={ q:=(fl0 m m.f.length).1,rc:=(fl0 m m.f.length).2,sp:=bA m,ou:=List.replicate m.f.length (-1) }
def bg (m : Msh) : Fl:=flN m (3 * m.f.length) (dH m)
theorem ja {m : Msh} {i : Nat} (h : i < m.f.length) : (nbA m)[i]? = some [.int .i64 (nbF m i 0),.int .i64 (nbF m i 1),.int .i64 (nbF m i 2)]:=by simp [nbA,h]
@[simp] theorem Oj (m : Msh) : (nbA m).length=m.f.length:=by simp [nbA]
theorem i4 (m : Msh) : ∀ i,(fl0 m i).2.length=m.f.length /\ (fl0 m i).1.length <= i /\ (∀ a ∈ (fl0 m i).1,a < i)
 | 0=>by simp [fl0]
 | i + 1=>by
  obtain ⟨h1,h2,h3⟩:=i4 m i
  unfold fl0
  split
  ·refine ⟨by simp [h1],by simp [jw];exact h2,fun a ha=>?_⟩
   have h4:=j5 (sp:=bA m) (fl0 m i).1.length ((fl0 m i).1++[i]) (by simp) a
   have h5 : 0 < ((fl0 m i).1++[i]).count a:=by rw [<- h4];exact List.count_pos_iff.2 ha
   rcases List.mem_append.1 (List.count_pos_iff.1 h5) with h6 | h6
   ·have:=h3 a h6;omega
   ·simp at h6;omega
  ·exact ⟨h1,by omega,fun a ha=>by have:=h3 a ha;omega⟩
@[simp] theorem O7 (m : Msh) : (bA m).length=m.f.length:=by simp [bA]
def d9 (m : Msh) : D:=.ptr [.sl (nbA m),slx true (inR (bA m)),.sl (inR (bg m).sp),.sl (inR (bg m).ou)]
def rcR (l : List Bool) : List (List D):=l.map fun b=>[.bool b]
theorem wj (l : List Bool) : (rcR l).length=l.length:=by simp [rcR]
theorem dY {l : List Bool} {i : Nat} (h : i < l.length) : (rcR l)[i]? = some [.bool (l.getD i false)]:=by simp [rcR,h]
theorem jk (l : List Bool) (i : Nat) (b : Bool) : (rcR l).set i [.bool b]=rcR (l.set i b):=by simp [rcR,List.map_set]
theorem AW {l : List Bool} {i : Nat} (h : i < (rcR l).length) : (rcR l)[i]=[.bool (l[i]'(by simpa [rcR] using h))]:=by simp [rcR]
theorem jO (l : List Int) (i : Nat) (x : Int) : (inR l).set i [.int .i64 x]=inR (l.set i x):=by simp [inR,List.map_set]
theorem pI (l : List Int) : ∀ e ∈ inR l,∀ c ∈ e,aW c=true:=by simp [inR]
structure FlW (m : Msh) (s : Fl) : Prop where
 rc : s.rc.length=m.f.length
 sp : s.sp.length=m.f.length
 ou : s.ou.length=m.f.length
 q : ∀ a ∈ s.q,a < m.f.length
 n : s.q.length + s.rc.count false <= m.f.length
def flM (s : Fl) : Nat:=s.q.length + 2 * s.rc.count false
theorem jr {l : List Bool} {i : Nat} (h : i < l.length) (hf : l.getD i false=false) : (l.set i true).count false + 1=l.count false:=by
 have h1 : l[i]=false:=by simpa [h] using hf
 rw [List.count_set h,h1]
 have : 0 < l.count false:=List.count_pos_iff.2 (by rw [<- h1];exact List.getElem_mem _)
 simp
 omega
theorem xe {sp : List Int} {fs : List Nat} {j a : Nat} (hj : j < fs.length) (h : a ∈ upL sp fs j) : a ∈ fs:=by
 have h4:=j5 (sp:=sp) j fs hj a
 exact List.count_pos_iff.1 (by rw [<- h4];exact List.count_pos_iff.2 h)
theorem zK {m : Msh} {i : Nat} {s : Fl} {k : Int} (h : FlW m s) (hk : -1 <= k /\ k < m.f.length) : FlW m (mf m i s k) /\ flM (mf m i s k) <= flM s:=by
 unfold mf
 split
 ·exact ⟨h,Nat.le_refl _⟩
 ·rename_i hn
  have hkl : k.toNat < s.rc.length:=by rw [h.rc];omega
  have hf : s.rc.getD k.toNat false=false:=by
   cases e : s.rc.getD k.toNat false
   ·rfl
   ·exact absurd (.inr e) hn
  have hst:=jr hkl hf
  have hn1:=h.n
  refine ⟨⟨by simp [h.rc],by simp [h.sp],by simp [h.ou],fun a ha=>?_,?_⟩,?_⟩
  ·rcases List.mem_append.1 (xe (by simp) ha) with h1 | h1
   ·exact h.q a h1
   ·simp at h1;omega
  ·simp only [jw,List.length_append,List.length_singleton]
   omega
  ·simp only [flM,jw,List.length_append,List.length_singleton]
   omega
theorem qp {m : Msh} {i : Nat} {s : Fl} (h : FlW m s) : ∀ j,FlW m (flJ m i s j) /\ flM (flJ m i s j) <= flM s
 | 0=>⟨h,Nat.le_refl _⟩
 | j + 1=>by
  obtain ⟨h1,h2⟩:=qp h j
  obtain ⟨h3,h4⟩:=zK (i:=i) h1 (dS m i j)
  exact ⟨h3,Nat.le_trans h4 h2⟩
theorem lN (sp : List Int) (q : List Nat) : (gk sp q).length=q.length:=by unfold gk;rw [li];simp
theorem oJ {sp : List Int} {q : List Nat} {a : Nat} (h0 : 0 < q.length) (h : a ∈ gk sp q) : a ∈ q:=by
 have h1:=kq (sp:=sp) (n:=q.length - 1) (swp q 0 (q.length - 1)) 0 (by simp) a
 rw [iu h0 (by omega)] at h1
 exact List.count_pos_iff.1 (by rw [<- h1];exact List.count_pos_iff.2 h)
theorem tX {m : Msh} {s : Fl} (h : FlW m s) (h0 : 0 < s.q.length) : FlW m { s with q:=(gk s.sp s.q).take (s.q.length - 1) } /\ flM { s with q:=(gk s.sp s.q).take (s.q.length - 1) } < flM s /\ fAt (gk s.sp s.q) (s.q.length - 1) < m.f.length:=by
 have hn:=h.n
 refine ⟨⟨h.rc,h.sp,h.ou,fun a ha=>h.q a (oJ h0 (List.mem_of_mem_take ha)),?_⟩,?_,h.q _ (oJ h0 (eJ (by rw [lN];omega)))⟩
 ·simp [lN];omega
 ·simp [flM,lN];omega
theorem fC {m : Msh} {s : Fl} (h : FlW m s) : FlW m (dQ m s) /\ (0 < s.q.length -> flM (dQ m s) < flM s):=by
 unfold dQ
 split
 ·exact ⟨h,fun h0=>by omega⟩
 ·rename_i h0
  obtain ⟨h1,h2,_⟩:=tX h (by omega)
  obtain ⟨h3,h4⟩:=qp (i:=fAt (gk s.sp s.q) (s.q.length - 1)) h1 3
  exact ⟨h3,fun _=>by omega⟩
theorem nq (m : Msh) : ∀ (k j : Nat) (s : Fl),flN m (k + j) s=flN m j (flN m k s)
 | 0,j,s=>by simp [flN]
 | k + 1,j,s=>by rw [Nat.succ_add];simp only [flN];exact nq m k j _
theorem ll (m : Msh) {s : Fl} (h : s.q.length=0) : ∀ j,flN m j s=s
 | 0=>rfl
 | j + 1=>by simp only [flN,dQ,if_pos h];exact ll m h j
theorem xW {m : Msh} : ∀ (k : Nat) {s : Fl},FlW m s -> FlW m (flN m k s)
 | 0,s,h=>h
 | k + 1,s,h=>xW k (fC h).1
theorem mG (m : Msh) : ∀ (i x : Nat),i <= x -> (fl0 m i).2.getD x false=false
 | 0,x,_=>by simp [fl0,List.getElem?_replicate];split <;> rfl
 | i + 1,x,h=>by
  unfold fl0
  split
  ·simp only [List.getD_eq_getElem?_getD,List.getElem?_set]
   rw [if_neg (by omega)]
   have:=mG m i x (by omega)
   simpa using this
  ·exact mG m i x (by omega)
theorem xV (m : Msh) : ∀ i,i <= m.f.length -> (fl0 m i).1.length + (fl0 m i).2.count false=m.f.length
 | 0,_=>by simp [fl0]
 | i + 1,h=>by
  have h1:=xV m i (by omega)
  unfold fl0
  split
  ·have:=jr (l:=(fl0 m i).2) (i:=i) (by rw [(i4 m i).1];omega) (mG m i i (Nat.le_refl _))
   simp only [jw,List.length_append,List.length_singleton]
   omega
  ·exact h1
theorem i5 (m : Msh) : FlW m (dH m) /\ flM (dH m) <= 2 * m.f.length:=by
 obtain ⟨h1,h2,h3⟩:=i4 m m.f.length
 have h4:=xV m m.f.length (Nat.le_refl _)
 refine ⟨⟨h1,by simp [dH],by simp [dH],h3,by simp only [dH];omega⟩,?_⟩
 simp only [flM,dH]
 omega
end Go.Gv

namespace Go.Gv
variable {C : CC} (hC : aI prog C)
include hC
theorem u6 (b : Bool) (xs : List Int) (h2 : xs.length < 2 ^ 40) : C 42 [slx b (xs.map fun n=>[.int .i64 n])] .any [.own 1 (xs.map fun n=>[.int .i64 n])]:=by
 cases xs with
 | nil =>
  cases b with
  | true =>
   show C 42 [.nils] .any [.own 1 []]
   refine l7 hC (nf:=N42) rfl rfl ?_
   simp [N42]
  | false =>
   show C 42 [.sl []] .any [.own 1 []]
   refine l7 hC (nf:=N42) rfl rfl ?_
   simp [N42]
 | cons x xs =>
  have e : slx b ((x::xs).map fun n=>[D.int .i64 n])=.sl ((x::xs).map fun n=>[D.int .i64 n]):=by cases b <;> rfl
  rw [e]
  obtain ⟨l,hl⟩ : ∃ l,l=x::xs:=⟨_,rfl⟩
  rw [<- hl] at h2 ⊢
  have h : 0 < l.length:=by rw [hl];simp
  refine l7 hC (nf:=N42) rfl rfl ?_
  simp [N42]
  refine ⟨fun _=>?_,fun h0=>?_⟩
  ·have : l.length < 1099511627776:=h2
   omega
  ·subst h0
   simp at h
end Go.Gv

set_option maxRecDepth 4000
namespace Go.Gv
def f7 (n m : Nat) (v : Int) : List (List D):=List.replicate m [.int .i64 v]++List.replicate (n - m) [.int .i64 0]
theorem oQ {n m : Nat} {v : Int} (h : m <= n) : (f7 n m v).length=n:=by simp [f7];omega
theorem lR (n m : Nat) (v : Int) : ∀ e ∈ f7 n m v,e.length=1 /\ ∀ c ∈ e,aw c=true:=by
 intro e he
 rcases List.mem_append.1 he with h | h <;> (rw [(List.mem_replicate.1 h).2];simp [aw])
theorem mW (n m : Nat) (v : Int) : ∀ e ∈ f7 n m v,∀ c ∈ e,aw c=true:=fun e he=>(lR n m v e he).2
theorem mV (n : Nat) (v : Int) : f7 n n v=List.replicate n [.int .i64 v]:=by simp [f7]
theorem mX {n m : Nat} {v : Int} (h : m <= n) : gz (f7 n m v) m (((f7 n m v).take m).take (n - m))=f7 n (min n (m + m)) v:=by
 have h1 : (f7 n m v).take m=List.replicate m [.int .i64 v]:=by
  unfold f7
  rw [List.take_append_of_le_length (by simp)]
  simp
 rw [h1,List.take_replicate]
 unfold gz
 rw [h1,List.length_replicate]
 unfold f7
 rw [List.drop_append,List.drop_eq_nil_of_le (by simp),List.nil_append,List.length_replicate,List.drop_replicate]
 have e1 : min n (m + m)=m + min (n - m) m:=by omega
 rw [e1,<- List.replicate_append_replicate]
 congr 2
 omega
theorem pU {n : Nat} {v : Int} (h : 0 < n) : gz (List.replicate n [D.int .i64 0]) 0 ([[D.int .i64 v]].take n)=f7 n 1 v:=by
 have : [[D.int .i64 v]].take n=[[.int .i64 v]]:=by
  rw [List.take_of_length_le (by simp;omega)]
 rw [this]
 unfold gz f7
 simp
variable {C : CC} (hC : aI prog C)
include hC
theorem ua (v : Int) (n : Nat) (hn : n < 2 ^ 40) : C 315 [.sl [[.int .i64 v]],.int .i64 n] .any [.own 1 (List.replicate n [.int .i64 v])]:=by
 have k0:=u7 hC 1 n (by omega) (by omega)
 have k1 : C 333 [.int .u64 1,.int .u64 n] (.tup [.int .u64 0,.int .u64 n]) []:=by
  have e1 : 1 * n / 2 ^ 64=0:=by omega
  have e2 : 1 * n % 2 ^ 64=n:=by omega
  rw [e1,e2] at k0
  refine aT hC (nf:=N333) rfl rfl ?_
  simp [N333]
  simp at k0
  refine aa k0 (.inl rfl) ?_
  simp
 have w1 : IntKind.wrap .u64 (n : Int)=n:=by
  have e : (2 : Int) ^ IntKind.bits .u64=18446744073709551616:=by decide
  have e2 : IntKind.signed .u64=false:=rfl
  simp only [IntKind.wrap,e,e2,Bool.false_and,Bool.false_eq_true,if_false]
  omega
 have w2 : IntKind.wrap .i64 (n : Int)=n:=aj (by omega) (by omega)
 refine l7 hC (nf:=N315) rfl rfl ?_
 have hn0 : ¬ (n : Int) < 0:=by omega
 have hn1 : ¬ (9223372036854775807 : Int) < n:=by omega
 have hn2 : (n : Int) * 8 <= 140737488355328:=by omega
 simp [N315,w1,hn0]
 refine aa k1 (.inl rfl) ?_
 simp [w2,hn1,hn2,aw]
 refine ⟨fun h0=>?_,fun h0=>?_⟩
 ·refine ay Nat (fun m=>[(7,.ref (.r 10112) 0 n),(8,.int .i64 m),(10112,.blk 1 (f7 n m v))]) (fun m=>m <= n /\ (0 < n -> 0 < m)) (fun m=>n - m) 0 ⟨by omega,by omega⟩ (by subst h0;simp [f7]) ?_
  rintro m ⟨hm,hm0⟩
  simp
  refine am (fun h=>?_) (fun h=>?_) <;> simp at h
  ·have hm1 : 0 < m:=hm0 (by omega)
   have hl:=oQ (v:=v) hm
   have hnx:=mX (v:=v) hm
   have hc:=lR n m v
   have hc1:=mW n m v
   have hnm : ¬ n - m=0:=by omega
   have hpos : 0 < n - m:=by omega
   have htk : ∀ e ∈ (f7 n m v).take m,∀ c ∈ e,aw c=true:=fun e he=>hc1 e (List.mem_of_mem_take he)
   have hw : IntKind.wrap .i64 ((m : Int) + ((min m (n - m) : Nat) : Int))=((min n (m + m) : Nat) : Int):=aj (by omega) (by omega)
   simp [h,hl,hm,jd]
   try refine ⟨htk,hm1,fun hz=>absurd hz hnm,fun _=>⟨hc1,htk,al (by decide +kernel),min n (m + m),⟨by omega,fun _=>by omega⟩,by omega,hw,hnx⟩⟩
  ·have e : m=n:=by omega
   subst e
   simp [mV]
 ·rw [pU h0]
  have h01 : min 1 n=1:=by omega
  refine ay Nat (fun m=>[(7,.ref (.r 10112) 0 n),(8,.int .i64 m),(10112,.blk 1 (f7 n m v))]) (fun m=>m <= n /\ (0 < n -> 0 < m)) (fun m=>n - m) 1 ⟨by omega,by omega⟩ (by simp [h01]) ?_
  rintro m ⟨hm,hm0⟩
  simp
  refine am (fun h=>?_) (fun h=>?_) <;> simp at h
  ·have hm1 : 0 < m:=hm0 (by omega)
   have hl:=oQ (v:=v) hm
   have hnx:=mX (v:=v) hm
   have hc:=lR n m v
   have hc1:=mW n m v
   have hnm : ¬ n - m=0:=by omega
   have hpos : 0 < n - m:=by omega
   have htk : ∀ e ∈ (f7 n m v).take m,∀ c ∈ e,aw c=true:=fun e he=>hc1 e (List.mem_of_mem_take he)
   have hw : IntKind.wrap .i64 ((m : Int) + ((min m (n - m) : Nat) : Int))=((min n (m + m) : Nat) : Int):=aj (by omega) (by omega)
   simp [h,hl,hm,jd]
   try refine ⟨htk,hm1,fun hz=>absurd hz hnm,fun _=>⟨hc1,htk,al (by decide +kernel),min n (m + m),⟨by omega,fun _=>by omega⟩,by omega,hw,hnx⟩⟩
  ·have e : m=n:=by omega
   subst e
   simp [mV]
end Go.Gv

namespace Go.Gv
section
variable {C : Nat -> List D -> D -> List D -> Prop} (hC : aI prog C)
include hC
theorem tZ (fs : List (List D)) (d : D) : C 317 [.ptr [.sl fs,d]] (.int .i64 fs.length) []:=by
 refine aT hC (nf:=N317) rfl rfl ?_
 simp [N317]
theorem qr (fs : List Nat) (sp : List Int) (x : Nat) (hx : x < sp.length) (hb : ∀ a ∈ fs,a < sp.length) (h2 : fs.length + 1 < 2 ^ 40) : C 316 [.blk 2 [[.own 1 (nfR fs),.slv 0 (inR sp)]],.ifa 20 (.r 10015) 0 0,.ifi 2 x] (.tup []) [.blk 2 [[.own 1 (nfR (upL sp (fs++[x]) fs.length)),.slv 0 (inR sp)]],.nils]:=hC.2 316 2 (qB fs sp) [.ifa 20 (.r 10015) 0 0,.ifi 2 x] (.tup []) (qB (upL sp (fs++[x]) fs.length) sp) fun C' h'=>vJ h' fs sp x hx hb h2
theorem zN (fs : List Nat) (sp : List Int) (h0 : 0 < fs.length) (hb : ∀ a ∈ fs,a < sp.length) (h2 : fs.length < 2 ^ 40) : C 318 [.blk 2 [[.own 1 (nfR fs),.slv 0 (inR sp)]],.ifa 20 (.r 10015) 0 0] (.ifi 2 (fAt (gk sp fs) (fs.length - 1) : Nat)) [.blk 2 [[.own 1 (nfR ((gk sp fs).take (fs.length - 1))),.slv 0 (inR sp)]],.nils]:=hC.2 318 2 (qB fs sp) [.ifa 20 (.r 10015) 0 0] (.ifi 2 (fAt (gk sp fs) (fs.length - 1) : Nat)) (qB ((gk sp fs).take (fs.length - 1)) sp) fun C' h'=>zM h' fs sp h0 hb h2
set_option maxRecDepth 8000 in
set_option maxHeartbeats 2000000 in
theorem ic (dec : Nat -> List UInt8) (hI : ∀ n : Nat,n < 100 -> C 127 [.int .i64 n] (.str (dec n)) []) (m : Msh) (hz : cL m=true -> m.s.length <= 100 /\ m.f.length <= 100) :
  C 280 [.agg (bk m)] (if aE m then .tup [d9 m,.int .i64 0] else .tup [.nilp,.int .i64 1]) []:=by
 have k1:=iS hC dec hI m hz
 have k2:=yL hC dec hI m hz
 simp only [ae] at k1 k2
 refine aT hC (nf:=N280) rfl rfl ?_
 simp [N280,ae]
 refine aa k1 (.inr rfl) ?_
 cases hv : aE m
 ·simp
 ·simp
  refine aa k2 (.inr rfl) ?_
  have hsz:=(d5 hv).2
  have kc:=u6 hC true (bA m) (by simp;omega)
  have kr:=ua hC (-1) m.f.length (by omega)
  rw [<- pH] at kc
  have er : List.replicate m.f.length [D.int .i64 (-1)]=inR (List.replicate m.f.length (-1)):=by simp [inR]
  rw [er] at kr
  simp [hv]
  refine jF kc ?_
  simp
  refine jF kr ?_
  simp
  have hc1 : ∀ e ∈ inR (bA m),∀ c ∈ e,aw c=true:=by simp [inR]
  refine ⟨by rcases eF true (inR (bA m)) with h | ⟨h,_⟩ <;> rw [h] <;> trivial,?_⟩
  refine sL (sz:=1) (by decide) (by decide) rfl (by decide) rfl (by decide) (by simp) hc1 rfl (by simp [bl,rt]) (fun h0=>?_) (fun hn=>?_)
  ·simp [h0,rt]
   have hsm : bA m=[]:=List.eq_nil_of_length_eq_zero (by simpa using h0)
   have hnb : nbA m=[]:=List.eq_nil_of_length_eq_zero (by simpa using h0)
   refine ay Unit (fun _=>[(4,.sl (nbA m)),(7,.ptx [.sl (nbA m),slx true (inR (bA m)),.ref (.r 10544) 0 0,.ref (.r 10608) 0 0]),(8,.adr (.r 10736) 0 0),(9,.ref (.r 10144) 0 0),(50,.sl (nbA m)),(51,.int .i64 0),
    (52,.int .i64 0),(10544,.blk 1 (inR (bA m))),(10608,.blk 1 []),(10736,.blk 2 [[.own 1 [],.any]]),(10144,.blk 1 [])]) (fun _=>True) (fun _=>0) () trivial (by simp) ?_
   rintro _ _
   simp
   refine ay Unit (fun _=>[(4,.sl (nbA m)),(7,.ptx [.sl (nbA m),slx true (inR (bA m)),.ref (.r 10544) 0 0,.ref (.r 10608) 0 0]),(8,.adr (.r 10736) 0 0),(9,.ref (.r 10144) 0 0),(10544,.blk 1 (inR (bA m))),(10608,.blk 1 []),(10736,.blk 2 [[.own 1 [],.any]]),(10144,.blk 1 [])]) (fun _=>True) (fun _=>0) () trivial (by simp) ?_
   rintro _ _
   have kl:=tZ hC [] .any
   simp at kl
   simp
   refine aa kl (.inl rfl) ?_
   simp
   simp [d9,bg,h0,flN,dH,hsm]
  ·simp [rt]
   refine ⟨by omega,?_⟩
   have hF:=fun e (he : e ∈ inR (bA m))=>hc1 e he
   have hr0 : List.replicate m.f.length [D.bool false]=rcR (fl0 m 0).2:=by simp [fl0,rcR]
   rw [hr0]
   refine ay Nat (fun i=>[(4,.sl (nbA m)),(7,.ptx [.sl (nbA m),slx true (inR (bA m)),.ref (.n 10736 0 1) 0 m.f.length,.ref (.r 10608) 0 m.f.length]),(8,.adr (.r 10736) 0 0),(9,.ref (.r 10144) 0 m.f.length),(50,.sl (nbA m)),(51,.int .i64 m.f.length),(52,.int .i64 i),
    (10736,.blk 2 [[.own 1 (nfR (fl0 m i).1),.own 1 (inR (bA m))]]),(10608,.blk 1 (inR (List.replicate m.f.length (-1)))),(10144,.blk 1 (rcR (fl0 m i).2))]) (fun i=>i <= m.f.length) (fun i=>m.f.length - i) 0 (by simp) (by simp [fl0,nfR]) ?_
   rintro i hi
   obtain ⟨l1,l2,l3⟩:=i4 m i
   have hw : IntKind.wrap .i64 ((i : Int) + 1)=((i + 1 : Nat) : Int):=aj (by omega) (by omega)
   simp
   refine am (fun g1=>?_) (fun g1=>?_) <;> simp at g1 <;> simp [g1]
   ·have kh:=vK hC (b:=false) (xs:=[nbF m i 0,nbF m i 1,nbF m i 2]) (-1) (by simp)
    have kh2 : C 223 [.sl [[.int .i64 (nbF m i 0)],[.int .i64 (nbF m i 1)],[.int .i64 (nbF m i 2)]],.int .i64 (-1)] (.bool (bsd m i (-1))) []:=by simpa [bsd] using kh
    simp [aN (ja g1),bZ]
    refine aa kh2 (.inl rfl) ?_
    simp
    have e0 : fl0 m (i + 1)=if bsd m i (-1) then (upL (bA m) ((fl0 m i).1++[i]) (fl0 m i).1.length,(fl0 m i).2.set i true) else fl0 m i:=rfl
    refine am (fun g2=>?_) (fun g2=>?_)
    ·rw [if_pos g2] at e0
     simp [g2,l1,g1,dY,wj,jk,AW]
     refine jG (b:=10736) (fs':=nfR (upL (bA m) ((fl0 m i).1++[i]) (fl0 m i).1.length)) (d:=.tup []) rfl (by decide) (by simp) (by simp) rfl rfl (by simp) (iK _) (pI _) (.inr rfl) (iK _) ?_ ?_
     ·exact qr hC (fl0 m i).1 (bA m) i (by simp;omega) (fun a ha=>by have:=l3 a ha;simp;omega) (by omega)
     ·simp [bV]
      exact ⟨i + 1,by omega,by omega,hw,by rw [e0],by rw [e0]⟩
    ·rw [if_neg (by simp [g2])] at e0
     simp [g2]
     exact ⟨i + 1,by omega,by omega,hw,by rw [e0],by rw [e0]⟩
   ·have hi2 : i=m.f.length:=by omega
    subst hi2
    obtain ⟨W0,M0⟩:=i5 m
    refine ay (Fl × Nat) (fun s=>[(4,.sl (nbA m)),(7,.ptx [.sl (nbA m),slx true (inR (bA m)),.ref (.n 10736 0 1) 0 m.f.length,.ref (.r 10608) 0 m.f.length]),(8,.adr (.r 10736) 0 0),(9,.ref (.r 10144) 0 m.f.length),
     (10736,.blk 2 [[.own 1 (nfR s.1.q),.own 1 (inR s.1.sp)]]),(10608,.blk 1 (inR s.1.ou)),(10144,.blk 1 (rcR s.1.rc))]) (fun s=>FlW m s.1 /\ s.1=flN m s.2 (dH m) /\ s.2 + flM s.1 <= 2 * m.f.length) (fun s=>flM s.1) (dH m,0) ⟨W0,rfl,by simpa using M0⟩ (by simp [dH]) ?_
    rintro ⟨s,k⟩ ⟨W,hs,hk⟩
    simp only at W hs hk
    have hn:=W.n
    have kl:=tZ hC (nfR s.q) (.sl (inR s.sp))
    simp at kl
    simp
    refine aa kl (.inl rfl) ?_
    simp
    refine am (fun g2=>?_) (fun g2=>?_) <;> simp at g2 <;> simp [g2]
    ·obtain ⟨Wp,Mp,hpi⟩:=tX W g2
     obtain ⟨x,hx⟩ : ∃ x,x=fAt (gk s.sp s.q) (s.q.length - 1):=⟨_,rfl⟩
     obtain ⟨s1,hs1⟩ : ∃ s1 : Fl,s1={ s with q:=(gk s.sp s.q).take (s.q.length - 1) }:=⟨_,rfl⟩
     have hst : dQ m s=flJ m x s1 3:=by
      unfold dQ
      rw [if_neg (by omega),<- hx,<- hs1]
     rw [<- hs1] at Wp Mp
     rw [<- hx] at hpi
     refine jG (b:=10736) (fs':=nfR s1.q) (d:=.ifi 2 (x : Int)) rfl (by decide) (by simp) (by simp) rfl rfl (by simp) (iK _) (pI _) (.inl rfl) (iK _) ?_ ?_
     ·have:=zN hC s.q s.sp g2 (fun a ha=>by rw [W.sp];exact W.q a ha) (by omega)
      rw [<- hx] at this
      rw [hs1]
      exact this
     ·have e1 : s1.sp=s.sp:=by rw [hs1]
      have e2 : s1.ou=s.ou:=by rw [hs1]
      have e3 : s1.rc=s.rc:=by rw [hs1]
      simp [bV,aN (ja hpi)]
      rw [<- e1,<- e2,<- e3]
      refine ay Nat (fun j=>[(4,.sl (nbA m)),(7,.ptx [.sl (nbA m),slx true (inR (bA m)),.ref (.n 10736 0 1) 0 m.f.length,.ref (.r 10608) 0 m.f.length]),(8,.adr (.r 10736) 0 0),(9,.ref (.r 10144) 0 m.f.length),(12,.int .i64 x),(78,.agg [.int .i64 (nbF m x 0),.int .i64 (nbF m x 1),.int .i64 (nbF m x 2)]),(79,.int .i64 j),
       (10736,.blk 2 [[.own 1 (nfR (flJ m x s1 j).q),.own 1 (inR (flJ m x s1 j).sp)]]),(10608,.blk 1 (inR (flJ m x s1 j).ou)),(10144,.blk 1 (rcR (flJ m x s1 j).rc))]) (fun j=>j <= 3) (fun j=>3 - j) 0 (by simp) (by simp [flJ]) ?_
      rintro j hj
      obtain ⟨Wj,Mj⟩:=qp (i:=x) Wp j
      obtain ⟨t,ht⟩ : ∃ t,t=flJ m x s1 j:=⟨_,rfl⟩
      have hnx : flJ m x s1 (j + 1)=mf m x t (nbF m x j):=by rw [ht];rfl
      rw [<- ht] at Wj Mj ⊢
      have htn:=Wj.n
      have hw : IntKind.wrap .i64 ((j : Int) + 1)=((j + 1 : Nat) : Int):=aj (by omega) (by omega)
      simp
      refine am (fun g3=>?_) (fun g3=>?_) <;> simp at g3
      ·have hxj : ([.int .i64 (nbF m x 0),.int .i64 (nbF m x 1),.int .i64 (nbF m x 2)] : List D)[j]?.getD .any=.int .i64 (nbF m x j):=by
        rcases (by omega : j=0 \/ j=1 \/ j=2) with rfl | rfl | rfl <;> rfl
       have hbd:=dS m x j
       obtain ⟨kk,hkk⟩ : ∃ kk,kk=nbF m x j:=⟨_,rfl⟩
       rw [<- hkk] at hxj hbd hnx
       simp [show (j : Int) < 3 by omega,hxj]
       refine ⟨by omega,?_⟩
       refine am (fun g4=>?_) (fun g4=>?_) <;> simp at g4 <;> simp [g4]
       ·have hst2 : flJ m x s1 (j + 1)=t:=by
         rw [hnx]
         unfold mf
         rw [if_pos (.inl g4)]
        exact ⟨j + 1,by omega,by omega,hw,by rw [hst2];exact ⟨rfl,rfl⟩,by rw [hst2],by rw [hst2]⟩
       ·obtain ⟨c,hc⟩ : ∃ c : Nat,kk=c:=⟨kk.toNat,by omega⟩
        subst hc
        have hcn : c < m.f.length:=by omega
        have hcr : c < t.rc.length:=by rw [Wj.rc];exact hcn
        refine ⟨by omega,by simpa using hcn,?_⟩
        simp [aH (dY hcr)]
        cases hrc : t.rc.getD c false
        ·simp at hrc
         have hxs : x < t.sp.length:=by rw [Wj.sp];exact hpi
         have hcs : c < t.sp.length:=by rw [Wj.sp];exact hcn
         have hco : c < t.ou.length:=by rw [Wj.ou];exact hcn
         have hcm : c < (bA m).length:=by simpa using hcn
         simp [hrc,dY hcr,hcn,hpi,jk,aH (bO hxs),aN (bO hcm),bO hcs,bO hco,jO]
         have hmx : (if t.sp[x]?.getD 0 < (bA m)[c] then (bA m)[c] else t.sp[x]?.getD 0)=mxZ (t.sp.getD x 0) ((bA m).getD c 0):=by
          simp [mxZ,hcn]
         rw [hmx]
         obtain ⟨sp',hsp'⟩ : ∃ sp',sp'=t.sp.set c (mxZ (t.sp.getD x 0) ((bA m).getD c 0)):=⟨_,rfl⟩
         rw [<- hsp']
         have hspl : sp'.length=m.f.length:=by rw [hsp'];simp [Wj.sp]
         have hst2 : flJ m x s1 (j + 1)={ q:=upL sp' (t.q++[c]) t.q.length,rc:=t.rc.set c true,sp:=sp',ou:=t.ou.set c x }:=by
          rw [hnx]
          unfold mf
          rw [if_neg (fun h=>by
           rcases h with h | h
           ·omega
           ·simp at h;rw [hrc] at h;cases h),hsp']
          rfl
         have hst3:=jr hcr (by simpa using hrc)
         refine ⟨al (by decide +kernel),?_⟩
         refine jG (b:=10736) (fs':=nfR (upL sp' (t.q++[c]) t.q.length)) (d:=.tup []) rfl (by decide) (by simp) (by simp) rfl rfl (by simp) (iK _) (pI _) (.inr rfl) (iK _) ?_ ?_
         ·exact qr hC t.q sp' c (by rw [hspl];exact hcn) (fun a ha=>by rw [hspl];exact Wj.q a ha) (by omega)
         ·simp [bV]
          refine ⟨j + 1,by omega,by omega,hw,?_⟩
          rw [hst2]
          simp
        ·have hst2 : flJ m x s1 (j + 1)=t:=by
          rw [hnx]
          unfold mf
          rw [if_pos (.inr (by simpa using hrc))]
         simp at hrc
         simp [hrc]
         exact ⟨j + 1,by omega,by omega,hw,by rw [hst2];exact ⟨rfl,rfl⟩,by rw [hst2],by rw [hst2]⟩
      ·have hj3 : j=3:=by omega
       subst hj3
       rw [<- hst] at ht
       simp
       exact ⟨dQ m s,⟨(fC W).1,k + 1,by rw [nq,<- hs];rfl,by have:=(fC W).2 g2;omega⟩,(fC W).2 g2,by rw [ht];exact ⟨rfl,rfl⟩,by rw [ht],by rw [ht]⟩
    ·have h0 : s.q.length=0:=by simpa using g2
     have hfl : bg m=s:=by
      unfold bg
      rw [show 3 * m.f.length=k + (3 * m.f.length - k) by omega,nq,<- hs]
      exact ll m h0 _
     have hsp:=eL s.sp
     have hou:=eL s.ou
     rw [W.sp] at hsp
     rw [W.ou] at hou
     refine ⟨⟨by rw [W.sp];omega,by rw [W.ou];omega⟩,?_⟩
     rw [d9,hfl,hsp,hou]
end
end Go.Gv

namespace Go.Gv
structure RF where
 rc : List Bool
 lf : List Bool
 lv : List Int
 ou : List Int
def act (r : RF) (i : Nat) : Bool:=r.rc.getD i false && !r.lf.getD i false
def rat (r : RF) : Nat -> Int
 | 0=>-1
 | i + 1=>if act r i=true /\ (rat r i < 0 \/ r.lv.getD i 0 < r.lv.getD (rat r i).toNat 0) then (i : Int) else rat r i
theorem gT (r : RF) : ∀ i,(rat r i=-1 /\ ∀ b,b < i -> act r b=false) \/ ∃ a : Nat,rat r i=a /\ a < i /\ act r a=true /\ ∀ b,b < i -> act r b=true -> r.lv.getD a 0 < r.lv.getD b 0 \/ (r.lv.getD a 0=r.lv.getD b 0 /\ a <= b)
 | 0=>.inl ⟨rfl,fun b hb=>by omega⟩
 | i + 1=>by
  rcases gT r i with ⟨h1,h2⟩ | ⟨a,h1,h2,h3,h4⟩
  ·by_cases ha : act r i=true
   ·right
    refine ⟨i,by simp [rat,ha,h1],by omega,ha,fun b hb hab=>?_⟩
    by_cases e : b=i
    ·subst e;exact .inr ⟨rfl,Nat.le_refl _⟩
    ·rw [h2 b (by omega)] at hab;cases hab
   ·left
    refine ⟨by simp [rat,ha,h1],fun b hb=>?_⟩
    by_cases e : b=i
    ·subst e;simpa using ha
    ·exact h2 b (by omega)
  ·right
   by_cases hc : act r i=true /\ r.lv.getD i 0 < r.lv.getD a 0
   ·refine ⟨i,?_,by omega,hc.1,fun b hb hab=>?_⟩
    ·unfold rat
     rw [if_pos ⟨hc.1,.inr (by rw [h1];exact hc.2)⟩]
    ·by_cases e : b=i
     ·subst e;exact .inr ⟨rfl,Nat.le_refl _⟩
     ·rcases h4 b (by omega) hab with h5 | h5
      ·exact .inl (by omega)
      ·exact .inl (by omega)
   ·refine ⟨a,?_,by omega,h3,fun b hb hab=>?_⟩
    ·unfold rat
     rw [if_neg,h1]
     rintro ⟨k1,k2⟩
     rcases k2 with k2 | k2
     ·rw [h1] at k2;omega
     ·rw [h1] at k2;exact hc ⟨k1,k2⟩
    ·by_cases e : b=i
     ·subst e
      have : ¬ r.lv.getD b 0 < r.lv.getD a 0:=fun h=>hc ⟨hab,h⟩
      rcases Int.lt_or_eq_of_le (Int.not_lt.1 this) with h5 | h5
      ·exact .inl h5
      ·exact .inr ⟨h5,by omega⟩
     ·exact h4 b (by omega) hab
def gl (m : Msh) (i : Nat) (r : RF) (k : Int) : RF :=
 if 0 <= k /\ r.rc.getD k.toNat false=false then { r with rc:=r.rc.set k.toNat true,lv:=r.lv.set k.toNat (if r.lv.getD i 0 < (bA m).getD k.toNat 0 then (bA m).getD k.toNat 0 else r.lv.getD i 0),ou:=r.ou.set k.toNat i } else r
def rfI (m : Msh) (i : Nat) (r : RF) : Nat -> RF
 | 0=>r
 | j + 1=>gl m i (rfI m i r j) (nbF m i j)
def dT (m : Msh) (r : RF) : RF :=
 if rat r m.f.length < 0 then r else rfI m (rat r m.f.length).toNat { r with lf:=r.lf.set (rat r m.f.length).toNat true } 3
def rf0 (m : Msh) : Nat -> List Bool × List Int
 | 0=>(List.replicate m.f.length false,List.replicate m.f.length 0)
 | i + 1=>if bsd m i (-1) then ((rf0 m i).1.set i true,(rf0 m i).2.set i ((bA m).getD i 0)) else rf0 m i
def de (m : Msh) : RF:={ rc:=(rf0 m m.f.length).1,lf:=List.replicate m.f.length false,lv:=(rf0 m m.f.length).2,ou:=List.replicate m.f.length (-1) }
structure fV (m : Msh) (s : Fl) (r : RF) : Prop where
 rc : s.rc=r.rc
 ou : s.ou=r.ou
 heap : gK s.sp s.q s.q.length
 cnt : ∀ a,s.q.count a=if act r a then 1 else 0
 lv : ∀ a,r.rc.getD a false=true -> s.sp.getD a 0=r.lv.getD a 0
 un : ∀ a,r.rc.getD a false=false -> s.sp.getD a 0=(bA m).getD a 0
 lf : ∀ a,r.lf.getD a false=true -> r.rc.getD a false=true
 len : r.lf.length=m.f.length /\ r.lv.length=m.f.length
theorem cy {α : Type} {l : List α} {i j : Nat} {x d : α} (h : i < l.length) : (l.set i x).getD j d=if j=i then x else l.getD j d:=by
 simp only [List.getD_eq_getElem?_getD,List.getElem?_set]
 by_cases e : i=j
 ·subst e;simp [h]
 ·rw [if_neg e,if_neg (Ne.symm e)]
theorem oq {sp sp' : List Int} {q : List Nat} (h : gK sp q q.length) (he : ∀ a ∈ q,sp'.getD a 0=sp.getD a 0) : gK sp' q q.length:=by
 intro i h0 hi
 have:=h i h0 hi
 rw [ee] at this ⊢
 rw [he _ (eJ hi),he _ (eJ (show (i - 1) / 2 < q.length by omega))]
 exact this
theorem fV.p1 {m : Msh} {s : Fl} {r : RF} {i : Nat} {k : Int} (h : fV m s r) (W : FlW m s) (hi : r.rc.getD i false=true) (hk : -1 <= k /\ k < m.f.length) : fV m (mf m i s k) (gl m i r k):=by
 unfold mf gl
 by_cases h1 : k=-1
 ·rw [if_pos (.inl h1),if_neg (by omega)]
  exact h
 ·cases h2 : r.rc.getD k.toNat false
  ·rw [if_neg (by rw [h.rc,h2];simp;exact h1),if_pos ⟨by omega,rfl⟩]
   have hkl : k.toNat < m.f.length:=by omega
   have hrl : r.rc.length=m.f.length:=by rw [<- h.rc];exact W.rc
   have hsp:=W.sp
   have hrcs:=fun j=>cy (l:=r.rc) (i:=k.toNat) (j:=j) (x:=true) (d:=false) (by omega)
   have hsps:=fun j x=>cy (l:=s.sp) (i:=k.toNat) (j:=j) (x:=x) (d:=(0 : Int)) (by omega)
   have hlvs:=fun j x=>cy (l:=r.lv) (i:=k.toNat) (j:=j) (x:=x) (d:=(0 : Int)) (by rw [h.len.2];omega)
   have hv : mxZ (s.sp.getD i 0) ((bA m).getD k.toNat 0)=(if r.lv.getD i 0 < (bA m).getD k.toNat 0 then (bA m).getD k.toNat 0 else r.lv.getD i 0):=by rw [h.lv i hi];rfl
   have hnq : k.toNat ∉ s.q:=by
    intro hm
    have h3:=h.cnt k.toNat
    have h4:=List.count_pos_iff.2 hm
    simp only [act,h2,Bool.false_and] at h3
    simp at h3
    omega
   obtain ⟨p1,p2,p3⟩:=jY (sp:=s.sp.set k.toNat (mxZ (s.sp.getD i 0) ((bA m).getD k.toNat 0))) (fs:=s.q) (x:=k.toNat) (oq h.heap (fun a ha=>by
    rw [hsps,if_neg]
    rintro rfl
    exact hnq ha))
   have hlfk : r.lf.getD k.toNat false=false:=by
    cases e : r.lf.getD k.toNat false
    ·rfl
    ·have:=h.lf _ e;rw [h2] at this;cases this
   refine ⟨by simp [h.rc],by simp [h.ou],p1,fun a=>?_,fun a ha=>?_,fun a ha=>?_,fun a ha=>?_,by simp [h.len]⟩
   ·simp only [p2,h.cnt a,act,hrcs]
    by_cases e : a=k.toNat
    ·subst e
     simp only [if_pos,h2,hlfk]
     simp
    ·simp only [if_neg e]
     simp
   ·simp only [hrcs] at ha
    simp only [hsps,hlvs]
    by_cases e : a=k.toNat
    ·rw [if_pos e,if_pos e];exact hv
    ·rw [if_neg e] at ha
     rw [if_neg e,if_neg e]
     exact h.lv a ha
   ·simp only [hrcs] at ha
    simp only [hsps]
    by_cases e : a=k.toNat
    ·rw [if_pos e] at ha;cases ha
    ·rw [if_neg e] at ha
     rw [if_neg e]
     exact h.un a ha
   ·simp only [hrcs]
    split
    ·rfl
    ·exact h.lf a ha
  ·rw [if_pos (.inr (by rw [h.rc];exact h2)),if_neg (by simp)]
   exact h
theorem nL {m : Msh} {i a : Nat} {r : RF} {k : Int} (h : r.rc.getD a false=true) : (gl m i r k).rc.getD a false=true:=by
 unfold gl
 split
 ·by_cases e : k.toNat < r.rc.length
  ·rw [cy e]
   split
   ·rfl
   ·exact h
  ·rw [List.set_eq_of_length_le (by omega)]
   exact h
 ·exact h
theorem fV.stepI {m : Msh} {s : Fl} {r : RF} {i : Nat} (h : fV m s r) (W : FlW m s) (hi : r.rc.getD i false=true) : ∀ j,fV m (flJ m i s j) (rfI m i r j) /\ (rfI m i r j).rc.getD i false=true
 | 0=>⟨h,hi⟩
 | j + 1=>by
  obtain ⟨h1,h2⟩:=fV.stepI h W hi j
  exact ⟨h1.p1 (qp W j).1 h2 (dS m i j),nL h2⟩
theorem fV.step {m : Msh} {s : Fl} {r : RF} (h : fV m s r) (W : FlW m s) : fV m (dQ m s) (dT m r) /\ (s.q.length=0 ↔ rat r m.f.length < 0):=by
 have hact : ∀ a,a ∈ s.q ↔ act r a=true:=fun a=>by
  rw [<- List.count_pos_iff,h.cnt]
  split <;> simp_all
 rcases gT r m.f.length with ⟨h1,h2⟩ | ⟨a,h1,h2,h3,h4⟩
 ·have h0 : s.q.length=0:=by
   rcases Nat.eq_zero_or_pos s.q.length with e | e
   ·exact e
   ·have h5:=eJ (fs:=s.q) (i:=0) e
    have h6:=h2 _ (W.q _ h5)
    rw [(hact _).1 h5] at h6
    cases h6
  unfold dQ dT
  rw [if_pos h0,if_pos (by omega)]
  exact ⟨h,by rw [h1];exact ⟨fun _=>by omega,fun _=>h0⟩⟩
 ·have hq : a ∈ s.q:=(hact a).2 h3
  have h0 : 0 < s.q.length:=List.length_pos_of_mem hq
  obtain ⟨p1,p2,p3,p4⟩:=tY h.heap h0
  have hfa : fAt s.q 0=a:=by
   have h5:=eJ (fs:=s.q) (i:=0) h0
   have h6:=(hact _).1 h5
   have h7:=h4 _ (W.q _ h5) h6
   obtain ⟨x,hx,hxa⟩:=List.mem_iff_getElem.1 hq
   have h8:=rq h.heap x hx
   rw [c8 hx,hxa,ee] at h8
   have hra : r.rc.getD a false=true:=by simp only [act,Bool.and_eq_true] at h3;exact h3.1
   have hr0 : r.rc.getD (fAt s.q 0) false=true:=by simp only [act,Bool.and_eq_true] at h6;exact h6.1
   rw [h.lv a hra,h.lv _ hr0] at h8
   omega
  have hral : r.rc.getD a false=true:=by simp only [act,Bool.and_eq_true] at h3;exact h3.1
  have hlfs:=fun j=>cy (l:=r.lf) (i:=a) (j:=j) (x:=true) (d:=false) (by rw [h.len.1];exact h2)
  have hmid : fV m { s with q:=(gk s.sp s.q).take (s.q.length - 1) } { r with lf:=r.lf.set a true }:=by
   refine ⟨h.rc,h.ou,p3,fun b=>?_,h.lv,h.un,fun b hb=>?_,by simp [h.len]⟩
   ·have h5:=p4 b
    have h6:=h.cnt b
    have h7 : (gk s.sp s.q)=(bE s.sp (swp s.q 0 (s.q.length - 1)) 0 (s.q.length - 1)).1:=rfl
    rw [h7]
    rw [hfa] at h5
    simp only [act,hlfs]
    by_cases e : b=a
    ·subst e
     rw [if_pos rfl] at h5
     rw [if_pos h3] at h6
     simp
     omega
    ·rw [if_neg e] at h5
     rw [if_neg e]
     simp only [act] at h6
     refine Eq.trans ?_ h6
     omega
   ·simp only [hlfs] at hb
    split at hb
    ·rename_i e;rw [e];exact hral
    ·exact h.lf b hb
  obtain ⟨W1,_,_⟩:=tX W h0
  have hpa : fAt (gk s.sp s.q) (s.q.length - 1)=a:=p1.trans hfa
  refine ⟨?_,by omega⟩
  unfold dQ dT
  rw [if_neg (by omega),if_neg (by omega),h1,hpa]
  exact (hmid.stepI W1 hral 3).1
end Go.Gv

namespace Go.Gv
theorem nI (m : Msh) : ∀ i,(rf0 m i).1=(fl0 m i).2
 | 0=>rfl
 | i + 1=>by
  unfold rf0 fl0
  split
  ·simp only [nI m i]
  ·exact nI m i
theorem f8 (m : Msh) : ∀ i,(rf0 m i).1.length=m.f.length /\ (rf0 m i).2.length=m.f.length
 | 0=>by simp [rf0]
 | i + 1=>by
  obtain ⟨h1,h2⟩:=f8 m i
  unfold rf0
  split
  ·simp [h1,h2]
  ·exact ⟨h1,h2⟩
theorem i3 (m : Msh) : ∀ i,gK (bA m) (fl0 m i).1 (fl0 m i).1.length
 | 0=>by intro i h0 hi;simp [fl0] at hi
 | i + 1=>by
  unfold fl0
  split
  ·exact (jY (i3 m i)).1
  ·exact i3 m i
theorem qo (m : Msh) : ∀ i,i <= m.f.length -> ∀ a,(fl0 m i).1.count a=if (fl0 m i).2.getD a false=true then 1 else 0
 | 0,_,a=>by
  rw [mG m 0 a (by omega)]
  simp [fl0]
 | i + 1,h,a=>by
  have ih:=qo m i (by omega) a
  have hl:=(i4 m i).1
  unfold fl0
  split
  ·simp only [(jY (i3 m i)).2.1,ih]
   rw [cy (by omega)]
   by_cases e : a=i
   ·subst e
    rw [mG m a a (Nat.le_refl _)]
    simp
   ·simp only [if_neg e]
    simp
  ·exact ih
theorem pW (m : Msh) : ∀ i,i <= m.f.length -> ∀ a,(rf0 m i).1.getD a false=true -> (rf0 m i).2.getD a 0=(bA m).getD a 0
 | 0,_,a,h=>by
  have:=mG m 0 a (by omega)
  simp only [fl0] at this
  simp only [rf0] at h
  rw [this] at h;cases h
 | i + 1,hi,a,h=>by
  obtain ⟨h1,h2⟩:=f8 m i
  unfold rf0 at h ⊢
  split at h
  ·rename_i hb
   simp only [hb,if_true] at h ⊢
   rw [cy (by omega)] at h ⊢
   by_cases e : a=i
   ·rw [if_pos e,e]
   ·rw [if_neg e] at h ⊢
    exact pW m i (by omega) a h
  ·rename_i hb
   simp only [hb] at h ⊢
   exact pW m i (by omega) a h
theorem fV.init (m : Msh) : fV m (dH m) (de m):=by
 have hf : ∀ a,(List.replicate m.f.length false).getD a false=false:=fun a=>by
  simp [List.getElem?_replicate]
  split <;> rfl
 refine ⟨(nI m _).symm,rfl,i3 m _,fun a=>?_,fun a ha=>?_,fun a _=>rfl,fun a ha=>?_,?_⟩
 ·have:=qo m m.f.length (Nat.le_refl _) a
  simp only [dH,act,de,hf,nI]
  simpa using this
 ·exact (pW m _ (Nat.le_refl _) a ha).symm
 ·simp only [de] at ha
  rw [hf] at ha;cases ha
 ·simp [de,(f8 m _).2]
def rfN (m : Msh) : Nat -> RF -> RF
 | 0,r=>r
 | k + 1,r=>rfN m k (dT m r)
theorem nK (m : Msh) : ∀ (k j : Nat) (r : RF),rfN m (k + j) r=rfN m j (rfN m k r)
 | 0,j,r=>by simp [rfN]
 | k + 1,j,r=>by rw [Nat.succ_add];simp only [rfN];exact nK m k j _
theorem oT (m : Msh) {r : RF} (h : rat r m.f.length < 0) : ∀ j,rfN m j r=r
 | 0=>rfl
 | j + 1=>by simp only [rfN,dT,if_pos h];exact oT m h j
def b4 (m : Msh) : RF:=rfN m (3 * m.f.length) (de m)
theorem fV.run {m : Msh} : ∀ (k : Nat) {s : Fl} {r : RF},fV m s r -> FlW m s -> fV m (flN m k s) (rfN m k r)
 | 0,_,_,h,_=>h
 | k + 1,_,_,h,W=>fV.run k (h.step W).1 (fC W).1
theorem oh {m : Msh} : ∀ (k : Nat) {s : Fl},FlW m s -> flM (flN m k s) + k <= flM s \/ (flN m k s).q.length=0
 | 0,s,_=>.inl (Nat.le_refl _)
 | k + 1,s,W=>by
  simp only [flN]
  by_cases h0 : s.q.length=0
  ·right
   have : dQ m s=s:=by unfold dQ;rw [if_pos h0]
   rw [this,ll m h0];exact h0
  ·obtain ⟨W1,h1⟩:=fC W
   have h2:=h1 (by omega)
   rcases oh k W1 with h3 | h3
   ·left;omega
   ·exact .inr h3
theorem pq (m : Msh) : (bg m).q.length=0:=by
 obtain ⟨W,h⟩:=i5 m
 rcases oh (3 * m.f.length) W with h1 | h1
 ·have h2 : flM (bg m) + 3 * m.f.length <= flM (dH m):=h1
  have h3 : (bg m).q.length <= flM (bg m):=by unfold flM;omega
  omega
 ·exact h1
theorem mH (m : Msh) : fV m (bg m) (b4 m):=(fV.init m).run _ (i5 m).1
theorem ib (m : Msh) : FlW m (bg m):=xW _ (i5 m).1
theorem oU (m : Msh) (a : Nat) (h : (b4 m).rc.getD a false=true) : (b4 m).lf.getD a false=true:=by
 have h1:=(mH m).cnt a
 have h2 : (bg m).q=[]:=List.eq_nil_of_length_eq_zero (pq m)
 rw [h2] at h1
 simp only [List.count_nil,act,h,Bool.true_and] at h1
 cases e : (b4 m).lf.getD a false
 ·rw [e] at h1;simp at h1
 ·rfl
theorem tp (m : Msh) (hall : ∀ a,a < m.f.length -> (b4 m).rc.getD a false=true) : (bg m).sp=(b4 m).lv /\ (bg m).ou=(b4 m).ou:=by
 have h:=mH m
 have W:=ib m
 refine ⟨List.ext_getElem (by rw [W.sp,h.len.2]) fun i h1 h2=>?_,h.ou⟩
 have:=h.lv i (hall i (by rw [<- W.sp];exact h1))
 simpa [h1,h2] using this
end Go.Gv

namespace Go.Gv
open Go.Lib
def wiS (v : Int) : D:=.agg [.int .i64 (v / 1152921504606846976),.int .i64 (v % 1152921504606846976)]
variable {C : CC} (hC : aI prog C)
include hC
end Go.Gv

namespace Go.Gv
variable {C : CC} (hC : aI prog C)
include hC
end Go.Gv

namespace Go.Gv
def slE (m : Msh) (a b : Int) : Int:=if aE m=false then 1 else if fL m.f.length a=false \/ fL m.f.length b=false then 2 else if bsd m a.toNat b=false then 25 else 0
def stE (m : Msh) (i a b : Int) : Int:=if aE m=false then 1 else if fL m.f.length i=false \/ fL m.f.length a=false \/ fL m.f.length b=false then 2 else if bsd m i.toNat a=false \/ bsd m i.toNat b=false then 25 else 0
variable {C : CC} (hC : aI prog C)
include hC
end Go.Gv

namespace Go.Gv
theorem vL {α : Type} {p : α -> Bool} {xs : List α} {i : Nat} (h : gM p xs=(i : Int)) : ∃ h : i < xs.length,p xs[i]=true:=by
 unfold gM at h
 cases e : xs.findIdx? p with
 | none=>rw [e] at h;simp at h
 | some k =>
  rw [e] at h
  have h : k=i:=by have h : (k : Int)=(i : Int):=h;omega
  subst h
  rw [List.findIdx?_eq_some_iff_getElem] at e
  exact ⟨e.1,e.2.1⟩
theorem qw {m : Msh} {i k : Nat} (h : 0 <= nbF m i k) : ∃ c,c < 3 /\ crn (fce m (nbF m i k).toNat) c=crn (fce m i) (k + 1) /\ crn (fce m (nbF m i k).toNat) (c + 1)=crn (fce m i) k:=by
 have e : nbF m i k=((nbF m i k).toNat : Int):=by omega
 have h2 : gM (fun f=>bU f (crn (fce m i) (k + 1)) (crn (fce m i) k)) m.f=((nbF m i k).toNat : Int):=e
 obtain ⟨h3,h4⟩:=vL h2
 rw [iY] at h4
 simp only [bU,List.any_eq_true,List.mem_range,Bool.and_eq_true,decide_eq_true_eq] at h4
 exact h4
def cpt (m : Msh) (f : Fce) (k : Nat) : Pnt:=ptS (spt m (crn f k).toNat)
end Go.Gv

namespace Go.Gv
theorem tP {m : Msh} (hv : aE m=true) {i k : Nat} (hi : i < m.f.length) (hk : k < 3) (h : 0 <= nbF m i k) : ∃ c,c < 3 /\ nbF m (nbF m i k).toNat c=i:=by
 obtain ⟨c,hc,c1,c2⟩:=qw h
 refine ⟨c,hc,?_⟩
 unfold nbF at c1 c2 ⊢
 rw [c1,c2]
 have hs : bU (fce m i) (crn (fce m i) k) (crn (fce m i) (k + 1))=true:=by
  simp only [bU,List.any_eq_true,List.mem_range,Bool.and_eq_true,decide_eq_true_eq]
  exact ⟨k,hk,rfl,rfl⟩
 refine dR (fun j hj hji=>?_) hi (by rw [iY];exact hs)
 rw [iY]
 cases e : bU (fce m j) (crn (fce m i) k) (crn (fce m i) (k + 1))
 ·rfl
 ·have:=jL hv hj hi e hs
  omega
def crs (a b : Pnt) : Int:=a.1 * b.2 - a.2 * b.1
theorem vi (a b : Pnt) : crs b a=-crs a b:=by
 unfold crs
 rw [Int.mul_comm b.1,Int.mul_comm b.2]
 omega
theorem uM (a b c : Pnt) : dM a b c=crs a b + crs b c + crs c a:=by
 obtain ⟨a1,a2⟩:=a
 obtain ⟨b1,b2⟩:=b
 obtain ⟨c1,c2⟩:=c
 simp only [dM,crs,Int.sub_mul,Int.mul_sub]
 have e1:=Int.mul_comm a1 a2
 have e2:=Int.mul_comm b2 a1
 have e5:=Int.mul_comm a2 b1
 have e3:=Int.mul_comm c1 a2
 have e4:=Int.mul_comm c2 a1
 omega
def gE (m : Msh) (e : Int × Int) : Int:=crs (ptS (spt m e.1.toNat)) (ptS (spt m e.2.toNat))
theorem rM {l l' : List Int} (h : l.Perm l') : l.sum=l'.sum:=by
 induction h with
 | nil=>rfl
 | cons x _ ih=>simp [ih]
 | swap x y l=>simp;omega
 | trans _ _ ih1 ih2=>exact ih1.trans ih2
theorem sO (m : Msh) : ∀ (n : Nat) (E : List (Int × Int)),E.length <= n -> E.Nodup -> (∀ e ∈ E,e.1 ≠ e.2) -> (∀ e ∈ E,(e.2,e.1) ∈ E) -> (E.map (gE m)).sum=0
 | _,[],_,_,_,_=>rfl
 | 0,e::T,h,_,_,_=>by simp at h
 | n + 1,e::T,h,hn,hd,hs=>by
  have hne : (e.2,e.1) ≠ e:=fun he=>hd e (by simp) (by rw [<- he];simp at he ⊢;have:=congrArg Prod.fst he;have:=congrArg Prod.snd he;simp_all)
  have hmem : (e.2,e.1) ∈ T:=by
   rcases List.mem_cons.1 (hs e (by simp)) with h1 | h1
   ·exact absurd h1 hne
   ·exact h1
  rw [List.nodup_cons] at hn
  have hp:=List.perm_cons_erase hmem
  have h1:=rM (hp.map (gE m))
  have hel : (T.erase (e.2,e.1)).length + 1=T.length:=by
   have:=hp.length_eq
   simpa using this.symm
  have h2:=sO m n (T.erase (e.2,e.1)) (by simp at h;omega) (hn.2.erase _) (fun x hx=>hd x (List.mem_cons_of_mem _ (List.mem_of_mem_erase hx))) (fun x hx=>by
   rw [hn.2.mem_erase_iff] at hx ⊢
   have h3:=hs x (List.mem_cons_of_mem _ hx.2)
   refine ⟨fun h4=>?_,?_⟩
   ·have : x=e:=by
     have a1:=congrArg Prod.fst h4
     have a2:=congrArg Prod.snd h4
     simp at a1 a2
     exact Prod.ext a2 a1
    exact hn.1 (this ▸ hx.2)
   ·rcases List.mem_cons.1 h3 with h4 | h4
    ·exfalso
     refine hx.1 ?_
     rw [<- h4]
    ·exact h4)
  have h3 : gE m (e.2,e.1)=-gE m e:=vi _ _
  simp only [List.map_cons,List.sum_cons] at h1 ⊢
  omega
def sdE (m : Msh) (i : Nat) : List (Int × Int):=[(crn (fce m i) 0,crn (fce m i) 1),(crn (fce m i) 1,crn (fce m i) 2),(crn (fce m i) 2,crn (fce m i) 3)]
theorem kV {m : Msh} {i : Nat} {e : Int × Int} : e ∈ sdE m i ↔ bU (fce m i) e.1 e.2=true:=by
 simp only [sdE,List.mem_cons,List.not_mem_nil,or_false,bU,List.any_eq_true,List.mem_range,Bool.and_eq_true,decide_eq_true_eq]
 constructor
 ·rintro (rfl | rfl | rfl)
  ·exact ⟨0,by omega,rfl,rfl⟩
  ·exact ⟨1,by omega,rfl,rfl⟩
  ·exact ⟨2,by omega,rfl,rfl⟩
 ·rintro ⟨c,hc,c1,c2⟩
  rcases (by omega : c=0 \/ c=1 \/ c=2) with rfl | rfl | rfl
  ·exact .inl (Prod.ext c1.symm c2.symm)
  ·exact .inr (.inl (Prod.ext c1.symm c2.symm))
  ·exact .inr (.inr (Prod.ext c1.symm c2.symm))
theorem ol {α β : Type} (F : α -> List β) (g : β -> Int) : ∀ l : List α,((l.flatMap F).map g).sum=(l.map fun x=>((F x).map g).sum).sum
 | []=>rfl
 | x::l=>by simp [ol F g l]
theorem qJ {α : Type} (g : α -> Int) : ∀ l : List α,(∀ x ∈ l,0 < g x) -> l ≠ [] -> 0 < (l.map g).sum
 | [],_,h=>absurd rfl h
 | [x],h,_=>by have:=h x (by simp);simpa using this
 | x::y::l,h,_=>by
  have h1:=h x (by simp)
  have h2:=qJ g (y::l) (fun z hz=>h z (by simp [hz])) (by simp)
  simp only [List.map_cons,List.sum_cons] at h2 ⊢
  omega
theorem rH {m : Msh} (hv : aE m=true) (u : Nat -> Bool) (hcl : ∀ i k,i < m.f.length -> k < 3 -> u i=true -> 0 <= nbF m i k /\ u (nbF m i k).toNat=true) : ∀ i,i < m.f.length -> u i=false:=by
 intro i hi
 cases hu : u i
 ·rfl
 exfalso
 obtain ⟨U,hU⟩ : ∃ U,U=(List.range m.f.length).filter u:=⟨_,rfl⟩
 have hmU : ∀ x,x ∈ U ↔ x < m.f.length /\ u x=true:=fun x=>by rw [hU,List.mem_filter,List.mem_range]
 have hnU : U.Pairwise (· ≠ ·):=by rw [hU];exact List.Pairwise.filter _ List.nodup_range
 have hcor : ∀ x,x < m.f.length -> (fce m x).a ≠ (fce m x).b /\ (fce m x).b ≠ (fce m x).c /\ (fce m x).c ≠ (fce m x).a:=fun x hx=>by
  have:=(kY hv hx).1
  simp only [okF,okc,Bool.and_eq_true,decide_eq_true_eq] at this
  exact ⟨this.1.1.1.1.1.2,this.1.1.1.2.1.2,this.1.1.2.1.2⟩
 have hE:=sO m _ (U.flatMap (sdE m)) (Nat.le_refl _) (by
  rw [List.Nodup,List.pairwise_flatMap]
  refine ⟨fun x hx=>?_,hnU.imp_of_mem fun {x y} hx hy hxy e he e' he' h=>?_⟩
  ·obtain ⟨k1,k2,k3⟩:=hcor x ((hmU x).1 hx).1
   simp only [sdE,crn,List.pairwise_cons,List.mem_cons,List.not_mem_nil,or_false,forall_eq_or_imp,forall_eq,List.Pairwise.nil,and_true,ne_eq,Prod.mk.injEq,not_and,false_imp_iff,implies_true]
   exact ⟨⟨fun h=>absurd h k1,fun h=>absurd h.symm k3⟩,fun h=>absurd h k2⟩
  ·subst h
   exact hxy (jL hv ((hmU x).1 hx).1 ((hmU y).1 hy).1 (kV.1 he) (kV.1 he'))) (fun e he=>by
  obtain ⟨x,hx,hex⟩:=List.mem_flatMap.1 he
  obtain ⟨k1,k2,k3⟩:=hcor x ((hmU x).1 hx).1
  simp only [sdE,crn,List.mem_cons,List.not_mem_nil,or_false] at hex
  rcases hex with rfl | rfl | rfl
  ·exact k1
  ·exact k2
  ·exact k3) (fun e he=>by
  obtain ⟨x,hx,hex⟩:=List.mem_flatMap.1 he
  have hxl:=(hmU x).1 hx
  have hh:=kV.1 hex
  simp only [bU,List.any_eq_true,List.mem_range,Bool.and_eq_true,decide_eq_true_eq] at hh
  obtain ⟨k,hk,k1,k2⟩:=hh
  obtain ⟨h1,h2⟩:=hcl x k hxl.1 hk hxl.2
  obtain ⟨c,hc,c1,c2⟩:=qw h1
  have hb:=dS m x k
  refine List.mem_flatMap.2 ⟨(nbF m x k).toNat,(hmU _).2 ⟨by omega,h2⟩,kV.2 ?_⟩
  simp only [bU,List.any_eq_true,List.mem_range,Bool.and_eq_true,decide_eq_true_eq]
  exact ⟨c,hc,by rw [c1,k2],by rw [c2,k1]⟩)
 rw [ol] at hE
 have hpos:=qJ (fun x=>((sdE m x).map (gE m)).sum) U (fun x hx=>by
  have:=(kY hv ((hmU x).1 hx).1).2
  have e : jv (aQ m (fce m x))=((sdE m x).map (gE m)).sum:=by
   unfold jv
   rw [uM]
   simp only [sdE,List.map_cons,List.map_nil,List.sum_cons,List.sum_nil,gE,aQ,crn]
   omega
  rw [<- e];exact this) (by
  intro h
  have:=(hmU i).2 ⟨hi,hu⟩
  rw [h] at this;cases this)
 omega
end Go.Gv

namespace Go.Gv
theorem ud {m : Msh} {i : Nat} {r : RF} {k : Int} : (gl m i r k).rc.length=r.rc.length /\ (gl m i r k).lf=r.lf:=by
 unfold gl
 split
 ·simp
 ·exact ⟨rfl,rfl⟩
theorem kS {m : Msh} {i : Nat} {r : RF} : ∀ j,(rfI m i r j).rc.length=r.rc.length /\ (rfI m i r j).lf=r.lf
 | 0=>⟨rfl,rfl⟩
 | j + 1=>by
  obtain ⟨h1,h2⟩:=kS (m:=m) (i:=i) (r:=r) j
  obtain ⟨h3,h4⟩:=ud (m:=m) (i:=i) (r:=rfI m i r j) (k:=nbF m i j)
  exact ⟨h3.trans h1,h4.trans h2⟩
theorem nJ {m : Msh} {i a : Nat} {r : RF} (h : r.rc.getD a false=true) : ∀ j,(rfI m i r j).rc.getD a false=true
 | 0=>h
 | j + 1=>nL (nJ h j)
theorem mZ {m : Msh} {i : Nat} {r : RF} (hl : r.rc.length=m.f.length) : ∀ j c,c < j -> 0 <= nbF m i c -> (rfI m i r j).rc.getD (nbF m i c).toNat false=true
 | 0,c,h,_=>by omega
 | j + 1,c,h,h0=>by
  by_cases e : c=j
  ·subst e
   show (gl m i (rfI m i r c) (nbF m i c)).rc.getD _ false=true
   have hb:=dS m i c
   unfold gl
   cases e2 : (rfI m i r c).rc.getD (nbF m i c).toNat false
   ·rw [if_pos ⟨h0,rfl⟩]
    rw [cy (by rw [(kS c).1];omega),if_pos rfl]
   ·rw [if_neg (by simp)]
    exact e2
  ·exact nL (mZ hl j c (by omega) h0)
structure RCl (m : Msh) (r : RF) : Prop where
 len : r.rc.length=m.f.length
 cl : ∀ a,r.lf.getD a false=true -> ∀ c,c < 3 -> 0 <= nbF m a c -> r.rc.getD (nbF m a c).toNat false=true
 bd : ∀ a,a < m.f.length -> bsd m a (-1)=true -> r.rc.getD a false=true
theorem pE {l : List Bool} {i j : Nat} (h : (l.set i true).getD j false=true) : j=i \/ l.getD j false=true:=by
 by_cases e : i < l.length
 ·rw [cy e] at h
  split at h
  ·exact .inl (by assumption)
  ·exact .inr h
 ·rw [List.set_eq_of_length_le (by omega)] at h
  exact .inr h
theorem RCl.step {m : Msh} {r : RF} (h : RCl m r) : RCl m (dT m r):=by
 unfold dT
 split
 ·exact h
 ·obtain ⟨h1,h2⟩:=kS (m:=m) (i:=(rat r m.f.length).toNat) (r:={ r with lf:=r.lf.set (rat r m.f.length).toNat true }) 3
  refine ⟨h1.trans h.len,fun a ha c hc h0=>?_,fun a ha hb=>nJ (r:={ r with lf:=r.lf.set (rat r m.f.length).toNat true }) (h.bd a ha hb) 3⟩
  rw [h2] at ha
  rcases pE ha with rfl | ha
  ·exact mZ (r:={ r with lf:=r.lf.set (rat r m.f.length).toNat true }) h.len 3 c hc h0
  ·exact nJ (r:={ r with lf:=r.lf.set (rat r m.f.length).toNat true }) (h.cl a ha c hc h0) 3
theorem RCl.run {m : Msh} : ∀ (k : Nat) {r : RF},RCl m r -> RCl m (rfN m k r)
 | 0,_,h=>h
 | k + 1,_,h=>RCl.run k h.step
theorem uc (m : Msh) : ∀ i,i <= m.f.length -> ∀ a,a < i -> bsd m a (-1)=true -> (rf0 m i).1.getD a false=true
 | 0,_,a,h,_=>by omega
 | i + 1,hi,a,h,hb=>by
  have hl:=(f8 m i).1
  unfold rf0
  by_cases e : a=i
  ·subst e
   rw [if_pos hb]
   simp only
   rw [cy (by omega),if_pos rfl]
  ·have ih:=uc m i (by omega) a (by omega) hb
   split
   ·simp only
    rw [cy (by omega),if_neg e]
    exact ih
   ·exact ih
theorem RCl.init (m : Msh) : RCl m (de m):=by
 refine ⟨(f8 m _).1,fun a ha=>?_,fun a ha hb=>uc m _ (Nat.le_refl _) a ha hb⟩
 have hf : (List.replicate m.f.length false).getD a false=false:=by
  simp [List.getElem?_replicate]
  split <;> rfl
 simp only [de] at ha
 rw [hf] at ha;cases ha
theorem ki {m : Msh} (hv : aE m=true) : ∀ a,a < m.f.length -> (b4 m).rc.getD a false=true:=by
 have hc : RCl m (b4 m):=(RCl.init m).run _
 intro a ha
 have:=rH hv (fun i=>!(b4 m).rc.getD i false) (fun i k hi hk hu=>?_) a ha
 ·simpa using this
 ·simp only [Bool.not_eq_true'] at hu ⊢
  have hb:=dS m i k
  have h0 : 0 <= nbF m i k:=by
   by_cases e : nbF m i k=-1
   ·exfalso
    have h1 : bsd m i (-1)=true:=by
     rcases (by omega : k=0 \/ k=1 \/ k=2) with rfl | rfl | rfl <;> simp [bsd,e]
    rw [hc.bd i hi h1] at hu;cases hu
   ·omega
  refine ⟨h0,?_⟩
  cases e : (b4 m).rc.getD (nbF m i k).toNat false
  ·rfl
  ·exfalso
   have h1:=oU m _ e
   obtain ⟨c,hc1,hc2⟩:=tP hv hi hk h0
   have h2:=hc.cl _ h1 c hc1 (by omega)
   rw [hc2] at h2
   simp only [Int.toNat_natCast] at h2
   rw [h2] at hu;cases hu
theorem fE {m : Msh} (hv : aE m=true) : (bg m).sp=(b4 m).lv /\ (bg m).ou=(b4 m).ou:=tp m (ki hv)
end Go.Gv
