/-
  Texts of the proof: K3, K2, B1, B2, K9, K10, B3, B4, B5, K11, K12, B6, W1, W2, W3, W4, W5, B7, P5, M1, P4, M5, P1, M2a, P2, B8, P6, B9, P4b, P7, Q0, Q1, GvX, GvX2, Q2, Q3, Q4, Q5, Q6, Q7.
-/
import Derived.Test.YtabkicbiibfnbaaGreatX6
import Derived.Lib.SlicesCompact
set_option linter.all false
namespace Go.Gv
structure SlI where
 n : Bool
 l : List Int
 deriving Inhabited
def slI (x : SlI) : D:=slx x.n (x.l.map fun n=>[.int .i64 n])
def knD (k : Int × Int) : List D:=[.int .i64 k.1,.int .i64 k.2]
structure Sec where
 name : List UInt8
 height : Int
 price : Int
 areaN : Bool
 area : List (Int × Int)
 convN : Bool
 conv : List (Int × Int)
 deriving Inhabited
def aY (s : Sec) : List D:=[.str s.name,.int .i64 s.height,.int .i64 s.price,slx s.areaN (s.area.map knD),slx s.convN (s.conv.map knD)]
def a8 {α : Type} (p : α -> Bool) (xs : List α) : Int:=match xs.findIdx? p with
 | some i=>i
 | none=>-1
theorem cK {α : Type} {p : α -> Bool} {xs : List α} {i : Nat} (hj : ∀ (j : Nat) (h : j < xs.length),j < i -> p xs[j]=false) (hi : i < xs.length) (h : p xs[i]=true) : a8 p xs=i:=by
 have : xs.findIdx? p=some i:=by
  rw [x0L]
  exact ⟨hi,h,fun j hji=>by simp [hj j (by omega) hji]⟩
 simp [a8,this]
theorem cW {α : Type} {p : α -> Bool} {xs : List α} (hj : ∀ (j : Nat) (h : j < xs.length),p xs[j]=false) : a8 p xs=-1:=by
 have : xs.findIdx? p=none:=by
  rw [x1G]
  intro x hx
  obtain ⟨j,h,rfl⟩:=x0B.1 hx
  exact hj j h
 simp [a8,this]
theorem ev {α : Type} (p : α -> Bool) (xs : List α) : decide (0 <= a8 p xs)=xs.any p:=by
 unfold a8
 split
 ·rename_i i h
  rw [x0L] at h
  obtain ⟨h1,h2,_⟩:=h
  have : xs.any p=true:=x0H.2 ⟨_,x0h h1,h2⟩
  simp [this]
 ·rename_i h
  rw [x1G] at h
  have : xs.any p=false:=by rw [x0S];intro x hx;simp [h x hx]
  simp [this]
variable {C : CC} (hC : al prog C)
include hC
theorem wP {b : Bool} {xs : List Int} {g : Nat} {cs : List D} (p : Int -> Bool) (hs : xs.length < 2 ^ 62) (hp : ∀ x ∈ xs,C g (.int .i64 x::cs) (.bool (p x)) []) : C 35 [slx b (xs.map fun x=>[.int .i64 x]),.fn g cs] (.int .i64 (a8 p xs)) []:=by
 refine aj hC (nf:=N35) rfl rfl ?_
 simp [N35]
 refine az Nat (fun i=>[(0,slx b (xs.map fun x=>[.int .i64 x])),(1,.fn g cs),(7,.int .i64 xs.length),(8,.int .i64 i)]) (fun i=>i <= xs.length /\ ∀ (j : Nat) (h : j < xs.length),j < i -> p xs[j]=false) (fun i=>xs.length - i) 0 (by simp) (by simp) ?_
 rintro i ⟨hi,hj⟩
 simp
 refine ac (fun h=>?_) (fun h=>?_) <;> simp [h] <;> simp at h
 ·have hw : IntKind.wrap .i64 ((i : Int) + 1)=((i + 1 : Nat) : Int):=wrap_i64 (by omega) (by omega)
  have hc:=hp _ (x0h h)
  simp [h,List.getElem_map] at hc ⊢
  refine aa hc (.inl rfl) ?_
  simp
  refine ac (fun h1=>?_) (fun h1=>?_) <;> simp [h1,hw]
  ·rw [cK hj h h1]
  ·refine ⟨i + 1,⟨by omega,fun j hl hjj=>?_⟩,by omega,rfl⟩
   rcases x0y.1 hjj with h2 | rfl
   ·exact hj j hl h2
   ·exact h1
 ·rw [cW (fun j hl=>hj j hl (by omega))]
theorem ql {b : Bool} {xs : List Int} {g : Nat} {cs : List D} (p : Int -> Bool) (hs : xs.length < 2 ^ 62) (hp : ∀ x ∈ xs,C g (.int .i64 x::cs) (.bool (p x)) []) : C 11 [slx b (xs.map fun x=>[.int .i64 x]),.fn g cs] (.bool (xs.any p)) []:=by
 refine aj hC (nf:=N11) rfl rfl ?_
 simp [N11]
 refine aa (wP hC p hs hp) (.inl rfl) ?_
 simp [ev]
theorem qo {b : Bool} {xs : List Sec} {g : Nat} {cs : List D} (p : Sec -> Bool) (hs : xs.length < 2 ^ 62) (hp : ∀ x ∈ xs,C g (.agg (aY x)::cs) (.bool (p x)) []) : C 52 [slx b (xs.map fun x=>aY x),.fn g cs] (.int .i64 (a8 p xs)) []:=by
 refine aj hC (nf:=N52) rfl rfl ?_
 simp [N52]
 refine az Nat (fun i=>[(0,slx b (xs.map fun x=>aY x)),(1,.fn g cs),(7,.int .i64 xs.length),(8,.int .i64 i)]) (fun i=>i <= xs.length /\ ∀ (j : Nat) (h : j < xs.length),j < i -> p xs[j]=false) (fun i=>xs.length - i) 0 (by simp) (by simp) ?_
 rintro i ⟨hi,hj⟩
 simp
 refine ac (fun h=>?_) (fun h=>?_) <;> simp [h] <;> simp at h
 ·have hw : IntKind.wrap .i64 ((i : Int) + 1)=((i + 1 : Nat) : Int):=wrap_i64 (by omega) (by omega)
  have hc:=hp _ (x0h h)
  simp [h,aY] at hc ⊢
  refine aa hc (.inl rfl) ?_
  simp
  refine ac (fun h1=>?_) (fun h1=>?_) <;> simp [h1,hw]
  ·rw [cK hj h h1]
  ·refine ⟨i + 1,⟨by omega,fun j hl hjj=>?_⟩,by omega,rfl⟩
   rcases x0y.1 hjj with h2 | rfl
   ·exact hj j hl h2
   ·exact h1
 ·rw [cW (fun j hl=>hj j hl (by omega))]
theorem wM {b : Bool} {xs : List Sec} {g : Nat} {cs : List D} (p : Sec -> Bool) (hs : xs.length < 2 ^ 62) (hp : ∀ x ∈ xs,C g (.agg (aY x)::cs) (.bool (p x)) []) : C 45 [slx b (xs.map fun x=>aY x),.fn g cs] (.bool (xs.any p)) []:=by
 refine aj hC (nf:=N45) rfl rfl ?_
 simp [N45]
 refine aa (qo hC p hs hp) (.inl rfl) ?_
 simp [ev]
end Go.Gv

namespace Go.Gv
def qM (t : List (Int × Int)) (i : Nat) : Bool:=f9 t[i]!.1 && f9 t[i]!.2 && (i == 0 || (t[i - 1]!.1 < t[i]!.1 && t[i - 1]!.2 <= t[i]!.2))
def ay (t : List (Int × Int)) : Bool:=1 <= t.length && t.length <= 100 && (List.range t.length).all (qM t)
variable {C : CC} (hC : al prog C)
include hC
theorem dJ (b : Bool) (t : List (Int × Int)) : C 72 [slx b (t.map knD)] (.bool (ay t)) []:=by
 refine aj hC (nf:=N72) rfl rfl ?_
 simp [N72]
 refine ac (fun h=>?_) (fun h=>?_) <;> simp at h
 ·simp [ay,show t.length=0 by omega]
 simp [h]
 refine ac (fun h2=>?_) (fun h2=>?_) <;> simp at h2
 ·simp [ay,h,h2]
  omega
 simp
 refine az Nat (fun i=>[(0,slx b (t.map knD)),(13,slx b (t.map knD)),(14,.int .i64 t.length),(15,.int .i64 i)]) (fun i=>i <= t.length /\ ∀ j < i,qM t j=true) (fun i=>t.length - i) 0 (by simp) (by simp) ?_
 rintro i ⟨hi,hj⟩
 simp
 refine ac (fun h3=>?_) (fun h3=>?_) <;> simp at h3
 ·have bad : qM t i=false -> ay t=false:=fun hb=>by
   simp only [ay,x1F,List.all_eq_false]
   exact .inr ⟨i,by simpa using h3,by simp [hb]⟩
  have e1 : t[i]! = t[i]:=x0g t i h3
  have e2 : t[i - 1]! = t[i - 1]:=x0g t (i - 1) (by omega)
  simp only [qM,e1,e2] at bad
  have hw1 : IntKind.wrap .i64 ((i : Int) + 1)=((i + 1 : Nat) : Int):=wrap_i64 (by omega) (by omega)
  have next : qM t i=true -> ∃ s' : Nat,(s' <= t.length /\ ∀ j < s',qM t j=true) /\ t.length - s' < t.length - i /\ s'=i + 1:=fun ho =>
   ⟨i + 1,⟨by omega,fun j hjj=>by
    rcases x0y.1 hjj with h | rfl
    ·exact hj j h
    ·exact ho⟩,by omega,rfl⟩
  simp only [qM,e1,e2] at next
  simp [h3,knD]
  refine aa (wC hC _) (.inl rfl) ?_
  cases f1 : f9 t[i].1
  ·simp
   exact ⟨ar (by decide +kernel),bad (by simp [f1])⟩
  simp
  refine aa (wC hC _) (.inl rfl) ?_
  cases f2 : f9 t[i].2
  ·simp
   exact ⟨ar (by decide +kernel),bad (by simp [f2])⟩
  simp
  refine ac (fun h4=>?_) (fun h4=>?_) <;> simp at h4
  ·have hw : IntKind.wrap .i64 ((i : Int) - 1)=((i - 1 : Nat) : Int):=wrap_i64 (by omega) (by omega)
   have h5 : i - 1 < t.length:=by omega
   simp [h4,hw,h5,knD]
   refine ac (fun h6=>?_) (fun h6=>?_) <;> simp [h6,hw,h5,knD] <;> simp at h6
   ·refine ⟨ar (by decide +kernel),bad ?_⟩
    simp [f1,f2]
    omega
   ·refine ⟨ar (by decide +kernel),ac (fun h7=>?_) (fun h7=>?_)⟩ <;> simp [h7,hw1] <;> simp at h7
    ·refine bad ?_
     simp [f1,f2]
     omega
    ·obtain ⟨s',g1,g2,rfl⟩:=next (by simp [f1,f2,h6,h7])
     exact ⟨_,g1,g2,rfl⟩
  ·have hi0 : i=0:=by omega
   subst hi0
   simp at hw1
   simp [hw1]
   refine ⟨ar (by decide +kernel),?_⟩
   obtain ⟨s',g1,g2,rfl⟩:=next (by simp [f1,f2])
   exact ⟨_,g1,g2,rfl⟩
 ·have : i=t.length:=by omega
  subst this
  simp [ay,h,h2]
  exact ⟨⟨by omega,by omega⟩,hj⟩
end Go.Gv

namespace Go.Gv
structure Lnk where
 name : List UInt8
 src : List UInt8
 dst : List UInt8
 kind : Int
 len : Int
 up : Int
 down : Int
 sect : List UInt8
 width : Int
 height : Int
 curveN : Bool
 curve : List (Int × Int)
 deriving Inhabited
def aF (l : Lnk) : List D:=[.str l.name,.str l.src,.str l.dst,.int .i64 l.kind,.int .i64 l.len,.int .i64 l.up,.int .i64 l.down,.str l.sect,.int .i64 l.width,.int .i64 l.height,slx l.curveN (l.curve.map knD)]
structure Nod where
 name : List UInt8
 kind : Int
 x : Int
 y : Int
 invert : Int
 ground : Int
 shapeN : Bool
 shape : List (Int × Int)
 prot : Bool
 reserve : Int
 deriving Inhabited
def aR (n : Nod) : List D:=[.str n.name,.int .i64 n.kind,.int .i64 n.x,.int .i64 n.y,.int .i64 n.invert,.int .i64 n.ground,slx n.shapeN (n.shape.map knD),.bool n.prot,.int .i64 n.reserve]
def bU (n : Int) : Bool:=decide (-4194304 <= n) && decide (n <= 4194304)
variable {C : CC} (hC : al prog C)
include hC
theorem cU (n a b : Int) : C 172 [.int .i64 n,.int .i64 a,.int .i64 b] (.bool (decide (a <= n) && decide (n <= b))) []:=by
 refine aj hC (nf:=N172) rfl rfl ?_
 simp [N172]
 refine ac (fun h=>?_) (fun h=>?_) <;> simp at h <;> simp [h] <;> omega
theorem wW (n : Int) : C 183 [.int .i64 n] (.bool (!bU n)) []:=by
 have e : (!bU n)=(decide (n < -4194304) || decide (4194304 < n)):=by
  rw [bU,x0x]
  simp only [x0q,x1F,x0E,x0K,x0c]
  omega
 rw [e]
 refine aj hC (nf:=N183) rfl rfl ?_
 simp [N183]
 refine ac (fun h=>?_) (fun h=>?_) <;> simp at h <;> simp [h]
 intro _;omega
theorem pF (xs : List Int) (hl : xs.length < 2 ^ 62) : C 173 [.sl (xs.map fun n=>[.int .i64 n])] (.bool (xs.all bU)) []:=by
 refine aj hC (nf:=N173) rfl rfl ?_
 simp [N173]
 have h:=ql hC (b:=false) (xs:=xs) (g:=183) (cs:=[]) (fun n=>!bU n) hl (fun n _=>wW hC n)
 rw [dz] at h
 refine aa h (.inl rfl) ?_
 simp
 rw [x0x];simp
end Go.Gv

namespace Go.Gv
def bq (nm : List UInt8) (n : Nod) : Bool:=n.name == nm
def ni (nm : List UInt8) (l : Lnk) : Bool:=l.name == nm
variable {C : CC} (hC : al prog C)
include hC
theorem qn {b : Bool} {xs : List Nod} {g : Nat} {cs : List D} (p : Nod -> Bool) (hs : xs.length < 2 ^ 62) (hp : ∀ x ∈ xs,C g (.agg (aR x)::cs) (.bool (p x)) []) : C 175 [slx b (xs.map fun x=>aR x),.fn g cs] (.int .i64 (a8 p xs)) []:=by
 refine aj hC (nf:=N175) rfl rfl ?_
 simp [N175]
 refine az Nat (fun i=>[(0,slx b (xs.map fun x=>aR x)),(1,.fn g cs),(7,.int .i64 xs.length),(8,.int .i64 i)]) (fun i=>i <= xs.length /\ ∀ (j : Nat) (h : j < xs.length),j < i -> p xs[j]=false) (fun i=>xs.length - i) 0 (by simp) (by simp) ?_
 rintro i ⟨hi,hj⟩
 simp
 refine ac (fun h=>?_) (fun h=>?_) <;> simp [h] <;> simp at h
 ·have hw : IntKind.wrap .i64 ((i : Int) + 1)=((i + 1 : Nat) : Int):=wrap_i64 (by omega) (by omega)
  have hc:=hp _ (x0h h)
  simp [h,aR] at hc ⊢
  refine aa hc (.inl rfl) ?_
  simp
  refine ac (fun h1=>?_) (fun h1=>?_) <;> simp [h1,hw]
  ·rw [cK hj h h1]
  ·refine ⟨i + 1,⟨by omega,fun j hl hjj=>?_⟩,by omega,rfl⟩
   rcases x0y.1 hjj with h2 | rfl
   ·exact hj j hl h2
   ·exact h1
 ·rw [cW (fun j hl=>hj j hl (by omega))]
theorem ne {b : Bool} {xs : List Lnk} {g : Nat} {cs : List D} (p : Lnk -> Bool) (hs : xs.length < 2 ^ 62) (hp : ∀ x ∈ xs,C g (.agg (aF x)::cs) (.bool (p x)) []) : C 181 [slx b (xs.map fun x=>aF x),.fn g cs] (.int .i64 (a8 p xs)) []:=by
 refine aj hC (nf:=N181) rfl rfl ?_
 simp [N181]
 refine az Nat (fun i=>[(0,slx b (xs.map fun x=>aF x)),(1,.fn g cs),(7,.int .i64 xs.length),(8,.int .i64 i)]) (fun i=>i <= xs.length /\ ∀ (j : Nat) (h : j < xs.length),j < i -> p xs[j]=false) (fun i=>xs.length - i) 0 (by simp) (by simp) ?_
 rintro i ⟨hi,hj⟩
 simp
 refine ac (fun h=>?_) (fun h=>?_) <;> simp [h] <;> simp at h
 ·have hw : IntKind.wrap .i64 ((i : Int) + 1)=((i + 1 : Nat) : Int):=wrap_i64 (by omega) (by omega)
  have hc:=hp _ (x0h h)
  simp [h,aF] at hc ⊢
  refine aa hc (.inl rfl) ?_
  simp
  refine ac (fun h1=>?_) (fun h1=>?_) <;> simp [h1,hw]
  ·rw [cK hj h h1]
  ·refine ⟨i + 1,⟨by omega,fun j hl hjj=>?_⟩,by omega,rfl⟩
   rcases x0y.1 hjj with h2 | rfl
   ·exact hj j hl h2
   ·exact h1
 ·rw [cW (fun j hl=>hj j hl (by omega))]
theorem zG {b : Bool} {xs : List (Int × Int)} {g : Nat} {cs : List D} (p : (Int × Int) -> Bool) (hs : xs.length < 2 ^ 62) (hp : ∀ x ∈ xs,C g (.agg (knD x)::cs) (.bool (p x)) []) : C 185 [slx b (xs.map fun x=>knD x),.fn g cs] (.int .i64 (a8 p xs)) []:=by
 refine aj hC (nf:=N185) rfl rfl ?_
 simp [N185]
 refine az Nat (fun i=>[(0,slx b (xs.map fun x=>knD x)),(1,.fn g cs),(7,.int .i64 xs.length),(8,.int .i64 i)]) (fun i=>i <= xs.length /\ ∀ (j : Nat) (h : j < xs.length),j < i -> p xs[j]=false) (fun i=>xs.length - i) 0 (by simp) (by simp) ?_
 rintro i ⟨hi,hj⟩
 simp
 refine ac (fun h=>?_) (fun h=>?_) <;> simp [h] <;> simp at h
 ·have hw : IntKind.wrap .i64 ((i : Int) + 1)=((i + 1 : Nat) : Int):=wrap_i64 (by omega) (by omega)
  have hc:=hp _ (x0h h)
  simp [h,knD] at hc ⊢
  refine aa hc (.inl rfl) ?_
  simp
  refine ac (fun h1=>?_) (fun h1=>?_) <;> simp [h1,hw]
  ·rw [cK hj h h1]
  ·refine ⟨i + 1,⟨by omega,fun j hl hjj=>?_⟩,by omega,rfl⟩
   rcases x0y.1 hjj with h2 | rfl
   ·exact hj j hl h2
   ·exact h1
 ·rw [cW (fun j hl=>hj j hl (by omega))]
theorem zE {b : Bool} {xs : List (Int × Int)} {g : Nat} {cs : List D} (p : (Int × Int) -> Bool) (hs : xs.length < 2 ^ 62) (hp : ∀ x ∈ xs,C g (.agg (knD x)::cs) (.bool (p x)) []) : C 179 [slx b (xs.map fun x=>knD x),.fn g cs] (.bool (xs.any p)) []:=by
 refine aj hC (nf:=N179) rfl rfl ?_
 simp [N179]
 refine aa (zG hC p hs hp) (.inl rfl) ?_
 simp [ev]
theorem gR (b1 b2 : Bool) (ns : List Nod) (ls : List Lnk) (nm : List UInt8) (hn : ns.length < 2 ^ 62) : C 169 [.agg [slx b1 (ns.map aR),slx b2 (ls.map aF)],.str nm] (.int .i64 (a8 (bq nm) ns)) []:=by
 have h1 : ∀ x ∈ ns,C 176 (.agg (aR x)::[.ptr [.str nm]]) (.bool (bq nm x)) []:=fun x _=>by
  refine aj hC (nf:=N176) rfl rfl ?_
  simp [N176,aR,bq]
  rw [x0x];simp
 refine aj hC (nf:=N169) rfl rfl ?_
 simp [N169]
 refine aa (qn hC (b:=b1) _ hn h1) (.inl rfl) ?_
 simp
theorem C9 (b1 b2 : Bool) (ns : List Nod) (ls : List Lnk) (nm : List UInt8) (hn : ls.length < 2 ^ 62) : C 171 [.agg [slx b1 (ns.map aR),slx b2 (ls.map aF)],.str nm] (.int .i64 (a8 (ni nm) ls)) []:=by
 have h1 : ∀ x ∈ ls,C 182 (.agg (aF x)::[.ptr [.str nm]]) (.bool (ni nm x)) []:=fun x _=>by
  refine aj hC (nf:=N182) rfl rfl ?_
  simp [N182,aF,ni]
  rw [x0x];simp
 refine aj hC (nf:=N171) rfl rfl ?_
 simp [N171]
 refine aa (ne hC (b:=b2) _ hn h1) (.inl rfl) ?_
 simp
theorem CO (b b' : Bool) (xs ys : List (Int × Int)) (hx : xs.length < 2 ^ 62) (hy : ys.length < 2 ^ 62) : C 184 [slx b (xs.map knD),slx b' (ys.map knD)] (.bool (decide (xs=ys))) []:=by
 obtain ⟨r,hr⟩ : ∃ r,r=decide (xs=ys):=⟨_,rfl⟩
 rw [<- hr]
 refine aj hC (nf:=N184) rfl rfl ?_
 simp [N184]
 refine ac (fun h=>?_) (fun h=>?_) <;> simp at h <;> simp [h]
 ·rw [hr,decide_eq_false]
  intro e
  exact h (by rw [e])
 have h' : xs.length=ys.length:=by omega
 refine az Nat (fun i=>[(0,slx b (xs.map knD)),(1,slx b' (ys.map knD)),(12,.int .i64 xs.length),(13,.int .i64 i)])
  (fun i=>i <= xs.length /\ ∀ (k : Nat) (h1 : k < xs.length) (h2 : k < ys.length),k < i -> xs[k]=ys[k]) (fun i=>xs.length - i) 0 (by simp) (by simp [h']) ?_
 rintro i ⟨hi,hok⟩
 simp
 refine ac (fun h1=>?_) (fun h1=>?_) <;> simp at h1 <;> simp [h1]
 ·have hw : IntKind.wrap .i64 ((i : Int) + 1)=((i + 1 : Nat) : Int):=wrap_i64 (by omega) (by omega)
  have hy1 : i < ys.length:=by omega
  simp [h1,hy1,knD]
  refine ⟨ar (by decide +kernel),?_⟩
  by_cases h2 : xs[i]=ys[i]
  ·simp [h2,hw]
   refine ⟨i + 1,⟨by omega,fun k k1 k2 hk=>?_⟩,by omega,rfl⟩
   rcases x0y.1 hk with h5 | rfl
   ·exact hok k k1 k2 h5
   ·exact h2
  ·have h3 : ¬ (xs[i].1=ys[i].1 /\ xs[i].2=ys[i].2):=fun e=>h2 (Prod.ext e.1 e.2)
   refine ac (fun h4=>?_) (fun h4=>?_) <;> simp at h4 <;> simp [h4]
   ·rw [hr,decide_eq_false]
    intro e
    exact h2 (by simp [e])
   ·exact absurd h4 h3
 ·rw [hr,decide_eq_true]
  exact List.ext_getElem h' fun k k1 k2=>hok k k1 k2 (by omega)
end Go.Gv

namespace Go.Gv
theorem ce {t : List (Int × Int)} (h : ay t=true) : 1 <= t.length /\ t.length <= 100:=by
 simp only [ay,x0a,x0c] at h
 exact h.1
theorem iX {t : List (Int × Int)} (h : ay t=true) {i : Nat} (hi : i < t.length) : f9 t[i].1=true /\ f9 t[i].2=true /\ ∀ j,(hj : j + 1=i) -> t[j].1 < t[i].1 /\ t[j].2 <= t[i].2:=by
 simp only [ay,x0a,x0f,x1o] at h
 have:=h.2 i hi
 simp only [qM,x0g t i hi,x0a,x0K,x0o,x0c] at this
 refine ⟨this.1.1,this.1.2,fun j hj=>?_⟩
 subst hj
 have h2:=this.2
 rw [Nat.add_sub_cancel,x0g t j (by omega)] at h2
 rcases h2 with h2 | h2
 ·omega
 ·exact h2
theorem jn {t : List (Int × Int)} (h : ay t=true) : ∀ (j i : Nat) (hi : i < t.length) (hj : j < i),t[j].1 < t[i].1:=by
 intro j i
 induction i with
 | zero=>intro _ hj;omega
 | succ i ih =>
  intro hi hj
  have h1:=((iX h hi).2.2 i rfl).1
  by_cases e : j=i
  ·subst e;exact h1
  ·have:=ih (by omega) (by omega)
   omega
variable {C : CC} (hC : al prog C)
include hC
theorem ja (k : Int × Int) (x : Int) : C 97 [.agg (knD k),.int .i64 x] (.int .i64 (if k.1 < x then -1 else if x < k.1 then 1 else 0)) []:=by
 refine aj hC (nf:=N97) rfl rfl ?_
 simp [N97,knD]
 refine ac (fun c=>?_) (fun c=>?_)
 ·simp at c
  simp [c]
 ·simp at c
  have c1 : ¬ k.1 < x:=by omega
  simp [c1]
  refine ac (fun c2=>?_) (fun c2=>?_)
  ·simp at c2
   simp [c2,c]
  ·simp at c2
   have c3 : ¬ x < k.1:=by omega
   simp [c3,c]
theorem xD (b : Bool) (t : List (Int × Int)) (x : Int) (h : ay t=true) (n : Nat) (hn : n + 1=t.length) (hx : t[n].1=x) : C 96 [slx b (t.map knD),.int .i64 x,.fn 97 []] (.tup [.int .i64 n,.bool true]) []:=by
 obtain ⟨l1,l2⟩:=ce h
 refine aj hC (nf:=N96) rfl rfl ?_
 simp [N96]
 refine az (Nat × Nat) (fun s=>[(0,slx b (t.map knD)),(1,.int .i64 x),(2,.fn 97 []),(8,.int .i64 t.length),(9,.int .i64 s.1),(10,.int .i64 s.2)]) (fun s=>s.1 <= n /\ n <= s.2 /\ s.2 <= n + 1) (fun s=>s.2 - s.1) (0,t.length) (by simp;omega) (by simp) ?_
 rintro ⟨i,j⟩ ⟨h1,h2,h3⟩
 simp only at h1 h2 h3
 simp
 refine ac (fun c=>?_) (fun c=>?_) <;> simp [c] <;> simp at c
 ·obtain ⟨m,hm⟩ : ∃ m,m=(i + j) / 2:=⟨_,rfl⟩
  have e1 : IntKind.wrap .i64 ((i : Int) + (j : Int))=((i + j : Nat) : Int):=wrap_i64 (by omega) (by omega)
  obtain ⟨s,hs⟩ : ∃ s,s=i + j:=⟨_,rfl⟩
  rw [<- hs] at e1 hm
  have e2 : Int.fdiv (s : Int) (2 ^ min 1 IntKind.u64.bits)=(m : Int):=by rw [hm];exact nO s 1
  have e3 : IntKind.wrap .i64 (m : Int)=(m : Int):=wrap_i64 rfl (by omega)
  have e4 : IntKind.wrap .i64 ((m : Int) + 1)=((m + 1 : Nat) : Int):=wrap_i64 (by omega) (by omega)
  have hml : m < t.length:=by omega
  simp [e1,bX s (by omega),e2,e3,hml]
  have hc:=ja hC t[m] x
  simp [knD] at hc ⊢
  refine aa hc (.inl rfl) ?_
  by_cases hmn : m < n
  ·have:=jn h m n (by omega) hmn
   have hlt : t[m].1 < x:=by omega
   simp [hlt,e4]
   exact ⟨m + 1,j,⟨by omega,h2,h3⟩,by omega,by omega,by omega⟩
  ·have : m=n:=by omega
   subst this
   simp [hx]
   exact ⟨i,m,⟨by omega,by omega,by omega⟩,by omega,by omega,by omega⟩
 ·have : i=n:=by omega
  subst this
  have hil : i < t.length:=by omega
  simp [hil]
  have hc:=ja hC t[i] x
  simp [knD,hil] at hc ⊢
  refine aa hc (.inl rfl) ?_
  simp [hx]
theorem Ad (b : Bool) (t : List (Int × Int)) (x : Int) (h : ay t=true) (n : Nat) (hn : n + 1=t.length) (hx : t[n].1=x) : C 90 [slx b (t.map knD),.int .i64 x] (.tup [.int .i64 t[n].2,.int .i64 0,.int .i64 1]) []:=by
 refine aj hC (nf:=N90) rfl rfl ?_
 have hnl : n < t.length:=by omega
 simp [N90]
 refine aa (xD hC b t x h n hn hx) (.inl rfl) ?_
 simp [knD,hnl]
theorem vG (b : Bool) (t : List (Int × Int)) (x : Int) (h : ay t=true) (n : Nat) (hn : n + 1=t.length) (hx : t[n].1=x) : C 73 [slx b (t.map knD),.int .i64 x] (.tup [.int .i64 t[n].2,.int .i64 0]) []:=by
 refine aj hC (nf:=N73) rfl rfl ?_
 simp [N73]
 refine aa (dJ hC b t) (.inl rfl) ?_
 simp [h]
 refine aa (Ad hC b t x h n hn hx) (.inl rfl) ?_
 simp
end Go.Gv

namespace Go.Gv
def dP (t : List (Int × Int)) : Int × Int:=t[t.length - 1]!
def cy (t : List (Int × Int)) (hgt most : Int) : Bool:=ay t && (t[0]!.1 == 0 && t[0]!.2 == 0) && (dP t).1 == hgt && (dP t).2 <= most
def ap (s : Sec) : Bool:=ct s.name && 1 <= s.height && s.height <= 32768 && 0 <= s.price && s.price <= 1073741824 && cy s.area s.height 1073741824 && cy s.conv s.height 1099511627776
def bV (n l : Int) : Bool:=0 <= n && n <= 4194304 && 1 <= l && l <= 16777216
def mV (s : Sec) (fall len : Int) : Nat:=eP ((dP s.conv).2.toNat * (dP s.conv).2.toNat * fall.toNat / len.toNat)
def fL (s : Sec) (fall len : Int) : Int × Int:=if ap s then (if bV fall len then (if 1099511627776 < mV s fall len then (0,5) else (mV s fall len,0)) else (0,2)) else (0,1)
theorem cX {t : List (Int × Int)} {n : Nat} (hn : n + 1=t.length) : dP t=t[n]:=by
 unfold dP
 rw [show t.length - 1=n by omega,x0g t n (by omega)]
variable {C : CC} (hC : al prog C)
include hC
theorem tg (b : Bool) (t : List (Int × Int)) (hgt most : Int) : C 59 [slx b (t.map knD),.int .i64 hgt,.int .i64 most] (.bool (cy t hgt most)) []:=by
 refine aj hC (nf:=N59) rfl rfl ?_
 simp [N59]
 refine aa (dJ hC b t) (.inl rfl) ?_
 cases hv : ay t
 ·simp [cy,hv]
 obtain ⟨l1,l2⟩:=ce hv
 obtain ⟨n,hn⟩ : ∃ n,n + 1=t.length:=⟨t.length - 1,by omega⟩
 have e1 : IntKind.wrap .i64 ((t.length : Int) - 1)=(n : Int):=wrap_i64 (by omega) (by omega)
 have hnl : n < t.length:=by omega
 have h0 : 0 < t.length:=by omega
 have e0 : t[0]! = t[0]:=x0g t 0 h0
 simp [e1,hnl,h0,knD]
 rw [cy,cX hn,e0,hv]
 have ez : (decide (t[0].fst=0) && decide (t[0].snd=0))=(t[0].1 == 0 && t[0].2 == 0):=by rw [x0x];simp
 rw [<- ez]
 cases hz : (decide (t[0].fst=0) && decide (t[0].snd=0))
 ·simp
 simp
 refine ac (fun c=>?_) (fun c=>?_)
 ·simp at c
  simp [c]
 ·simp at c
  simp [c]
theorem pU (s : Sec) : C 51 [.agg (aY s)] (.bool (ap s)) []:=by
 refine aj hC (nf:=N51) rfl rfl ?_
 simp [N51,aY]
 refine aa (gg hC s.name) (.inl rfl) ?_
 cases h1 : ct s.name
 ·simp [ap,h1]
 simp
 refine ac (fun c1=>?_) (fun c1=>?_) <;> simp [c1] <;> simp at c1
 ·refine ac (fun c2=>?_) (fun c2=>?_) <;> simp [c2] <;> simp at c2
  ·refine ac (fun c3=>?_) (fun c3=>?_) <;> simp [c3] <;> simp at c3
   ·refine ac (fun c4=>?_) (fun c4=>?_) <;> simp [c4] <;> simp at c4
    ·refine aa (tg hC _ _ _ _) (.inl rfl) ?_
     cases h5 : cy s.area s.height 1073741824
     ·simp [ap,h5]
     simp
     refine aa (tg hC _ _ _ _) (.inl rfl) ?_
     simp [ap,h1,c1,c2,c3,c4,h5]
    ·simp [ap];omega
   ·simp [ap];omega
  ·simp [ap];omega
 ·simp [ap];omega
end Go.Gv

namespace Go.Gv
def aT (n a b : Int) : Bool:=decide (a <= n) && decide (n <= b)
def jP (l : Lnk) : Lnk where
 name:=l.name
 src:=l.src
 dst:=l.dst
 kind:=l.kind
 len:=if l.kind=1 then l.len else 0
 up:=l.up
 down:=if l.kind=1 \/ l.kind=4 then l.down else 0
 sect:=if l.kind=1 then l.sect else []
 width:=if l.kind=2 \/ l.kind=3 then l.width else 0
 height:=if l.kind=3 then l.height else 0
 curveN:=if l.kind=4 then l.curveN else true
 curve:=if l.kind=4 then l.curve else []
def fY (a b : Lnk) : Bool:=decide (a.name=b.name) && decide (a.src=b.src) && decide (a.dst=b.dst) && decide (a.kind=b.kind) && decide (a.len=b.len) && decide (a.up=b.up) && decide (a.down=b.down) && decide (a.sect=b.sect) && decide (a.width=b.width) && decide (a.height=b.height) && decide (a.curve=b.curve)
def ny (k : Int × Int) : Bool:=aT k.1 0 4194304 && aT k.2 0 1099511627776
def jJ (l : Lnk) : Bool :=
 if l.kind=1 then aT l.len 1 16777216 && bU l.down && ct l.sect
 else if l.kind=2 then aT l.width 1 1048576
 else if l.kind=3 then aT l.width 1 32768 && aT l.height 1 32768
 else if l.kind=4 then bU l.down && decide (l.down < l.up) && ay l.curve && !(l.curve.any fun k=>!ny k)
 else false
def ca (l : Lnk) : Bool:=ct l.name && ct l.src && ct l.dst && !decide (l.src=l.dst) && bU l.up && fY l (jP l) && jJ l
variable {C : CC} (hC : al prog C)
include hC
theorem Ae (l : Lnk) : C 178 [.agg (aF l)] (.agg (aF (jP l))) []:=by
 have hs : slx l.curveN (l.curve.map knD)=.nils \/ slx l.curveN (l.curve.map knD)=.sl (l.curve.map knD):=by
  unfold slx;split
  ·exact .inl rfl
  ·exact .inr rfl
 have e0 : D.nils=slx true []:=rfl
 refine aj hC (nf:=N178) rfl rfl ?_
 simp [N178,aF,jP]
 refine ac (fun h=>?_) (fun h=>?_) <;> simp at h <;> simp [h]
 ·exact ⟨ar (by decide +kernel),e0⟩
 refine ac (fun h2=>?_) (fun h2=>?_) <;> simp at h2 <;> simp [h,h2]
 ·exact e0
 refine ac (fun h3=>?_) (fun h3=>?_) <;> simp at h3 <;> simp [h,h2,h3]
 ·exact ⟨ar (by decide +kernel),e0⟩
 refine ac (fun h4=>?_) (fun h4=>?_) <;> simp at h4 <;> simp [h,h2,h3,h4]
 ·rcases hs with hs | hs <;> rw [hs] <;> simp
  ·refine ⟨ar (by decide +kernel),?_⟩
   simp [h4,hs]
  ·refine ⟨ar (by decide +kernel),?_⟩
   simp [h4,hs]
 ·exact e0
set_option maxRecDepth 8000 in
set_option maxHeartbeats 2000000 in
theorem At (a b : Lnk) (ha : a.curve.length < 2 ^ 62) (hb : b.curve.length < 2 ^ 62) : C 177 [.agg (aF a),.agg (aF b)] (.bool (fY a b)) []:=by
 have he:=CO hC a.curveN b.curveN a.curve b.curve ha hb
 refine aj hC (nf:=N177) rfl rfl ?_
 simp [N177,aF]
 refine ac (fun h0=>?_) (fun h0=>?_) <;> simp at h0 <;> simp [h0]
 rotate_left
 ·simp [fY,h0]
 refine ac (fun h1=>?_) (fun h1=>?_) <;> simp at h1 <;> simp [h1]
 rotate_left
 ·simp [fY,h1]
 refine ac (fun h2=>?_) (fun h2=>?_) <;> simp at h2 <;> simp [h2]
 rotate_left
 ·simp [fY,h2]
 refine ac (fun h3=>?_) (fun h3=>?_) <;> simp at h3 <;> simp [h3]
 rotate_left
 ·simp [fY,h3]
 refine ac (fun h4=>?_) (fun h4=>?_) <;> simp at h4 <;> simp [h4]
 rotate_left
 ·simp [fY,h4]
 refine ac (fun h5=>?_) (fun h5=>?_) <;> simp at h5 <;> simp [h5]
 rotate_left
 ·simp [fY,h5]
 refine ac (fun h6=>?_) (fun h6=>?_) <;> simp at h6 <;> simp [h6]
 rotate_left
 ·simp [fY,h6]
 refine ac (fun h7=>?_) (fun h7=>?_) <;> simp at h7 <;> simp [h7]
 rotate_left
 ·simp [fY,h7]
 refine ac (fun h8=>?_) (fun h8=>?_) <;> simp at h8 <;> simp [h8]
 rotate_left
 ·simp [fY,h8]
 refine ac (fun h9=>?_) (fun h9=>?_) <;> simp at h9 <;> simp [h9]
 rotate_left
 ·simp [fY,h9]
 refine aa he (.inl rfl) ?_
 simp [fY,h0,h1,h2,h3,h4,h5,h6,h7,h8,h9]
theorem vc (k : Int × Int) : C 180 [.agg (knD k)] (.bool (!ny k)) []:=by
 refine aj hC (nf:=N180) rfl rfl ?_
 simp [N180,knD]
 refine aa (cU hC k.1 0 4194304) (.inl rfl) ?_
 have e1 : (decide (0 <= k.1) && decide (k.1 <= 4194304))=aT k.1 0 4194304:=rfl
 rw [e1]
 cases h : aT k.1 0 4194304
 ·simp [ny,h]
 simp
 refine aa (cU hC k.2 0 1099511627776) (.inl rfl) ?_
 have e2 : (decide (0 <= k.2) && decide (k.2 <= 1099511627776))=aT k.2 0 1099511627776:=rfl
 rw [e2]
 simp [ny,h]
theorem wQ (l : Lnk) (hc : l.curve.length < 2 ^ 62) : C 170 [.agg (aF l)] (.bool (ca l)) []:=by
 have hp : (jP l).curve.length < 2 ^ 62:=by
  simp only [jP];split
  ·exact hc
  ·simp
 have k1:=gg hC l.name
 have k2:=gg hC l.src
 have k3:=gg hC l.dst
 have k4:=pF hC [l.up] (by simp)
 have k5:=Ae hC l
 have k6:=At hC l (jP l) hc hp
 obtain ⟨q,hq⟩ : ∃ q,q=fY l (jP l):=⟨_,rfl⟩
 rw [<- hq] at k6
 simp only [aF] at k5 k6
 have kf : ∀ b,jJ l=b -> (b=false \/ (ct l.name=true /\ ct l.src=true /\ ct l.dst=true /\ ¬ l.src=l.dst /\ bU l.up=true /\ q=true)) -> ca l=b:=fun b h1 h2=>by
  rcases h2 with rfl | ⟨a1,a2,a3,a4,a5,a6⟩
  ·simp [ca,h1]
  ·simp [ca,h1,a1,a2,a3,a4,a5,<- hq,a6]
 refine aj hC (nf:=N170) rfl rfl ?_
 simp [N170,aF]
 refine aa k1 (.inl rfl) ?_
 cases h1 : ct l.name
 ·simp
  refine ⟨ar (by decide +kernel),?_⟩
  simp [ca,h1]
 simp
 refine aa k2 (.inl rfl) ?_
 cases h2 : ct l.src
 ·simp
  refine ⟨ar (by decide +kernel),?_⟩
  simp [ca,h2]
 simp
 refine aa k3 (.inl rfl) ?_
 cases h3 : ct l.dst
 ·simp
  refine ⟨ar (by decide +kernel),?_⟩
  simp [ca,h3]
 simp
 refine ac (fun h4=>?_) (fun h4=>?_) <;> simp at h4 <;> simp [h4]
 ·refine ⟨ar (by decide +kernel),?_⟩
  simp [ca,h4]
 refine aa k4 (.inl rfl) ?_
 cases h5 : bU l.up
 ·simp [h5]
  refine ⟨ar (by decide +kernel),?_⟩
  simp [ca,h5]
 simp [h5]
 refine aa k5 (.inr rfl) ?_
 simp
 refine aa k6 (.inl rfl) ?_
 cases h6 : q
 ·simp
  refine ⟨ar (by decide +kernel),?_⟩
  simp [ca,<- hq,h6]
 simp
 refine ⟨ar (by decide +kernel),?_⟩
 have hk : ca l=jJ l:=kf _ rfl (.inr ⟨h1,h2,h3,h4,h5,h6⟩)
 rw [hk]
 obtain ⟨r,hr⟩ : ∃ r,r=jJ l:=⟨_,rfl⟩
 rw [<- hr]
 unfold jJ at hr
 clear k1 k2 k3 k4 k5 k6 hk kf
 have lh : ∀ n a b : Int,(decide (a <= n) && decide (n <= b))=aT n a b:=fun _ _ _=>rfl
 have kd:=pF hC [l.down] (by simp)
 refine ac (fun h7=>?_) (fun h7=>?_) <;> simp at h7 <;> simp [h7]
 ·rw [if_pos h7] at hr
  refine aa (cU hC l.len 1 16777216) (.inl rfl) ?_
  rw [lh]
  cases a1 : aT l.len 1 16777216
  ·simp [hr,a1]
  simp
  refine aa kd (.inl rfl) ?_
  cases a2 : bU l.down
  ·simp [a2,hr]
  simp [a2]
  refine aa (gg hC l.sect) (.inl rfl) ?_
  simp [hr,a1,a2]
 rw [if_neg h7] at hr
 refine ac (fun h8=>?_) (fun h8=>?_) <;> simp at h8 <;> simp [h8]
 ·rw [if_pos h8] at hr
  refine aa (cU hC l.width 1 1048576) (.inl rfl) ?_
  rw [lh]
  simp [hr]
 rw [if_neg h8] at hr
 refine ac (fun h9=>?_) (fun h9=>?_) <;> simp at h9 <;> simp [h9]
 ·rw [if_pos h9] at hr
  refine aa (cU hC l.width 1 32768) (.inl rfl) ?_
  rw [lh]
  cases a1 : aT l.width 1 32768
  ·simp [hr,a1]
  simp
  refine aa (cU hC l.height 1 32768) (.inl rfl) ?_
  rw [lh]
  simp [hr,a1]
 rw [if_neg h9] at hr
 refine ac (fun h10=>?_) (fun h10=>?_) <;> simp at h10 <;> simp [h10]
 ·rw [if_pos h10] at hr
  refine aa kd (.inl rfl) ?_
  cases a2 : bU l.down
  ·simp [a2,hr]
  simp [a2]
  refine ac (fun h11=>?_) (fun h11=>?_) <;> simp at h11 <;> simp [h11]
  ·refine aa (dJ hC l.curveN l.curve) (.inl rfl) ?_
   cases a3 : ay l.curve
   ·simp [hr,a3]
   simp
   refine aa (zE hC (b:=l.curveN) (xs:=l.curve) (g:=180) (cs:=[]) (fun k=>!ny k) hc (fun k _=>vc hC k)) (.inl rfl) ?_
   simp [hr,a2,h11,a3]
  ·have : ¬ l.down < l.up:=by omega
   simp [hr,this]
 ·rw [if_neg h10] at hr
  simp [hr]
end Go.Gv

namespace Go.Gv
def mH (n : Nod) : Bool:=!(decide (n.ground <= n.invert)) && cy n.shape (n.ground - n.invert) 1125899906842624 && !(decide (n.kind=1) && n.prot) && (if n.prot then aT n.reserve 0 (dP n.shape).2 else decide (n.reserve=0))
def xf (n : Nod) : Bool:=decide (n.invert <= n.ground) && decide (n.shape.length=0) && !n.prot && decide (n.reserve=0)
def iG (n : Nod) : Bool:=ct n.name && aT n.x (-16777216) 16777216 && aT n.y (-16777216) 16777216 && bU n.invert && bU n.ground && (if n.kind=1 \/ n.kind=2 then mH n else if n.kind=3 then xf n else false)
variable {C : CC} (hC : al prog C)
include hC
theorem rg (b : Bool) (t : List (Int × Int)) (hgt : Int) : C 174 [slx b (t.map knD),.int .i64 hgt] (.bool (cy t hgt 1125899906842624)) []:=by
 refine aj hC (nf:=N174) rfl rfl ?_
 simp [N174]
 refine aa (dJ hC b t) (.inl rfl) ?_
 cases hv : ay t
 ·simp [cy,hv]
 obtain ⟨l1,l2⟩:=ce hv
 obtain ⟨n,hn⟩ : ∃ n,n + 1=t.length:=⟨t.length - 1,by omega⟩
 have e1 : IntKind.wrap .i64 ((t.length : Int) - 1)=(n : Int):=wrap_i64 (by omega) (by omega)
 have hnl : n < t.length:=by omega
 have h0 : 0 < t.length:=by omega
 have e0 : t[0]! = t[0]:=x0g t 0 h0
 simp [e1,hnl,h0,knD]
 rw [cy,cX hn,e0,hv]
 have ez : (decide (t[0].fst=0) && decide (t[0].snd=0))=(t[0].1 == 0 && t[0].2 == 0):=by rw [x0x];simp
 rw [<- ez]
 cases hz : (decide (t[0].fst=0) && decide (t[0].snd=0))
 ·simp
 simp
 refine ac (fun c=>?_) (fun c=>?_)
 ·simp at c
  simp [c]
 ·simp at c
  simp [c]
theorem z7 (n : Nod) : C 168 [.agg (aR n)] (.bool (iG n)) []:=by
 have lh : ∀ n a b : Int,(decide (a <= n) && decide (n <= b))=aT n a b:=fun _ _ _=>rfl
 have k1:=gg hC n.name
 have k2:=cU hC n.x (-16777216) 16777216
 have k3:=cU hC n.y (-16777216) 16777216
 have k4:=pF hC [n.invert,n.ground] (by simp)
 rw [lh] at k2 k3
 obtain ⟨q,hq⟩ : ∃ q,q=iG n:=⟨_,rfl⟩
 rw [<- hq]
 unfold iG at hq
 refine aj hC (nf:=N168) rfl rfl ?_
 simp [N168,aR]
 refine aa k1 (.inl rfl) ?_
 cases h1 : ct n.name
 ·simp [hq,h1]
 simp
 refine aa k2 (.inl rfl) ?_
 cases h2 : aT n.x (-16777216) 16777216
 ·simp [hq,h2]
 simp
 refine aa k3 (.inl rfl) ?_
 cases h3 : aT n.y (-16777216) 16777216
 ·simp [hq,h3]
 simp
 refine aa k4 (.inl rfl) ?_
 cases h4 : bU n.invert
 ·simp [hq,h4]
 cases h5 : bU n.ground
 ·simp [hq,h4,h5]
 simp [h4,h5]
 rw [h1,h2,h3,h4,h5] at hq
 simp only [Bool.true_and] at hq
 have b1 : -4194304 <= n.invert /\ n.invert <= 4194304:=by simpa [bU] using h4
 have b2 : -4194304 <= n.ground /\ n.ground <= 4194304:=by simpa [bU] using h5
 have e1 : IntKind.wrap .i64 (n.ground - n.invert)=n.ground - n.invert:=wrap_i64 rfl (by omega)
 refine ac (fun hk1=>?_) (fun hk1=>?_) <;> simp at hk1 <;> simp [hk1]
 ·rw [if_pos (by omega),mH] at hq
  refine ac (fun c1=>?_) (fun c1=>?_) <;> simp at c1 <;> simp [c1]
  ·simp [hq,c1]
  have c1' : ¬ n.ground <= n.invert:=by omega
  simp [e1]
  refine aa (rg hC n.shapeN n.shape (n.ground - n.invert)) (.inl rfl) ?_
  cases c2 : cy n.shape (n.ground - n.invert) 1125899906842624
  ·simp [hq,c2]
  simp [hk1]
  cases c3 : n.prot
  ·simp [hq,c1',c2,c3]
  ·simp [hq,c3,hk1]
 refine ac (fun hk2=>?_) (fun hk2=>?_) <;> simp at hk2 <;> simp [hk2,hk1]
 ·rw [if_pos (by omega),mH] at hq
  refine ac (fun c1=>?_) (fun c1=>?_) <;> simp at c1 <;> simp [c1]
  ·simp [hq,c1]
  have c1' : ¬ n.ground <= n.invert:=by omega
  simp [e1]
  refine aa (rg hC n.shapeN n.shape (n.ground - n.invert)) (.inl rfl) ?_
  cases c2 : cy n.shape (n.ground - n.invert) 1125899906842624
  ·simp [hq,c2]
  simp [hk2]
  cases c3 : n.prot
  ·simp [hq,c1',c2,c3]
  have hv : ay n.shape=true:=by
   simp only [cy,x0a] at c2
   exact c2.1.1.1
  obtain ⟨l1,l2⟩:=ce hv
  obtain ⟨m,hm⟩ : ∃ m,m + 1=n.shape.length:=⟨n.shape.length - 1,by omega⟩
  have e2 : IntKind.wrap .i64 ((n.shape.length : Int) - 1)=(m : Int):=wrap_i64 (by omega) (by omega)
  have hml : m < n.shape.length:=by omega
  simp [e2,hml,knD]
  have kb:=cU hC n.reserve 0 n.shape[m].2
  rw [lh] at kb
  refine aa kb (.inl rfl) ?_
  simp
  refine ⟨ar (by decide +kernel),?_⟩
  simp [hq,c1',c2,c3,hk2,cX hm]
 rw [if_neg (by omega)] at hq
 refine ac (fun hk3=>?_) (fun hk3=>?_) <;> simp at hk3 <;> simp [hk3]
 ·rw [if_pos hk3,xf] at hq
  refine ac (fun c1=>?_) (fun c1=>?_) <;> simp at c1 <;> simp [c1]
  ·refine ac (fun c2=>?_) (fun c2=>?_) <;> simp at c2 <;> simp [c2]
   ·cases c3 : n.prot
    ·simp [hq,c1,c2,c3]
    ·simp [hq,c3]
   ·simp [hq,c2]
  ·have : ¬ n.invert <= n.ground:=by omega
   simp [hq,this]
 ·rw [if_neg hk3] at hq
  simp [hq]
end Go.Gv

namespace Go.Gv
def kJ (ns : List Nod) (i : Nat) : Bool:=iG ns[i]! && decide (a8 (bq ns[i]!.name) ns=(i : Int))
def jG (ns : List Nod) (nm : List UInt8) : Bool:=decide (0 <= a8 (bq nm) ns) && !decide (ns[(a8 (bq nm) ns).toNat]!.kind=3)
def fB (ns : List Nod) (ls : List Lnk) (i : Nat) : Bool:=ca ls[i]! && decide (a8 (ni ls[i]!.name) ls=(i : Int)) && jG ns ls[i]!.src && decide (0 <= a8 (bq ls[i]!.dst) ns)
def bO (ns : List Nod) (ls : List Lnk) : Bool:=decide (ns.length <= 300) && decide (ls.length <= 400) && (List.range ns.length).all (kJ ns) && (List.range ls.length).all (fB ns ls)
theorem jf {α : Type} {p : α -> Bool} {xs : List α} (h : 0 <= a8 p xs) : (a8 p xs).toNat < xs.length:=by
 unfold a8 at h ⊢
 cases e : xs.findIdx? p with
 | none=>rw [e] at h;simp at h
 | some i =>
  simp
  obtain ⟨h1,_⟩:=x0L.1 e
  exact h1
variable {C : CC} (hC : al prog C)
include hC
theorem kE (b1 b2 : Bool) (ns : List Nod) (ls : List Lnk) (hcv : ∀ l ∈ ls,l.curve.length < 2 ^ 62) : C 164 [.agg [slx b1 (ns.map aR),slx b2 (ls.map aF)]] (.bool (bO ns ls)) []:=by
 obtain ⟨r,hr⟩ : ∃ r,r=bO ns ls:=⟨_,rfl⟩
 rw [<- hr]
 unfold bO at hr
 refine aj hC (nf:=N164) rfl rfl ?_
 simp [N164]
 refine ac (fun c=>?_) (fun c=>?_) <;> simp at c <;> simp [c]
 ·simp [hr,show ¬ ns.length <= 300 by omega]
 refine ac (fun c2=>?_) (fun c2=>?_) <;> simp at c2 <;> simp [c2]
 ·simp [hr,show ¬ ls.length <= 400 by omega]
 rw [decide_eq_true (show ns.length <= 300 by omega),decide_eq_true (show ls.length <= 400 by omega)] at hr
 simp only [Bool.true_and] at hr
 have badN : ∀ i,i < ns.length -> kJ ns i=false -> r=false:=fun i hi h=>by
  rw [hr,x1F]
  exact .inl (List.all_eq_false.2 ⟨i,by simpa using hi,by simp [h]⟩)
 have badL : ∀ i,i < ls.length -> fB ns ls i=false -> r=false:=fun i hi h=>by
  rw [hr,x1F]
  exact .inr (List.all_eq_false.2 ⟨i,by simpa using hi,by simp [h]⟩)
 refine az Nat (fun i=>[(1,.ptr [slx b1 (ns.map aR),slx b2 (ls.map aF)]),(19,slx b1 (ns.map aR)),(20,.int .i64 ns.length),(21,.int .i64 i)]) (fun i=>i <= ns.length /\ ∀ j < i,kJ ns j=true) (fun i=>ns.length - i) 0 (by simp) (by simp) ?_
 rintro i ⟨hi,hj⟩
 simp
 refine ac (fun h=>?_) (fun h=>?_) <;> simp at h <;> simp [h]
 ·have hw : IntKind.wrap .i64 ((i : Int) + 1)=((i + 1 : Nat) : Int):=wrap_i64 (by omega) (by omega)
  have bad:=badN i h
  have e1 : ns[i]! = ns[i]:=x0g ns i h
  simp only [kJ,e1] at bad
  have k1:=z7 hC ns[i]
  have k2:=gR hC b1 b2 ns ls ns[i].name (by omega)
  simp only [aR] at k1
  simp [aR,h]
  refine aa k1 (.inl rfl) ?_
  cases g1 : iG ns[i]
  ·simp
   exact bad (by simp [g1])
  simp
  refine aa k2 (.inl rfl) ?_
  simp
  refine ac (fun g2=>?_) (fun g2=>?_) <;> simp at g2 <;> simp [g2]
  ·exact bad (by simp [g2])
  ·simp [hw]
   refine ⟨i + 1,⟨by omega,fun k hk=>?_⟩,by omega,by simp⟩
   rcases x0y.1 hk with h5 | rfl
   ·exact hj k h5
   ·simp [kJ,e1,g1,g2]
 have hall : (List.range ns.length).all (kJ ns)=true:=by
  rw [x0f]
  intro k hk
  exact hj k (by simp at hk;omega)
 rw [hall,Bool.true_and] at hr
 clear badN hall hj
 refine az Nat (fun i=>[(1,.ptr [slx b1 (ns.map aR),slx b2 (ls.map aF)]),(39,slx b2 (ls.map aF)),(40,.int .i64 ls.length),(41,.int .i64 i)]) (fun i=>i <= ls.length /\ ∀ j < i,fB ns ls j=true) (fun i=>ls.length - i) 0 (by simp) (by simp) ?_
 clear h hi i
 rintro i ⟨hi,hj⟩
 simp
 refine ac (fun h=>?_) (fun h=>?_) <;> simp at h <;> simp [h]
 ·have hw : IntKind.wrap .i64 ((i : Int) + 1)=((i + 1 : Nat) : Int):=wrap_i64 (by omega) (by omega)
  have bad:=badL i h
  have e1 : ls[i]! = ls[i]:=x0g ls i h
  simp only [fB,e1] at bad
  have k1:=wQ hC ls[i] (hcv _ (x0h h))
  have k2:=C9 hC b1 b2 ns ls ls[i].name (by omega)
  have k3:=gR hC b1 b2 ns ls ls[i].src (by omega)
  have k4:=gR hC b1 b2 ns ls ls[i].dst (by omega)
  have next : fB ns ls i=true -> ∃ s' : Nat,(s' <= ls.length /\ ∀ j < s',fB ns ls j=true) /\ ls.length - s' < ls.length - i /\ (i : Int) + 1=s':=fun hl=>by
   refine ⟨i + 1,⟨by omega,fun k hk=>?_⟩,by omega,by simp⟩
   rcases x0y.1 hk with h5 | rfl
   ·exact hj k h5
   ·exact hl
  simp only [fB,e1] at next
  simp only [aF] at k1
  simp [aF,h]
  refine aa k1 (.inl rfl) ?_
  cases g1 : ca ls[i]
  ·simp
   exact bad (by simp [g1])
  simp
  refine aa k2 (.inl rfl) ?_
  simp
  refine ac (fun g2=>?_) (fun g2=>?_) <;> simp at g2 <;> simp [g2]
  ·exact bad (by simp [g2])
  refine aa k3 (.inl rfl) ?_
  simp
  refine ac (fun g3=>?_) (fun g3=>?_) <;> simp at g3 <;> simp [g3]
  ·exact bad (by simp [jG,show ¬ 0 <= a8 (bq ls[i].src) ns by omega])
  have g3' : ¬ a8 (bq ls[i].src) ns < 0:=by omega
  refine aa k4 (.inl rfl) ?_
  simp
  refine ac (fun g4=>?_) (fun g4=>?_) <;> simp at g4 <;> simp [g4]
  ·exact bad (by simp [show ¬ 0 <= a8 (bq ls[i].dst) ns by omega])
  have g4' : ¬ a8 (bq ls[i].dst) ns < 0:=by omega
  have hf:=jf g3
  obtain ⟨f,hfe⟩:=Int.eq_ofNat_of_zero_le g3
  rw [hfe] at hf ⊢
  simp at hf
  have e2 : ns[f]! = ns[f]:=x0g ns f hf
  have hfo : jG ns ls[i].src=!decide (ns[f].kind=3):=by
   simp [jG,hfe,e2]
  simp [hf,aR]
  refine ac (fun g5=>?_) (fun g5=>?_) <;> simp at g5 <;> simp [g5]
  ·exact bad (by simp [hfo,g5])
  ·simp [hw]
   exact next (by simp [hfo,g5,g1,g2,g4])
 ·have hall : (List.range ls.length).all (fB ns ls)=true:=by
   rw [x0f]
   intro k hk
   exact hj k (by simp at hk;omega)
  rw [hr,hall]
end Go.Gv

namespace Go.Gv
theorem fo {s : Sec} (h : ap s=true) : ay s.conv=true /\ (dP s.conv).1=s.height /\ 0 <= (dP s.conv).2 /\ (dP s.conv).2 <= 1099511627776:=by
 simp only [ap,cy,x0a,x0c,x0o] at h
 obtain ⟨_,⟨⟨hv,h0⟩,h1⟩,h2⟩:=h
 obtain ⟨l1,l2⟩:=ce hv
 have hp : ∀ i (hi : i < s.conv.length),0 <= s.conv[i].2:=by
  intro i
  induction i with
  | zero=>intro hi;have:=h0.2;rw [x0g s.conv 0 hi] at this;omega
  | succ i ih =>
   intro hi
   have h3:=((iX hv hi).2.2 i rfl).2
   have:=ih (by omega)
   omega
 obtain ⟨n,hn⟩ : ∃ n,n + 1=s.conv.length:=⟨s.conv.length - 1,by omega⟩
 refine ⟨hv,h1,?_,h2⟩
 rw [cX hn]
 exact hp n (by omega)
theorem rL {k f : Nat} (hk : k <= 1099511627776) (hf : f <= 4194304) : k * k * f <= 5070602400912917605986812821504:=by
 have h1:=x01 hk hk
 have h2:=x01 h1 hf
 exact h2
variable {C : CC} (hC : al prog C)
include hC
theorem uE (s : Sec) (fall len : Int) (hv : ap s=true) (hs : bV fall len=true) : C 61 [.agg (aY s),.int .i64 s.height,.int .i64 fall,.int .i64 len] (.tup [.int .i64 (mV s fall len),.int .i64 0]) []:=by
 obtain ⟨c1,c2,c3,c4⟩:=fo hv
 simp only [bV,x0a,x0c] at hs
 obtain ⟨l1,l2⟩:=ce c1
 obtain ⟨n,hn⟩ : ∃ n,n + 1=s.conv.length:=⟨s.conv.length - 1,by omega⟩
 rw [cX hn] at c2 c3 c4
 have hF:=vG hC s.convN s.conv s.height c1 n hn c2
 obtain ⟨k,hk⟩ : ∃ k : Nat,s.conv[n].2=k:=⟨s.conv[n].2.toNat,by omega⟩
 obtain ⟨f,rfl⟩ : ∃ f : Nat,fall=f:=⟨fall.toNat,by omega⟩
 obtain ⟨l,rfl⟩ : ∃ l : Nat,len=l:=⟨len.toNat,by omega⟩
 have hcap : mV s f l=eP (k * k * f / l):=by simp [mV,cX hn,hk]
 rw [hk] at hF
 rw [hcap]
 have hb:=rL (k:=k) (f:=f) (by omega) (by omega)
 have hb0 : k * k <= 1208925819614629174706176:=x01 (show k <= 1099511627776 by omega) (show k <= 1099511627776 by omega)
 have hb2:=Nat.div_le_self (k * k * f) l
 refine aj hC (nf:=N61) rfl rfl ?_
 simp [N61,aY]
 refine aa hF (.inl rfl) ?_
 simp
 refine aa (oX hC k k (by omega) (by omega)) (.inl rfl) ?_
 have v : ∀ x,isV (cj x)=true /\ (∀ f : Nat -> D,bF f (cj x)) /\ (∀ f : Nat -> D,dp f (cj x)=cj x) /\ ∀ ks,aP ks (cj x)=cj x:=fun x=>⟨rfl,fun _=>trivial,fun _=>rfl,fun _=>by simp [cj]⟩
 simp [v]
 refine aa (ub hC (k * k) f (by omega) (by omega) (by omega)) (.inl rfl) ?_
 simp [v]
 refine aa (xg hC (k * k * f) l (by omega) (by omega) (by omega)) (.inl rfl) ?_
 simp [v]
 refine aa (xr hC (k * k * f / l)) (.inl rfl) ?_
 simp
theorem Cg (s : Sec) (fall len : Int) : C 47 [.agg (aY s),.int .i64 fall,.int .i64 len] (.tup [.int .i64 (fL s fall len).1,.int .i64 (fL s fall len).2]) []:=by
 have cap : C 53 [.agg (aY s),.int .i64 s.height,.int .i64 fall,.int .i64 len] (.tup [.int .i64 (fL s fall len).1,.int .i64 (fL s fall len).2]) []:=by
  refine aj hC (nf:=N53) rfl rfl ?_
  simp [N53,aY]
  have hvc:=pU hC s
  rw [aY] at hvc
  refine aa hvc (.inl rfl) ?_
  cases hv : ap s
  ·simp [fL,hv]
  have hh : ¬ s.height < 0:=by
   simp only [ap,x0a,x0c] at hv
   omega
  simp [hh]
  refine aa (tS hC fall len) (.inl rfl) ?_
  have es : (decide (0 <= fall) && decide (fall <= 4194304) && decide (1 <= len) && decide (len <= 16777216))=bV fall len:=rfl
  rw [es]
  cases hs : bV fall len
  ·simp [fL,hv,hs]
  simp
  have hcc:=uE hC s fall len hv hs
  rw [aY] at hcc
  refine aa hcc (.inl rfl) ?_
  simp
  refine ac (fun c=>?_) (fun c=>?_) <;> simp [c] <;> simp at c
  ·have c' : 1099511627776 < mV s fall len:=by omega
   simp [fL,hv,hs,c']
  ·have c' : ¬ 1099511627776 < mV s fall len:=by omega
   simp [fL,hv,hs,c']
 refine aj hC (nf:=N47) rfl rfl ?_
 simp [N47,aY]
 rw [aY] at cap
 refine aa cap (.inl rfl) ?_
 simp
end Go.Gv

namespace Go.Gv
def bl (l : List Sec) : Bool:=decide (l.length <= 40) && l.all ap && decide ((l.map (·.name)).Nodup)
def gd (l : List Sec) : List D:=((l.map (·.name)).reverse).map D.str
theorem oO : ∀ (xs : List (List UInt8)) (n : Nat),n=xs.length -> ∀ s,(dH (xs.map D.str) (List.replicate n (.bool true)) (.str s)).getD (.bool false)=.bool (decide (s ∈ xs))
 | [],n,h,s=>by simp [dH]
 | x::xs,n,h,s=>by
  obtain ⟨m,rfl⟩ : ∃ m,n=m + 1:=⟨n - 1,by simp at h;omega⟩
  have ih:=oO xs m (by simpa using h) s
  simp only [x0G,List.replicate_succ,dH,eqD,qg,x0c]
  by_cases e : s=x
  ·subst e;simp
  ·rw [if_neg e,ih];simp [e]
variable {C : CC} (hC : al prog C)
include hC
theorem mW (b : Bool) (l : List Sec) : C 44 [slx b (l.map aY)] (.bool (bl l)) []:=by
 refine aj hC (nf:=N44) rfl rfl ?_
 simp [N44]
 refine ac (fun h=>?_) (fun h=>?_) <;> simp at h
 ·simp [bl];omega
 simp
 refine az Nat (fun i=>[(3,.mrf 10144),(10144,.mp 0 1 (gd (l.take i)) (List.replicate i (.bool true))),(10,slx b (l.map aY)),(11,.int .i64 l.length),(12,.int .i64 i)])
  (fun i=>i <= l.length /\ (∀ x ∈ l.take i,ap x=true) /\ ((l.map (·.name)).take i).Nodup) (fun i=>l.length - i) 0 (by simp) (by simp [gd]) ?_
 rintro i ⟨hi,hv,hn⟩
 simp
 refine ac (fun h3=>?_) (fun h3=>?_) <;> simp at h3
 ·have ht : l.take (i + 1)=l.take i++[l[i]]:=x0u h3
  have hg:=oO ((l.take i).map (·.name)).reverse i (by simp;omega) l[i].name
  rw [show ((l.take i).map (·.name)).reverse.map D.str=gd (l.take i) from rfl] at hg
  have hk : D.str l[i].name::gd (l.take i)=gd (l.take (i + 1)):=by
   rw [gd,gd,ht]
   simp only [x1b,x0G,x0X,List.reverse_append,List.reverse_cons,List.reverse_nil,List.nil_append,x1z]
  have hlen : (gd (l.take i)).length < maxLen:=by
   have : (gd (l.take i)).length <= 40:=by simp [gd];omega
   unfold maxLen;omega
  have hw : IntKind.wrap .i64 ((i : Int) + 1)=((i + 1 : Nat) : Int):=wrap_i64 (by omega) (by omega)
  have bad1 : ap l[i]=false -> bl l=false:=fun e=>by
   simp only [bl,x1F,List.all_eq_false]
   exact .inl (.inr ⟨l[i],x0h h3,by simp [e]⟩)
  have h5 : (l.map (·.name)).take (i + 1)=(l.map (·.name)).take i++[l[i].name]:=by
   rw [x0u (by simpa using h3)];simp
  have bad2 : l[i].name ∈ (l.map (·.name)).take i -> bl l=false:=fun e=>by
   simp only [bl,x1F,x0E]
   right
   intro hnd
   have h6:=(List.take_sublist (i + 1) _).nodup hnd
   rw [h5,x1t] at h6
   exact h6.2.2 _ e _ (by simp) rfl
  simp [h3,aY]
  have hvc:=pU hC l[i]
  rw [aY] at hvc
  refine aa hvc (.inl rfl) ?_
  cases hvi : ap l[i]
  ·simp [bad1 hvi]
  ·have hnm : l[i].name.length <= maxLen:=by
    simp only [ap,ct,x0a,x0c] at hvi
    unfold maxLen;omega
   simp [hg,hnm]
   refine ac (fun h4=>?_) (fun h4=>?_) <;> simp [h4] <;> simp at h4
   ·exact bad2 h4
   ·simp [hlen,hnm,hw]
    refine ⟨i + 1,⟨by omega,?_,?_⟩,by omega,⟨hk,?_⟩,rfl⟩
    ·intro x hx
     rw [ht] at hx
     rcases x0j.1 hx with hx | hx
     ·exact hv x hx
     ·simp at hx;subst hx;exact hvi
    ·rw [h5,x1t]
     refine ⟨hn,by simp,fun a ha b hb=>?_⟩
     simp at hb
     subst hb
     rintro rfl
     exact h4 ha
    ·rw [List.replicate_succ]
 ·have hil : i=l.length:=by omega
  subst hil
  rw [x0p (by simp)] at hn
  simp at hv
  simp [bl,hn]
  exact ⟨by omega,hv⟩
end Go.Gv

namespace Go.Gv
def jt (nm : List UInt8) : Nod:={ name:=nm,kind:=1,x:=0,y:=0,invert:=0,ground:=1,shapeN:=false,shape:=[(0,0),(1,1)],prot:=false,reserve:=0 }
def lE (nm : List UInt8) : Nod:={ name:=nm,kind:=3,x:=0,y:=0,invert:=0,ground:=0,shapeN:=true,shape:=[],prot:=false,reserve:=0 }
theorem jx {α : Type} {p : α -> Bool} {x : α} {l : List α} (h : p x=true) : a8 p (x::l)=0:=by
 unfold a8
 rw [List.findIdx?_cons,h]
 rfl
theorem wO {α : Type} {p : α -> Bool} {x y : α} (h : p x=false) (h2 : p y=true) : a8 p [x,y]=1:=by
 unfold a8
 rw [List.findIdx?_cons,h,List.findIdx?_cons,h2]
 rfl
theorem sD (l : Lnk) : bO [jt l.src,lE l.dst] [l]=ca l:=by
 cases h : ca l
 ·simp [bO,fB,h]
 have h':=h
 simp only [ca,x0a,x0q,x0E] at h
 obtain ⟨⟨⟨⟨⟨⟨h1,h2⟩,h3⟩,h4⟩,h5⟩,h6⟩,h7⟩:=h
 have a1 : iG (jt l.src)=true:=by
  have : cy [(0,0),(1,1)] 1 1125899906842624=true:=by decide +kernel
  simp [iG,jt,h2,mH,aT,bU,this]
 have a2 : iG (lE l.dst)=true:=by
  simp [iG,lE,h3,xf,aT,bU]
 have b1 : bq l.src (jt l.src)=true:=by simp [bq,jt]
 have b2 : bq l.dst (lE l.dst)=true:=by simp [bq,lE]
 have b3 : bq l.dst (jt l.src)=false:=by simp [bq,jt,h4]
 have c1 : a8 (bq l.src) [jt l.src,lE l.dst]=0:=jx b1
 have c2 : a8 (bq l.dst) [jt l.src,lE l.dst]=1:=wO b3 b2
 have c3 : a8 (ni l.name) [l]=0:=jx (by simp [ni])
 have d1 : (jt l.src).name=l.src:=rfl
 have d2 : (lE l.dst).name=l.dst:=rfl
 have d3 : (jt l.src).kind=1:=rfl
 have e1 : (List.range 2).all (kJ [jt l.src,lE l.dst])=true:=by
  simp [List.range_succ,kJ,a1,a2,c1,c2,d1,d2]
 have e2 : (List.range 1).all (fB [jt l.src,lE l.dst] [l])=true:=by
  simp [List.range_succ,fB,h',c1,c2,c3,jG,d3]
 have e3 : fB [jt l.src,lE l.dst] [l] 0=true:=by simpa using e2
 simp [bO,e1,e3]
theorem pn (s : Sec) : bl [s]=ap s:=by
 simp [bl]
def hJ (l : Lnk) (s : Sec) : Int:=if ca l && ap s then (if l.kind=1 then (if l.sect=s.name then 0 else 25) else 11) else 1
variable {C : CC} (hC : al prog C)
include hC
theorem lR (n a b : Int) : C 161 [.int .i64 n,.int .i64 a,.int .i64 b] (.bool (aT n a b)) []:=by
 refine aj hC (nf:=N161) rfl rfl ?_
 simp [N161,aT]
 refine ac (fun h=>?_) (fun h=>?_) <;> simp at h <;> simp [h] <;> omega
theorem xj (l : Lnk) (s : Sec) (hl : l.curve.length < 2 ^ 62) : C 160 [.agg (aF l),.agg (aY s)] (.int .i64 (hJ l s)) []:=by
 have k1:=kE hC false false [jt l.src,lE l.dst] [l] (by simpa using hl)
 rw [sD] at k1
 have k2:=mW hC false [s]
 rw [pn] at k2
 simp only [dz,List.map,jt,lE,aR,aF,aY,knD] at k1 k2
 obtain ⟨r,hr⟩ : ∃ r,r=hJ l s:=⟨_,rfl⟩
 rw [<- hr]
 unfold hJ at hr
 refine aj hC (nf:=N160) rfl rfl ?_
 have e0 : slx true []=D.nils:=rfl
 rw [e0] at k1
 simp [N160,aF,aY]
 refine aa k1 (.inl rfl) ?_
 cases h1 : ca l
 ·simp [hr,h1]
 simp
 refine aa k2 (.inl rfl) ?_
 cases h2 : ap s
 ·simp [hr,h2]
 simp
 refine ac (fun c=>?_) (fun c=>?_) <;> simp at c <;> simp [c]
 ·simp [hr,h1,h2,c]
 refine ac (fun c3=>?_) (fun c3=>?_) <;> simp at c3 <;> simp [c3]
 ·simp [hr,h1,h2,c,c3]
 ·simp [hr,h1,h2,c,c3]
end Go.Gv

namespace Go.Gv
open Go.Lib
theorem PY (a m : Nat) (hm : m=a * 16 % 18446744073709551616) : IntKind.u64.wrap ((a : Int) * 2 ^ min 4 IntKind.u64.bits)=(m : Int):=KP a 4 m hm
theorem KO (a m : Nat) (hm : m=a * 1152921504606846976 % 18446744073709551616) : IntKind.u64.wrap ((a : Int) * 2 ^ min 60 IntKind.u64.bits)=(m : Int):=KP a 60 m hm
theorem KQ (a : Nat) : Int.fdiv (a : Int) (2 ^ min 60 IntKind.u64.bits)=((a / 1152921504606846976 : Nat) : Int):=nO a 60
theorem PZ (a : Nat) : Int.fdiv (a : Int) (2 ^ min 4 IntKind.u64.bits)=((a / 16 : Nat) : Int):=nO a 4
theorem Dc (a : Nat) (ha : a < 18446744073709551616) : bits .and .u64 (a : Int) 1152921504606846975=((a % 1152921504606846976 : Nat) : Int):=by
 have h:=bits_and_u64_nat a 1152921504606846975 ha (by omega)
 have e : a &&& 1152921504606846975=a % 1152921504606846976:=Nat.and_two_pow_sub_one_eq_mod a 60
 rw [e] at h
 exact h
theorem PV (a b : Nat) (hb : b < 16) (h : a * 16 + b < 18446744073709551616) : bits .or .u64 ((a * 16 : Nat) : Int) (b : Int)=((a * 16 + b : Nat) : Int):=orN a b 4 hb h
theorem PW (a b : Nat) (hb : b < 1152921504606846976) (h : a * 1152921504606846976 + b < 18446744073709551616) : bits .or .u64 ((a * 1152921504606846976 : Nat) : Int) (b : Int)=((a * 1152921504606846976 + b : Nat) : Int):=orN a b 60 hb h
def eE (p : Nat) (neg : Bool) : D:=.agg [.int .u64 ((p / 18446744073709551616 : Nat) : Int),.int .u64 ((p % 18446744073709551616 : Nat) : Int),.bool neg]
def wiD (p : Nat) : D:=.agg [.int .i64 ((p / 1152921504606846976 : Nat) : Int),.int .i64 ((p % 1152921504606846976 : Nat) : Int)]
variable {C : CC} (hC : al prog C)
include hC
theorem mM (n : Nat) (h : n < 9223372036854775808) : C 112 [.int .i64 n] (.int .u64 (n : Int)) []:=by
 refine aj hC (nf:=N112) rfl rfl ?_
 have h0 : ¬ (n : Int) < 0:=by omega
 simp [N112,h0,bX n (by omega)]
theorem iQ (a b : Int) (n : Bool) : C 113 [.int .u64 a,.int .u64 b,.bool n] (.agg [.int .u64 a,.int .u64 b,.bool (n && (!decide (a=0) || !decide (b=0)))]) []:=by
 refine aj hC (nf:=N113) rfl rfl ?_
 simp [N113]
 cases n <;> simp
 by_cases h : a=0 <;> simp [h]
theorem rD (x y : Nat) (hx : x < 9223372036854775808) (hy : y < 9223372036854775808) : C 103 [.int .i64 x,.int .i64 y] (eE (x * y) false) []:=by
 refine aj hC (nf:=N103) rfl rfl ?_
 have h0 : ¬ (x : Int) < 0:=by omega
 have h1 : ¬ (y : Int) < 0:=by omega
 have hm:=gM hC x y (by omega) (by omega)
 rw [eE]
 obtain ⟨zh,hzh⟩ : ∃ zh,zh=x * y / 18446744073709551616:=⟨_,rfl⟩
 obtain ⟨zl,hzl⟩ : ∃ zl,zl=x * y % 18446744073709551616:=⟨_,rfl⟩
 rw [<- hzh,<- hzl] at hm ⊢
 simp [N103]
 refine aa (mM hC x hx) (.inl rfl) ?_
 simp
 refine aa (mM hC y hy) (.inl rfl) ?_
 simp
 refine aa hm (.inl rfl) ?_
 simp [h0,h1]
 refine aa (iQ hC zh zl false) (.inl rfl) ?_
 simp
theorem lc (n : Nat) (h : n < 9223372036854775808) : C 110 [.int .u64 n,.bool false] (.tup [.int .i64 n,.int .i64 0]) []:=by
 refine aj hC (nf:=N110) rfl rfl ?_
 have h1 : (n : Int) <= 9223372036854775807:=by omega
 have h2 : IntKind.i64.wrap (n : Int)=(n : Int):=wrap_i64 rfl (by omega)
 simp [N110,h1,h2]
theorem nA (p d : Nat) (up : Bool) (q : Nat) (hd : d < 9223372036854775808) (hp : p / 18446744073709551616 < d) (hq : q < 9223372036854775808) (hv : q=if up then (p + d - 1) / d else p / d) (hqd : p / d + 1 < 9223372036854775808) : C 104 [eE p false,.int .i64 d,.bool up] (.tup [.int .i64 q,.int .i64 0]) []:=by
 obtain ⟨ph,hph⟩ : ∃ z,z=p / 18446744073709551616:=⟨_,rfl⟩
 obtain ⟨pl,hpl⟩ : ∃ z,z=p % 18446744073709551616:=⟨_,rfl⟩
 have hpp : ph * 18446744073709551616 + pl=p:=by omega
 obtain ⟨q0,hq0⟩ : ∃ z,z=p / d:=⟨_,rfl⟩
 obtain ⟨r0,hr0⟩ : ∃ z,z=p % d:=⟨_,rfl⟩
 have hdiv:=s9 hC ph pl d (by omega) (by omega) (by omega)
 rw [hpp,<- hq0,<- hr0] at hdiv
 have hd0 : 0 < d:=by omega
 have hdp : d * q0 + r0=p:=by rw [hq0,hr0];exact x09 p d
 have hrd : r0 < d:=by rw [hr0];exact x1x _ hd0
 have hup : up=true -> q=if 0 < r0 then q0 + 1 else q0:=by
  rintro rfl
  simp only [if_true] at hv
  rw [hv,<- hdp]
  by_cases h : 0 < r0
  ·rw [if_pos h,show d * q0 + r0 + d - 1=d * q0 + (d + (r0 - 1)) by omega,Nat.mul_add_div hd0,Nat.add_div_left _ hd0,Nat.div_eq_of_lt (by omega)]
  ·rw [if_neg h,show d * q0 + r0 + d - 1=d * q0 + (d - 1) by omega,Nat.mul_add_div hd0,Nat.div_eq_of_lt (by omega)]
   rfl
 rw [eE,<- hph,<- hpl]
 have h1 : ¬ (d : Int) <= (ph : Int):=by omega
 have h2 : ¬ (d : Int) < 0:=by omega
 have h3 : IntKind.u64.wrap ((q0 : Int) + 1)=((q0 + 1 : Nat) : Int):=uw (by omega) (by omega)
 refine aj hC (nf:=N104) rfl rfl ?_
 simp [N104]
 refine aa (mM hC d hd) (.inl rfl) ?_
 simp [h1]
 refine aa hdiv (.inl rfl) ?_
 simp [h2]
 cases up
 ·have e : q=q0:=by rw [hv,hq0];rfl
  subst e
  refine ac (fun h=>?_) (fun h=>?_) <;> simp at h <;> simp [h]
  ·refine aa (lc hC q hq) (.inl rfl) ?_
   simp
  ·refine aa (lc hC q hq) (.inl rfl) ?_
   simp
 ·have hv:=hup rfl
  by_cases h : 0 < r0
  ·have hi : (0 : Int) < r0:=by omega
   rw [if_pos h] at hv
   subst hv
   have h4 : ¬ ((q0 : Int) + 1=0):=by omega
   simp [hi,h3,h4,h]
   refine aa (lc hC (q0 + 1) hq) (.inl rfl) ?_
   simp
  ·have hi : ¬ (0 : Int) < r0:=by omega
   rw [if_neg h] at hv
   subst hv
   simp [hi,h]
   refine aa (lc hC q hq) (.inl rfl) ?_
   simp
end Go.Gv

namespace Go.Gv
open Go.Lib
variable {C : CC} (hC : al prog C)
include hC
theorem oc (p : Nat) (h : p < 1329227995784915872903807060280344576) : C 106 [wiD p] (.bool true) []:=by
 obtain ⟨ph,hph⟩ : ∃ z,z=p / 1152921504606846976:=⟨_,rfl⟩
 obtain ⟨pl,hpl⟩ : ∃ z,z=p % 1152921504606846976:=⟨_,rfl⟩
 rw [wiD,<- hph,<- hpl]
 have h1 : (-1152921504606846976 : Int) <= ph:=by omega
 have h2 : (ph : Int) < 1152921504606846976:=by omega
 have h3 : (0 : Int) <= pl:=by omega
 have h4 : (pl : Int) < 1152921504606846976:=by omega
 refine aj hC (nf:=N106) rfl rfl ?_
 simp [N106,h1,h2,h3,h4]
theorem qS (p : Nat) (h : p < 1329227995784915872903807060280344576) : C 105 [eE p false] (.tup [wiD p,.int .i64 0]) []:=by
 obtain ⟨ph,hph⟩ : ∃ z,z=p / 1152921504606846976:=⟨_,rfl⟩
 obtain ⟨pl,hpl⟩ : ∃ z,z=p % 1152921504606846976:=⟨_,rfl⟩
 obtain ⟨zh,hzh⟩ : ∃ z,z=p / 18446744073709551616:=⟨_,rfl⟩
 obtain ⟨zl,hzl⟩ : ∃ z,z=p % 18446744073709551616:=⟨_,rfl⟩
 rw [wiD,eE,<- hph,<- hpl,<- hzh,<- hzl]
 obtain ⟨zt,hzt⟩ : ∃ z,z=zl / 1152921504606846976:=⟨_,rfl⟩
 have h1 : ¬ (72057594037927936 : Int) < zh:=by omega
 have h2 : ¬ (zh : Int)=72057594037927936:=by omega
 have e1:=PY zh (zh * 16) (by omega)
 have e2:=KQ zl
 rw [<- hzt] at e2
 have e3:=PV zh zt (by omega) (by omega)
 have e4 : IntKind.i64.wrap ((zh * 16 + zt : Nat) : Int)=(ph : Int):=wrap_i64 (by omega) (by omega)
 have e5:=Dc zl (by omega)
 have e6 : IntKind.i64.wrap ((zl % 1152921504606846976 : Nat) : Int)=(pl : Int):=wrap_i64 (by omega) (by omega)
 refine aj hC (nf:=N105) rfl rfl ?_
 simp [N105,h1,h2,e2,-Int.natCast_mul,-Int.natCast_emod]
 refine ⟨ar (by decide +kernel),?_⟩
 rw [e1,e3,e4,e5,e6]
 simp
theorem pV (p : Nat) (h : p < 1329227995784915872903807060280344576) : C 108 [wiD p] (eE p false) []:=by
 obtain ⟨ph,hph⟩ : ∃ z,z=p / 1152921504606846976:=⟨_,rfl⟩
 obtain ⟨pl,hpl⟩ : ∃ z,z=p % 1152921504606846976:=⟨_,rfl⟩
 obtain ⟨zh,hzh⟩ : ∃ z,z=p / 18446744073709551616:=⟨_,rfl⟩
 obtain ⟨zl,hzl⟩ : ∃ z,z=p % 18446744073709551616:=⟨_,rfl⟩
 rw [wiD,eE,<- hph,<- hpl,<- hzh,<- hzl]
 have h1 : (0 : Int) <= ph:=by omega
 obtain ⟨w,hw⟩ : ∃ z,z=ph % 16:=⟨_,rfl⟩
 have e1 : Int.fdiv (ph : Int) (2 ^ min 4 IntKind.u64.bits)=(zh : Int):=by rw [PZ];omega
 have e2 : IntKind.u64.wrap ((ph : Int) * 2 ^ min 60 IntKind.u64.bits)=((w * 1152921504606846976 : Nat) : Int):=KO ph _ (by omega)
 have e3 : IntKind.u64.wrap (pl : Int)=(pl : Int):=bX pl (by omega)
 have e4 : bits .or .u64 ((w * 1152921504606846976 : Nat) : Int) (pl : Int)=(zl : Int):=by
  rw [PW w pl (by omega) (by omega)];omega
 refine aj hC (nf:=N108) rfl rfl ?_
 simp [N108]
 refine aa (mM hC ph (by omega)) (.inl rfl) ?_
 simp [h1]
 rw [e1,e2,e3,e4]
 simp
theorem zU (p : Nat) : C 109 [eE p false] (eE p (decide (p ≠ 0))) []:=by
 obtain ⟨zh,hzh⟩ : ∃ z,z=p / 18446744073709551616:=⟨_,rfl⟩
 obtain ⟨zl,hzl⟩ : ∃ z,z=p % 18446744073709551616:=⟨_,rfl⟩
 have e : decide (p ≠ 0)=(true && (!decide ((zh : Int)=0) || !decide ((zl : Int)=0))):=by
  rw [x0x];simp;omega
 rw [eE,eE,<- hzh,<- hzl,e]
 refine aj hC (nf:=N109) rfl rfl ?_
 simp [N109]
 refine aa (iQ hC zh zl true) (.inl rfl) ?_
 simp
set_option maxHeartbeats 4000000 in
theorem KV (p r : Nat) (hr : r <= p) (hp : p < 1329227995784915872903807060280344576) : C 107 [eE p false,eE r (decide (r ≠ 0))] (eE (p - r) false) []:=by
 obtain ⟨ph,hph⟩ : ∃ z,z=p / 18446744073709551616:=⟨_,rfl⟩
 obtain ⟨pl,hpl⟩ : ∃ z,z=p % 18446744073709551616:=⟨_,rfl⟩
 obtain ⟨rh,hrh⟩ : ∃ z,z=r / 18446744073709551616:=⟨_,rfl⟩
 obtain ⟨rl,hrl⟩ : ∃ z,z=r % 18446744073709551616:=⟨_,rfl⟩
 obtain ⟨dh,hdh⟩ : ∃ z,z=(p - r) / 18446744073709551616:=⟨_,rfl⟩
 obtain ⟨dl,hdl⟩ : ∃ z,z=(p - r) % 18446744073709551616:=⟨_,rfl⟩
 have k0 : (0 : Int) <= ph:=by omega
 have k1 : (0 : Int) <= pl:=by omega
 have k2 : (0 : Int) <= rl:=by omega
 have k3 : (pl : Int) < 18446744073709551616:=by omega
 have k4 : (rl : Int) < 18446744073709551616:=by omega
 by_cases h0 : r=0
 ·subst h0
  have hrh0 : rh=0:=by omega
  have hrl0 : rl=0:=by omega
  subst hrh0 hrl0
  rw [eE,eE,eE,<- hph,<- hpl,<- hrh,<- hrl,<- hdh,<- hdl]
  have e1 : (pl : Int) % 18446744073709551616=(pl : Int):=by omega
  have e2 : (pl : Int) / 18446744073709551616=0:=by omega
  have e3 : IntKind.u64.wrap (ph : Int)=(ph : Int):=bX ph (by omega)
  have e4 : dh=ph:=by omega
  have e5 : dl=pl:=by omega
  refine aj hC (nf:=N107) rfl rfl ?_
  simp [N107,k3,e1,e2,e3]
  refine aa (iQ hC ph pl false) (.inl rfl) ?_
  simp [e4,e5]
 ·have hne : decide (r ≠ 0)=true:=by simp [h0]
  rw [hne,eE,eE,eE,<- hph,<- hpl,<- hrh,<- hrl,<- hdh,<- hdl]
  have c1 : ¬ (ph : Int) < rh:=by omega
  have c2 : (ph : Int)=rh -> ¬ (pl : Int) < rl:=by omega
  have e1 : ((pl : Int) - rl) % 18446744073709551616=(dl : Int):=by omega
  have e2 : IntKind.u64.wrap ((ph : Int) - rh)=((ph - rh : Nat) : Int):=uw (by omega) (by omega)
  have e3 : IntKind.u64.wrap (((ph - rh : Nat) : Int) - (if pl < rl then 1 else 0))=(dh : Int):=by
   split <;> exact uw (by omega) (by omega)
  refine aj hC (nf:=N107) rfl rfl ?_
  simp [N107,c1,k3,k4,e1,e2]
  refine ac (fun c=>?_) (fun c=>?_) <;> simp at c <;> simp [c]
  ·have c3:=c2 (by omega)
   refine ac (fun c4=>?_) (fun c4=>?_) <;> simp at c4 <;> simp [c4]
   ·omega
   have hd0 : dh=0:=by omega
   have c5 : ¬ pl < rl:=by omega
   have hz : IntKind.u64.wrap 0=0:=bX 0 (by omega)
   simp [k3,k4,e1,hz,c5]
   refine aa (iQ hC 0 dl false) (.inl rfl) ?_
   simp [hd0]
  ·simp [k3,k4,e1,e2]
   rw [e3]
   refine aa (iQ hC dh dl false) (.inl rfl) ?_
   simp
end Go.Gv

namespace Go.Gv
theorem kK (p : Nat) : ∃ a b : Int,eE p false=.agg [.int .u64 a,.int .u64 b,.bool false]:=⟨_,_,rfl⟩
theorem w7 (p : Nat) (n : Bool) : ∃ a b : Int,eE p n=.agg [.int .u64 a,.int .u64 b,.bool n]:=⟨_,_,rfl⟩
theorem iY (p : Nat) : ∃ a b : Int,wiD p=.agg [.int .i64 a,.int .i64 b]:=⟨_,_,rfl⟩
variable {C : CC} (hC : al prog C)
include hC
theorem om (x y : Nat) (hx : x < 9223372036854775808) (hy : y < 9223372036854775808) (h : x * y < 1329227995784915872903807060280344576) : C 99 [.int .i64 x,.int .i64 y] (.tup [wiD (x * y),.int .i64 0]) []:=by
 have k1:=rD hC x y hx hy
 have k2:=qS hC (x * y) h
 obtain ⟨a,b,e1⟩:=kK (x * y)
 obtain ⟨c,d,e2⟩:=iY (x * y)
 rw [e1] at k1 k2
 rw [e2] at k2 ⊢
 refine aj hC (nf:=N99) rfl rfl ?_
 simp [N99]
 refine aa k1 (.inl rfl) ?_
 simp
 refine aa k2 (.inr rfl) ?_
 simp
theorem G4 (p : Nat) (h : p < 9223372036854775808) : C 101 [wiD p] (.tup [.int .i64 p,.int .i64 0]) []:=by
 have k1:=oc hC p (by omega)
 have k2:=pV hC p (by omega)
 have e1 : eE p false=.agg [.int .u64 0,.int .u64 p,.bool false]:=by
  rw [eE,show p / 18446744073709551616=0 by omega,show p % 18446744073709551616=p by omega];rfl
 obtain ⟨c,d,e2⟩:=iY p
 rw [e1] at k2
 rw [e2] at k1 k2 ⊢
 refine aj hC (nf:=N101) rfl rfl ?_
 simp [N101]
 refine aa k1 (.inl rfl) ?_
 simp
 refine aa k2 (.inl rfl) ?_
 simp
 refine aa (lc hC p h) (.inl rfl) ?_
 simp
theorem G6 (p r : Nat) (hr : r <= p) (h : p < 1329227995784915872903807060280344576) : C 100 [wiD p,wiD r] (.tup [wiD (p - r),.int .i64 0]) []:=by
 have k1:=oc hC p h
 have k2:=oc hC r (by omega)
 have k3:=pV hC p h
 have k4:=pV hC r (by omega)
 have k5:=zU hC r
 have k6:=KV hC p r hr h
 have k7:=qS hC (p - r) (by omega)
 obtain ⟨a1,a2,e1⟩:=iY p
 obtain ⟨b1,b2,e2⟩:=iY r
 obtain ⟨c1,c2,e3⟩:=iY (p - r)
 obtain ⟨d1,d2,e4⟩:=kK p
 obtain ⟨f1,f2,e5⟩:=kK r
 obtain ⟨g1,g2,e6⟩:=w7 r (decide (r ≠ 0))
 obtain ⟨i1,i2,e7⟩:=kK (p - r)
 obtain ⟨z,hz⟩ : ∃ z,z=decide (r ≠ 0):=⟨_,rfl⟩
 rw [<- hz] at k5 k6 e6
 rw [e1] at k1 k3 ⊢
 rw [e2] at k2 k4 ⊢
 rw [e3] at k7 ⊢
 rw [e4] at k3 k6
 rw [e5] at k4 k5
 rw [e6] at k5 k6
 rw [e7] at k6 k7
 refine aj hC (nf:=N100) rfl rfl ?_
 simp [N100]
 refine aa k1 (.inl rfl) ?_
 simp
 refine aa k2 (.inl rfl) ?_
 simp
 refine aa k3 (.inl rfl) ?_
 simp
 refine aa k4 (.inl rfl) ?_
 simp
 refine aa k5 (.inl rfl) ?_
 simp
 refine aa k6 (.inl rfl) ?_
 simp
 refine aa k7 (.inr rfl) ?_
 simp
 exact ar (by decide +kernel)
theorem yz (u a d : Nat) (hu : u < 4503599627370496) (ha : a < d) (hd : d < 4503599627370496) : C 98 [.int .i64 u,.int .i64 a,.int .i64 d] (.tup [.int .i64 (u * a / d : Nat),.int .i64 ((u * a + d - 1) / d : Nat),.int .i64 0]) []:=by
 have h1 : u * a <= u * d:=x1J _ (by omega)
 have h1' : u * d=d * u:=x0T _ _
 have h2 : u * a / d <= u:=Nat.le_of_lt_succ (Nat.div_lt_of_lt_mul (by rw [Nat.succ_eq_add_one,Nat.mul_add];omega))
 have h3 : (u * a + d - 1) / d <= u:=Nat.le_of_lt_succ (Nat.div_lt_of_lt_mul (by rw [Nat.succ_eq_add_one,Nat.mul_add];omega))
 have h4 : u * a / 18446744073709551616 < d:=by
  have h5 : u * d <= 4503599627370496 * d:=x0s _ (by omega)
  omega
 have k1:=rD hC u a (by omega) (by omega)
 have k2:=nA hC (u * a) d false (u * a / d) (by omega) h4 (by omega) rfl (by omega)
 have k3:=nA hC (u * a) d true ((u * a + d - 1) / d) (by omega) h4 (by omega) rfl (by omega)
 obtain ⟨q1,e1⟩ : ∃ q,q=u * a / d:=⟨_,rfl⟩
 obtain ⟨q2,e2⟩ : ∃ q,q=(u * a + d - 1) / d:=⟨_,rfl⟩
 obtain ⟨a1,a2,e3⟩:=kK (u * a)
 rw [e3] at k1 k2 k3
 rw [<- e1] at k2 ⊢
 rw [<- e2] at k3 ⊢
 have hd0 : ¬ (d : Int)=0:=by omega
 clear h1 h1' h2 h3 h4 e1 e2 e3
 refine aj hC (nf:=N98) rfl rfl ?_
 simp [N98]
 refine ac (fun c=>?_) (fun c=>?_) <;> simp at c <;> simp [c]
 ·omega
 refine aa k1 (.inr rfl) ?_
 simp
 refine aa k2 (.inl rfl) ?_
 simp
 refine aa k3 (.inl rfl) ?_
 simp
end Go.Gv

namespace Go.Gv
def bB (t : List (Int × Int)) (x : Int) : Nat:=t.findIdx fun k=>decide (x <= k.1)
def atK (t : List (Int × Int)) (x : Int) : Bool:=decide (bB t x < t.length) && decide (t[bB t x]!.1=x)
def yE (a b : Int × Int) (x : Int) : Int × Int × Int:=(a.2 + (b.2 - a.2) * (x - a.1) / (b.1 - a.1),(b.2 - a.2) * (x - a.1) % (b.1 - a.1),b.1 - a.1)
def bf (t : List (Int × Int)) (x : Int) : Int × Int × Int :=
 if atK t x || decide (bB t x=0) then (t[bB t x]!.2,0,1)
 else if bB t x=t.length then (t[bB t x - 1]!.2,0,1)
 else yE t[bB t x - 1]! t[bB t x]! x
theorem gU (t : List (Int × Int)) (x : Int) : bB t x <= t.length:=List.findIdx_le_length
theorem pM {t : List (Int × Int)} {x : Int} {j : Nat} (h : j < bB t x) (hl : j < t.length) : t[j].1 < x:=by
 have:=List.not_of_lt_findIdx h
 simp at this
 exact this
theorem kQ {t : List (Int × Int)} {x : Int} (h : bB t x < t.length) : x <= t[bB t x].1:=by
 have h2:=List.findIdx_getElem (w:=h)
 exact of_decide_eq_true h2
theorem jQ {t : List (Int × Int)} {x : Int} {j : Nat} (hl : j < t.length) (h : x <= t[j].1) : bB t x <= j:=by
 apply Nat.le_of_not_lt
 intro hj
 have:=pM hj hl
 omega
theorem rr {t : List (Int × Int)} (h : ay t=true) {j i : Nat} (hi : i < t.length) (hj : j <= i) : t[j].1 <= t[i].1:=by
 rcases Nat.lt_or_eq_of_le hj with h1 | rfl
 ·have:=jn h j i hi h1;omega
 ·exact x0M _
theorem sH {t : List (Int × Int)} (hv : ay t=true) {x : Int} {j : Nat} (hl : j < t.length) (h : t[j].1 < x) : j < bB t x:=by
 apply Nat.lt_of_not_le
 intro hj
 have h1:=kQ (t:=t) (x:=x) (by omega)
 have h2:=rr hv hl hj
 omega
theorem eb {t : List (Int × Int)} {x : Int} (h : ay t=true) (h0 : bB t x ≠ 0) (h1 : bB t x < t.length) (h2 : atK t x=false) :
  ∃ k u a d : Nat,bB t x=k + 1 /\ k + 1 < t.length /\ ∃ (g0 : k < t.length) (g1 : k + 1 < t.length),t[k + 1].2 - t[k].2=u /\ x - t[k].1=a /\ t[k + 1].1 - t[k].1=d /\ u < 4503599627370496 /\ 0 < a /\ a < d /\ d < 4503599627370496 /\ -1125899906842624 <= t[k].2 /\ t[k].2 <= 1125899906842624 /\ t[k].2 + u <= 1125899906842624 /\ t[bB t x - 1]! = t[k] /\ t[bB t x]! = t[k + 1] /\ -1125899906842624 <= t[k].1 /\ t[k].1 <= 1125899906842624 /\ t[k + 1].1 <= 1125899906842624:=by
 obtain ⟨k,hk⟩ : ∃ k,bB t x=k + 1:=⟨bB t x - 1,by omega⟩
 have hlt : t[k].1 < x:=pM (by omega) (by omega)
 have hge:=kQ h1
 have e1 : t[bB t x]! = t[bB t x]:=x0g t _ h1
 simp only [atK,h1,decide_true,Bool.true_and,x0E,e1] at h2
 rw [hk] at h1
 simp only [hk] at hge h2 e1
 obtain ⟨f1,f2,f3⟩:=iX h (show k < t.length by omega)
 obtain ⟨f4,f5,f6⟩:=iX h h1
 have f7:=f6 k rfl
 simp only [f9,x0a,x0c] at f1 f2 f4 f5
 refine ⟨k,(t[k + 1].2 - t[k].2).toNat,(x - t[k].1).toNat,(t[k + 1].1 - t[k].1).toNat,hk,h1,by omega,h1,by omega,by omega,by omega,by omega,by omega,by omega,by omega,by omega,by omega,by omega,?_,?_,by omega,by omega,by omega⟩
 ·rw [hk];exact x0g t k (by omega)
 ·rw [hk];exact e1
theorem vX {p q : Int × Int} {u a d : Nat} {x : Int} (h1 : q.2 - p.2=u) (h2 : x - p.1=a) (h3 : q.1 - p.1=d) : yE p q x=(p.2 + ((u * a / d : Nat) : Int),((u * a % d : Nat) : Int),(d : Int)):=by
 simp only [yE,h1,h2,h3]
 push_cast
 rfl
variable {C : CC} (hC : al prog C)
include hC
theorem CR (b : Bool) (t : List (Int × Int)) (x : Int) (h : ay t=true) : C 96 [slx b (t.map knD),.int .i64 x,.fn 97 []] (.tup [.int .i64 (bB t x),.bool (atK t x)]) []:=by
 obtain ⟨l1,l2⟩:=ce h
 have hpl:=gU t x
 obtain ⟨n,hn⟩ : ∃ n,n=bB t x:=⟨_,rfl⟩
 obtain ⟨r,hr⟩ : ∃ r,r=atK t x:=⟨_,rfl⟩
 have hlt : ∀ j,(hj : j < t.length) -> t[j].1 < x -> j < n:=fun j hj h1=>hn ▸ sH h hj h1
 have hle : ∀ j,(hj : j < t.length) -> x <= t[j].1 -> n <= j:=fun j hj h1=>hn ▸ jQ hj h1
 rw [<- hn] at hpl ⊢
 rw [<- hr]
 rw [atK,<- hn] at hr
 refine aj hC (nf:=N96) rfl rfl ?_
 simp [N96]
 refine az (Nat × Nat) (fun s=>[(0,slx b (t.map knD)),(1,.int .i64 x),(2,.fn 97 []),(8,.int .i64 t.length),(9,.int .i64 s.1),(10,.int .i64 s.2)]) (fun s=>s.1 <= n /\ n <= s.2 /\ s.2 <= t.length) (fun s=>s.2 - s.1) (0,t.length) (by simp;omega) (by simp) ?_
 rintro ⟨i,j⟩ ⟨h1,h2,h3⟩
 simp only at h1 h2 h3
 simp
 refine ac (fun c=>?_) (fun c=>?_) <;> simp [c] <;> simp at c
 ·obtain ⟨m,hm⟩ : ∃ m,m=(i + j) / 2:=⟨_,rfl⟩
  have e1 : IntKind.wrap .i64 ((i : Int) + (j : Int))=((i + j : Nat) : Int):=wrap_i64 (by omega) (by omega)
  obtain ⟨s,hs⟩ : ∃ s,s=i + j:=⟨_,rfl⟩
  rw [<- hs] at e1 hm
  have e2 : Int.fdiv (s : Int) (2 ^ min 1 IntKind.u64.bits)=(m : Int):=by rw [hm];exact nO s 1
  have e3 : IntKind.wrap .i64 (m : Int)=(m : Int):=wrap_i64 rfl (by omega)
  have e4 : IntKind.wrap .i64 ((m : Int) + 1)=((m + 1 : Nat) : Int):=wrap_i64 (by omega) (by omega)
  have hml : m < t.length:=by omega
  simp [e1,bX s (by omega),e2,e3,hml]
  have hc:=ja hC t[m] x
  simp [knD] at hc ⊢
  refine aa hc (.inl rfl) ?_
  by_cases hmn : t[m].1 < x
  ·have:=hlt m hml hmn
   simp [hmn,e4]
   exact ⟨m + 1,j,⟨by omega,h2,h3⟩,by omega,by omega,by omega⟩
  ·have:=hle m hml (by omega)
   have hz : ¬ (if x < t[m].1 then (1 : Int) else 0) < 0:=by split <;> omega
   simp [hmn,hz]
   exact ⟨i,m,⟨by omega,by omega,by omega⟩,by omega,by omega,by omega⟩
 ·have : i=n:=by omega
  subst this
  refine ac (fun c2=>?_) (fun c2=>?_) <;> simp at c2 <;> simp [c2]
  ·have hc:=ja hC t[i] x
   have hge : ¬ t[i].1 < x:=fun e=>by have:=hlt i c2 e;omega
   have e1 : t[i]! = t[i]:=x0g t i c2
   simp [knD] at hc ⊢
   refine aa hc (.inl rfl) ?_
   simp [hge,hr,c2,e1]
   omega
  ·have : ¬ i < t.length:=by omega
   simp [hr,this]
set_option maxHeartbeats 4000000 in
theorem xh (b : Bool) (t : List (Int × Int)) (x : Int) (h : ay t=true) : C 90 [slx b (t.map knD),.int .i64 x] (.tup [.int .i64 (bf t x).1,.int .i64 (bf t x).2.1,.int .i64 (bf t x).2.2]) []:=by
 obtain ⟨l1,l2⟩:=ce h
 have hpl:=gU t x
 have hk:=CR hC b t x h
 obtain ⟨p1,hp1⟩ : ∃ z,z=(bf t x).1:=⟨_,rfl⟩
 obtain ⟨p2,hp2⟩ : ∃ z,z=(bf t x).2.1:=⟨_,rfl⟩
 obtain ⟨p3,hp3⟩ : ∃ z,z=(bf t x).2.2:=⟨_,rfl⟩
 rw [<- hp1,<- hp2,<- hp3]
 unfold bf at hp1 hp2 hp3
 refine aj hC (nf:=N90) rfl rfl ?_
 simp [N90]
 refine aa hk (.inl rfl) ?_
 cases ha : atK t x
 ·simp
  refine ac (fun c=>?_) (fun c=>?_) <;> simp at c <;> simp [c]
  ·have h0 : 0 < t.length:=by omega
   have e0 : t[0]! = t[0]:=x0g t 0 h0
   rw [if_pos (by simp [c]),c,e0] at hp1 hp2 hp3
   simp [h0,knD,hp1,hp2,hp3]
  refine ac (fun c2=>?_) (fun c2=>?_) <;> simp at c2 <;> simp [c2]
  ·obtain ⟨n,hn⟩ : ∃ n,n + 1=t.length:=⟨t.length - 1,by omega⟩
   have e1 : IntKind.wrap .i64 ((t.length : Int) - 1)=(n : Int):=wrap_i64 (by omega) (by omega)
   have hnl : n < t.length:=by omega
   have e0 : t[bB t x - 1]! = t[n]:=by rw [show bB t x - 1=n by omega];exact x0g t n hnl
   rw [if_neg (by simp [ha,c]),if_pos (by omega),e0] at hp1 hp2 hp3
   simp [e1,hnl,knD,hp1,hp2,hp3]
  ·obtain ⟨k,u,a,d,q1,q2,g0,g1,r1,r2,r3,r4,r5,r6,r7,r8,r9,r10,s1,s2,r11,r12,r13⟩:=eb h c (by omega) ha
   rw [if_neg (by simp [ha,c]),if_neg (by omega),s1,s2,vX r1 r2 r3] at hp1 hp2 hp3
   simp only at hp1 hp2 hp3
   have ew1 : IntKind.wrap .i64 (k : Int)=(k : Int):=wrap_i64 rfl (by omega)
   have ew2 : IntKind.wrap .i64 (t[k + 1].2 - t[k].2)=(u : Int):=wrap_i64 r1 (by omega)
   have ew3 : IntKind.wrap .i64 (x - t[k].1)=(a : Int):=wrap_i64 r2 (by omega)
   have ew4 : IntKind.wrap .i64 (t[k + 1].1 - t[k].1)=(d : Int):=wrap_i64 r3 (by omega)
   have b1 : u * a < 1329227995784915872903807060280344576:=by
    have:=x01 (show u <= 4503599627370496 by omega) (show a <= 4503599627370496 by omega)
    omega
   have b2 : u * a / d * d <= u * a:=Nat.div_mul_le_self _ _
   have b3 : u * a - u * a / d * d=u * a % d:=by
    have:=Nat.div_add_mod' (u * a) d
    omega
   have b4 : u * a % d < d:=x1x _ (by omega)
   have b5 : u * a / d <= u:=by
    have h1 : u * a <= u * d:=x1J _ (by omega)
    have h1' : u * d=d * u:=x0T _ _
    exact Nat.le_of_lt_succ (Nat.div_lt_of_lt_mul (by rw [Nat.succ_eq_add_one,Nat.mul_add];omega))
   have k1:=yz hC u a d r4 r6 r7
   have k2:=om hC u a (by omega) (by omega) b1
   have k3:=om hC (u * a / d) d (by omega) (by omega) (by omega)
   have k4:=G6 hC (u * a) (u * a / d * d) b2 b1
   have k5:=G4 hC (u * a % d) (by omega)
   rw [b3] at k4
   obtain ⟨v1,v2,f1⟩:=iY (u * a)
   obtain ⟨v3,v4,f2⟩:=iY (u * a / d * d)
   obtain ⟨v5,v6,f3⟩:=iY (u * a % d)
   rw [f1] at k2 k4
   rw [f2] at k3 k4
   rw [f3] at k4 k5
   clear b1 b2 b3 f1 f2 f3
   obtain ⟨q,eq⟩ : ∃ q,q=u * a / d:=⟨_,rfl⟩
   obtain ⟨q',eq'⟩ : ∃ q,q=(u * a + d - 1) / d:=⟨_,rfl⟩
   obtain ⟨m,em⟩ : ∃ q,q=u * a % d:=⟨_,rfl⟩
   rw [<- eq] at k1 k3 b5 hp1
   rw [<- eq'] at k1
   rw [<- em] at k5 hp2
   have ew5 : IntKind.wrap .i64 (t[k].2 + (q : Int))=t[k].2 + (q : Int):=wrap_i64 rfl (by omega)
   simp [ew1,q1,g0,g1,knD]
   refine ⟨ar (by decide +kernel),?_⟩
   simp [ew2,ew3,ew4]
   refine ⟨ar (by decide +kernel),?_⟩
   refine aa k1 (.inl rfl) ?_
   simp
   refine aa k2 (.inr rfl) ?_
   simp
   refine aa k3 (.inr rfl) ?_
   simp
   refine aa k4 (.inr rfl) ?_
   simp
   refine aa k5 (.inl rfl) ?_
   simp [ew5,hp1,hp2,hp3]
 ·have hlt : bB t x < t.length:=by simp [atK] at ha;exact ha.1
  have e0 : t[bB t x]! = t[bB t x]:=x0g t _ hlt
  rw [if_pos (by simp [ha]),e0] at hp1 hp2 hp3
  simp [hlt,knD,hp1,hp2,hp3]
theorem vF (b : Bool) (t : List (Int × Int)) (x : Int) (h : ay t=true) : C 73 [slx b (t.map knD),.int .i64 x] (.tup [.int .i64 (bf t x).1,.int .i64 0]) []:=by
 refine aj hC (nf:=N73) rfl rfl ?_
 simp [N73]
 refine aa (dJ hC b t) (.inl rfl) ?_
 simp [h]
 refine aa (xh hC b t x h) (.inl rfl) ?_
 simp
end Go.Gv

namespace Go.Gv
def bis (p : Nat -> Bool) : Nat -> Nat -> Nat -> Nat
 | 0,lo,_=>lo
 | f + 1,lo,hi=>if lo < hi then (if p ((lo + hi) / 2) then bis p f lo ((lo + hi) / 2) else bis p f ((lo + hi) / 2 + 1) hi) else lo
theorem pi (p : Nat -> Bool) (f lo hi : Nat) (h : hi <= lo) : bis p f lo hi=lo:=by
 cases f with
 | zero=>rfl
 | succ f=>simp only [bis];rw [if_neg (by omega)]
theorem p9 {p : Nat -> Bool} {f lo hi : Nat} (h : lo < hi) (hf : hi - lo < 2 ^ f) : ∃ f',hi - (lo + hi) / 2 < 2 ^ f /\ ((lo + hi) / 2 - lo < 2 ^ f') /\ (hi - ((lo + hi) / 2 + 1) < 2 ^ f') /\ bis p f lo hi=if p ((lo + hi) / 2) then bis p f' lo ((lo + hi) / 2) else bis p f' ((lo + hi) / 2 + 1) hi:=by
 cases f with
 | zero=>simp at hf;omega
 | succ f =>
  rw [Nat.pow_succ] at hf
  refine ⟨f,by rw [Nat.pow_succ];omega,by omega,by omega,?_⟩
  simp only [bis]
  rw [if_pos h]
theorem dw (p : Nat -> Bool) : ∀ (f lo hi : Nat),lo <= hi -> lo <= bis p f lo hi /\ bis p f lo hi <= hi
 | 0,lo,hi,h=>⟨x0k _,h⟩
 | f + 1,lo,hi,h=>by
  simp only [bis]
  split
  ·split
   ·have:=dw p f lo ((lo + hi) / 2) (by omega);omega
   ·have:=dw p f ((lo + hi) / 2 + 1) hi (by omega);omega
  ·omega
theorem j9 {p q : Nat -> Bool} (h : ∀ n,q n=true -> p n=true) : ∀ (f lo hi : Nat),lo <= hi -> bis p f lo hi <= bis q f lo hi
 | 0,lo,hi,_=>x0k _
 | f + 1,lo,hi,hlh=>by
  simp only [bis]
  split
  ·cases hp : p ((lo + hi) / 2)
   ·have hq : q ((lo + hi) / 2)=false:=by
     cases hq : q ((lo + hi) / 2)
     ·rfl
     ·rw [h _ hq] at hp;cases hp
    rw [hq]
    simp only [x0l,if_false]
    exact j9 h f _ _ (by omega)
   ·cases hq : q ((lo + hi) / 2)
    ·simp only [x0l,if_false,if_true]
     have h1:=dw p f lo ((lo + hi) / 2) (by omega)
     have h2:=dw q f ((lo + hi) / 2 + 1) hi (by omega)
     omega
    ·simp only [if_true]
     exact j9 h f _ _ (by omega)
  ·exact x0k _
theorem dB {t : List (Int × Int)} (h : ay t=true) : ∀ {i j : Nat} (hi : i < t.length) (hj : j <= i),t[j].2 <= t[i].2:=by
 intro i
 induction i with
 | zero=>intro j hi hj;have : j=0:=(by omega);subst this;exact x0M _
 | succ i ih =>
  intro j hi hj
  rcases Nat.lt_or_eq_of_le hj with h1 | rfl
  ·have h2:=((iX h hi).2.2 i rfl).2
   have:=ih (by omega) (show j <= i by omega)
   omega
  ·exact x0M _
theorem pK {t : List (Int × Int)} (h : ay t=true) (x : Int) : ∃ i j : Nat,∃ (hi : i < t.length) (hj : j < t.length),t[i].2 <= (bf t x).1 /\ (bf t x).1 <= t[j].2:=by
 obtain ⟨l1,l2⟩:=ce h
 have hpl:=gU t x
 unfold bf
 cases ha : atK t x
 ·by_cases c : bB t x=0
  ·have h0 : 0 < t.length:=by omega
   rw [if_pos (by simp [c]),c,x0g t 0 h0]
   exact ⟨0,0,h0,h0,x0M _,x0M _⟩
  rw [if_neg (by simp [c])]
  by_cases c2 : bB t x=t.length
  ·obtain ⟨n,hn⟩ : ∃ n,n + 1=t.length:=⟨t.length - 1,by omega⟩
   have hnl : n < t.length:=by omega
   rw [if_pos c2,show bB t x - 1=n by omega,x0g t n hnl]
   exact ⟨n,n,hnl,hnl,x0M _,x0M _⟩
  ·obtain ⟨k,u,a,d,q1,q2,g0,g1,r1,r2,r3,r4,r5,r6,r7,r8,r9,r10,s1,s2,r11,r12,r13⟩:=eb h c (by omega) ha
   rw [if_neg c2,s1,s2,vX r1 r2 r3]
   have b5 : u * a / d <= u:=by
    have h1 : u * a <= u * d:=x1J _ (by omega)
    have h1' : u * d=d * u:=x0T _ _
    exact Nat.le_of_lt_succ (Nat.div_lt_of_lt_mul (by rw [Nat.succ_eq_add_one,Nat.mul_add];omega))
   generalize u * a / d=q at b5
   exact ⟨k,k + 1,g0,g1,by simp only;omega,by simp only;omega⟩
 ·have hlt : bB t x < t.length:=by simp [atK] at ha;exact ha.1
  rw [if_pos (by simp),x0g t _ hlt]
  exact ⟨_,_,hlt,hlt,x0M _,x0M _⟩
theorem pL {t : List (Int × Int)} (h : ay t=true) (x : Int) : t[0]!.2 <= (bf t x).1 /\ (bf t x).1 <= (dP t).2:=by
 obtain ⟨l1,l2⟩:=ce h
 obtain ⟨i,j,hi,hj,h1,h2⟩:=pK h x
 obtain ⟨n,hn⟩ : ∃ n,n + 1=t.length:=⟨t.length - 1,by omega⟩
 have h0 : 0 < t.length:=by omega
 rw [cX hn,x0g t 0 h0]
 have k1:=dB h hi (show 0 <= i by omega)
 have k2:=dB h (show n < t.length by omega) (show j <= n by omega)
 omega
def jD (s : Sec) (depth fall len : Int) : Nat:=eP ((bf s.conv depth).1.toNat * (bf s.conv depth).1.toNat * fall.toNat / len.toNat)
def cz (s : Sec) (flow fall len : Int) (m : Nat) : Bool:=decide (flow <= (jD s m fall len : Int))
def ga (s : Sec) (flow fall len : Int) : Nat:=bis (cz s flow fall len) 40 0 (s.height.toNat + 1)
def cr (s : Sec) (flow fall len : Int) : Int × Int :=
 if ap s then (if 0 <= flow /\ flow <= 1099511627776 /\ bV fall len=true then (if s.height.toNat < ga s flow fall len then (0,28) else (ga s flow fall len,0)) else (0,2)) else (0,1)
theorem mX {s : Sec} (h : ap s=true) (x : Int) : 0 <= (bf s.conv x).1 /\ (bf s.conv x).1 <= 1099511627776:=by
 obtain ⟨h1,h2,h3,h4⟩:=fo h
 have hr:=pL h1 x
 simp only [ap,cy,x0a,x0c,x0o] at h
 have h0:=h.2.1.1.2.2
 omega
variable {C : CC} (hC : al prog C)
include hC
theorem rM (s : Sec) (depth fall len : Int) (hv : ap s=true) (hs : bV fall len=true) : C 61 [.agg (aY s),.int .i64 depth,.int .i64 fall,.int .i64 len] (.tup [.int .i64 (jD s depth fall len),.int .i64 0]) []:=by
 obtain ⟨c1,_,_,_⟩:=fo hv
 obtain ⟨c3,c4⟩:=mX hv depth
 simp only [bV,x0a,x0c] at hs
 have hF:=vF hC s.convN s.conv depth c1
 obtain ⟨k,hk⟩ : ∃ k : Nat,(bf s.conv depth).1=k:=⟨(bf s.conv depth).1.toNat,by omega⟩
 obtain ⟨f,rfl⟩ : ∃ f : Nat,fall=f:=⟨fall.toNat,by omega⟩
 obtain ⟨l,rfl⟩ : ∃ l : Nat,len=l:=⟨len.toNat,by omega⟩
 have hcap : jD s depth f l=eP (k * k * f / l):=by simp [jD,hk]
 rw [hk] at hF
 rw [hcap]
 have hb:=rL (k:=k) (f:=f) (by omega) (by omega)
 have hb0 : k * k <= 1208925819614629174706176:=x01 (show k <= 1099511627776 by omega) (show k <= 1099511627776 by omega)
 have hb2:=Nat.div_le_self (k * k * f) l
 refine aj hC (nf:=N61) rfl rfl ?_
 simp [N61,aY]
 refine aa hF (.inl rfl) ?_
 simp
 refine aa (oX hC k k (by omega) (by omega)) (.inl rfl) ?_
 have v : ∀ x,isV (cj x)=true /\ (∀ f : Nat -> D,bF f (cj x)) /\ (∀ f : Nat -> D,dp f (cj x)=cj x) /\ ∀ ks,aP ks (cj x)=cj x:=fun x=>⟨rfl,fun _=>trivial,fun _=>rfl,fun _=>by simp [cj]⟩
 simp [v]
 refine aa (ub hC (k * k) f (by omega) (by omega) (by omega)) (.inl rfl) ?_
 simp [v]
 refine aa (xg hC (k * k * f) l (by omega) (by omega) (by omega)) (.inl rfl) ?_
 simp [v]
 refine aa (xr hC (k * k * f / l)) (.inl rfl) ?_
 simp
theorem yv (s : Sec) (flow fall len : Int) : C 165 [.agg (aY s),.int .i64 flow,.int .i64 fall,.int .i64 len] (.tup [.int .i64 (cr s flow fall len).1,.int .i64 (cr s flow fall len).2]) []:=by
 obtain ⟨r,hr⟩ : ∃ r,r=cr s flow fall len:=⟨_,rfl⟩
 rw [<- hr]
 unfold cr at hr
 have hvc:=pU hC s
 have hsl:=tS hC fall len
 have es : (decide (0 <= fall) && decide (fall <= 4194304) && decide (1 <= len) && decide (len <= 16777216))=bV fall len:=rfl
 rw [es] at hsl
 rw [aY] at hvc
 refine aj hC (nf:=N165) rfl rfl ?_
 simp [N165,aY]
 refine aa hvc (.inl rfl) ?_
 cases hv : ap s
 ·rw [if_neg (by simp [hv])] at hr
  simp [hr]
 rw [if_pos hv] at hr
 have hh : 1 <= s.height /\ s.height <= 32768:=by
  simp only [ap,x0a,x0c] at hv
  omega
 obtain ⟨H,hH⟩ : ∃ H : Nat,s.height=H:=⟨s.height.toNat,by omega⟩
 simp
 refine ac (fun c1=>?_) (fun c1=>?_) <;> simp at c1 <;> simp [c1]
 ·rw [if_neg (by omega)] at hr
  simp [hr]
 refine ac (fun c2=>?_) (fun c2=>?_) <;> simp at c2 <;> simp [c2]
 ·rw [if_neg (by omega)] at hr
  simp [hr]
 refine aa hsl (.inl rfl) ?_
 cases hs : bV fall len
 ·rw [if_neg (by simp [hs])] at hr
  simp [hr]
 rw [if_pos ⟨by omega,by omega,hs⟩] at hr
 have e1 : IntKind.wrap .i64 (s.height + 1)=((H + 1 : Nat) : Int):=wrap_i64 (by omega) (by omega)
 simp [e1]
 refine ⟨ar (by decide +kernel),?_⟩
 have hl : ga s flow fall len=bis (cz s flow fall len) 40 0 (H + 1):=by rw [ga,hH];rfl
 obtain ⟨L,hL⟩ : ∃ L,L=ga s flow fall len:=⟨_,rfl⟩
 rw [<- hL] at hl hr
 rw [hH] at hr
 have hcc:=fun m : Nat=>rM hC s m fall len hv hs
 simp only [aY,hH] at hcc
 simp only [hH]
 refine az (Nat × Nat × Nat) (fun z=>[(1,.int .i64 flow),(2,.int .i64 fall),(3,.int .i64 len),(4,.ptr [.str s.name,.int .i64 H,.int .i64 s.price,slx s.areaN (s.area.map knD),slx s.convN (s.conv.map knD)]),(10,.int .i64 z.2.1),(11,.int .i64 z.2.2)])
  (fun z=>z.2.1 <= z.2.2 /\ z.2.2 <= H + 1 /\ z.2.2 - z.2.1 < 2 ^ z.1 /\ bis (cz s flow fall len) z.1 z.2.1 z.2.2=L) (fun z=>z.2.2 - z.2.1) (40,0,H + 1) ⟨by simp,by simp,by simp;omega,by rw [hl]⟩ (by simp) ?_
 rintro ⟨f,lo,hi⟩ ⟨i1,i2,i3,i4⟩
 simp only at i1 i2 i3 i4
 simp
 refine ac (fun c=>?_) (fun c=>?_) <;> simp at c <;> simp [c]
 ·obtain ⟨f',_,j2,j3,j4⟩:=p9 (p:=cz s flow fall len) c i3
  obtain ⟨sm,hsm⟩ : ∃ sm,sm=lo + hi:=⟨_,rfl⟩
  rw [<- hsm] at j2 j3 j4
  obtain ⟨m,hm⟩ : ∃ m,m=sm / 2:=⟨_,rfl⟩
  rw [<- hm] at j2 j3 j4
  have e2 : IntKind.wrap .i64 ((lo : Int) + (hi : Int))=(sm : Int):=wrap_i64 (by omega) (by omega)
  have e3 : Int.tdiv (sm : Int) 2=(m : Int):=by rw [hm];exact o8 sm 2
  have e4 : IntKind.wrap .i64 (m : Int)=(m : Int):=wrap_i64 rfl (by omega)
  have e5 : IntKind.wrap .i64 ((m : Int) + 1)=((m + 1 : Nat) : Int):=wrap_i64 (by omega) (by omega)
  rw [i4] at j4
  simp [e2,e3,e4]
  refine aa (hcc m) (.inl rfl) ?_
  simp
  refine ac (fun c3=>?_) (fun c3=>?_) <;> simp at c3 <;> simp [c3]
  ·rw [if_pos (by simp [cz,c3])] at j4
   exact ⟨f',lo,m,⟨by omega,by omega,j2,j4.symm⟩,by omega,by omega,by omega⟩
  ·rw [if_neg (by simp [cz];omega)] at j4
   simp [e5]
   exact ⟨f',m + 1,hi,⟨by omega,by omega,j3,j4.symm⟩,by omega,by omega,by omega⟩
 ·rw [pi _ _ _ _ c] at i4
  subst i4
  refine ac (fun c3=>?_) (fun c3=>?_) <;> simp at c3 <;> simp [c3]
  ·rw [if_pos (by simp;omega)] at hr
   simp [hr]
  ·rw [if_neg (by simp;omega)] at hr
   simp [hr]
end Go.Gv

namespace Go.Gv
def ck (k flow len n : Nat) : Bool:=decide (flow * flow * len <= k * k * n)
def fR (k flow len : Nat) : Int × Int:=if flow=0 then (0,0) else if k=0 then (0,16) else if ck k flow len 1073741824 then (bis (ck k flow len) 40 0 1073741824,0) else (0,5)
def cd (l : Lnk) (s : Sec) (flow : Int) : Int × Int:=fR (dP s.conv).2.toNat flow.toNat l.len.toNat
theorem Ca {q n : Nat} (hq : q <= 1099511627776) (hn : n <= 1073741824) : q * q * n <= 1298074214633706907132624082305024:=x01 (x01 hq hq) hn
variable {C : CC} (hC : al prog C)
include hC
theorem rk (q n : Nat) (hq : q < 9223372036854775808) (hn : n < 9223372036854775808) (hx : q * q < 340282366920938463463374607431768211456) (hxk : q * q * n < 340282366920938463463374607431768211456) : C 166 [.int .i64 q,.int .i64 n] (.tup [.int .u64 ((q * q * n / 18446744073709551616 : Nat) : Int),.int .u64 ((q * q * n % 18446744073709551616 : Nat) : Int)]) []:=by
 have k1:=gM hC q q (by omega) (by omega)
 obtain ⟨x,hxx⟩ : ∃ x,x=q * q:=⟨_,rfl⟩
 rw [<- hxx] at hx hxk k1 ⊢
 have e:=tE (x:=x) (k:=n)
 obtain ⟨h,hh⟩ : ∃ h,h=x / 18446744073709551616:=⟨_,rfl⟩
 obtain ⟨l,hl⟩ : ∃ l,l=x % 18446744073709551616:=⟨_,rfl⟩
 have hh' : h < 18446744073709551616:=by omega
 have hl' : l < 18446744073709551616:=by omega
 rw [<- hh,<- hl] at e k1
 have k2:=gM hC l n hl' (by omega)
 obtain ⟨p,hp⟩ : ∃ p,p=l * n / 18446744073709551616:=⟨_,rfl⟩
 obtain ⟨r,hr⟩ : ∃ r,r=l * n % 18446744073709551616:=⟨_,rfl⟩
 rw [<- hp,<- hr] at e k2
 have hq' : r < 18446744073709551616:=by omega
 obtain ⟨z,hz⟩ : ∃ z,z=h * n:=⟨_,rfl⟩
 obtain ⟨y,hy⟩ : ∃ y,y=x * n:=⟨_,rfl⟩
 rw [<- hz,<- hy] at e
 rw [<- hy] at hxk ⊢
 obtain ⟨t,ht⟩ : ∃ t,t=z + p:=⟨_,rfl⟩
 rw [<- ht] at e
 have e1 : y / 18446744073709551616=t:=by omega
 have e2 : y % 18446744073709551616=r:=by omega
 have ht' : t < 18446744073709551616:=by omega
 have et : IntKind.u64.wrap ((p : Int) + IntKind.u64.wrap ((h : Int) * (n : Int)))=(t : Int):=by
  rw [sC h n,<- hz,fH,fH]
  clear hxk hx e e1 e2 hr hp hl hh hy hz
  omega
 rw [e1,e2]
 clear e1 e2 e hh hl hx hxk hxx hp hr hz hy ht
 refine aj hC (nf:=N166) rfl rfl ?_
 simp [N166,bX q (by omega),bX n (by omega)]
 refine aa k1 (.inl rfl) ?_
 simp [bX n (by omega)]
 refine aa k2 (.inl rfl) ?_
 simp [et,bX n (by omega)]
theorem ww (k n a b : Nat) (hk : k <= 1099511627776) (hn : n <= 1073741824) (hb : b < 18446744073709551616) : C 167 [.int .i64 n,.ptr [.int .i64 k],.ptr [.int .u64 a],.ptr [.int .u64 b]] (.bool (decide (a * 18446744073709551616 + b <= k * k * n))) []:=by
 have h1:=Ca hk hn
 have h2 : k * k <= 1208925819614629174706176:=x01 hk hk
 have k1:=rk hC k n (by omega) (by omega) (by omega) (by omega)
 obtain ⟨z,hz⟩ : ∃ z,z=k * k * n:=⟨_,rfl⟩
 rw [<- hz] at k1 ⊢
 obtain ⟨h,hh⟩ : ∃ h,h=z / 18446744073709551616:=⟨_,rfl⟩
 obtain ⟨l,hl⟩ : ∃ l,l=z % 18446744073709551616:=⟨_,rfl⟩
 rw [<- hh,<- hl] at k1
 have e : decide (a * 18446744073709551616 + b <= z)=(decide (a < h) || (decide (h=a) && decide (b <= l))):=by
  rw [x0x];simp;omega
 rw [e]
 clear hz h1 h2
 refine aj hC (nf:=N167) rfl rfl ?_
 simp [N167]
 refine aa k1 (.inl rfl) ?_
 simp
 refine ac (fun c=>?_) (fun c=>?_) <;> simp at c <;> simp [c]
 refine ac (fun c2=>?_) (fun c2=>?_) <;> simp at c2 <;> simp [c2]
 ·simp [show ¬ a < h by omega,show h=a by omega]
 ·omega
theorem sy (l : Lnk) (s : Sec) (flow : Int) (hv : ap s=true) (hl : 1 <= l.len /\ l.len <= 16777216) (hf : 0 <= flow /\ flow <= 1099511627776) : C 163 [.agg (aF l),.agg (aY s),.int .i64 flow] (.tup [.int .i64 (cd l s flow).1,.int .i64 (cd l s flow).2]) []:=by
 obtain ⟨c1,c2,c3,c4⟩:=fo hv
 obtain ⟨l1,l2⟩:=ce c1
 obtain ⟨m,hm⟩ : ∃ m,m + 1=s.conv.length:=⟨s.conv.length - 1,by omega⟩
 have hml : m < s.conv.length:=by omega
 have e1 : IntKind.wrap .i64 ((s.conv.length : Int) - 1)=(m : Int):=wrap_i64 (by omega) (by omega)
 obtain ⟨k,hk⟩ : ∃ k : Nat,(dP s.conv).2=k:=⟨(dP s.conv).2.toNat,by omega⟩
 obtain ⟨f,rfl⟩ : ∃ f : Nat,flow=f:=⟨flow.toNat,by omega⟩
 obtain ⟨n,hn⟩ : ∃ n : Nat,l.len=n:=⟨l.len.toNat,by omega⟩
 have hk' : s.conv[m].2=k:=by rw [<- hk,cX hm]
 obtain ⟨r,hr⟩ : ∃ r,r=cd l s f:=⟨_,rfl⟩
 rw [<- hr]
 rw [cd,hk,hn] at hr
 simp only [Int.toNat_natCast] at hr
 unfold fR at hr
 have g1 : f * f * n <= 1298074214633706907132624082305024:=Ca (by omega) (by omega)
 have g2 : f * f <= 1208925819614629174706176:=x01 (show f <= 1099511627776 by omega) (show f <= 1099511627776 by omega)
 have k1:=rk hC f n (by omega) (by omega) (by omega) (by omega)
 obtain ⟨F,hF⟩ : ∃ F,F=f * f * n:=⟨_,rfl⟩
 obtain ⟨a,ha⟩ : ∃ a,a=F / 18446744073709551616:=⟨_,rfl⟩
 obtain ⟨b,hb⟩ : ∃ b,b=F % 18446744073709551616:=⟨_,rfl⟩
 rw [<- hF,<- ha,<- hb] at k1
 have hab : a * 18446744073709551616 + b=F:=by omega
 have k2:=fun (i : Nat) (hi : i <= 1073741824)=>ww hC k i a b (by omega) hi (by omega)
 have hen : ∀ i,decide (a * 18446744073709551616 + b <= k * k * i)=ck k f n i:=fun i=>by rw [ck,hab,hF]
 simp only [hen] at k2
 clear g1 g2 hF ha hb hab hen
 refine aj hC (nf:=N163) rfl rfl ?_
 simp [N163,aF,aY]
 refine ac (fun c=>?_) (fun c=>?_) <;> simp at c <;> simp [c]
 ·rw [if_pos (by omega)] at hr
  simp [hr]
 rw [if_neg (by omega)] at hr
 simp [e1,hml,knD,hk']
 refine ac (fun c5=>?_) (fun c5=>?_) <;> simp at c5 <;> simp [c5]
 ·rw [if_pos (by omega)] at hr
  simp [hr]
 rw [if_neg (by omega)] at hr
 simp [hn]
 refine aa k1 (.inl rfl) ?_
 simp
 have k3:=k2 1073741824 (by omega)
 rw [show ((1073741824 : Nat) : Int)=1073741824 from rfl] at k3
 refine aa k3 (.inl rfl) ?_
 cases h3 : ck k f n 1073741824
 ·rw [if_neg (by simp [h3])] at hr
  simp [hr]
 rw [if_pos h3] at hr
 simp
 obtain ⟨L,hL⟩ : ∃ L,L=bis (ck k f n) 40 0 1073741824:=⟨_,rfl⟩
 rw [<- hL] at hr
 refine az (Nat × Nat × Nat) (fun z=>[(11,.fnx 167 [.adr (.r 10128) 0 0,.adr (.r 10144) 0 0,.adr (.r 10160) 0 0]),(12,.int .i64 z.2.1),(13,.int .i64 z.2.2),(10128,.blk 1 [[.int .i64 k]]),(10144,.blk 1 [[.int .u64 a]]),(10160,.blk 1 [[.int .u64 b]])])
  (fun z=>z.2.1 <= z.2.2 /\ z.2.2 <= 1073741824 /\ z.2.2 - z.2.1 < 2 ^ z.1 /\ bis (ck k f n) z.1 z.2.1 z.2.2=L) (fun z=>z.2.2 - z.2.1) (40,0,1073741824) ⟨by simp,by simp,by simp,by rw [hL]⟩ (by simp) ?_
 rintro ⟨fu,lo,hi⟩ ⟨i1,i2,i3,i4⟩
 simp only at i1 i2 i3 i4
 simp
 refine ac (fun c=>?_) (fun c=>?_) <;> simp at c <;> simp [c]
 ·obtain ⟨f',_,j2,j3,j4⟩:=p9 (p:=ck k f n) c i3
  obtain ⟨sm,hsm⟩ : ∃ sm,sm=lo + hi:=⟨_,rfl⟩
  rw [<- hsm] at j2 j3 j4
  obtain ⟨m,hm⟩ : ∃ m,m=sm / 2:=⟨_,rfl⟩
  rw [<- hm] at j2 j3 j4
  have e2 : IntKind.wrap .i64 ((lo : Int) + (hi : Int))=(sm : Int):=wrap_i64 (by omega) (by omega)
  have e3 : Int.tdiv (sm : Int) 2=(m : Int):=by rw [hm];exact o8 sm 2
  have e4 : IntKind.wrap .i64 (m : Int)=(m : Int):=wrap_i64 rfl (by omega)
  have e5 : IntKind.wrap .i64 ((m : Int) + 1)=((m + 1 : Nat) : Int):=wrap_i64 (by omega) (by omega)
  rw [i4] at j4
  simp [e2,e3,e4]
  refine aa (k2 m (by omega)) (.inl rfl) ?_
  cases h4 : ck k f n m
  ·rw [if_neg (by simp [h4])] at j4
   simp [e5]
   exact ⟨f',m + 1,hi,⟨by omega,by omega,j3,j4.symm⟩,by omega,by omega,by omega⟩
  ·rw [if_pos h4] at j4
   simp
   exact ⟨f',lo,m,⟨by omega,by omega,j2,j4.symm⟩,by omega,by omega,by omega⟩
 ·rw [pi _ _ _ _ c] at i4
  subst i4
  simp [hr]
end Go.Gv

namespace Go.Gv
variable {C : CC} (hC : al prog C)
include hC
end Go.Gv

namespace Go.Gv
variable {C : CC} (hC : al prog C)
include hC
end Go.Gv

namespace Go.Gv
variable {C : CC} (hC : al prog C)
include hC
end Go.Gv

namespace Go.Gv
variable {C : CC} (hC : al prog C)
include hC
end Go.Gv

namespace Go.Gv
theorem gC {t : List (Int × Int)} {x : Int} (h : atK t x=true \/ bB t x=0) : (bf t x).1=t[bB t x]!.2:=by
 unfold bf;rw [if_pos (by rcases h with h | h <;> simp [h])]
theorem jN {t : List (Int × Int)} {x : Int} (h : ¬ atK t x=true) (h0 : ¬ bB t x=0) (h1 : bB t x=t.length) : (bf t x).1=t[bB t x - 1]!.2:=by
 unfold bf;rw [if_neg (by simp [h,h0]),if_pos h1]
theorem jM {t : List (Int × Int)} {x : Int} (h : ¬ atK t x=true) (h0 : ¬ bB t x=0) (h1 : ¬ bB t x=t.length) : (bf t x).1=(yE t[bB t x - 1]! t[bB t x]! x).1:=by
 unfold bf;rw [if_neg (by simp [h,h0]),if_neg h1]
variable {C : CC} (hC : al prog C)
include hC
end Go.Gv

namespace Go.Gv
variable {C : CC} (hC : al prog C)
include hC
end Go.Gv

namespace Go.Gv
def rP (s : Sec) (flow fall len : Int) : Int × Int :=
 if ap s then (if 0 <= flow /\ flow <= 1099511627776 /\ bV fall len=true then (if (jD s s.height fall len : Int) < flow then (0,28) else (bis (cz s flow fall len) 40 0 s.height.toNat,0)) else (0,2)) else (0,1)
variable {C : CC} (hC : al prog C)
include hC
end Go.Gv

namespace Go.Gv
def mxI (a b : Int) : Int:=if a < b then b else a
def cv (l : Lnk) : Int:=if 4194304 < l.up - l.down then 4194304 else l.up - l.down
def js (l : Lnk) (s : Sec) (flow level : Int) : Bool:=decide (level < l.down + s.height) && (decide ((fL s (cv l) l.len).2=5) || (decide ((fL s (cv l) l.len).2=0) && decide (flow <= (fL s (cv l) l.len).1)))
def ky (l : Lnk) (s : Sec) (flow level : Int) : Int × Int :=
 if (cd l s flow).2=0 then (if 1099511627776 < mxI (l.up + s.height) (level + (cd l s flow).1) then (0,5) else (mxI (l.up + s.height) (level + (cd l s flow).1),0)) else (0,(cd l s flow).2)
def pG (l : Lnk) (s : Sec) (flow level : Int) : Int × Int :=
 if (cr s flow (cv l) l.len).2=0 then (mxI (l.up + (cr s flow (cv l) l.len).1) level,0) else (0,(cr s flow (cv l) l.len).2)
def bz (l : Lnk) (s : Sec) (flow level : Int) : Int × Int:=if js l s flow level then pG l s flow level else ky l s flow level
def sV (l : Lnk) (s : Sec) (flow level : Int) : Int × Int :=
 if hJ l s=0 then (if l.up < l.down then (0,23) else if aT flow 0 1099511627776 && aT level (-4194304) 1099511627776 then bz l s flow level else (0,2)) else (0,hJ l s)
def qC (l : Lnk) (s : Sec) (flow : Int) : Int × Int :=
 if hJ l s=0 then (if aT flow 0 1099511627776 then cd l s flow else (0,2)) else (0,hJ l s)
theorem fS (k f n : Nat) : 0 <= (fR k f n).1 /\ (fR k f n).1 <= 1073741824:=by
 unfold fR
 have:=dw (ck k f n) 40 0 1073741824 (by omega)
 split
 ·simp
 split
 ·simp
 split
 ·simp only;omega
 ·simp
theorem kh {s : Sec} (hv : ap s=true) (flow fall len : Int) : 0 <= (cr s flow fall len).1 /\ (cr s flow fall len).1 <= s.height:=by
 have hh : 1 <= s.height /\ s.height <= 32768:=by
  simp only [ap,x0a,x0c] at hv
  omega
 unfold cr
 rw [if_pos hv]
 split
 ·split
  ·simp only;omega
  ·simp only;omega
 ·simp only;omega
theorem nv {l : Lnk} {s : Sec} (h : hJ l s=0) : ap s=true /\ 1 <= l.len /\ l.len <= 16777216 /\ bU l.up=true /\ bU l.down=true:=by
 unfold hJ at h
 split at h
 ·rename_i h1
  rw [x0a] at h1
  obtain ⟨h1,h2⟩:=h1
  split at h
  ·rename_i hk
   simp only [ca,jJ,hk,if_true,x0a,aT,x0c] at h1
   obtain ⟨⟨⟨_,h5⟩,_⟩,⟨h6,h7⟩,_⟩:=h1
   exact ⟨h2,h6.1,h6.2,h5,h7⟩
  ·omega
 ·omega
variable {C : CC} (hC : al prog C)
include hC
theorem pe (l : Lnk) (s : Sec) (flow level : Int) (hv : ap s=true) (hl : 1 <= l.len /\ l.len <= 16777216) (hu : bU l.up=true) (hd : bU l.down=true) (hf : 0 <= flow /\ flow <= 1099511627776) (hlv : -4194304 <= level /\ level <= 1099511627776) :
  C 162 [.agg (aF l),.agg (aY s),.int .i64 flow,.int .i64 level] (.tup [.int .i64 (bz l s flow level).1,.int .i64 (bz l s flow level).2]) []:=by
 have b1 : -4194304 <= l.up /\ l.up <= 4194304:=by simpa [bU] using hu
 have b2 : -4194304 <= l.down /\ l.down <= 4194304:=by simpa [bU] using hd
 have hh : 1 <= s.height /\ s.height <= 32768:=by
  simp only [ap,x0a,x0c] at hv
  omega
 have r1:=kh hv flow (cv l) l.len
 have r2 : 0 <= (cd l s flow).1 /\ (cd l s flow).1 <= 1073741824:=fS _ _ _
 have k1:=Cg hC s (cv l) l.len
 have k2:=yv hC s flow (cv l) l.len
 have k3:=sy hC l s flow hv hl hf
 have efall : (if 4194304 < l.up - l.down then 4194304 else l.up - l.down)=cv l:=rfl
 obtain ⟨r,hr⟩ : ∃ r,r=bz l s flow level:=⟨_,rfl⟩
 rw [<- hr]
 unfold bz js ky pG at hr
 obtain ⟨f1,hf1⟩ : ∃ z,z=(fL s (cv l) l.len).1:=⟨_,rfl⟩
 obtain ⟨f2,hf2⟩ : ∃ z,z=(fL s (cv l) l.len).2:=⟨_,rfl⟩
 obtain ⟨d1,hd1⟩ : ∃ z,z=(cr s flow (cv l) l.len).1:=⟨_,rfl⟩
 obtain ⟨d2,hd2⟩ : ∃ z,z=(cr s flow (cv l) l.len).2:=⟨_,rfl⟩
 obtain ⟨x1,hx1⟩ : ∃ z,z=(cd l s flow).1:=⟨_,rfl⟩
 obtain ⟨x2,hx2⟩ : ∃ z,z=(cd l s flow).2:=⟨_,rfl⟩
 rw [<- hf1,<- hf2] at k1 hr
 rw [<- hd1,<- hd2] at k2 hr
 rw [<- hx1,<- hx2] at k3 hr
 rw [<- hd1] at r1
 rw [<- hx1] at r2
 obtain ⟨fa,hfa⟩ : ∃ z,z=cv l:=⟨_,rfl⟩
 rw [<- hfa] at k1 k2 efall
 clear hf1 hf2 hd1 hd2 hx1 hx2 hfa
 simp only [aY,aF] at k1 k2 k3
 have w1 : IntKind.wrap .i64 (l.up - l.down)=l.up - l.down:=wrap_i64 rfl (by omega)
 have w2 : IntKind.wrap .i64 (l.down + s.height)=l.down + s.height:=wrap_i64 rfl (by omega)
 have w3 : IntKind.wrap .i64 (l.up + s.height)=l.up + s.height:=wrap_i64 rfl (by omega)
 have w4 : IntKind.wrap .i64 (level + x1)=level + x1:=wrap_i64 rfl (by omega)
 have w5 : IntKind.wrap .i64 (l.up + d1)=l.up + d1:=wrap_i64 rfl (by omega)
 have m1 : ∀ a b : Int,(if a < b then b else a)=mxI a b:=fun _ _=>rfl
 refine aj hC (nf:=N162) rfl rfl ?_
 simp [N162,aY,aF,w1,efall]
 refine aa k1 (.inl rfl) ?_
 simp [w2]
 refine ac (fun c1=>?_) (fun c1=>?_) <;> simp at c1 <;> simp [c1]
 ·refine ac (fun c2=>?_) (fun c2=>?_) <;> simp at c2 <;> simp [c2]
  ·rw [if_pos (by simp [c1,c2])] at hr
   refine aa k2 (.inl rfl) ?_
   simp
   refine ac (fun g=>?_) (fun g=>?_) <;> simp at g <;> simp [g]
   ·rw [if_neg g] at hr
    simp [hr]
   ·rw [if_pos g] at hr
    simp [w5,m1,hr]
  refine ac (fun c3=>?_) (fun c3=>?_) <;> simp at c3 <;> simp [c3]
  ·refine ac (fun c4=>?_) (fun c4=>?_) <;> simp at c4 <;> simp [c4]
   ·rw [if_pos (by simp [c1,c3,c4])] at hr
    refine aa k2 (.inl rfl) ?_
    simp
    refine ac (fun g=>?_) (fun g=>?_) <;> simp at g <;> simp [g]
    ·rw [if_neg g] at hr
     simp [hr]
    ·rw [if_pos g] at hr
     simp [w5,m1,hr]
   ·rw [if_neg (by simp [c3,show ¬ flow <= f1 by omega])] at hr
    refine aa k3 (.inl rfl) ?_
    simp
    refine ac (fun g=>?_) (fun g=>?_) <;> simp at g <;> simp [g]
    ·rw [if_neg g] at hr
     simp [hr]
    rw [if_pos g] at hr
    simp [w3,w4,m1]
    refine ac (fun g2=>?_) (fun g2=>?_) <;> simp at g2 <;> simp [g2]
    ·rw [if_pos g2] at hr
     simp [hr]
    ·rw [if_neg (by omega)] at hr
     simp [hr,w3,w4,m1]
  ·rw [if_neg (by simp [c2,c3])] at hr
   refine aa k3 (.inl rfl) ?_
   simp
   refine ac (fun g=>?_) (fun g=>?_) <;> simp at g <;> simp [g]
   ·rw [if_neg g] at hr
    simp [hr]
   rw [if_pos g] at hr
   simp [w3,w4,m1]
   refine ac (fun g2=>?_) (fun g2=>?_) <;> simp at g2 <;> simp [g2]
   ·rw [if_pos g2] at hr
    simp [hr]
   ·rw [if_neg (by omega)] at hr
    simp [hr,w3,w4,m1]
 ·rw [if_neg (by simp [show ¬ level < l.down + s.height by omega])] at hr
  refine aa k3 (.inl rfl) ?_
  simp
  refine ac (fun g=>?_) (fun g=>?_) <;> simp at g <;> simp [g]
  ·rw [if_neg g] at hr
   simp [hr]
  rw [if_pos g] at hr
  simp [w3,w4,m1]
  refine ac (fun g2=>?_) (fun g2=>?_) <;> simp at g2 <;> simp [g2]
  ·rw [if_pos g2] at hr
   simp [hr]
  ·rw [if_neg (by omega)] at hr
   simp [hr,w3,w4,m1]
theorem G7 (l : Lnk) (s : Sec) (flow level : Int) (hc : l.curve.length < 2 ^ 62) : C 156 [.agg (aF l),.agg (aY s),.int .i64 flow,.int .i64 level] (.tup [.int .i64 (sV l s flow level).1,.int .i64 (sV l s flow level).2]) []:=by
 have k1:=xj hC l s hc
 obtain ⟨r,hr⟩ : ∃ r,r=sV l s flow level:=⟨_,rfl⟩
 rw [<- hr]
 unfold sV at hr
 have ka:=fun h1 h2 h3 h4 h5=>pe hC l s flow level h1 h2 h3 h4 h5
 have hz:=@nv l s
 obtain ⟨e,he⟩ : ∃ e,e=hJ l s:=⟨_,rfl⟩
 rw [<- he] at k1 hr hz
 simp only [aY,aF] at k1 ka
 refine aj hC (nf:=N156) rfl rfl ?_
 simp [N156,aY,aF]
 refine aa k1 (.inl rfl) ?_
 simp
 refine ac (fun g=>?_) (fun g=>?_) <;> simp at g <;> simp [g]
 ·rw [if_neg g] at hr
  simp [hr]
 rw [if_pos g] at hr
 obtain ⟨z1,z2,z3,z4,z5⟩:=hz g
 refine ac (fun g1=>?_) (fun g1=>?_) <;> simp at g1 <;> simp [g1]
 ·rw [if_pos g1] at hr
  simp [hr]
 rw [if_neg (by omega)] at hr
 refine aa (lR hC flow 0 1099511627776) (.inl rfl) ?_
 cases g2 : aT flow 0 1099511627776
 ·rw [if_neg (by simp [g2])] at hr
  simp [hr]
 simp
 refine aa (lR hC level (-4194304) 1099511627776) (.inl rfl) ?_
 cases g3 : aT level (-4194304) 1099511627776
 ·rw [if_neg (by simp [g3])] at hr
  simp [hr]
 rw [if_pos (by simp [g2,g3])] at hr
 simp
 simp only [aT,x0a,x0c] at g2 g3
 refine aa (ka z1 ⟨z2,z3⟩ z4 z5 g2 g3) (.inl rfl) ?_
 simp [hr]
theorem yy (l : Lnk) (s : Sec) (flow : Int) (hc : l.curve.length < 2 ^ 62) : C 157 [.agg (aF l),.agg (aY s),.int .i64 flow] (.tup [.int .i64 (qC l s flow).1,.int .i64 (qC l s flow).2]) []:=by
 have k1:=xj hC l s hc
 obtain ⟨r,hr⟩ : ∃ r,r=qC l s flow:=⟨_,rfl⟩
 rw [<- hr]
 unfold qC at hr
 have ka:=fun h1 h2 h3=>sy hC l s flow h1 h2 h3
 have hz:=@nv l s
 obtain ⟨e,he⟩ : ∃ e,e=hJ l s:=⟨_,rfl⟩
 rw [<- he] at k1 hr hz
 simp only [aY,aF] at k1 ka
 refine aj hC (nf:=N157) rfl rfl ?_
 simp [N157,aY,aF]
 refine aa k1 (.inl rfl) ?_
 simp
 refine ac (fun g=>?_) (fun g=>?_) <;> simp at g <;> simp [g]
 ·rw [if_neg g] at hr
  simp [hr]
 rw [if_pos g] at hr
 obtain ⟨z1,z2,z3,z4,z5⟩:=hz g
 refine aa (lR hC flow 0 1099511627776) (.inl rfl) ?_
 cases g2 : aT flow 0 1099511627776
 ·rw [if_neg (by simp [g2])] at hr
  simp [hr]
 rw [if_pos g2] at hr
 simp
 simp only [aT,x0a,x0c] at g2
 refine aa (ka z1 ⟨z2,z3⟩ g2) (.inl rfl) ?_
 simp [hr]
end Go.Gv

namespace Go.Gv
variable {C : CC} (hC : al prog C)
include hC
end Go.Gv

namespace Go.Gv
theorem wY (a b : Int) : a <= mxI a b /\ b <= mxI a b:=by unfold mxI;split <;> omega
theorem dI {a b c d : Int} (h1 : a <= c) (h2 : b <= d) : mxI a b <= mxI c d:=by
 unfold mxI;split <;> split <;> omega
theorem kq {k f g n i : Nat} (h : f <= g) (he : ck k g n i=true) : ck k f n i=true:=by
 simp only [ck,x0c] at he ⊢
 exact x07 (x0s _ (x01 h h)) he
theorem sx {k f g n : Nat} (h : f <= g) (h1 : (fR k f n).2=0) (h2 : (fR k g n).2=0) : (fR k f n).1 <= (fR k g n).1:=by
 have hr:=fS k g n
 by_cases f0 : f=0
 ·have : fR k f n=(0,0):=by simp [fR,f0]
  rw [this];exact hr.1
 ·have g0 : ¬ g=0:=by omega
  unfold fR at h1 h2 ⊢
  rw [if_neg f0] at h1 ⊢
  rw [if_neg g0] at h2 ⊢
  by_cases k0 : k=0
  ·rw [if_pos k0] at h1;simp at h1
  ·rw [if_neg k0] at h1 h2 ⊢
   rw [if_neg k0]
   by_cases e1 : ck k f n 1073741824=true
   ·rw [if_pos e1]
    by_cases e2 : ck k g n 1073741824=true
    ·rw [if_pos e2]
     have:=j9 (p:=ck k f n) (q:=ck k g n) (fun i hi=>kq h hi) 40 0 1073741824 (by omega)
     simp only
     omega
    ·rw [if_neg e2] at h2;simp at h2
   ·rw [if_neg e1] at h1;simp at h1
theorem qv {s : Sec} {f g fall len : Int} (h : f <= g) : ga s f fall len <= ga s g fall len:=by
 refine j9 (fun n hn=>?_) _ _ _ (by omega)
 simp only [cz,x0c] at hn ⊢
 omega
theorem lr {s : Sec} {f fall len : Int} (h : (cr s f fall len).2=0) : ap s=true /\ 0 <= f /\ (cr s f fall len).1=ga s f fall len /\ ga s f fall len <= s.height.toNat:=by
 unfold cr at h ⊢
 split at h
 ·rename_i hv
  rw [if_pos hv]
  split at h
  ·rename_i hc
   rw [if_pos hc]
   split at h
   ·simp at h
   ·rename_i hl
    rw [if_neg hl]
    exact ⟨hv,hc.1,rfl,by omega⟩
  ·simp at h
 ·simp at h
theorem u2 {l : Lnk} {s : Sec} {f g level : Int} (h : f <= g) (hb : js l s g level=true) : js l s f level=true:=by
 simp only [js,x0a,x0K,x0c] at hb ⊢
 refine ⟨hb.1,?_⟩
 rcases hb.2 with h1 | ⟨h1,h2⟩
 ·exact .inl h1
 ·exact .inr ⟨h1,by omega⟩
theorem sA {l : Lnk} {s : Sec} {f a b : Int} (h : a <= b) (hb : js l s f b=true) : js l s f a=true:=by
 simp only [js,x0a,x0c] at hb ⊢
 exact ⟨by omega,hb.2⟩
theorem iz {l : Lnk} {s : Sec} {f v : Int} (h : (ky l s f v).2=0) : (cd l s f).2=0 /\ (ky l s f v).1=mxI (l.up + s.height) (v + (cd l s f).1):=by
 unfold ky at h ⊢
 split at h
 ·rename_i h1
  rw [if_pos h1]
  split at h
  ·simp at h
  ·rename_i h2
   rw [if_neg h2]
   exact ⟨h1,rfl⟩
 ·rename_i h1;exact absurd h h1
theorem kC {l : Lnk} {s : Sec} {f v : Int} (h : (pG l s f v).2=0) : (cr s f (cv l) l.len).2=0 /\ (pG l s f v).1=mxI (l.up + (cr s f (cv l) l.len).1) v:=by
 unfold pG at h ⊢
 split at h
 ·rename_i h1
  rw [if_pos h1]
  exact ⟨h1,rfl⟩
 ·rename_i h1;exact absurd h h1
theorem l6 {l : Lnk} {s : Sec} {f g v w : Int} (hv : v <= w) (h1 : (pG l s f v).2=0) (h2 : (ky l s g w).2=0) : (pG l s f v).1 <= (ky l s g w).1:=by
 obtain ⟨a1,a2⟩:=kC h1
 obtain ⟨b1,b2⟩:=iz h2
 obtain ⟨c1,c2,c3,c4⟩:=lr a1
 have hh : 1 <= s.height:=by
  simp only [ap,x0a,x0c] at c1
  omega
 have hr : 0 <= (cd l s g).1:=(fS _ _ _).1
 rw [a2,b2,c3]
 exact dI (by omega) (by omega)
theorem dR {l : Lnk} {s : Sec} {f v : Int} (b : js l s f v=true) : bz l s f v=pG l s f v:=by unfold bz;rw [if_pos b]
theorem fy {l : Lnk} {s : Sec} {f v : Int} (b : ¬ js l s f v=true) : bz l s f v=ky l s f v:=by unfold bz;rw [if_neg b]
theorem pZ {l : Lnk} {s : Sec} {f g v : Int} (h : f <= g) (h1 : (bz l s f v).2=0) (h2 : (bz l s g v).2=0) : (bz l s f v).1 <= (bz l s g v).1:=by
 by_cases b2 : js l s g v=true
 ·have b1:=u2 h b2
  rw [dR b2] at h2 ⊢
  rw [dR b1] at h1 ⊢
  obtain ⟨a1,a2⟩:=kC h1
  obtain ⟨c1,c2⟩:=kC h2
  obtain ⟨_,_,d3,_⟩:=lr a1
  obtain ⟨_,_,e3,_⟩:=lr c1
  rw [a2,c2,d3,e3]
  have:=qv (s:=s) (fall:=cv l) (len:=l.len) h
  exact dI (by omega) (x0M _)
 ·rw [fy b2] at h2 ⊢
  by_cases b1 : js l s f v=true
  ·rw [dR b1] at h1 ⊢
   exact l6 (x0M _) h1 h2
  ·rw [fy b1] at h1 ⊢
   obtain ⟨a1,a2⟩:=iz h1
   obtain ⟨c1,c2⟩:=iz h2
   rw [a2,c2]
   have hl : (cd l s f).1 <= (cd l s g).1:=sx (by omega) a1 c1
   exact dI (x0M _) (by omega)
theorem pd {l : Lnk} {s : Sec} {f v w : Int} (h : v <= w) (h1 : (bz l s f v).2=0) (h2 : (bz l s f w).2=0) : (bz l s f v).1 <= (bz l s f w).1:=by
 by_cases b2 : js l s f w=true
 ·have b1:=sA h b2
  rw [dR b2] at h2 ⊢
  rw [dR b1] at h1 ⊢
  obtain ⟨a1,a2⟩:=kC h1
  obtain ⟨c1,c2⟩:=kC h2
  rw [a2,c2]
  exact dI (x0M _) h
 ·rw [fy b2] at h2 ⊢
  by_cases b1 : js l s f v=true
  ·rw [dR b1] at h1 ⊢
   exact l6 h h1 h2
  ·rw [fy b1] at h1 ⊢
   obtain ⟨a1,a2⟩:=iz h1
   obtain ⟨c1,c2⟩:=iz h2
   rw [a2,c2]
   exact dI (x0M _) (by omega)
end Go.Gv

namespace Go.Gv
end Go.Gv

namespace Go.Gv
theorem i8 {p : Nat -> Bool} (hm : ∀ a b,a <= b -> p a=true -> p b=true) : ∀ (f lo hi : Nat),lo <= hi -> hi - lo < 2 ^ f -> (∀ m,lo <= m -> m < bis p f lo hi -> p m=false) /\ (bis p f lo hi < hi -> p (bis p f lo hi)=true)
 | 0,lo,hi,h1,h2=>by
  simp at h2
  have : lo=hi:=by omega
  subst this
  exact ⟨fun m h3 h4=>absurd h4 (by simp only [bis];omega),fun h3=>absurd h3 (by simp only [bis];omega)⟩
 | f + 1,lo,hi,h1,h2=>by
  rw [Nat.pow_succ] at h2
  by_cases h : lo < hi
  ·by_cases hp : p ((lo + hi) / 2)=true
   ·have e : bis p (f + 1) lo hi=bis p f lo ((lo + hi) / 2):=by simp only [bis];rw [if_pos h,if_pos hp]
    have ih:=i8 hm f lo ((lo + hi) / 2) (by omega) (by omega)
    have hr:=dw p f lo ((lo + hi) / 2) (by omega)
    rw [e]
    refine ⟨ih.1,fun _=>?_⟩
    by_cases h5 : bis p f lo ((lo + hi) / 2) < (lo + hi) / 2
    ·exact ih.2 h5
    ·have : bis p f lo ((lo + hi) / 2)=(lo + hi) / 2:=by omega
     rw [this];exact hp
   ·have e : bis p (f + 1) lo hi=bis p f ((lo + hi) / 2 + 1) hi:=by simp only [bis];rw [if_pos h,if_neg hp]
    have ih:=i8 hm f ((lo + hi) / 2 + 1) hi (by omega) (by omega)
    rw [e]
    refine ⟨fun m h3 h4=>?_,ih.2⟩
    by_cases h5 : (lo + hi) / 2 + 1 <= m
    ·exact ih.1 m h5 h4
    ·cases hpm : p m
     ·rfl
     ·exact absurd (hm m ((lo + hi) / 2) (by omega) hpm) hp
  ·have e : bis p (f + 1) lo hi=lo:=pi p _ _ _ (by omega)
   rw [e]
   exact ⟨fun m h3 h4=>absurd h4 (by omega),fun h3=>absurd h3 h⟩
theorem Cs {p : Nat -> Bool} (hm : ∀ a b,a <= b -> p a=true -> p b=true) {f lo hi r : Nat} (h1 : lo <= r) (h2 : r <= hi) (hf : hi - lo < 2 ^ f) (h3 : ∀ m,lo <= m -> m < r -> p m=false) (h4 : r < hi -> p r=true) : bis p f lo hi=r:=by
 obtain ⟨a,b⟩:=i8 hm f lo hi (by omega) hf
 obtain ⟨c,d⟩:=dw p f lo hi (by omega)
 rcases Nat.lt_trichotomy (bis p f lo hi) r with h | h | h
 ·have e1:=h3 _ c h
  rw [b (by omega)] at e1;cases e1
 ·exact h
 ·have e1:=a r h1 h
  rw [h4 (by omega)] at e1;cases e1
theorem jV : ∀ (i x r : Nat),r * r <= x -> x < (r + 2 ^ i) * (r + 2 ^ i) -> ia x i r * ia x i r <= x /\ x < (ia x i r + 1) * (ia x i r + 1)
 | 0,x,r,h1,h2=>⟨h1,h2⟩
 | i + 1,x,r,h1,h2=>by
  rw [nH]
  have e : (2 : Nat) ^ (i + 1)=2 ^ i + 2 ^ i:=by rw [Nat.pow_succ];omega
  rw [e,<- x0P] at h2
  by_cases h : (r + 2 ^ i) * (r + 2 ^ i) <= x
  ·rw [if_pos h];exact jV i x _ h h2
  ·rw [if_neg h];exact jV i x _ h1 (by omega)
theorem nI {x : Nat} (h : x < 85070591730234615865843651857942052864) : eP x * eP x <= x /\ x < (eP x + 1) * (eP x + 1):=by
 refine jV 63 x 0 (by omega) ?_
 have e : (0 + 2 ^ 63) * (0 + 2 ^ 63)=85070591730234615865843651857942052864:=by decide +kernel
 rw [e];exact h
theorem sM {x y : Nat} (h : x <= y) (hy : y < 85070591730234615865843651857942052864) : eP x <= eP y:=by
 obtain ⟨a,_⟩:=nI (x:=x) (by omega)
 obtain ⟨_,d⟩:=nI hy
 apply Nat.le_of_not_lt
 intro hlt
 have:=x01 (show eP y + 1 <= eP x from hlt) (show eP y + 1 <= eP x from hlt)
 omega
theorem ot {t : List (Int × Int)} {x : Int} (hv : ay t=true) (ha : ¬ atK t x=true) (h0 : ¬ bB t x=0) (h1 : ¬ bB t x=t.length) :
  ∃ k,∃ (g0 : k < t.length) (g1 : k + 1 < t.length),bB t x=k + 1 /\ t[k].1 < x /\ x < t[k + 1].1 /\ t[k].2 <= (bf t x).1 /\ (bf t x).1 <= t[k + 1].2:=by
 have hpl:=gU t x
 obtain ⟨k,u,a,d,q1,q2,g0,g1,r1,r2,r3,r4,r5,r6,r7,r8,r9,r10,s1,s2,r11,r12,r13⟩:=eb hv h0 (by omega) (by simpa using ha)
 rw [jM ha h0 h1,s1,s2,vX r1 r2 r3]
 have b5 : u * a / d <= u:=by
  have h1 : u * a <= u * d:=x1J _ (by omega)
  have h1' : u * d=d * u:=x0T _ _
  exact Nat.le_of_lt_succ (Nat.div_lt_of_lt_mul (by rw [Nat.succ_eq_add_one,Nat.mul_add];omega))
 generalize u * a / d=q at b5
 exact ⟨k,g0,g1,q1,by omega,by omega,by simp only;omega,by simp only;omega⟩
theorem mw {t : List (Int × Int)} {x : Int} (ha : atK t x=true) : ∃ (hl : bB t x < t.length),t[bB t x].1=x /\ (bf t x).1=t[bB t x].2:=by
 have hl : bB t x < t.length:=by simp [atK] at ha;exact ha.1
 have e : t[bB t x]! = t[bB t x]:=x0g t _ hl
 have h1:=gC (.inl ha)
 simp only [atK,hl,decide_true,Bool.true_and,x0c,e] at ha
 exact ⟨hl,ha,by rw [h1,e]⟩
theorem qQ {t : List (Int × Int)} (hv : ay t=true) {x : Int} {j : Nat} (hj : j < t.length) (h : x <= t[j].1) : (bf t x).1 <= t[j].2:=by
 have hp:=jQ hj h
 by_cases ha : atK t x=true
 ·obtain ⟨hl,_,e⟩:=mw ha
  rw [e];exact dB hv hj hp
 by_cases h0 : bB t x=0
 ·rw [gC (.inr h0),h0,x0g t 0 (by omega)]
  exact dB hv hj (by omega)
 obtain ⟨k,g0,g1,q1,_,_,_,q2⟩:=ot hv ha h0 (by omega)
 have:=dB hv hj (show k + 1 <= j by omega)
 omega
theorem oW {t : List (Int × Int)} (hv : ay t=true) {x : Int} {i : Nat} (hi : i < t.length) (h : t[i].1 <= x) : t[i].2 <= (bf t x).1:=by
 have hpl:=gU t x
 by_cases ha : atK t x=true
 ·obtain ⟨hl,e1,e⟩:=mw ha
  rw [e]
  by_cases hip : i <= bB t x
  ·exact dB hv hl hip
  ·have:=jn hv (bB t x) i hi (by omega)
   omega
 by_cases h0 : bB t x=0
 ·rw [gC (.inr h0),h0,x0g t 0 (by omega)]
  have h1:=kQ (t:=t) (x:=x) (by omega)
  simp only [h0] at h1
  have hi0 : i=0:=by
   apply Classical.byContradiction
   intro hne
   have:=jn hv 0 i hi (by omega)
   omega
  subst hi0
  exact x0M _
 by_cases h1 : bB t x=t.length
 ·obtain ⟨n,hn⟩ : ∃ n,n + 1=t.length:=⟨t.length - 1,by omega⟩
  rw [jN ha h0 h1,show bB t x - 1=n by omega,x0g t n (by omega)]
  exact dB hv (by omega) (by omega)
 obtain ⟨k,g0,g1,q1,_,q3,q4,_⟩:=ot hv ha h0 h1
 have hik : i <= k:=by
  apply Nat.le_of_not_lt
  intro hne
  have:=rr hv hi (show k + 1 <= i by omega)
  omega
 have:=dB hv g0 hik
 omega
theorem sG {t : List (Int × Int)} (hv : ay t=true) {x y : Int} (h : x <= y) : (bf t x).1 <= (bf t y).1:=by
 obtain ⟨l1,l2⟩:=ce hv
 have hpx:=gU t x
 have hpy:=gU t y
 by_cases hk : ∃ j,∃ (hj : j < t.length),x <= t[j].1 /\ t[j].1 <= y
 ·obtain ⟨j,hj,h1,h2⟩:=hk
  have:=qQ hv hj h1
  have:=oW hv hj h2
  omega
 have nk : ∀ j,(hj : j < t.length) -> x <= t[j].1 -> y < t[j].1:=fun j hj h1=>by
  apply Classical.byContradiction
  intro hn
  exact hk ⟨j,hj,h1,by omega⟩
 have hax : ¬ atK t x=true:=fun ha=>by
  obtain ⟨hl,e1,_⟩:=mw ha
  have:=nk _ hl (by omega)
  omega
 have hay : ¬ atK t y=true:=fun ha=>by
  obtain ⟨hl,e1,_⟩:=mw ha
  exact hk ⟨_,hl,by omega,by omega⟩
 have hpp : bB t y=bB t x:=by
  apply Nat.le_antisymm
  ·by_cases hl : bB t x < t.length
   ·have h1:=kQ hl
    have:=nk _ hl h1
    exact jQ hl (by omega)
   ·omega
  ·apply Nat.le_of_not_lt
   intro hlt
   have h1:=kQ (t:=t) (x:=y) (by omega)
   have h2:=pM (t:=t) (x:=x) hlt (by omega)
   omega
 by_cases h0 : bB t x=0
 ·rw [gC (.inr h0),gC (.inr (by omega)),hpp];exact x0M _
 by_cases h1 : bB t x=t.length
 ·rw [jN hax h0 h1,jN hay (by omega) (by omega),hpp];exact x0M _
 obtain ⟨k,u,a,d,q1,q2,g0,g1,r1,r2,r3,r4,r5,r6,r7,r8,r9,r10,s1,s2,r11,r12,r13⟩:=eb hv h0 (by omega) (by simpa using hax)
 rw [jM hax h0 h1,jM hay (by omega) (by omega),hpp,s1,s2,vX r1 r2 r3]
 have r2' : y - t[k].1=((a + (y - x).toNat : Nat) : Int):=by omega
 rw [vX r1 r2' r3]
 have:=Nat.div_le_div_right (c:=d) (x1J u (show a <= a + (y - x).toNat by omega))
 simp only
 omega
theorem uD {s : Sec} (hv : ap s=true) {fall len x y : Int} (hs : bV fall len=true) (h : x <= y) : jD s x fall len <= jD s y fall len:=by
 obtain ⟨h1,_,_,_⟩:=fo hv
 have c1:=mX hv x
 have c2:=mX hv y
 have hm:=sG h1 h
 simp only [bV,x0a,x0c] at hs
 unfold jD
 have hk : (bf s.conv x).1.toNat <= (bf s.conv y).1.toNat:=by omega
 have hb:=rL (k:=(bf s.conv y).1.toNat) (f:=fall.toNat) (by omega) (by omega)
 have hb2:=Nat.div_le_self ((bf s.conv y).1.toNat * (bf s.conv y).1.toNat * fall.toNat) len.toNat
 refine sM (Nat.div_le_div_right (x0s _ (x01 hk hk))) (by omega)
theorem uL (s : Sec) (flow fall len : Int) : rP s flow fall len=cr s flow fall len:=by
 unfold rP cr
 by_cases hv : ap s=true
 ·rw [if_pos hv,if_pos hv]
  by_cases hc : 0 <= flow /\ flow <= 1099511627776 /\ bV fall len=true
  ·rw [if_pos hc,if_pos hc]
   have hh : 1 <= s.height /\ s.height <= 32768:=by
    simp only [ap,x0a,x0c] at hv
    omega
   have h40 : (2 : Nat) ^ 40=1099511627776:=by decide +kernel
   obtain ⟨H,hH⟩ : ∃ H : Nat,s.height=H:=⟨s.height.toNat,by omega⟩
   have hm : ∀ a b,a <= b -> cz s flow fall len a=true -> cz s flow fall len b=true:=fun a b hab ha=>by
    simp only [cz,x0c] at ha ⊢
    have:=uD hv hc.2.2 (show (a : Int) <= (b : Int) by omega)
    omega
   rw [hH,Int.toNat_natCast]
   unfold ga
   rw [hH,Int.toNat_natCast]
   have hp : ((jD s H fall len : Int) < flow) ↔ ¬ cz s flow fall len H=true:=by
    simp only [cz,x0c];omega
   obtain ⟨a,b⟩:=i8 hm 40 0 (H + 1) (by omega) (by rw [h40];omega)
   have hr:=dw (cz s flow fall len) 40 0 (H + 1) (by omega)
   obtain ⟨L,hL⟩ : ∃ L,L=bis (cz s flow fall len) 40 0 (H + 1):=⟨_,rfl⟩
   rw [<- hL] at a b hr ⊢
   by_cases he : cz s flow fall len H=true
   ·have hLH : L <= H:=by
     apply Nat.le_of_not_lt
     intro hlt
     have:=a H (by omega) hlt
     rw [he] at this;cases this
    rw [if_neg (by rw [hp];simp [he]),if_neg (by omega)]
    rw [Cs hm (r:=L) (by omega) hLH (by rw [h40];omega) a (fun _=>b (by omega))]
   ·have hLH : H < L:=by
     apply Nat.lt_of_not_le
     intro hle
     exact he (hm L H hle (b (by omega)))
    rw [if_pos (hp.2 he),if_pos hLH]
  ·rw [if_neg hc,if_neg hc]
 ·rw [if_neg hv,if_neg hv]
theorem Cv {s : Sec} (hv : ap s=true) (fall len : Int) : jD s s.height fall len=mV s fall len:=by
 obtain ⟨h1,h2,_,_⟩:=fo hv
 obtain ⟨l1,l2⟩:=ce h1
 obtain ⟨n,hn⟩ : ∃ n,n + 1=s.conv.length:=⟨s.conv.length - 1,by omega⟩
 have hnl : n < s.conv.length:=by omega
 have e : (bf s.conv s.height).1=(dP s.conv).2:=by
  rw [cX hn] at h2 ⊢
  have a:=qQ h1 hnl (x:=s.height) (by omega)
  have b:=oW h1 hnl (x:=s.height) (by omega)
  omega
 unfold jD mV
 rw [e]
end Go.Gv

namespace Go.Gv
abbrev Edg:=Nat × Nat
def edK (e : Edg) : List D:=knD ((e.1 : Int),(e.2 : Int))
def edI (e : Edg) : Int × Int:=((e.1 : Int),(e.2 : Int))
theorem pt (es : List Edg) : es.map edK=(es.map edI).map knD:=by simp [edK,edI]
def aW (l : List Nat) : List (List D):=l.map fun k : Nat=>[.int .i64 (k : Int)]
def inG (n : Nat) (es : List Edg) : Prop:=∀ e ∈ es,e.1 < n /\ e.2 < n
def nxt (n : Nat) (es : List Edg) (i : Nat) : List Nat:=(List.range n).filter fun k=>es.contains (i,k)
theorem ee {n : Nat} {es : List Edg} {i k : Nat} : k ∈ nxt n es i ↔ k < n /\ (i,k) ∈ es:=by simp [nxt]
theorem oT (n : Nat) (es : List Edg) (i : Nat) : (nxt n es i).Nodup:=List.Pairwise.filter _ List.nodup_range
theorem mD (n : Nat) (es : List Edg) (i : Nat) : (nxt n es i).length <= n:=by
 have:=x02 (fun k=>es.contains (i,k)) (List.range n)
 simpa [nxt] using this
theorem iP {α : Type} {n k : Nat} {f : Nat -> α} (x : α) : ((List.range n).map f).set k x=(List.range n).map fun v=>if v=k then x else f v:=by
 apply List.ext_getElem
 ·simp
 ·intro i h1 h2
  simp only [List.getElem_set,List.getElem_map,List.getElem_range]
  by_cases e : k=i
  ·rw [if_pos e,if_pos e.symm]
  ·rw [if_neg e,if_neg (Ne.symm e)]
def tgs (es : List Edg) (i : Nat) : List Nat:=(es.filter fun e=>e.1 == i).map (·.2)
theorem kD {es : List Edg} {i k : Nat} : k ∈ tgs es i ↔ (i,k) ∈ es:=by
 unfold tgs
 simp only [x0t,List.mem_filter,x0o]
 constructor
 ·rintro ⟨⟨a,b⟩,⟨h1,h2⟩,h3⟩
  simp only at h2 h3
  subst h2 h3
  exact h1
 ·intro h
  exact ⟨(i,k),⟨h,rfl⟩,rfl⟩
theorem rp {es : List Edg} {j : Nat} (hj : j < es.length) (v : Nat) : tgs (es.take (j + 1)) v=tgs (es.take j) v++(if es[j].1=v then [es[j].2] else []):=by
 unfold tgs
 rw [x0u hj,List.filter_append,x1b]
 congr 1
 by_cases h : es[j].1=v <;> simp [h]
theorem mJ (es : List Edg) (i : Nat) : (tgs es i).length <= es.length:=by
 unfold tgs
 rw [x1a]
 exact x02 _ _
def kR (es : List Edg) (out : List Nat) (v : Nat) : Bool:=es.all fun e=>!(e.2 == v) || out.contains e.1
theorem kS {es : List Edg} {out : List Nat} {v : Nat} : kR es out v=true ↔ ∀ u,(u,v) ∈ es -> u ∈ out:=by
 unfold kR
 simp only [x0f,x0K,x0q,beq_eq_false_iff_ne,x0F]
 constructor
 ·intro h u hu
  rcases h _ hu with h | h
  ·exact absurd rfl h
  ·exact h
 ·rintro h ⟨a,b⟩ he
  by_cases e : b=v
  ·subst e;exact .inr (h a he)
  ·exact .inl e
def cT (n : Nat) (es : List Edg) (out : List Nat) : List Nat:=(List.range n).filter fun v=>!out.contains v && kR es out v
theorem gx {n : Nat} {es : List Edg} {out : List Nat} {v : Nat} : v ∈ cT n es out ↔ v < n /\ v ∉ out /\ ∀ u,(u,v) ∈ es -> u ∈ out:=by
 simp only [cT,List.mem_filter,x1o,x0a,x0q,<- kS]
 simp
def iT (n : Nat) (es : List Edg) (out : List Nat) : List Nat:=match cT n es out with
 | []=>out
 | v::_=>out++[v]
def aM (n : Nat) (es : List Edg) : Nat -> List Nat
 | 0=>[]
 | m + 1=>iT n es (aM n es m)
def aX (n : Nat) (es : List Edg) : List Nat:=aM n es n
def ef (n : Nat) (es : List Edg) (out : List Nat) (k : Nat) : Nat:=((List.range n).filter fun u=>es.contains (u,k) && !out.contains u).length
def lq (es : List Edg) (i k : Nat) : Nat:=((List.range i).filter fun u=>es.contains (u,k)).length
theorem wc (n : Nat) (es : List Edg) (k : Nat) : lq es n k=ef n es [] k:=by
 unfold lq ef
 congr 1
 apply List.filter_congr
 simp
theorem uG (es : List Edg) (i k : Nat) : lq es (i + 1) k=lq es i k + (if (i,k) ∈ es then 1 else 0):=by
 unfold lq
 rw [List.range_succ,List.filter_append,x0I]
 by_cases h : (i,k) ∈ es <;> simp [h]
theorem yP (es : List Edg) (i k : Nat) : lq es i k <= i:=by
 have:=x02 (fun u=>es.contains (u,k)) (List.range i)
 simpa [lq] using this
theorem ov {n : Nat} {es : List Edg} (hg : inG n es) {out : List Nat} {k : Nat} : ef n es out k=0 ↔ kR es out k=true:=by
 rw [kS]
 unfold ef
 rw [List.length_eq_zero_iff,List.filter_eq_nil_iff]
 constructor
 ·intro h u hu
  have:=h u (by simpa using (hg _ hu).1)
  simp at this
  exact this hu
 ·intro h u hu
  simp
  exact fun he=>h u he
theorem lv {α : Type} (l : List α) (p q : α -> Bool) : (l.filter p).length=(l.filter fun a=>p a && q a).length + (l.filter fun a=>p a && !q a).length:=by
 induction l with
 | nil=>rfl
 | cons a l ih =>
  simp only [List.filter_cons]
  cases p a <;> cases q a <;> simp <;> omega
theorem ou {n : Nat} {es : List Edg} {out : List Nat} {i : Nat} (hi : i < n) (ho : i ∉ out) (k : Nat) : ef n es out k=ef n es (out++[i]) k + (if (i,k) ∈ es then 1 else 0):=by
 unfold ef
 rw [lv (List.range n) (fun u=>es.contains (u,k) && !out.contains u) (fun u=>!(u == i))]
 congr 1
 ·congr 1
  apply List.filter_congr
  intro u _
  rw [x0x]
  simp [and_assoc]
 ·have e : (List.range n).filter (fun a=>(es.contains (a,k) && !out.contains a) && !!(a == i))=if (i,k) ∈ es then [i] else []:=by
   have h1 : (List.range n).filter (fun a=>(es.contains (a,k) && !out.contains a) && !!(a == i))=((List.range n).filter (fun a=>a == i)).filter fun a=>es.contains (a,k) && !out.contains a:=by
    rw [List.filter_filter]
    apply List.filter_congr
    intro u _
    simp
   have h2 : (List.range n).filter (fun a=>a == i)=[i]:=by
    have : (List.range n).filter (fun a=>a == i)=List.replicate ((List.range n).count i) i:=List.filter_beq i
    rw [this,List.nodup_range.count,if_pos (by simpa using hi)]
    rfl
   rw [h1,h2]
   by_cases h : (i,k) ∈ es <;> simp [h,ho]
  rw [e]
  split <;> rfl
end Go.Gv

namespace Go.Gv
structure SlC (C : CC) : Prop where
 sort : ∀ zs : List Int,zs.length < 2 ^ 40 -> C 366 [.own 1 (zs.map fun n=>[.int .i64 n])] .any [.own 1 ((zs.mergeSort fun x y=>decide (x <= y)).map fun n=>[.int .i64 n]),.nilp]
 compact : ∀ zs : List Int,zs.length < 2 ^ 40 -> C 523 [.own 1 (zs.map fun n=>[.int .i64 n])] .any [.own 1 ((Lib.compact zs).map fun n=>[.int .i64 n]),.nils,.nils]
 insert : ∀ (zs : List Int) (i : Nat) (x : Int),i <= zs.length -> zs.length < 2 ^ 40 -> C 519 [.own 1 (zs.map fun n=>[.int .i64 n]),.int .i64 i,.own 1 [[.int .i64 x]]] .any [.own 1 ((zs.take i++x::zs.drop i).map fun n=>[.int .i64 n]),.nils,.nils]
theorem jY : ∀ {l l' : List Int},l.Pairwise (· < ·) -> l'.Pairwise (· < ·) -> (∀ x,x ∈ l ↔ x ∈ l') -> l=l'
 | [],[],_,_,_=>rfl
 | [],b::_,_,_,h=>by simpa using (h b).2 (by simp)
 | a::_,[],_,_,h=>by simpa using (h a).1 (by simp)
 | a::l,b::l',h1,h2,h=>by
  rw [List.pairwise_cons] at h1 h2
  have e : a=b:=by
   have x1:=(h a).1 (by simp)
   have x2:=(h b).2 (by simp)
   simp only [x0O] at x1 x2
   rcases x1 with x1 | x1
   ·exact x1
   ·rcases x2 with x2 | x2
    ·exact x2.symm
    ·have:=h2.1 a x1;have:=h1.1 b x2;omega
  subst e
  congr 1
  refine jY h1.2 h2.2 fun x=>?_
  have:=h x
  simp only [x0O] at this
  constructor
  ·intro hx
   have h3:=h1.1 x hx
   rcases this.1 (.inr hx) with h4 | h4
   ·omega
   ·exact h4
  ·intro hx
   have h3:=h2.1 x hx
   rcases this.2 (.inr hx) with h4 | h4
   ·omega
   ·exact h4
theorem kg {d : Array Int} (hs : ∀ j,0 < j -> j < d.size -> d[j - 1]! <= d[j]!) : ∀ m,m <= d.size -> (Lib.compactUpTo d m).Pairwise (· < ·) /\ (∀ x,x ∈ Lib.compactUpTo d m ↔ ∃ j,j < m /\ d[j]! = x) /\ ∀ x ∈ Lib.compactUpTo d m,x <= d[m - 1]!
 | 0,_=>by simp [Lib.compactUpTo]
 | m + 1,hm=>by
  obtain ⟨h1,h2,h3⟩:=kg hs m (by omega)
  rw [Lib.compactUpTo_succ]
  by_cases hk : Lib.keeps d m=true
  ·rw [if_pos hk]
   have hlt : ∀ x ∈ Lib.compactUpTo d m,x < d[m]!:=fun x hx=>by
    have h4:=h3 x hx
    simp only [Lib.keeps,x0c] at hk
    rcases hk with rfl | hk
    ·obtain ⟨j,hj,_⟩:=(h2 x).1 hx;omega
    ·rcases x0V m with h0 | h0
     ·subst h0;obtain ⟨j,hj,_⟩:=(h2 x).1 hx;omega
     ·have:=hs m h0 (by omega);omega
   refine ⟨List.pairwise_append.2 ⟨h1,by simp,fun a ha b hb=>by simp at hb;subst hb;exact hlt a ha⟩,fun x=>?_,fun x hx=>?_⟩
   ·simp only [x0j,x0Q,h2]
    constructor
    ·rintro (⟨j,hj,rfl⟩ | rfl)
     ·exact ⟨j,by omega,rfl⟩
     ·exact ⟨m,by omega,rfl⟩
    ·rintro ⟨j,hj,rfl⟩
     by_cases e : j=m
     ·exact .inr (by rw [e])
     ·exact .inl ⟨j,by omega,rfl⟩
   ·simp only [x0j,x0Q] at hx
    rcases hx with hx | hx
    ·exact Int.le_of_lt (hlt x hx)
    ·rw [hx];exact x0M _
  ·rw [if_neg hk,x08]
   have hm0 : 0 < m:=by
    rcases x0V m with h | h
    ·subst h;exact absurd (Lib.keeps_lt_one d 0 (by omega)) hk
    ·exact h
   have he : d[m]! = d[m - 1]!:=by
    apply Classical.byContradiction
    intro h
    exact hk (Lib.keeps_pos h)
   refine ⟨h1,fun x=>?_,fun x hx=>?_⟩
   ·rw [h2]
    constructor
    ·rintro ⟨j,hj,rfl⟩;exact ⟨j,by omega,rfl⟩
    ·rintro ⟨j,hj,rfl⟩
     by_cases e : j=m
     ·subst e;exact ⟨j - 1,by omega,he.symm⟩
     ·exact ⟨j,by omega,rfl⟩
   ·have:=h3 x hx
    simp only [Nat.add_sub_cancel,he]
    exact this
theorem pr {n : Nat} {es : List Edg} (hg : inG n es) (i : Nat) : Lib.compact (((tgs es i).map fun k : Nat=>(k : Int)).mergeSort fun x y=>decide (x <= y))=(nxt n es i).map fun k : Nat=>(k : Int):=by
 obtain ⟨zs,hz⟩ : ∃ zs,zs=((tgs es i).map fun k : Nat=>(k : Int)).mergeSort fun x y=>decide (x <= y):=⟨_,rfl⟩
 rw [<- hz]
 have hp : zs.Pairwise (· <= ·):=by
  have h:=List.pairwise_mergeSort (le:=fun x y : Int=>decide (x <= y)) (fun a b c h1 h2=>by simp at *;omega) (fun a b=>by simp;omega) ((tgs es i).map fun k : Nat=>(k : Int))
  rw [<- hz] at h
  exact h.imp fun h=>by simpa using h
 have hm : ∀ x,x ∈ zs ↔ ∃ k : Nat,(i,k) ∈ es /\ (k : Int)=x:=fun x=>by
  rw [hz,List.mem_mergeSort,x0t]
  simp only [kD]
 have hs : ∀ j,0 < j -> j < zs.toArray.size -> zs.toArray[j - 1]! <= zs.toArray[j]!:=fun j h1 h2=>by
  have h3 : j < zs.length:=by simpa using h2
  rw [x0g zs.toArray (j - 1) (by simpa using (by omega : j - 1 < zs.length)),x0g zs.toArray j h2]
  exact List.pairwise_iff_getElem.1 hp (j - 1) j (by omega) h3 (by omega)
 obtain ⟨h1,h2,_⟩:=kg hs zs.length (by simp)
 refine jY h1 ?_ fun x=>?_
 ·rw [List.pairwise_map]
  have : (nxt n es i).Pairwise (· < ·):=List.Pairwise.filter _ x1v
  exact this.imp fun h=>by omega
 ·unfold Lib.compact
  rw [h2,x0t]
  constructor
  ·rintro ⟨j,hj,rfl⟩
   rw [x0g zs.toArray j (by simpa using hj)]
   obtain ⟨k,k1,k2⟩:=(hm _).1 (x0h (l:=zs) hj)
   exact ⟨k,ee.2 ⟨(hg _ k1).2,k1⟩,by simpa using k2⟩
  ·rintro ⟨k,hk,rfl⟩
   obtain ⟨j,hj,e⟩:=x0B.1 ((hm k).2 ⟨k,(ee.1 hk).2,rfl⟩)
   exact ⟨j,hj,by rw [x0g zs.toArray j (by simpa using hj)];simpa using e⟩
variable {C : CC} (hC : al prog C)
include hC
theorem C0 (n i : Int) : C 516 [.int .i64 n,.int .i64 i] (.bool (decide (0 <= i) && decide (i < n))) []:=by
 refine aj hC (nf:=N516) rfl rfl ?_
 simp [N516]
 refine ac (fun h=>?_) (fun h=>?_) <;> simp at h <;> simp [h] <;> omega
theorem zF {b : Bool} {xs : List (Int × Int)} {g : Nat} {cs : List D} (p : (Int × Int) -> Bool) (hs : xs.length < 2 ^ 62) (hp : ∀ x ∈ xs,C g (.agg (knD x)::cs) (.bool (p x)) []) : C 522 [slx b (xs.map fun x=>knD x),.fn g cs] (.int .i64 (a8 p xs)) []:=by
 refine aj hC (nf:=N522) rfl rfl ?_
 simp [N522]
 refine az Nat (fun i=>[(0,slx b (xs.map fun x=>knD x)),(1,.fn g cs),(7,.int .i64 xs.length),(8,.int .i64 i)]) (fun i=>i <= xs.length /\ ∀ (j : Nat) (h : j < xs.length),j < i -> p xs[j]=false) (fun i=>xs.length - i) 0 (by simp) (by simp) ?_
 rintro i ⟨hi,hj⟩
 simp
 refine ac (fun h=>?_) (fun h=>?_) <;> simp [h] <;> simp at h
 ·have hw : IntKind.wrap .i64 ((i : Int) + 1)=((i + 1 : Nat) : Int):=wrap_i64 (by omega) (by omega)
  have hc:=hp _ (x0h h)
  simp [h,knD] at hc ⊢
  refine aa hc (.inl rfl) ?_
  simp
  refine ac (fun h1=>?_) (fun h1=>?_) <;> simp [h1,hw]
  ·rw [cK hj h h1]
  ·refine ⟨i + 1,⟨by omega,fun j hl hjj=>?_⟩,by omega,rfl⟩
   rcases x0y.1 hjj with h2 | rfl
   ·exact hj j hl h2
   ·exact h1
 ·rw [cW (fun j hl=>hj j hl (by omega))]
theorem zD {b : Bool} {xs : List (Int × Int)} {g : Nat} {cs : List D} (p : (Int × Int) -> Bool) (hs : xs.length < 2 ^ 62) (hp : ∀ x ∈ xs,C g (.agg (knD x)::cs) (.bool (p x)) []) : C 514 [slx b (xs.map fun x=>knD x),.fn g cs] (.bool (xs.any p)) []:=by
 refine aj hC (nf:=N514) rfl rfl ?_
 simp [N514]
 refine aa (zF hC p hs hp) (.inl rfl) ?_
 simp [ev]
def oA (n : Int) (e : Int × Int) : Bool:=!((decide (0 <= e.1) && decide (e.1 < n)) && (decide (0 <= e.2) && decide (e.2 < n)))
theorem yT (n : Int) (e : Int × Int) : C 515 [.agg (knD e),.ptr [.int .i64 n]] (.bool (oA n e)) []:=by
 refine aj hC (nf:=N515) rfl rfl ?_
 simp [N515,knD]
 refine aa (C0 hC n e.1) (.inl rfl) ?_
 unfold oA
 cases h : (decide (0 <= e.1) && decide (e.1 < n))
 ·simp
 ·simp
  refine aa (C0 hC n e.2) (.inl rfl) ?_
  simp
def gOk (n : Int) (es : List (Int × Int)) : Bool:=decide (0 <= n) && decide (n <= 300) && decide (es.length <= 1000) && !es.any (oA n)
theorem m5 (b : Bool) (n : Int) (es : List (Int × Int)) (hl : es.length < 2 ^ 62) : C 503 [.int .i64 n,slx b (es.map knD)] (.bool (gOk n es)) []:=by
 have k1:=zD hC (b:=b) (xs:=es) (g:=515) (cs:=[.ptr [.int .i64 n]]) (oA n) hl (fun x _=>yT hC n x)
 refine aj hC (nf:=N503) rfl rfl ?_
 simp [N503]
 by_cases h1 : n < 0
 ·simp [h1,gOk,show ¬ 0 <= n by omega]
 by_cases h2 : 300 < n
 ·simp [h1,h2,gOk,show ¬ n <= 300 by omega]
 by_cases h3 : (1000 : Int) < es.length
 ·simp [h1,h2,h3,gOk,show ¬ es.length <= 1000 by omega]
 simp [h1,h2,h3]
 refine aa k1 (.inl rfl) ?_
 simp [gOk,show 0 <= n by omega,show n <= 300 by omega,show es.length <= 1000 by omega]
theorem wG {n : Nat} {es : List Edg} (hn : n <= 300) (he : es.length <= 1000) (hg : inG n es) : gOk n (es.map edI)=true:=by
 unfold gOk
 simp only [x0a,x0c,x1a,x0q,x0S,x0t]
 refine ⟨⟨⟨by omega,by omega⟩,he⟩,?_⟩
 rintro x ⟨e,h1,rfl⟩
 obtain ⟨h2,h3⟩:=hg e h1
 simp only [oA,edI,x0q,Bool.not_eq_false',x0a,x0c]
 simp
 omega
end Go.Gv

namespace Go.Gv
section
variable {C : CC} {hs : Option (List Nat)} {K : Env -> Prop} {ns : List am} {dst : Option Nat} {u : Tag (hs,K,ns)} {e : Env} {R : List Nat} {acc : List (List Nat × List Nat)}
theorem bI {sz : Nat} {es : List (List D)} {i : Nat} {c : List D} (h : es[i]? = some c) : jq C hs K ns dst u e R acc sz es i=(c.length=sz /\ dW C hs K ns dst ⟨⟩ e R acc (.ptr c)):=by
 apply propext
 unfold jq dW
 rw [h]
 exact ⟨fun ⟨_,h1,h2⟩=>by cases h1;exact h2,fun h2=>⟨c,rfl,h2⟩⟩
theorem aB {n : Nat} {ag : Bool} {p : Pa} {es : List (List D)} {i off : Nat} {r : List D} (hr : es[i]? = some r) : lL C hs K ns dst u e R acc n ag p es i off=(off + n <= r.length /\ match ag with
    | true=>(((r.drop off).take n).all isV=true -> dW C hs K ns dst ⟨⟩ e R acc (.agg ((r.drop off).take n))) /\
      (((r.drop off).take n).all isV=false -> dW C hs K ns dst ⟨⟩ e R acc (.agx (((r.drop off).take n).mapIdx fun j c=>ldc p i (off + j) c)))
    | false=>dW C hs K ns dst ⟨⟩ e R acc (ldc p i off ((r.drop off).headD .any))):=by
 apply propext
 constructor
 ·rintro ⟨r',h,h1,h2⟩
  rw [hr] at h
  cases h
  refine ⟨h1,?_⟩
  cases ag <;> exact h2
 ·rintro ⟨h1,h2⟩
  refine tO hr h1 ?_
  cases ag <;> exact h2
@[simp] theorem Ip {sz : Nat} {c0 : List D} {es : List (List D)} : jq C hs K ns dst u e R acc sz (c0::es) 0=(c0.length=sz /\ dW C hs K ns dst ⟨⟩ e R acc (.ptr c0)):=bI rfl
theorem xt {n : Nat} {ag : Bool} {p : Pa} {off : Nat} {c0 : List D} {es : List (List D)} : lL C hs K ns dst u e R acc n ag p (c0::es) 0 off=(off + n <= c0.length /\ match ag with
    | true=>(((c0.drop off).take n).all isV=true -> dW C hs K ns dst ⟨⟩ e R acc (.agg ((c0.drop off).take n))) /\
      (((c0.drop off).take n).all isV=false -> dW C hs K ns dst ⟨⟩ e R acc (.agx (((c0.drop off).take n).mapIdx fun j c=>ldc p 0 (off + j) c)))
    | false=>dW C hs K ns dst ⟨⟩ e R acc (ldc p 0 off ((c0.drop off).headD .any))):=aB rfl
@[simp] theorem Iq {sz : Nat} {c0 c1 : List D} {es : List (List D)} : jq C hs K ns dst u e R acc sz (c0::c1::es) 1=(c1.length=sz /\ dW C hs K ns dst ⟨⟩ e R acc (.ptr c1)):=bI rfl
theorem xu {n : Nat} {ag : Bool} {p : Pa} {off : Nat} {c0 c1 : List D} {es : List (List D)} : lL C hs K ns dst u e R acc n ag p (c0::c1::es) 1 off=(off + n <= c1.length /\ match ag with
    | true=>(((c1.drop off).take n).all isV=true -> dW C hs K ns dst ⟨⟩ e R acc (.agg ((c1.drop off).take n))) /\
      (((c1.drop off).take n).all isV=false -> dW C hs K ns dst ⟨⟩ e R acc (.agx (((c1.drop off).take n).mapIdx fun j c=>ldc p 1 (off + j) c)))
    | false=>dW C hs K ns dst ⟨⟩ e R acc (ldc p 1 off ((c1.drop off).headD .any))):=aB rfl
@[simp] theorem Ir {sz : Nat} {c0 c1 c2 : List D} {es : List (List D)} : jq C hs K ns dst u e R acc sz (c0::c1::c2::es) 2=(c2.length=sz /\ dW C hs K ns dst ⟨⟩ e R acc (.ptr c2)):=bI rfl
theorem xw {n : Nat} {ag : Bool} {p : Pa} {off : Nat} {c0 c1 c2 : List D} {es : List (List D)} : lL C hs K ns dst u e R acc n ag p (c0::c1::c2::es) 2 off=(off + n <= c2.length /\ match ag with
    | true=>(((c2.drop off).take n).all isV=true -> dW C hs K ns dst ⟨⟩ e R acc (.agg ((c2.drop off).take n))) /\
      (((c2.drop off).take n).all isV=false -> dW C hs K ns dst ⟨⟩ e R acc (.agx (((c2.drop off).take n).mapIdx fun j c=>ldc p 2 (off + j) c)))
    | false=>dW C hs K ns dst ⟨⟩ e R acc (ldc p 2 off ((c2.drop off).headD .any))):=aB rfl
@[simp] theorem Is {sz : Nat} {c0 c1 c2 c3 : List D} {es : List (List D)} : jq C hs K ns dst u e R acc sz (c0::c1::c2::c3::es) 3=(c3.length=sz /\ dW C hs K ns dst ⟨⟩ e R acc (.ptr c3)):=bI rfl
theorem xx {n : Nat} {ag : Bool} {p : Pa} {off : Nat} {c0 c1 c2 c3 : List D} {es : List (List D)} : lL C hs K ns dst u e R acc n ag p (c0::c1::c2::c3::es) 3 off=(off + n <= c3.length /\ match ag with
    | true=>(((c3.drop off).take n).all isV=true -> dW C hs K ns dst ⟨⟩ e R acc (.agg ((c3.drop off).take n))) /\
      (((c3.drop off).take n).all isV=false -> dW C hs K ns dst ⟨⟩ e R acc (.agx (((c3.drop off).take n).mapIdx fun j c=>ldc p 3 (off + j) c)))
    | false=>dW C hs K ns dst ⟨⟩ e R acc (ldc p 3 off ((c3.drop off).headD .any))):=aB rfl
@[simp] theorem It {sz : Nat} {c0 c1 c2 c3 c4 : List D} {es : List (List D)} : jq C hs K ns dst u e R acc sz (c0::c1::c2::c3::c4::es) 4=(c4.length=sz /\ dW C hs K ns dst ⟨⟩ e R acc (.ptr c4)):=bI rfl
theorem xy {n : Nat} {ag : Bool} {p : Pa} {off : Nat} {c0 c1 c2 c3 c4 : List D} {es : List (List D)} : lL C hs K ns dst u e R acc n ag p (c0::c1::c2::c3::c4::es) 4 off=(off + n <= c4.length /\ match ag with
    | true=>(((c4.drop off).take n).all isV=true -> dW C hs K ns dst ⟨⟩ e R acc (.agg ((c4.drop off).take n))) /\
      (((c4.drop off).take n).all isV=false -> dW C hs K ns dst ⟨⟩ e R acc (.agx (((c4.drop off).take n).mapIdx fun j c=>ldc p 4 (off + j) c)))
    | false=>dW C hs K ns dst ⟨⟩ e R acc (ldc p 4 off ((c4.drop off).headD .any))):=aB rfl
attribute [simp] xt xu xw xx xy
end
end Go.Gv

namespace Go.Gv
section
variable {C : CC} {hs : Option (List Nat)} {K : Env -> Prop} {ns : List am} {dst : Option Nat} {u : Tag (hs,K,ns)} {e : Env} {R : List Nat} {acc : List (List Nat × List Nat)}
@[simp] theorem Iu {sz : Nat} {c0 c1 c2 c3 c4 c5 : List D} {es : List (List D)} : jq C hs K ns dst u e R acc sz (c0::c1::c2::c3::c4::c5::es) 5=(c5.length=sz /\ dW C hs K ns dst ⟨⟩ e R acc (.ptr c5)):=bI rfl
@[simp] theorem KG {n : Nat} {ag : Bool} {p : Pa} {off : Nat} {c0 c1 c2 c3 c4 c5 : List D} {es : List (List D)} : lL C hs K ns dst u e R acc n ag p (c0::c1::c2::c3::c4::c5::es) 5 off=(off + n <= c5.length /\ match ag with
    | true=>(((c5.drop off).take n).all isV=true -> dW C hs K ns dst ⟨⟩ e R acc (.agg ((c5.drop off).take n))) /\
      (((c5.drop off).take n).all isV=false -> dW C hs K ns dst ⟨⟩ e R acc (.agx (((c5.drop off).take n).mapIdx fun j c=>ldc p 5 (off + j) c)))
    | false=>dW C hs K ns dst ⟨⟩ e R acc (ldc p 5 off ((c5.drop off).headD .any))):=aB rfl
@[simp] theorem Iv {sz : Nat} {c0 c1 c2 c3 c4 c5 c6 : List D} {es : List (List D)} : jq C hs K ns dst u e R acc sz (c0::c1::c2::c3::c4::c5::c6::es) 6=(c6.length=sz /\ dW C hs K ns dst ⟨⟩ e R acc (.ptr c6)):=bI rfl
@[simp] theorem KH {n : Nat} {ag : Bool} {p : Pa} {off : Nat} {c0 c1 c2 c3 c4 c5 c6 : List D} {es : List (List D)} : lL C hs K ns dst u e R acc n ag p (c0::c1::c2::c3::c4::c5::c6::es) 6 off=(off + n <= c6.length /\ match ag with
    | true=>(((c6.drop off).take n).all isV=true -> dW C hs K ns dst ⟨⟩ e R acc (.agg ((c6.drop off).take n))) /\
      (((c6.drop off).take n).all isV=false -> dW C hs K ns dst ⟨⟩ e R acc (.agx (((c6.drop off).take n).mapIdx fun j c=>ldc p 6 (off + j) c)))
    | false=>dW C hs K ns dst ⟨⟩ e R acc (ldc p 6 off ((c6.drop off).headD .any))):=aB rfl
@[simp] theorem Iw {sz : Nat} {c0 c1 c2 c3 c4 c5 c6 c7 : List D} {es : List (List D)} : jq C hs K ns dst u e R acc sz (c0::c1::c2::c3::c4::c5::c6::c7::es) 7=(c7.length=sz /\ dW C hs K ns dst ⟨⟩ e R acc (.ptr c7)):=bI rfl
@[simp] theorem KI {n : Nat} {ag : Bool} {p : Pa} {off : Nat} {c0 c1 c2 c3 c4 c5 c6 c7 : List D} {es : List (List D)} : lL C hs K ns dst u e R acc n ag p (c0::c1::c2::c3::c4::c5::c6::c7::es) 7 off=(off + n <= c7.length /\ match ag with
    | true=>(((c7.drop off).take n).all isV=true -> dW C hs K ns dst ⟨⟩ e R acc (.agg ((c7.drop off).take n))) /\
      (((c7.drop off).take n).all isV=false -> dW C hs K ns dst ⟨⟩ e R acc (.agx (((c7.drop off).take n).mapIdx fun j c=>ldc p 7 (off + j) c)))
    | false=>dW C hs K ns dst ⟨⟩ e R acc (ldc p 7 off ((c7.drop off).headD .any))):=aB rfl
end
end Go.Gv

namespace Go.Gv
theorem kV {α : Type} (n : Nat) (x : α) : List.replicate n x=(List.range n).map fun _=>x:=by simp [List.map_const']
theorem lz (l : List Nat) : aW l=(l.map fun k : Nat=>(k : Int)).map fun n=>[.int .i64 n]:=by simp [aW]
theorem zK {l : List Int} : ∀ e ∈ (l.map fun n=>[D.int .i64 n]),e.length=1 /\ ∀ c ∈ e,aE c=true:=by
 intro e he
 simp only [x0t] at he
 obtain ⟨k,_,rfl⟩:=he
 simp [aE]
theorem zM {l : List Int} : ∀ e ∈ (l.map fun n=>[D.int .i64 n]),e.length=1 /\ ∀ c ∈ e,bv c=true:=by
 intro e he
 simp only [x0t] at he
 obtain ⟨k,_,rfl⟩:=he
 simp [bv]
def ndD (l : List Nat) : D:=.sl (aW l)
def sE (n : Nat) (es : List Edg) : D:=.sl ((List.range n).map fun v=>[ndD (nxt n es v)])
def mo (n : Nat) (es : List Edg) (j : Nat) : List (List D):=(List.range n).map fun v=>[.own 1 (aW (tgs (es.take j) v))]
def mq (n : Nat) (es : List Edg) (j : Nat) : List (List D):=(List.range n).map fun v=>[.own 1 (aW (if v < j then nxt n es v else tgs es v))]
theorem aV (l : List Nat) : (aW l).length=l.length:=by simp [aW]
theorem gw (l : List Nat) : (aW l).take l.length=aW l:=by rw [<- aV l];exact x1m
theorem kB (l : List Nat) (k : Nat) : aW l++[[.int .i64 (k : Int)]]=aW (l++[k]):=by simp [aW]
theorem tt {l : List Nat} : ∀ e ∈ aW l,e.length=1 /\ ∀ c ∈ e,aE c=true:=by
 intro e he
 simp only [aW,x0t] at he
 obtain ⟨k,_,rfl⟩:=he
 simp [aE]
theorem pE {l : List Nat} : ∀ e ∈ aW l,e.length=1 /\ ∀ c ∈ e,bv c=true:=by
 intro e he
 simp only [aW,x0t] at he
 obtain ⟨k,_,rfl⟩:=he
 simp [bv]
variable {C : CC} (hC : al prog C)
include hC
theorem wZ (hS : SlC C) {b : Bool} {n : Nat} {es : List Edg} (hn : n <= 300) (he : es.length <= 1000) (hg : inG n es) : C 517 [.int .i64 n,slx b (es.map edK)] (sE n es) []:=by
 refine aj hC (nf:=N517) rfl rfl ?_
 simp [N517]
 refine ⟨by omega,?_⟩
 refine az Nat (fun j=>[(5,.ref (.r 10080) 0 n),(10080,.blk 1 (mo n es j)),(11,slx b (es.map edK)),(12,.int .i64 es.length),(13,.int .i64 j)]) (fun j=>j <= es.length) (fun j=>es.length - j) 0 (by simp) (by simp [mo,tgs,aW,kV]) ?_
 rintro j hj
 simp
 refine ac (fun h=>?_) (fun h=>?_) <;> simp [h] <;> simp at h
 ·have hw : IntKind.wrap .i64 ((j : Int) + 1)=((j + 1 : Nat) : Int):=wrap_i64 (by omega) (by omega)
  have hin:=hg _ (x0h h)
  have hr : (mo n es j)[es[j].1]? = some [.own 1 (aW (tgs (es.take j) es[j].1))]:=by simp [mo,hin.1]
  have hlt:=mJ (es.take j) es[j].1
  have hb : (tgs (es.take j) es[j].1).length <= 1000:=by simp at hlt;omega
  have hrl : (mo n es j).length=n:=by simp [mo]
  have hr2 : es[j].1 < (mo n es j).length:=by omega
  simp [h,edK,knD,aB hr,hin,hr,aV]
  refine ⟨by omega,?_⟩
  simp only [gw,kB]
  have e1 : ∀ e,e ∈ aW (tgs (es.take j) es[j].1) \/ e=[.int .i64 (es[j].2 : Int)] -> ∀ c ∈ e,aE c=true:=by
   rintro e (h1 | rfl)
   ·exact (tt e h1).2
   ·simp [aE]
  have e2 : (((mo n es j).set es[j].1 [.any]).set es[j].1 [.own 1 (aW (tgs (es.take j) es[j].1++[es[j].2]))])=mo n es (j + 1):=by
   rw [List.set_set]
   unfold mo
   rw [iP]
   apply x0i
   intro v _
   rw [rp h]
   by_cases e : v=es[j].1
   ·subst e;simp
   ·rw [if_neg e,if_neg (Ne.symm e),x08]
  refine ⟨e1,?_⟩
  simp [hr2,e2]
  refine ⟨ar (by decide +kernel),?_⟩
  simp [hw]
  refine ⟨j + 1,by omega,by omega,?_,by simp⟩
  simp only [gw,kB]
  rw [<- e2,List.set_set]
 ·have e0 : mo n es j=mq n es 0:=by
   unfold mo mq
   rw [x0p h]
   simp
  rw [e0]
  refine az Nat (fun j=>[(5,.ref (.r 10080) 0 n),(10080,.blk 1 (mq n es j)),(32,.int .i64 n),(33,.int .i64 j)]) (fun j=>j <= n) (fun j=>n - j) 0 (by simp) (by simp) ?_
  clear e0 h hj j
  rintro j hj
  simp
  refine ac (fun h=>?_) (fun h=>?_) <;> simp [h] <;> simp at h
  ·have hw : IntKind.wrap .i64 ((j : Int) + 1)=((j + 1 : Nat) : Int):=wrap_i64 (by omega) (by omega)
   have hr : (mq n es j)[j]? = some [.own 1 (aW (tgs es j))]:=by simp [mq,h]
   have hl:=mJ es j
   simp [h,aB hr,hr,aV]
   have ks:=hS.sort ((tgs es j).map fun k : Nat=>(k : Int)) (by simp;omega)
   have kc:=hS.compact (((tgs es j).map fun k : Nat=>(k : Int)).mergeSort fun x y=>decide (x <= y)) (by simp [List.length_mergeSort];omega)
   rw [pr hg,<- lz] at kc
   rw [<- lz] at ks
   have hsl : (((tgs es j).map fun k : Nat=>(k : Int)).mergeSort fun x y=>decide (x <= y)).length=(tgs es j).length:=by simp [List.length_mergeSort]
   obtain ⟨zs,hz⟩ : ∃ zs,zs=((tgs es j).map fun k : Nat=>(k : Int)).mergeSort fun x y=>decide (x <= y):=⟨_,rfl⟩
   rw [<- hz] at ks kc hsl
   have hjl : j < (mq n es j).length:=by simp [mq,h]
   have e1 : (((mq n es j).set j [.own 1 (zs.map fun n=>[.int .i64 n])]).set j [.any]).set j [.own 1 (aW (nxt n es j))]=mq n es (j + 1):=by
    rw [List.set_set,List.set_set]
    unfold mq
    rw [iP]
    apply x0i
    intro v _
    by_cases e : v=j
    ·subst e;simp
    ·rw [if_neg e]
     by_cases e2 : v < j
     ·rw [if_pos e2,if_pos (by omega)]
     ·rw [if_neg e2,if_neg (by omega)]
   refine wb ks (by rw [x1a,hsl,aV]) zK ?_
   have hset : ∀ x,((mq n es j).set j x)[j]? = some x:=fun x=>by simp [hjl]
   simp [hr,h,aB (hset _),hset]
   refine ⟨fun e he=>(zM e (x0J he)).2,?_⟩
   have e3 : (zs.map fun n=>[D.int .i64 n]).take zs.length=zs.map fun n=>[D.int .i64 n]:=x0p (by simp)
   rw [e3]
   refine th kc pE ?_
   simp [hr,h,aB (hset _),hset]
   rw [List.set_set,List.set_set] at e1
   exact ⟨fun e he=>(tt e he).2,j + 1,by omega,by omega,e1,hw⟩
  ·have e : j=n:=by omega
   subst e
   simp [mq]
   unfold sE
   rw [x0p (by simp)]
   congr 1
   apply x0i
   intro v hv
   have : v < j:=by simpa using hv
   simp [this,aL,ndD]
end Go.Gv

namespace Go.Gv
theorem mg {l l' : List Nat} (h1 : l.Pairwise (· < ·)) (h2 : l'.Pairwise (· < ·)) (h : ∀ x,x ∈ l ↔ x ∈ l') : l=l':=by
 have e:=jY (l:=l.map fun k : Nat=>(k : Int)) (l':=l'.map fun k : Nat=>(k : Int)) (by rw [List.pairwise_map];exact h1.imp fun h=>by omega) (by rw [List.pairwise_map];exact h2.imp fun h=>by omega) (fun x=>by
  simp only [x0t]
  exact ⟨fun ⟨a,b,c⟩=>⟨a,(h a).1 b,c⟩,fun ⟨a,b,c⟩=>⟨a,(h a).2 b,c⟩⟩)
 have e2:=congrArg (List.map Int.toNat) e
 rw [x1w,x1w] at e2
 have f : (Int.toNat ∘ fun k : Nat=>(k : Int))=id:=by funext k;simp
 rw [f,List.map_id,List.map_id] at e2
 exact e2
def df (l : List Nat) (x : Nat) : Nat:=l.findIdx fun k=>decide (x <= k)
theorem tK (l : List Nat) (x : Nat) : df l x <= l.length:=List.findIdx_le_length
theorem tL {l : List Nat} {x j : Nat} (h : j < df l x) (hl : j < l.length) : l[j] < x:=by
 have:=List.not_of_lt_findIdx h
 simp at this
 exact this
theorem Af {l : List Nat} {x : Nat} (h : df l x < l.length) : x <= l[df l x]:=by
 have h2:=List.findIdx_getElem (w:=h)
 exact of_decide_eq_true h2
theorem sI {l : List Nat} {x j : Nat} (hl : j < l.length) (h : x <= l[j]) : df l x <= j:=by
 apply Nat.le_of_not_lt
 intro hj
 have:=tL hj hl
 omega
theorem nw {l : List Nat} (hs : l.Pairwise (· < ·)) {x j : Nat} (hl : j < l.length) (h : l[j] < x) : j < df l x:=by
 apply Nat.lt_of_not_le
 intro hj
 have h1:=Af (l:=l) (x:=x) (by omega)
 rcases Nat.lt_or_eq_of_le hj with h2 | h2
 ·have:=List.pairwise_iff_getElem.1 hs (df l x) j (by omega) hl h2
  omega
 ·simp only [h2] at h1;omega
theorem so {l : List Nat} {x : Nat} (hs : l.Pairwise (· < ·)) (hx : x ∉ l) : (l.take (df l x)++x::l.drop (df l x)).Pairwise (· < ·):=by
 have hp:=hs
 rw [<- List.take_append_drop (df l x) l,List.pairwise_append] at hp
 obtain ⟨h1,h2,h3⟩:=hp
 have lo : ∀ a ∈ l.take (df l x),a < x:=fun a ha=>by
  obtain ⟨i,hi,rfl⟩:=x0B.1 ha
  have h4 : i < df l x /\ i < l.length:=by simp at hi;omega
  rw [List.getElem_take]
  exact tL h4.1 h4.2
 have hi : ∀ a ∈ l.drop (df l x),x < a:=fun a ha=>by
  obtain ⟨i,hi,rfl⟩:=x0B.1 ha
  have hlt : df l x + i < l.length:=by simp at hi;omega
  rw [List.getElem_drop]
  have hne : l[df l x + i] ≠ x:=fun e=>hx (e ▸ x0h hlt)
  have : ¬ l[df l x + i] < x:=fun h=>by have:=nw hs hlt h;omega
  omega
 rw [List.pairwise_append,List.pairwise_cons]
 refine ⟨h1,⟨hi,h2⟩,fun a ha b hb=>?_⟩
 rcases x0O.1 hb with rfl | hb
 ·exact lo a ha
 ·exact h3 a ha b hb
theorem sn {n : Nat} {p q : Nat -> Bool} {x : Nat} (hx : x < n) (hp : p x=false) (hq : ∀ v,v < n -> q v=(p v || v == x)) : ((List.range n).filter p).take (df ((List.range n).filter p) x)++x::((List.range n).filter p).drop (df ((List.range n).filter p) x)=(List.range n).filter q:=by
 have hs : ((List.range n).filter p).Pairwise (· < ·):=List.Pairwise.filter _ x1v
 refine mg (so hs (by simp [hp])) (List.Pairwise.filter _ x1v) fun v=>?_
 have : v ∈ (List.range n).filter p ↔ v ∈ ((List.range n).filter p).take (df ((List.range n).filter p) x) \/ v ∈ ((List.range n).filter p).drop (df ((List.range n).filter p) x):=by
  rw [<- x0j,List.take_append_drop]
 simp only [x0j,x0O]
 rw [or_left_comm,<- this]
 simp only [List.mem_filter,x1o]
 constructor
 ·rintro (rfl | ⟨h1,h2⟩)
  ·exact ⟨hx,by rw [hq _ hx];simp⟩
  ·exact ⟨h1,by rw [hq _ h1,h2];rfl⟩
 ·rintro ⟨h1,h2⟩
  rw [hq _ h1,x0K,x0o] at h2
  rcases h2 with h2 | h2
  ·exact .inr ⟨h1,h2⟩
  ·exact .inl h2
structure mj (n : Nat) (es : List Edg) (out : List Nat) : Prop where
 lt : ∀ v ∈ out,v < n
 nd : out.Nodup
 pre : ∀ v ∈ out,∀ u,(u,v) ∈ es -> u ∈ out
theorem mj.nil (n : Nat) (es : List Edg) : mj n es []:=⟨by simp,by simp,by simp⟩
theorem mj.len {n : Nat} {es : List Edg} {out : List Nat} (h : mj n es out) : out.length <= n:=by
 have:=(List.nodup_range (n:=n)).sublist (List.Sublist.refl _)
 have hsub : out ⊆ List.range n:=fun v hv=>by simpa using h.lt v hv
 have:=List.Nodup.length_le_of_subset h.nd hsub
 simpa using this
theorem mj.step {n : Nat} {es : List Edg} {out : List Nat} (h : mj n es out) {i : Nat} (hi : i ∈ cT n es out) : mj n es (out++[i]):=by
 obtain ⟨h1,h2,h3⟩:=gx.1 hi
 refine ⟨fun v hv=>?_,?_,fun v hv u hu=>?_⟩
 ·rcases x0j.1 hv with hv | hv
  ·exact h.lt v hv
  ·simp at hv;omega
 ·rw [x1t]
  refine ⟨h.nd,by simp,fun a ha b hb=>?_⟩
  simp at hb
  subst hb
  rintro rfl
  exact h2 ha
 ·rcases x0j.1 hv with hv | hv
  ·exact x0j.2 (.inl (h.pre v hv u hu))
  ·simp at hv
   subst hv
   exact x0j.2 (.inl (h3 u hu))
theorem gT (n : Nat) (es : List Edg) : ∀ m,mj n es (aM n es m)
 | 0=>.nil n es
 | m + 1=>by
  have ih:=gT n es m
  show mj n es (iT n es (aM n es m))
  unfold iT
  split
  ·exact ih
  ·rename_i v r e
   exact ih.step (by rw [e];simp)
theorem lI {n : Nat} {es : List Edg} {m i : Nat} {r : List Nat} (h : cT n es (aM n es m)=i::r) : aM n es (m + 1)=aM n es m++[i]:=by
 show iT n es (aM n es m)=_
 unfold iT
 rw [h]
theorem kM {n : Nat} {es : List Edg} {m : Nat} (h : cT n es (aM n es m)=[]) : ∀ k,aM n es (m + k)=aM n es m
 | 0=>rfl
 | k + 1=>by
  show iT n es (aM n es (m + k))=_
  rw [kM h k]
  unfold iT
  rw [h]
theorem z8 {n : Nat} {es : List Edg} {m : Nat} (hl : (aM n es m).length=m) (h : cT n es (aM n es m)=[]) : aX n es=aM n es m:=by
 have:=(gT n es m).len
 have e:=kM h (n - m)
 rw [show m + (n - m)=n by omega] at e
 exact e
theorem xn {n : Nat} {es : List Edg} {out : List Nat} (h : mj n es out) {i : Nat} {r : List Nat} (hr : cT n es out=i::r) : cT n es (out++[i])=(List.range n).filter fun v=>(!out.contains v && kR es out v && !(v == i)) || ((nxt n es i).contains v && kR es (out++[i]) v):=by
 have hi : i ∈ cT n es out:=by rw [hr];simp
 obtain ⟨h1,h2,h3⟩:=gx.1 hi
 unfold cT
 apply List.filter_congr
 intro v hv
 have hvn : v < n:=by simpa using hv
 rw [x0x]
 simp only [x0a,x0K,x0q,x0F,kS,ee,beq_eq_false_iff_ne,ne_eq]
 simp only [List.contains_eq_mem,x0E,x0j,x0Q,not_or]
 constructor
 ·rintro ⟨⟨a1,a2⟩,a3⟩
  by_cases c : (i,v) ∈ es
  ·exact .inr ⟨⟨hvn,c⟩,a3⟩
  ·refine .inl ⟨⟨a1,fun u hu=>?_⟩,a2⟩
   rcases a3 u hu with b | rfl
   ·exact b
   ·exact absurd hu c
 ·rintro (⟨⟨a1,a2⟩,a3⟩ | ⟨⟨_,a1⟩,a2⟩)
  ·exact ⟨⟨a1,a3⟩,fun u hu=>.inl (a2 u hu)⟩
  ·refine ⟨⟨fun hv=>h2 (h.pre v hv i a1),?_⟩,a2⟩
   rintro rfl
   exact h2 (h3 _ a1)
variable {C : CC} (hC : al prog C)
include hC
theorem Cu (x : Int) : C 299 [.int .i64 x] (.bool false) []:=by
 refine aj hC (nf:=N299) rfl rfl ?_
 simp [N299]
theorem DR (x : Int) : C 524 [.int .i64 x] (.bool false) []:=by
 refine aj hC (nf:=N524) rfl rfl ?_
 simp [N524]
theorem yI (x y : Int) : C 411 [.int .i64 x,.int .i64 y] (.bool (decide (x < y))) []:=by
 refine aj hC (nf:=N411) rfl rfl ?_
 simp [N411]
 refine aa (Cu hC x) (.inl rfl) ?_
 simp
theorem uy (l : List Nat) (x : Nat) (hs : l.Pairwise (· < ·)) (hl : l.length < 2 ^ 40) : C 518 [.sl (aW l),.int .i64 x] (.tup [.int .i64 (df l x),.bool (decide (df l x < l.length) && decide (l[df l x]! = x))]) []:=by
 have hpl:=tK l x
 obtain ⟨n,hn⟩ : ∃ n,n=df l x:=⟨_,rfl⟩
 obtain ⟨r,hr⟩ : ∃ r,r=(decide (df l x < l.length) && decide (l[df l x]! = x)):=⟨_,rfl⟩
 have hlt : ∀ j,(hj : j < l.length) -> l[j] < x -> j < n:=fun j hj h1=>hn ▸ nw hs hj h1
 have hle : ∀ j,(hj : j < l.length) -> x <= l[j] -> n <= j:=fun j hj h1=>hn ▸ sI hj h1
 rw [<- hn] at hpl ⊢
 rw [<- hn] at hr
 rw [<- hr]
 refine aj hC (nf:=N518) rfl rfl ?_
 simp [N518,aW]
 refine az (Nat × Nat) (fun s=>[(0,.sl (aW l)),(1,.int .i64 x),(6,.int .i64 l.length),(7,.int .i64 s.1),(8,.int .i64 s.2)]) (fun s=>s.1 <= n /\ n <= s.2 /\ s.2 <= l.length) (fun s=>s.2 - s.1) (0,l.length) (by simp;omega) (by simp [aW]) ?_
 rintro ⟨i,j⟩ ⟨h1,h2,h3⟩
 simp only at h1 h2 h3
 simp
 refine ac (fun g=>?_) (fun g=>?_) <;> simp at g <;> simp [g]
 ·obtain ⟨m,hm⟩ : ∃ m,m=(i + j) / 2:=⟨_,rfl⟩
  have e1 : IntKind.wrap .i64 ((i : Int) + (j : Int))=((i + j : Nat) : Int):=wrap_i64 (by omega) (by omega)
  obtain ⟨s,hsm⟩ : ∃ s,s=i + j:=⟨_,rfl⟩
  rw [<- hsm] at e1 hm
  have e2 : Int.fdiv (s : Int) (2 ^ min 1 IntKind.u64.bits)=(m : Int):=by rw [hm];exact nO s 1
  have e3 : IntKind.wrap .i64 (m : Int)=(m : Int):=wrap_i64 rfl (by omega)
  have e4 : IntKind.wrap .i64 ((m : Int) + 1)=((m + 1 : Nat) : Int):=wrap_i64 (by omega) (by omega)
  have hml : m < l.length:=by omega
  simp [e1,bX s (by omega),e2,e3,hml,aW]
  refine aa (yI hC l[m] x) (.inl rfl) ?_
  by_cases hmx : l[m] < x
  ·have:=hlt m hml hmx
   have hi : (l[m] : Int) < x:=by omega
   simp [hmx,e4]
   exact ⟨m + 1,j,⟨by omega,h2,h3⟩,by omega,by omega,by omega⟩
  ·have:=hle m hml (by omega)
   simp [hmx]
   exact ⟨i,m,⟨h1,by omega,by omega⟩,by omega,by omega,by omega⟩
 ·have e0 : i=n:=by omega
  subst e0
  by_cases g2 : i < l.length
  ·have eg : l[i]! = l[i]:=x0g l i g2
   rw [eg] at hr
   simp [g2,aW]
   by_cases g3 : l[i]=x
   ·simp [g3,g2] at hr ⊢
    exact hr
   ·have g3i : ¬ (l[i] : Int)=x:=by omega
    simp [g3,g3i,g2] at hr ⊢
    refine aa (DR hC _) (.inl rfl) ?_
    simp [hr]
  ·simp [g2] at hr ⊢
   exact hr
end Go.Gv

namespace Go.Gv
def wtA (n : Nat) (f : Nat -> Nat) : List (List D):=(List.range n).map fun v=>[.int .i64 (f v : Int)]
theorem jo {n v : Nat} (f : Nat -> Nat) (h : v < n) : (wtA n f)[v]? = some [.int .i64 (f v : Int)]:=by simp [wtA,h]
theorem ui {n v : Nat} (f : Nat -> Nat) (x : Nat) : (wtA n f).set v [.int .i64 (x : Int)]=wtA n fun u=>if u=v then x else f u:=by
 unfold wtA
 rw [iP]
 apply x0i
 intro u _
 by_cases h : u=v <;> simp [h]
theorem wX {l : List Nat} {j v : Nat} (hj : j < l.length) : v ∈ l.take (j + 1) ↔ v ∈ l.take j \/ v=l[j]:=by
 rw [x0u hj,x0j,x0Q]
theorem gL {n : Nat} {f g : Nat -> Nat} (h : ∀ v,v < n -> f v=g v) : wtA n f=wtA n g:=by
 unfold wtA
 apply x0i
 intro u hu
 rw [h u (by simpa using hu)]
def wt1 (n : Nat) (es : List Edg) (i j v : Nat) : Nat:=lq es i v + (if v ∈ (nxt n es i).take j then 1 else 0)
theorem A6 {n : Nat} {es : List Edg} {i v : Nat} (hv : v < n) : wt1 n es i (nxt n es i).length v=lq es (i + 1) v:=by
 unfold wt1
 rw [uG,x1m]
 simp [ee,hv]
theorem yf {n : Nat} {es : List Edg} {i j : Nat} (hj : j < (nxt n es i).length) (v : Nat) : wt1 n es i (j + 1) v=if v=(nxt n es i)[j] then wt1 n es i j v + 1 else wt1 n es i j v:=by
 unfold wt1
 simp only [wX hj]
 have hnd : (nxt n es i)[j] ∉ (nxt n es i).take j:=by
  intro h
  obtain ⟨k,hk,e⟩:=x0B.1 h
  have hk2 : k < j:=by simp at hk;omega
  rw [List.getElem_take] at e
  have:=(List.getElem_inj (oT n es i)).1 e
  omega
 by_cases e : v=(nxt n es i)[j]
 ·subst e
  rw [if_pos rfl,if_pos (.inr rfl),if_neg hnd]
 ·rw [if_neg e]
  congr 1
  simp only [e,or_false]
def rd0 (n : Nat) (es : List Edg) (i : Nat) : List Nat:=(List.range i).filter fun v=>decide (ef n es [] v=0)
theorem nB (n : Nat) (es : List Edg) (i : Nat) : rd0 n es (i + 1)=rd0 n es i++(if ef n es [] i=0 then [i] else []):=by
 unfold rd0
 rw [List.range_succ,List.filter_append]
 congr 1
 by_cases h : ef n es [] i=0 <;> simp [h]
theorem Ai {n : Nat} {es : List Edg} (hg : inG n es) : rd0 n es n=cT n es []:=by
 unfold rd0 cT
 apply List.filter_congr
 intro v _
 rw [x0x]
 simp [ov hg]
theorem Aj (n : Nat) (es : List Edg) (i : Nat) : (rd0 n es i).length <= i:=by
 have:=x02 (fun v=>decide (ef n es [] v=0)) (List.range i)
 simpa [rd0] using this
def wt2 (n : Nat) (es : List Edg) (out : List Nat) (i j v : Nat) : Nat:=if v ∈ (nxt n es i).take j then ef n es (out++[i]) v else ef n es out v
def rdp (n : Nat) (es : List Edg) (out : List Nat) (i j v : Nat) : Bool:=(!out.contains v && kR es out v && !(v == i)) || (((nxt n es i).take j).contains v && kR es (out++[i]) v)
def rd2 (n : Nat) (es : List Edg) (out : List Nat) (i j : Nat) : List Nat:=(List.range n).filter (rdp n es out i j)
theorem An (n : Nat) (es : List Edg) (out : List Nat) (i j : Nat) : (rd2 n es out i j).length <= n:=by
 have:=x02 (rdp n es out i j) (List.range n)
 simpa [rd2] using this
theorem tG {n : Nat} {es : List Edg} {i j : Nat} (hj : j < (nxt n es i).length) : (nxt n es i)[j] ∉ (nxt n es i).take j:=by
 intro h
 obtain ⟨k,hk,e⟩:=x0B.1 h
 have hk2 : k < j:=by simp at hk;omega
 rw [List.getElem_take] at e
 have:=(List.getElem_inj (oT n es i)).1 e
 omega
theorem qT {n : Nat} {es : List Edg} {out : List Nat} {i : Nat} {r : List Nat} (h : cT n es out=i::r) : rd2 n es out i 0=r:=by
 have hs : (cT n es out).Pairwise (· < ·):=List.Pairwise.filter _ x1v
 have hm : ∀ v,v ∈ cT n es out ↔ v=i \/ v ∈ r:=fun v=>by rw [h];simp
 rw [h,List.pairwise_cons] at hs
 refine mg (List.Pairwise.filter _ x1v) hs.2 fun v=>?_
 have h2:=hm v
 simp only [rd2,rdp,List.mem_filter,x1o,List.take_zero,List.contains_nil,Bool.false_and,Bool.or_false,x0a,x0q,beq_eq_false_iff_ne]
 simp only [cT,List.mem_filter,x1o,x0a,x0q] at h2
 constructor
 ·rintro ⟨a,b,c⟩
  rcases h2.1 ⟨a,b⟩ with e | e
  ·exact absurd e c
  ·exact e
 ·intro hv
  obtain ⟨a,b⟩:=h2.2 (.inr hv)
  refine ⟨a,b,?_⟩
  rintro rfl
  have:=hs.1 v hv
  omega
theorem Al {n : Nat} {es : List Edg} {out : List Nat} (h : mj n es out) {i : Nat} {r : List Nat} (hr : cT n es out=i::r) : rd2 n es out i (nxt n es i).length=cT n es (out++[i]):=by
 rw [xn h hr]
 unfold rd2 rdp
 rw [x1m]
theorem A7 {n : Nat} {es : List Edg} {out : List Nat} {i : Nat} (hi : i < n) (ho : i ∉ out) {v : Nat} (hv : v < n) : wt2 n es out i (nxt n es i).length v=ef n es (out++[i]) v:=by
 unfold wt2
 rw [x1m]
 split
 ·rfl
 ·rename_i h
  rw [ou hi ho,if_neg (fun e=>h (ee.2 ⟨hv,e⟩)),x0W]
theorem rC {n : Nat} {es : List Edg} {out : List Nat} {i j : Nat} (hj : j < (nxt n es i).length) (v : Nat) : wt2 n es out i (j + 1) v=if v=(nxt n es i)[j] then ef n es (out++[i]) v else wt2 n es out i j v:=by
 unfold wt2
 simp only [wX hj]
 by_cases e : v=(nxt n es i)[j]
 ·rw [if_pos e,if_pos (.inr e)]
 ·rw [if_neg e]
  simp only [e,or_false]
theorem qU {n : Nat} {es : List Edg} {out : List Nat} {i j : Nat} (hj : j < (nxt n es i).length) (v : Nat) : rdp n es out i (j + 1) v=(rdp n es out i j v || (v == (nxt n es i)[j] && kR es (out++[i]) v)):=by
 unfold rdp
 rw [x0u hj]
 rw [x0x]
 simp only [x0K,x0a,x0F,x0j,x0Q,x0o]
 constructor
 ·rintro (h | ⟨h | h,h'⟩)
  ·exact .inl (.inl h)
  ·exact .inl (.inr ⟨h,h'⟩)
  ·exact .inr ⟨h,h'⟩
 ·rintro ((h | ⟨h,h'⟩) | ⟨h,h'⟩)
  ·exact .inl h
  ·exact .inr ⟨.inl h,h'⟩
  ·exact .inr ⟨.inr h,h'⟩
theorem xk {n : Nat} {es : List Edg} {out : List Nat} {i j : Nat} (hj : j < (nxt n es i).length) (h : kR es (out++[i]) (nxt n es i)[j]=false) : rd2 n es out i (j + 1)=rd2 n es out i j:=by
 unfold rd2
 apply List.filter_congr
 intro v _
 rw [qU hj]
 by_cases e : v=(nxt n es i)[j]
 ·subst e;simp [h]
 ·simp [e]
theorem Am {n : Nat} {es : List Edg} {out : List Nat} (hI : mj n es out) {i : Nat} {r : List Nat} (hr : cT n es out=i::r) {j : Nat} (hj : j < (nxt n es i).length) (h : kR es (out++[i]) (nxt n es i)[j]=true) :
  (rd2 n es out i j).take (df (rd2 n es out i j) (nxt n es i)[j])++(nxt n es i)[j]::(rd2 n es out i j).drop (df (rd2 n es out i j) (nxt n es i)[j])=rd2 n es out i (j + 1):=by
 obtain ⟨h1,h2⟩:=ee.1 (x0h hj)
 have hi : i ∈ cT n es out:=by rw [hr];simp
 obtain ⟨i1,i2,i3⟩:=gx.1 hi
 refine sn h1 ?_ (fun v _=>?_)
 ·unfold rdp
  rw [Bool.or_eq_false_iff]
  constructor
  ·have : kR es out (nxt n es i)[j]=false:=by
    rw [<- x1B,kS]
    exact fun h=>i2 (h _ h2)
   simp [this]
  ·have:=tG hj
   simp [this]
 ·rw [qU hj]
  by_cases e : v=(nxt n es i)[j]
  ·rw [e,h,Bool.and_true]
  ·have e' : (v == (nxt n es i)[j])=false:=by simpa using e
   rw [e',Bool.false_and]
theorem Ak (n : Nat) (es : List Edg) (out : List Nat) (i j : Nat) : (rd2 n es out i j).Pairwise (· < ·):=List.Pairwise.filter _ x1v
theorem xm (n : Nat) (es : List Edg) (out : List Nat) : (cT n es out).length <= n:=by
 have:=x02 (fun v=>!out.contains v && kR es out v) (List.range n)
 simpa [cT] using this
end Go.Gv

namespace Go.Gv
def ndR (n : Nat) (es : List Edg) : List (List D):=(List.range n).map fun v=>[ndD (nxt n es v)]
theorem tF {n v : Nat} (es : List Edg) (h : v < n) : (ndR n es)[v]? = some [ndD (nxt n es v)]:=by simp [ndR,h]
theorem Qb (n : Nat) (es : List Edg) (i : Nat) : wt1 n es i 0=lq es i:=by funext v;simp [wt1]
theorem Qc (n : Nat) (es : List Edg) (out : List Nat) (i : Nat) : wt2 n es out i 0=ef n es out:=by funext v;simp [wt2]
theorem zY (n : Nat) (es : List Edg) : (ndR n es).length=n:=by simp [ndR]
theorem ng {l : List Nat} {j : Nat} (h : j < l.length) : (aW l)[j]? = some [.int .i64 (l[j] : Int)]:=by simp [aW,h]
variable {C : CC} (hC : al prog C)
include hC
set_option maxHeartbeats 1000000 in
theorem tI (hS : SlC C) {b : Bool} {n : Nat} {es : List Edg} (hn : n <= 300) (he : es.length <= 1000) (hg : inG n es) : C 504 [.int .i64 n,slx b (es.map edK)] (ndD (aX n es)) []:=by
 have kn:=wZ hC hS (b:=b) hn he hg
 have enx : sE n es=.sl (ndR n es):=rfl
 rw [enx] at kn
 refine aj hC (nf:=N504) rfl rfl ?_
 simp [N504]
 refine aa kn (.inr rfl) ?_
 simp [zY]
 refine ⟨by omega,?_⟩
 refine az Nat (fun i=>[(5,.sl (ndR n es)),(6,.ref (.r 10096) 0 n),(10096,.blk 1 (wtA n (lq es i))),(25,.sl (ndR n es)),(26,.int .i64 n),(27,.int .i64 i)]) (fun i=>i <= n) (fun i=>n - i) 0 (by simp) (by simp [wtA,lq,kV]) ?_
 rintro i hi
 simp
 refine ac (fun h=>?_) (fun h=>?_) <;> simp [h] <;> simp at h
 ·have hw : IntKind.wrap .i64 ((i : Int) + 1)=((i + 1 : Nat) : Int):=wrap_i64 (by omega) (by omega)
  have hlen:=mD n es i
  simp [h,bI (tF es h),ndD,aV]
  refine az Nat (fun j=>[(5,.sl (ndR n es)),(6,.ref (.r 10096) 0 n),(10096,.blk 1 (wtA n (wt1 n es i j))),(25,.sl (ndR n es)),(26,.int .i64 n),(27,.int .i64 i),(31,.sl (aW (nxt n es i))),(32,.int .i64 (nxt n es i).length),(33,.int .i64 j)]) (fun j=>j <= (nxt n es i).length) (fun j=>(nxt n es i).length - j) 0 (by simp) (by simp [Qb,ndD]) ?_
  rintro j hj
  simp
  refine ac (fun g=>?_) (fun g=>?_) <;> simp [g] <;> simp at g
  ·have hw2 : IntKind.wrap .i64 ((j : Int) + 1)=((j + 1 : Nat) : Int):=wrap_i64 (by omega) (by omega)
   obtain ⟨k1,k2⟩:=ee.1 (x0h g)
   have kle:=yP es i (nxt n es i)[j]
   have hwv : IntKind.wrap .i64 ((wt1 n es i j (nxt n es i)[j] : Int) + 1)=((wt1 n es i j (nxt n es i)[j] + 1 : Nat) : Int):=wrap_i64 (by omega) (by unfold wt1;split <;> omega)
   simp [g,bI (ng g),k1,aB (jo _ k1),jo _ k1,hwv]
   refine ⟨j + 1,by omega,by omega,?_,hw2⟩
   have e1:=ui (n:=n) (v:=(nxt n es i)[j]) (wt1 n es i j) (wt1 n es i j (nxt n es i)[j] + 1)
   rw [show ((wt1 n es i j (nxt n es i)[j] + 1 : Nat) : Int)=(wt1 n es i j (nxt n es i)[j] : Int) + 1 by omega] at e1
   rw [e1]
   refine gL fun v _=>?_
   rw [yf g]
   split
   ·rename_i e;rw [e]
   ·rfl
  ·have ej : j=(nxt n es i).length:=by omega
   subst ej
   simp [hw]
   exact ⟨i + 1,by omega,by omega,gL fun v hv=>A6 hv,by omega⟩
 ·have ei : n=i:=by omega
  subst ei
  clear h hi
  have e0 : wtA n (lq es n)=wtA n (ef n es []):=gL fun v _=>wc n es v
  rw [e0]
  refine az Nat (fun i=>[(5,.sl (ndR n es)),(6,.ref (.r 10096) 0 n),(10096,.blk 1 (wtA n (ef n es []))),(11,.ref (.r 10176) 0 (rd0 n es i).length),(10176,.blk 1 (aW (rd0 n es i))),(12,.ref (.r 10192) 0 0),(10192,.blk 1 []),(45,.ref (.r 10096) 0 n),(46,.int .i64 n),(47,.int .i64 i)]) (fun i=>i <= n) (fun i=>n - i) 0 (by simp) (by simp [rd0,aW]) ?_
  rintro i hi
  simp
  refine ac (fun h=>?_) (fun h=>?_) <;> simp [h] <;> simp at h
  ·have hw : IntKind.wrap .i64 ((i : Int) + 1)=((i + 1 : Nat) : Int):=wrap_i64 (by omega) (by omega)
   have hrl:=Aj n es i
   simp [h,aB (jo _ h),jo _ h]
   refine ac (fun c=>?_) (fun c=>?_) <;> simp at c <;> simp [c,aV]
   ·refine ⟨by omega,i + 1,by omega,by omega,?_,?_,hw⟩
    ·rw [nB,if_pos c];simp
    ·rw [gw,kB,nB,if_pos c]
   ·simp [hw]
    refine ⟨i + 1,by omega,by omega,?_⟩
    rw [nB,if_neg c,x08]
    exact ⟨rfl,rfl,by omega⟩
  ·have ei : i=n:=by omega
   rw [ei,Ai hg]
   clear ei h hi i
   refine az (Nat × Nat × List (List D)) (fun s=>[(5,.sl (ndR n es)),(6,.ref (.r 10096) 0 n),(10096,.blk 1 (wtA n (ef n es (aM n es s.1)))),(11,.ref (.r 10176) s.2.1 (cT n es (aM n es s.1)).length),(10176,.blk 1 s.2.2),(12,.ref (.r 10192) 0 s.1),(10192,.blk 1 (aW (aM n es s.1)))])
    (fun s=>(aM n es s.1).length=s.1 /\ s.2.1 + (cT n es (aM n es s.1)).length <= s.2.2.length /\ (s.2.2.drop s.2.1).take (cT n es (aM n es s.1)).length=aW (cT n es (aM n es s.1))) (fun s=>n - s.1) (0,0,aW (cT n es [])) (by simp [aM,aV,gw]) (by simp [aM,aW]) ?_
   rintro ⟨m,k,B⟩ ⟨hm,hkB,hB⟩
   simp only at hm hkB hB
   simp
   have hI:=gT n es m
   have hmn:=hI.len
   obtain ⟨out,hout⟩ : ∃ out,out=aM n es m:=⟨_,rfl⟩
   cases hr : cT n es (aM n es m) with
   | nil =>
    have e1 : (aW (aM n es m)).map (fun e=>e.map aL)=aW (aM n es m):=by simp [aW,aL]
    have e2 : (aW (aM n es m)).take m=aW (aM n es m):=x0p (by rw [aV];omega)
    simp [hm]
    rw [e1,e2,z8 hm hr]
    exact ⟨by rw [aV];omega,rfl⟩
   | cons i r =>
    have hi : i ∈ cT n es (aM n es m):=by rw [hr];simp
    obtain ⟨i1,i2,i3⟩:=gx.1 hi
    have hrl:=xm n es (aM n es m)
    rw [hr] at hkB hB hrl
    simp only [x1k] at hkB hB hrl
    have hBk : B[k]? = some [.int .i64 (i : Int)]:=by
     have:=congrArg (fun l=>l[0]?) hB
     simpa [aW] using this
    have hBr : (B.drop (k + 1)).take r.length=aW r:=by
     have:=congrArg (fun l=>l.drop 1) hB
     simp only [List.drop_take,List.drop_drop] at this
     simpa [aW] using this
    have hS1:=hI.step hi
    have hsl:=hS1.len
    have eN:=lI hr
    have e2 : (aW (aM n es m)).take m=aW (aM n es m):=x0p (by rw [aV];omega)
    have hlen:=mD n es i
    simp only [x0I,List.length_singleton,hm] at hsl
    simp [aB hBk]
    refine ⟨by rw [aV];omega,by omega,?_⟩
    rw [e2,kB,<- eN]
    simp [bI (tF es i1),ndD,aV]
    refine az (Nat × Nat × List (List D)) (fun s=>[(5,.sl (ndR n es)),(6,.ref (.r 10096) 0 n),(10096,.blk 1 (wtA n (wt2 n es (aM n es m) i s.1))),(11,.ref (.r 10176) s.2.1 (rd2 n es (aM n es m) i s.1).length),(10176,.blk 1 s.2.2),(12,.ref (.r 10192) 0 (m + 1)),(10192,.blk 1 (aW (aM n es (m + 1)))),(74,.sl (aW (nxt n es i))),(75,.int .i64 (nxt n es i).length),(76,.int .i64 s.1)])
     (fun s=>s.1 <= (nxt n es i).length /\ s.2.1 + (rd2 n es (aM n es m) i s.1).length <= s.2.2.length /\ (s.2.2.drop s.2.1).take (rd2 n es (aM n es m) i s.1).length=aW (rd2 n es (aM n es m) i s.1)) (fun s=>(nxt n es i).length - s.1) (0,k + 1,B) (by simp [qT hr];exact ⟨by omega,hBr⟩) (by simp [qT hr,ndD,Qc]) ?_
    rintro ⟨j,k',B'⟩ ⟨hj,hkB',hB'⟩
    simp only at hj hkB' hB'
    simp
    refine ac (fun g=>?_) (fun g=>?_) <;> simp [g] <;> simp at g
    ·have hw2 : IntKind.wrap .i64 ((j : Int) + 1)=((j + 1 : Nat) : Int):=wrap_i64 (by omega) (by omega)
     obtain ⟨k1,k2⟩:=ee.1 (x0h g)
     have hw0 : wt2 n es (aM n es m) i j (nxt n es i)[j]=ef n es (aM n es m++[i]) (nxt n es i)[j] + 1:=by
      unfold wt2
      rw [if_neg (tG g),ou i1 i2,if_pos k2]
     have hcl : ef n es (aM n es m++[i]) (nxt n es i)[j] <= n:=by
      have:=x02 (fun u=>es.contains (u,(nxt n es i)[j]) && !(aM n es m++[i]).contains u) (List.range n)
      simpa [ef] using this
     have hwv : IntKind.wrap .i64 ((wt2 n es (aM n es m) i j (nxt n es i)[j] : Int) - 1)=(ef n es (aM n es m++[i]) (nxt n es i)[j] : Int):=wrap_i64 (by omega) (by omega)
     have ew:=ui (n:=n) (v:=(nxt n es i)[j]) (wt2 n es (aM n es m) i j) (ef n es (aM n es m++[i]) (nxt n es i)[j])
     have ew2 : (wtA n fun u=>if u=(nxt n es i)[j] then ef n es (aM n es m++[i]) (nxt n es i)[j] else wt2 n es (aM n es m) i j u)=wtA n (wt2 n es (aM n es m) i (j + 1)):=gL fun v _=>by
      rw [rC g]
      by_cases e : v=(nxt n es i)[j]
      ·rw [if_pos e,if_pos e,e]
      ·rw [if_neg e,if_neg e]
     rw [ew2] at ew
     have hwn : wt2 n es (aM n es m) i (j + 1) (nxt n es i)[j]=ef n es (aM n es m++[i]) (nxt n es i)[j]:=by rw [rC g,if_pos rfl]
     simp [g,bI (ng g),k1,aB (jo _ k1),jo _ k1,hwv,ew,hwn]
     have hl2:=An n es (aM n es m) i j
     have p0:=ov hg (out:=aM n es m++[i]) (k:=(nxt n es i)[j])
     refine ac (fun c=>?_) (fun c=>?_) <;> simp at c
     ·have pk:=p0.1 c
      have hins:=Am hI hr g pk
      have kb:=uy hC (rd2 n es (aM n es m) i j) (nxt n es i)[j] (Ak n es _ i j) (by omega)
      have hpl:=tK (rd2 n es (aM n es m) i j) (nxt n es i)[j]
      have kI:=hS.insert ((rd2 n es (aM n es m) i j).map fun k : Nat=>(k : Int)) (df (rd2 n es (aM n es m) i j) (nxt n es i)[j]) (nxt n es i)[j] (by simpa using hpl) (by simp;omega)
      have eI : ((((rd2 n es (aM n es m) i j).map fun k : Nat=>(k : Int)).take (df (rd2 n es (aM n es m) i j) (nxt n es i)[j])++((nxt n es i)[j] : Int)::((rd2 n es (aM n es m) i j).map fun k : Nat=>(k : Int)).drop (df (rd2 n es (aM n es m) i j) (nxt n es i)[j])).map fun n=>[D.int .i64 n])=aW (rd2 n es (aM n es m) i (j + 1)):=by
       rw [<- hins]
       simp [aW]
       rfl
      rw [eI,<- lz] at kI
      have e4 : (aW (rd2 n es (aM n es m) i j)).map (fun e=>e.map aL)=aW (rd2 n es (aM n es m) i j):=by simp [aW,aL]
      have e5 : (((B'.drop k').take (rd2 n es (aM n es m) i j).length).map fun e=>e.map aL)=aW (rd2 n es (aM n es m) i j):=by rw [hB',e4]
      simp [hkB']
      simp at e5
      rw [e5]
      refine aa kb (.inl rfl) ?_
      simp [hkB',hB']
      refine ⟨fun e he=>(pE e he).2,?_⟩
      refine th kI pE ?_
      simp [hw2,aV]
      exact ⟨j + 1,0,aW (rd2 n es (aM n es m) i (j + 1)),⟨by omega,by simp [aV],by simp [gw]⟩,by omega,by simp⟩
     ·have pk : kR es (aM n es m++[i]) (nxt n es i)[j]=false:=by
       rw [<- x1B]
       exact fun e=>c (p0.2 e)
      have hsame:=xk g pk
      simp [hw2]
      exact ⟨j + 1,k',B',⟨by omega,by rw [hsame];exact hkB',by rw [hsame];exact hB'⟩,by omega,by simp [hsame]⟩
    ·have ej : j=(nxt n es i).length:=by omega
     subst ej
     have er:=Al hI hr
     rw [<- eN] at er
     rw [er] at hkB' hB' ⊢
     exact ⟨m + 1,k',B',⟨by rw [eN];simp [hm],hkB',hB'⟩,by omega,gL fun v hv=>by rw [A7 i1 i2 hv,eN],by simp⟩
end Go.Gv

namespace Go.Gv
def xd (n : Nat) (es : List Edg) : Int:=if (aX n es).length < n then 22 else 0
def xe (n : Nat) (es : List Edg) : D:=if (aX n es).length < n then .nils else ndD (aX n es)
def cw (n : Nat) (es : List Edg) : Bool:=decide ((es.map (·.1)).Nodup) && decide ((aX n es).length=n)
def lO (es : List Edg) (j : Nat) : List Nat:=(es.take j).map (·.1)
theorem lP {es : List Edg} {j : Nat} (h : j < es.length) : lO es (j + 1)=lO es j++[es[j].1]:=by
 unfold lO
 rw [x0u h,x1b]
 rfl
@[simp] theorem P0 (es : List Edg) : lO es 0=[]:=rfl
theorem xT (es : List Edg) : lO es es.length=es.map (·.1):=by simp [lO]
theorem AV {es : List Edg} {j : Nat} (h : ¬ (lO es j).Nodup) : ¬ (es.map (·.1)).Nodup:=by
 intro h2
 apply h
 unfold lO
 rw [List.map_take]
 exact h2.sublist (List.take_sublist _ _)
def edT (es : List Edg) (j : Nat) : List (List D):=(es.take j).map edK
theorem qe {es : List Edg} {j : Nat} (h : j < es.length) : edT es (j + 1)=edT es j++[edK es[j]]:=by
 unfold edT
 rw [x0u h,x1b]
 rfl
@[simp] theorem Qg (es : List Edg) : edT es 0=[]:=rfl
theorem my {es : List Edg} {j : Nat} (h : j <= es.length) : (edT es j).length=j:=by simp [edT];omega
theorem ti (es : List Edg) : edT es es.length=es.map edK:=by simp [edT]
theorem Ic (es : List Edg) (j : Nat) : (edT es j).map (fun e=>e.map aL)=edT es j:=by
 unfold edT
 rw [x1w]
 apply x0i
 intro e _
 simp [edK,knD,aL]
def nN (n : Nat) (es : List Edg) (j : Nat) : List (List D):=(List.range n).map fun v=>[.bool (decide (v ∈ lO es j))]
theorem lN {n v : Nat} (es : List Edg) (j : Nat) (h : v < n) : (nN n es j)[v]? = some [.bool (decide (v ∈ lO es j))]:=by simp [nN,h]
def av (ns : List Nod) (ls : List Lnk) : List Edg:=ls.map fun l=>((a8 (bq l.src) ns).toNat,(a8 (bq l.dst) ns).toNat)
theorem aZ (ns : List Nod) (ls : List Lnk) : (av ns ls).length=ls.length:=by simp [av]
theorem cn {ns : List Nod} {ls : List Lnk} (h : bO ns ls=true) : ns.length <= 300 /\ ls.length <= 400:=by
 simp only [bO,x0a,x0c] at h
 exact ⟨h.1.1.1,h.1.1.2⟩
theorem fq {ns : List Nod} {ls : List Lnk} (h : bO ns ls=true) {i : Nat} (hi : i < ls.length) : ca ls[i]=true /\ a8 (ni ls[i].name) ls=(i : Int) /\ 0 <= a8 (bq ls[i].src) ns /\ 0 <= a8 (bq ls[i].dst) ns:=by
 simp only [bO,x0a,x0f,x1o] at h
 have:=h.2 i hi
 simp only [fB,x0g ls i hi,jG,x0a,x0c] at this
 exact ⟨this.1.1.1,this.1.1.2,this.1.2.1,this.2⟩
theorem jg {ns : List Nod} {ls : List Lnk} (h : bO ns ls=true) {i : Nat} (hi : i < ns.length) : iG ns[i]=true /\ a8 (bq ns[i].name) ns=(i : Int):=by
 simp only [bO,x0a,x0f,x1o] at h
 have:=h.1.2 i hi
 simpa only [kJ,x0g ns i hi,x0a,x0c] using this
theorem fc {ns : List Nod} {ls : List Lnk} (h : bO ns ls=true) : inG ns.length (av ns ls):=by
 intro e he
 simp only [av,x0t] at he
 obtain ⟨l,hl,rfl⟩:=he
 obtain ⟨i,hi,rfl⟩:=x0B.1 hl
 obtain ⟨_,_,h1,h2⟩:=fq h hi
 exact ⟨jf h1,jf h2⟩
variable {C : CC} (hC : al prog C)
include hC
theorem wH (hS : SlC C) {b : Bool} {n : Nat} {es : List Edg} (hn : n <= 300) (he : es.length <= 1000) (hg : inG n es) : C 511 [.int .i64 n,slx b (es.map edK)] (.tup [xe n es,.int .i64 (xd n es)]) []:=by
 have k1:=m5 hC b n (es.map edI) (by simp;omega)
 rw [<- pt,wG hC hn he hg] at k1
 have k2:=tI hC hS (b:=b) hn he hg
 refine aj hC (nf:=N511) rfl rfl ?_
 simp [N511]
 refine aa k1 (.inl rfl) ?_
 simp
 refine aa k2 (.inr rfl) ?_
 unfold xe xd
 simp [ndD,aV]
 refine ac (fun c=>?_) (fun c=>?_) <;> simp at c <;> simp [c]
theorem zA (hS : SlC C) {b : Bool} {n : Nat} {es : List Edg} (hn : n <= 300) (he : es.length <= 1000) (hg : inG n es) : C 472 [.int .i64 n,slx b (es.map edK)] (.bool (cw n es)) []:=by
 have k1:=m5 hC b n (es.map edI) (by simp;omega)
 rw [<- pt,wG hC hn he hg] at k1
 have k2:=tI hC hS (b:=b) hn he hg
 obtain ⟨r,hr⟩ : ∃ r,r=cw n es:=⟨_,rfl⟩
 rw [<- hr]
 unfold cw at hr
 refine aj hC (nf:=N472) rfl rfl ?_
 simp [N472]
 refine aa k1 (.inl rfl) ?_
 simp
 refine ⟨by omega,?_⟩
 refine az Nat (fun j=>[(0,.int .i64 n),(1,slx b (es.map edK)),(5,.ref (.r 10080) 0 n),(10080,.blk 1 (nN n es j)),(14,slx b (es.map edK)),(15,.int .i64 es.length),(16,.int .i64 j)]) (fun j=>j <= es.length /\ (lO es j).Nodup) (fun j=>es.length - j) 0 (by simp) (by simp [nN,kV]) ?_
 rintro j ⟨hj,hnd⟩
 simp
 refine ac (fun h=>?_) (fun h=>?_) <;> simp [h] <;> simp at h
 ·have hw : IntKind.wrap .i64 ((j : Int) + 1)=((j + 1 : Nat) : Int):=wrap_i64 (by omega) (by omega)
  have hin:=hg _ (x0h h)
  simp [h,edK,knD,hin,aB (lN es j hin.1),lN es j hin.1]
  refine ac (fun c=>?_) (fun c=>?_) <;> simp at c
  ·have hbad : ¬ (lO es (j + 1)).Nodup:=by
    rw [lP h,x1t]
    rintro ⟨_,_,h3⟩
    exact h3 _ c _ (by simp) rfl
   simp [hr,AV hbad]
  ·have e1 : (nN n es j).set es[j].1 [.bool true]=nN n es (j + 1):=by
    unfold nN
    rw [iP]
    apply x0i
    intro v _
    rw [lP h]
    by_cases e : v=es[j].1
    ·subst e;simp
    ·simp [e]
   have hnd2 : (lO es (j + 1)).Nodup:=by
    rw [lP h,x1t]
    refine ⟨hnd,by simp,fun a ha b hb=>?_⟩
    simp at hb
    subst hb
    rintro rfl
    exact c ha
   simp [hin,lN es j hin.1,e1,hw]
   exact ⟨j + 1,⟨by omega,hnd2⟩,by omega,rfl,by omega⟩
 ·have ej : j=es.length:=by omega
  rw [ej,xT] at hnd
  refine aa k2 (.inr rfl) ?_
  simp [ndD,aV,hr,hnd]
  omega
theorem qI (b1 b2 : Bool) (ns : List Nod) (ls : List Lnk) (hv : bO ns ls=true) : C 499 [.agg [slx b1 (ns.map aR),slx b2 (ls.map aF)]] (.sl ((av ns ls).map edK)) []:=by
 obtain ⟨hl1,hl2⟩:=cn hv
 refine aj hC (nf:=N499) rfl rfl ?_
 simp [N499]
 refine az Nat (fun j=>[(1,.ptr [slx b1 (ns.map aR),slx b2 (ls.map aF)]),(3,.ref (.r 10048) 0 j),(10048,.blk 2 (edT (av ns ls) j)),(7,slx b2 (ls.map aF)),(8,.int .i64 ls.length),(9,.int .i64 j)]) (fun j=>j <= ls.length) (fun j=>ls.length - j) 0 (by simp) (by simp) ?_
 rintro j hj
 simp
 refine ac (fun h=>?_) (fun h=>?_) <;> simp [h] <;> simp at h
 ·have hw : IntKind.wrap .i64 ((j : Int) + 1)=((j + 1 : Nat) : Int):=wrap_i64 (by omega) (by omega)
  obtain ⟨_,_,g1,g2⟩:=fq hv h
  have k1:=gR hC b1 b2 ns ls ls[j].src (by omega)
  have k2:=gR hC b1 b2 ns ls ls[j].dst (by omega)
  have hjl : j < (av ns ls).length:=by rw [aZ];exact h
  have el:=my (es:=av ns ls) (j:=j) (by omega)
  simp [h,aF,el]
  refine aa k1 (.inl rfl) ?_
  simp
  refine aa k2 (.inl rfl) ?_
  simp [el]
  refine ⟨by omega,ar (by decide +kernel),j + 1,by omega,by omega,rfl,?_,hw⟩
  have e2 : (edT (av ns ls) j).take j=edT (av ns ls) j:=x0p (by omega)
  rw [e2,qe hjl]
  congr 2
  simp only [av,List.getElem_map,edK,knD]
  rw [Int.toNat_of_nonneg g1,Int.toNat_of_nonneg g2]
 ·have ej : j=ls.length:=by omega
  subst ej
  have e0:=ti (av ns ls)
  have el:=my (es:=av ns ls) (j:=ls.length) (by rw [aZ];exact x0k _)
  rw [aZ] at e0
  simp [Ic,el]
  rw [<- e0,x0p (by omega)]
theorem mS (b1 b2 : Bool) (ns : List Nod) (ls : List Lnk) (hcv : ∀ l ∈ ls,l.curve.length < 2 ^ 62) : C 471 [.agg [slx b1 (ns.map aR),slx b2 (ls.map aF)]] (.tup (if bO ns ls then [.sl ((av ns ls).map edK),.int .i64 0] else [.nils,.int .i64 1])) []:=by
 refine aj hC (nf:=N471) rfl rfl ?_
 simp [N471]
 refine aa (kE hC b1 b2 ns ls hcv) (.inl rfl) ?_
 cases hv : bO ns ls
 ·simp
 ·simp
  refine aa (qI hC b1 b2 ns ls hv) (.inr rfl) ?_
  simp
theorem vJ (hS : SlC C) (b1 b2 : Bool) (ns : List Nod) (ls : List Lnk) (hcv : ∀ l ∈ ls,l.curve.length < 2 ^ 62) : C 495 [.agg [slx b1 (ns.map aR),slx b2 (ls.map aF)]] (.tup (if bO ns ls then [xe ns.length (av ns ls),.int .i64 (xd ns.length (av ns ls))] else [.nils,.int .i64 1])) []:=by
 refine aj hC (nf:=N495) rfl rfl ?_
 simp [N495]
 refine aa (kE hC b1 b2 ns ls hcv) (.inl rfl) ?_
 cases hv : bO ns ls
 ·simp
 ·obtain ⟨l1,l2⟩:=cn hv
  have k:=wH hC hS (b:=false) (n:=ns.length) (es:=av ns ls) l1 (by rw [aZ];omega) (fc hv)
  simp
  refine aa (qI hC b1 b2 ns ls hv) (.inr rfl) ?_
  simp at k ⊢
  refine aa k (.inr rfl) ?_
  unfold xe xd ndD
  split <;> simp
  ·exact ⟨ar (by decide +kernel),by omega⟩
  ·exact ⟨ar (by decide +kernel),by omega⟩
theorem u6 (l : Lnk) : C 470 [.agg (aF l)] (.bool (!decide (l.kind=1))) []:=by
 refine aj hC (nf:=N470) rfl rfl ?_
 simp [N470,aF]
theorem m6 {b : Bool} {xs : List Lnk} {g : Nat} {cs : List D} (p : Lnk -> Bool) (hs : xs.length < 2 ^ 62) (hp : ∀ x ∈ xs,C g (.agg (aF x)::cs) (.bool (p x)) []) : C 455 [slx b (xs.map fun x=>aF x),.fn g cs] (.bool (xs.any p)) []:=by
 refine aj hC (nf:=N455) rfl rfl ?_
 simp [N455]
 refine aa (ne hC p hs hp) (.inl rfl) ?_
 simp [ev]
theorem wL {b : Bool} {xs : List Nod} {g : Nat} {cs : List D} (p : Nod -> Bool) (hs : xs.length < 2 ^ 62) (hp : ∀ x ∈ xs,C g (.agg (aR x)::cs) (.bool (p x)) []) : C 453 [slx b (xs.map fun x=>aR x),.fn g cs] (.bool (xs.any p)) []:=by
 refine aj hC (nf:=N453) rfl rfl ?_
 simp [N453]
 refine aa (qn hC p hs hp) (.inl rfl) ?_
 simp [ev]
def cx (ns : List Nod) (ls : List Lnk) : Bool:=bO ns ls && ls.all (fun l=>decide (l.kind=1)) && cw ns.length (av ns ls)
theorem tQ (hS : SlC C) (b1 b2 : Bool) (ns : List Nod) (ls : List Lnk) (hl : ls.length < 2 ^ 62) (hcv : ∀ l ∈ ls,l.curve.length < 2 ^ 62) : C 433 [.agg [slx b1 (ns.map aR),slx b2 (ls.map aF)]] (.bool (cx ns ls)) []:=by
 have k1:=m6 hC (b:=b2) (xs:=ls) (g:=470) (cs:=[]) (fun l=>!decide (l.kind=1)) hl (fun x _=>u6 hC x)
 have k2:=mS hC b1 b2 ns ls hcv
 have e1 : (ls.any fun l=>!decide (l.kind=1))=!(ls.all fun l=>decide (l.kind=1)):=by simp [List.any_eq_not_all_not]
 rw [e1] at k1
 refine aj hC (nf:=N433) rfl rfl ?_
 simp [N433]
 refine aa k1 (.inl rfl) ?_
 unfold cx
 cases h1 : ls.all (fun l=>decide (l.kind=1))
 ·simp
 simp
 cases hv : bO ns ls
 ·rw [hv] at k2
  refine aa k2 (.inr rfl) ?_
  simp
 ·rw [hv] at k2
  obtain ⟨l1,l2⟩:=cn hv
  have k:=zA hC hS (b:=false) (n:=ns.length) (es:=av ns ls) l1 (by rw [aZ];omega) (fc hv)
  refine aa k2 (.inr rfl) ?_
  simp at k ⊢
  refine aa k (.inl rfl) ?_
  simp
end Go.Gv

namespace Go.Gv
abbrev Sp:=Int × Int
def rY (n : Int) : Bool:=decide (-72057594037927936 <= n) && decide (n <= 72057594037927936)
def dC (s : Sp) : Bool:=decide (s.1 <= s.2) && rY s.1 && rY s.2
def iR (s : Sp) : Bool:=decide (s.1 < 0) || decide (1099511627776 < s.2)
def gf (l : List Sp) (count : Int) : Int:=if l.any (fun s=>!dC s) then 1 else if (l.length : Int)=count then (if l.any iR then 2 else 0) else 3
def vw (a b : Sp) : Sp:=(IntKind.wrap .i64 (a.1 + b.1),IntKind.wrap .i64 (a.2 + b.2))
abbrev FSt:=(Nat -> Sp) × (Nat -> Sp)
def lW (i k : Nat) (e : Edg) (s : FSt) : FSt:=if e.1=i then (fun v=>if v=e.2 then vw (s.1 e.2) (s.1 i) else s.1 v,fun q=>if q=k then s.1 i else s.2 q) else s
def flI (es : List Edg) (i : Nat) (s : FSt) : Nat -> FSt
 | 0=>s
 | k + 1=>lW i k es[k]! (flI es i s k)
def flO (es : List Edg) (ord : List Nat) (s : FSt) : Nat -> FSt
 | 0=>s
 | m + 1=>flI es ord[m]! (flO es ord s m) es.length
def flS (l : List Sp) : FSt:=(fun v=>l[v]!,fun _=>(0,0))
def aA (n : Nat) (es : List Edg) (l : List Sp) : List Sp:=(List.range es.length).map (flO es (aX n es) (flS l) (aX n es).length).2
def jp (l : List Sp) : Bool:=l.any fun s=>decide (1099511627776 < s.2)
def b9 (n : Nat) (es : List Edg) (l : List Sp) : Int:=if jp (aA n es l) then 5 else 0
def rZ (n : Nat) (es : List Edg) (l : List Sp) : D:=if jp (aA n es l) then .nils else .sl ((aA n es l).map knD)
def spR (n : Nat) (f : Nat -> Sp) : List (List D):=(List.range n).map fun v=>knD (f v)
theorem D0 (n : Nat) (f : Nat -> Sp) : spR n f=((List.range n).map f).map knD:=by simp [spR]
theorem BZ (n : Nat) (f : Nat -> Sp) : (spR n f).map (fun e=>e.map aL)=spR n f:=by
 unfold spR
 rw [x1w]
 apply x0i
 intro v _
 simp [knD,aL]
theorem kY (n : Nat) (f : Nat -> Sp) : (spR n f).length=n:=by simp [spR]
theorem mG {n v : Nat} (f : Nat -> Sp) (h : v < n) : (spR n f)[v]? = some [.int .i64 (f v).1,.int .i64 (f v).2]:=by simp [spR,h,knD]
theorem tX {n v : Nat} (f : Nat -> Sp) (x : Sp) : (spR n f).set v [.int .i64 x.1,.int .i64 x.2]=spR n fun u=>if u=v then x else f u:=by
 unfold spR
 rw [iP]
 apply x0i
 intro u _
 by_cases h : u=v <;> simp [h,knD]
variable {C : CC} (hC : al prog C)
include hC
theorem wB (n : Int) : C 510 [.int .i64 n] (.bool (rY n)) []:=by
 refine aj hC (nf:=N510) rfl rfl ?_
 simp [N510,rY]
 refine ac (fun h=>?_) (fun h=>?_) <;> simp at h <;> simp [h]
 intro _;omega
theorem sQ (s : Sp) : C 493 [.agg (knD s)] (.bool (dC s)) []:=by
 refine aj hC (nf:=N493) rfl rfl ?_
 simp [N493,knD]
 refine ac (fun h=>?_) (fun h=>?_) <;> simp at h <;> simp [h]
 ·refine aa (wB hC s.1) (.inl rfl) ?_
  cases h1 : rY s.1
  ·simp [dC,h1]
  ·simp
   refine aa (wB hC s.2) (.inl rfl) ?_
   simp [dC,h1,h]
 ·simp [dC,show ¬ s.1 <= s.2 by omega]
theorem AL (s : Sp) : C 492 [.agg (knD s)] (.bool (!dC s)) []:=by
 have k:=sQ hC s
 simp only [knD] at k
 refine aj hC (nf:=N492) rfl rfl ?_
 simp [N492,knD]
 refine aa k (.inl rfl) ?_
 simp
theorem D1 (s : Sp) : C 494 [.agg (knD s)] (.bool (iR s)) []:=by
 refine aj hC (nf:=N494) rfl rfl ?_
 simp [N494,knD,iR]
 by_cases h : s.1 < 0 <;> simp [h]
theorem AM (s : Sp) : C 497 [.agg (knD s)] (.bool (decide (1099511627776 < s.2))) []:=by
 refine aj hC (nf:=N497) rfl rfl ?_
 simp [N497,knD]
theorem zH {b : Bool} {xs : List (Int × Int)} {g : Nat} {cs : List D} (p : (Int × Int) -> Bool) (hs : xs.length < 2 ^ 62) (hp : ∀ x ∈ xs,C g (.agg (knD x)::cs) (.bool (p x)) []) : C 509 [slx b (xs.map fun x=>knD x),.fn g cs] (.int .i64 (a8 p xs)) []:=by
 refine aj hC (nf:=N509) rfl rfl ?_
 simp [N509]
 refine az Nat (fun i=>[(0,slx b (xs.map fun x=>knD x)),(1,.fn g cs),(7,.int .i64 xs.length),(8,.int .i64 i)]) (fun i=>i <= xs.length /\ ∀ (j : Nat) (h : j < xs.length),j < i -> p xs[j]=false) (fun i=>xs.length - i) 0 (by simp) (by simp) ?_
 rintro i ⟨hi,hj⟩
 simp
 refine ac (fun h=>?_) (fun h=>?_) <;> simp [h] <;> simp at h
 ·have hw : IntKind.wrap .i64 ((i : Int) + 1)=((i + 1 : Nat) : Int):=wrap_i64 (by omega) (by omega)
  have hc:=hp _ (x0h h)
  simp [h,knD] at hc ⊢
  refine aa hc (.inl rfl) ?_
  simp
  refine ac (fun h1=>?_) (fun h1=>?_) <;> simp [h1,hw]
  ·rw [cK hj h h1]
  ·refine ⟨i + 1,⟨by omega,fun j hl hjj=>?_⟩,by omega,rfl⟩
   rcases x0y.1 hjj with h2 | rfl
   ·exact hj j hl h2
   ·exact h1
 ·rw [cW (fun j hl=>hj j hl (by omega))]
theorem kx {b : Bool} {xs : List (Int × Int)} {g : Nat} {cs : List D} (p : (Int × Int) -> Bool) (hs : xs.length < 2 ^ 62) (hp : ∀ x ∈ xs,C g (.agg (knD x)::cs) (.bool (p x)) []) : C 491 [slx b (xs.map fun x=>knD x),.fn g cs] (.bool (xs.any p)) []:=by
 refine aj hC (nf:=N491) rfl rfl ?_
 simp [N491]
 refine aa (zH hC p hs hp) (.inl rfl) ?_
 simp [ev]
theorem AQ (b : Bool) (l : List Sp) (count : Int) (hl : l.length < 2 ^ 62) : C 460 [slx b (l.map knD),.int .i64 count] (.int .i64 (gf l count)) []:=by
 have k1:=kx hC (b:=b) (xs:=l) (g:=492) (cs:=[]) (fun s=>!dC s) hl (fun x _=>AL hC x)
 have k2:=kx hC (b:=b) (xs:=l) (g:=494) (cs:=[]) iR hl (fun x _=>D1 hC x)
 refine aj hC (nf:=N460) rfl rfl ?_
 simp [N460]
 refine aa k1 (.inl rfl) ?_
 unfold gf
 cases h1 : l.any (fun s=>!dC s)
 ·simp
  by_cases h2 : (l.length : Int)=count
  ·simp [h2]
   refine aa k2 (.inl rfl) ?_
   cases h3 : l.any iR <;> simp [h2]
  ·simp [h2]
 ·simp
theorem uF (b : Bool) (l : List Sp) (hl : l.length < 2 ^ 40) : C 496 [slx b (l.map knD)] .any [.own 2 (l.map knD)]:=by
 have hf : ∀ e ∈ l.map knD,e.length=2 /\ (∀ c ∈ e,aE c=true) /\ ∀ c ∈ e,bv c=true:=by
  intro e he
  obtain ⟨s,_,rfl⟩:=x0t.1 he
  simp [knD,aE,bv]
 cases l with
 | nil =>
  cases b with
  | true =>
   show C 496 [.nils] .any [.own 2 []]
   refine iS hC (nf:=N496) rfl rfl ?_
   simp [N496]
  | false =>
   show C 496 [.sl []] .any [.own 2 []]
   refine iS hC (nf:=N496) rfl rfl ?_
   simp [N496]
 | cons x xs =>
  have e : slx b ((x::xs).map knD)=.sl ((x::xs).map knD):=by cases b <;> rfl
  rw [e]
  obtain ⟨l,hl2⟩ : ∃ l,l=(x::xs).map knD:=⟨_,rfl⟩
  have h : 0 < l.length:=by rw [hl2];simp
  have h2 : l.length < 1099511627776:=by rw [hl2];simpa using hl
  rw [<- hl2] at hf ⊢
  clear hl2 e hl
  refine iS hC (nf:=N496) rfl rfl ?_
  simp [N496]
  refine ⟨fun _=>⟨fun e he=>⟨(hf e he).1,(hf e he).2.1⟩,by omega,fun e he=>(hf e he).2.2⟩,fun h0=>?_⟩
  subst h0
  simp at h
set_option maxRecDepth 20000 in
set_option maxHeartbeats 2000000 in
theorem xB (hS : SlC C) (b1 b2 b : Bool) (ns : List Nod) (ls : List Lnk) (l : List Sp) (hcv : ∀ l ∈ ls,l.curve.length < 2 ^ 62) (ht : cx ns ls=true) (hl : l.length=ns.length) : C 461 [.agg [slx b1 (ns.map aR),slx b2 (ls.map aF)],slx b (l.map knD)] (.tup [rZ ns.length (av ns ls) l,.int .i64 (b9 ns.length (av ns ls) l)]) []:=by
 simp only [cx,cw,x0a,x0c] at ht
 obtain ⟨⟨hv,_⟩,_,hlen⟩:=ht
 obtain ⟨l1,l2⟩:=cn hv
 have k1:=vJ hC hS b1 b2 ns ls hcv
 have k2:=mS hC b1 b2 ns ls hcv
 have k3:=uF hC b l (by omega)
 have hg:=fc hv
 have hel:=aZ ns ls
 rw [hv] at k1 k2
 rw [xe,xd,hlen,if_neg (Nat.lt_irrefl _),if_neg (Nat.lt_irrefl _)] at k1
 simp only [if_true] at k1 k2
 refine aj hC (nf:=N461) rfl rfl ?_
 simp [N461]
 refine aa k1 (.inr rfl) ?_
 simp [ndD]
 refine aa k2 (.inr rfl) ?_
 have hfv : aA ns.length (av ns ls) l=(List.range (av ns ls).length).map (flO (av ns ls) (aX ns.length (av ns ls)) (flS l) ns.length).2:=by unfold aA;rw [hlen]
 have hI:=gT ns.length (av ns ls) ns.length
 have hIl : ∀ v ∈ aX ns.length (av ns ls),v < ns.length:=hI.lt
 clear hI
 unfold rZ b9
 rw [hfv]
 clear hfv
 generalize aX ns.length (av ns ls)=ord at *
 generalize av ns ls=es at *
 generalize ns.length=n at *
 simp [<- hel]
 refine ⟨by omega,?_⟩
 refine i9 k3 ?_
 simp [hl]
 refine az Nat (fun m=>[(8,.sl (es.map edK)),(9,.ref (.r 10144) 0 es.length),(10144,.blk 2 (spR es.length (flO es ord (flS l) m).2)),(10,.ref (.r 10160) 0 n),(10160,.blk 2 (spR n (flO es ord (flS l) m).1)),(38,.sl (aW ord)),(39,.int .i64 n),(40,.int .i64 m)]) (fun m=>m <= n) (fun m=>n - m) 0 (by simp) (by
  simp [flO,flS,hl,aV,hlen]
  refine ⟨by simp [spR,kV,knD],?_⟩
  apply List.ext_getElem
  ·simp [spR,hl]
  ·intro i h1 h2
   have : i < l.length:=by simpa using h1
   simp [spR,this]) ?_
 rintro m hm
 simp
 refine ac (fun h=>?_) (fun h=>?_) <;> simp [h] <;> simp at h
 ·have hw : IntKind.wrap .i64 ((m : Int) + 1)=((m + 1 : Nat) : Int):=wrap_i64 (by omega) (by omega)
  have hmo : m < ord.length:=by omega
  have hin:=hIl _ (x0h hmo)
  simp [bI (ng hmo)]
  refine az Nat (fun k=>[(8,.sl (es.map edK)),(9,.ref (.r 10144) 0 es.length),(10144,.blk 2 (spR es.length (flI es ord[m] (flO es ord (flS l) m) k).2)),(10,.ref (.r 10160) 0 n),(10160,.blk 2 (spR n (flI es ord[m] (flO es ord (flS l) m) k).1)),(12,.int .i64 ord[m]),(38,.sl (aW ord)),(39,.int .i64 n),(40,.int .i64 m),(44,.sl (es.map edK)),(45,.int .i64 es.length),(46,.int .i64 k)]) (fun k=>k <= es.length) (fun k=>es.length - k) 0 (by simp) (by simp [flI]) ?_
  rintro k hk
  simp
  refine ac (fun g=>?_) (fun g=>?_) <;> simp [g] <;> simp at g
  ·have hw2 : IntKind.wrap .i64 ((k : Int) + 1)=((k + 1 : Nat) : Int):=wrap_i64 (by omega) (by omega)
   have he:=hg _ (x0h g)
   have eg : es[k]! = es[k]:=x0g es k g
   have efl : flI es ord[m] (flO es ord (flS l) m) (k + 1)=lW ord[m] k es[k] (flI es ord[m] (flO es ord (flS l) m) k):=by rw [flI,eg]
   generalize flI es ord[m] (flO es ord (flS l) m) k=s at *
   simp [g,edK,knD]
   refine ac (fun c=>?_) (fun c=>?_) <;> simp at c <;> simp [c]
   ·have c' : es[k].1 ≠ ord[m]:=by omega
    have e2 : flI es ord[m] (flO es ord (flS l) m) (k + 1)=s:=by rw [efl,lW,if_neg c']
    refine ⟨k + 1,by omega,by omega,?_⟩
    simp [e2,hw2]
   ·have eg2 : es[k]=es[k]?.getD default:=by simp [g]
    have c' : es[k].1=ord[m]:=by omega
    have e2 : flI es ord[m] (flO es ord (flS l) m) (k + 1)=(fun v=>if v=es[k].2 then vw (s.1 es[k].2) (s.1 ord[m]) else s.1 v,fun q=>if q=k then s.1 ord[m] else s.2 q):=by rw [efl,lW,if_pos c']
    simp [g,edK,knD,hin,he,aB (mG _ hin),mG _ g,aB (mG _ he.2),mG _ he.2]
    have hset : ∀ x,((spR n s.1).set es[k].2 x)[es[k].2]? = some x:=fun x=>by simp [kY,he.2]
    simp [hset]
    refine ⟨ar (by decide +kernel),?_⟩
    simp [hw2]
    refine ⟨k + 1,by omega,by omega,?_,?_,by omega⟩
    ·rw [e2,tX]
    ·rw [e2]
     have:=tX (n:=n) (v:=es[k].2) s.1 (vw (s.1 es[k].2) (s.1 ord[m]))
     exact this
  ·have ek : k=es.length:=by omega
   subst ek
   have eo : ord[m]! = ord[m]:=x0g ord m hmo
   have e2 : flO es ord (flS l) (m + 1)=flI es ord[m] (flO es ord (flS l) m) es.length:=by rw [flO,eo]
   exact ⟨m + 1,by omega,by omega,by rw [e2],by rw [e2],hw⟩
 ·have em : m=n:=by omega
  subst em
  have k4:=kx hC (b:=false) (xs:=(List.range es.length).map (flO es ord (flS l) m).2) (g:=497) (cs:=[]) (fun s=>decide (1099511627776 < s.2)) (by simp;omega) (fun x _=>AM hC x)
  rw [dz,<- D0] at k4
  simp only [BZ,kY,x0p (Nat.le_of_eq (kY es.length (flO es ord (flS l) m).2))]
  refine ⟨x0k _,?_⟩
  refine aa k4 (.inl rfl) ?_
  show dW _ _ _ _ _ _ _ _ _ (.bool (jp ((List.range es.length).map (flO es ord (flS l) m).2)))
  cases hb : jp ((List.range es.length).map (flO es ord (flS l) m).2)
  ·simp [BZ,kY]
   rw [x0p (by rw [kY];exact x0k _)]
   simp [spR]
  ·simp
def mP (ns : List Nod) (ls : List Lnk) (l : List Sp) : Int:=if cx ns ls then (if gf l ns.length=0 then b9 ns.length (av ns ls) l else gf l ns.length) else 1
def rG (ns : List Nod) (ls : List Lnk) (l : List Sp) : D:=if mP ns ls l=0 then .sl ((aA ns.length (av ns ls) l).map knD) else .nils
theorem xS {l : List Sp} {n : Nat} (h : gf l n=0) : l.length=n:=by
 unfold gf at h
 split at h
 ·cases h
 ·split at h
  ·omega
  ·cases h
theorem yw (hS : SlC C) (b1 b2 b : Bool) (ns : List Nod) (ls : List Lnk) (l : List Sp) (hls : ls.length < 2 ^ 62) (hl : l.length < 2 ^ 62) (hcv : ∀ l ∈ ls,l.curve.length < 2 ^ 62) : C 428 [.agg [slx b1 (ns.map aR),slx b2 (ls.map aF)],slx b (l.map knD)] (.tup [rG ns ls l,.int .i64 (mP ns ls l)]) []:=by
 have k1:=tQ hC hS b1 b2 ns ls hls hcv
 have k2:=AQ hC b l ns.length hl
 refine aj hC (nf:=N428) rfl rfl ?_
 simp [N428]
 refine aa k1 (.inl rfl) ?_
 unfold rG mP
 cases ht : cx ns ls
 ·simp
 simp
 refine aa k2 (.inl rfl) ?_
 by_cases h0 : gf l ns.length=0
 ·have k3:=xB hC hS b1 b2 b ns ls l hcv ht (xS hC h0)
  simp [h0]
  unfold rZ b9 at k3
  unfold b9
  refine aa k3 (.inr rfl) ?_
  cases hb : jp (aA ns.length (av ns ls) l) <;> simp [h0]
 ·simp [h0]
end Go.Gv
