/-
  Texts of the proof: GvA, GvB, GvC, GvC2, GvC3, GvC4, GvC5, GvM, GvC6, GvC7, GvD, GvD2, GvE.
-/
import Derived.WalkKit
import Derived.Maps.OwnSet
import Derived.ArgAppend
import Derived.Laws.MakeOwn
set_option linter.all false
namespace Go.Gv
open Go.RowKit
inductive Pa where
 | r (b : Nat)
 | n (b i off : Nat)
 deriving DecidableEq,Inhabited
inductive D where
 | any
 | int (k : IntKind) (n : Int)
 | bool (b : Bool)
 | bb
 | str (s : List UInt8)
 | nilp
 | nils
 | agg (ds : List D)
 | tup (ds : List D)
 | sl (es : List (List D))
 | ptr (ds : List D)
 | fn (f : Nat) (cs : List D)
 | own (sz : Nat) (es : List (List D))
 | blk (sz : Nat) (es : List (List D))
 | mp (kt et : Nat) (ks vs : List D)
 | mrf (b : Nat)
 | ref (p : Pa) (k n : Nat)
 | adr (p : Pa) (i off : Nat)
 | agx (ds : List D)
 | tpx (ds : List D)
 | ptx (ds : List D)
 | rfx (n sz : Nat) (ds : List D)
 | fnx (f : Nat) (cs : List D)
 | ifa (T : Nat) (p : Pa) (i off : Nat)
 | ifi (T : Nat) (n : Int)
 | slv (k : Nat) (es : List (List D))
 | fny (f : Nat) (ds cs : List D)
 deriving Inhabited
abbrev Mem:=Addr -> Option Value
def bM (M : Mem) (a : Addr) (vs : List Value) : Prop:=∀ j v,vs[j]? = some v -> M (a.add j)=some v
structure Fid where
 P : Program
 fn : Nat -> Option Nat
 ty : Nat -> TypeId
 vals : Nat -> Value
instance : CoeFun Fid (fun _=>Nat -> Option Nat):=⟨Fid.fn⟩
mutual
def ab (F : Fid) (M : Mem) : D -> Value -> Prop
 | .any,_=>True
 | .int k n,v=>v=.int k n
 | .bool b,v=>v=.bool b
 | .bb,v=>∃ b : Bool,v=.bool b
 | .str s,v=>v=.string ⟨s.toArray⟩
 | .nilp,v=>v=.pointer none
 | .nils,v=>v=.slice none 0 0
 | .agg ds,v=>∃ vs : List Value,v=.agg vs.toArray /\ ap F M ds vs
 | .tup ds,v=>∃ vs : List Value,v=.tuple vs.toArray /\ ap F M ds vs
 | .sl es,v=>∃ (A : Option Addr) (cap : Nat) (vs : List Value) (sz : Nat),v=.slice A es.length cap /\ es.length <= cap /\ aZ F M es vs /\
   (∀ e ∈ es,e.length=sz) /\ (0 < es.length -> ∃ a,A=some a /\ bM M a vs)
 | .ptr ds,v=>∃ (a : Addr) (vs : List Value),v=.pointer (some a) /\ ap F M ds vs /\ bM M a vs
 | .fn g cs,v=>∃ (f : Nat) (vs : List Value),F g=some f /\ v=.func (.func f) #[] vs.toArray /\ ap F M cs vs
 | .own _ _,_=>False
 | .blk _ _,_=>False
 | .mp _ _ _ _,_=>False
 | .mrf _,_=>False
 | .ref _ _ _,_=>False
 | .adr _ _ _,_=>False
 | .agx _,_=>False
 | .tpx _,_=>False
 | .ptx _,_=>False
 | .rfx _ _ _,_=>False
 | .fnx _ _,_=>False
 | .ifa _ _ _ _,_=>False
 | .ifi T n,v=>v=.iface (F.ty T) (.int .i64 n)
 | .slv k es,v=>v=F.vals k /\ ∃ (A : Option Addr) (cap : Nat) (vs : List Value) (sz : Nat),v=.slice A es.length cap /\ es.length <= cap /\ aZ F M es vs /\
   (∀ e ∈ es,e.length=sz) /\ (0 < es.length -> ∃ a,A=some a /\ bM M a vs)
 | .fny _ _ _,_=>False
def ap (F : Fid) (M : Mem) : List D -> List Value -> Prop
 | [],vs=>vs=[]
 | d::ds,vs=>∃ v r,vs=v::r /\ ab F M d v /\ ap F M ds r
def aZ (F : Fid) (M : Mem) : List (List D) -> List Value -> Prop
 | [],vs=>vs=[]
 | e::es,vs=>∃ p r,vs=p++r /\ ap F M e p /\ aZ F M es r
end
def Mem.le (M M' : Mem) : Prop:=∀ a v,M a=some v -> M' a=some v
theorem Mem.le_refl (M : Mem) : M.le M:=fun _ _ h=>h
theorem Mem.le_trans {M M' M'' : Mem} (h : M.le M') (h' : M'.le M'') : M.le M'':=fun a v x=>h' a v (h a v x)
theorem bM.mono {M M' : Mem} (h : M.le M') {a : Addr} {vs : List Value} (c : bM M a vs) : bM M' a vs:=fun j v hj=>h _ _ (c j v hj)
mutual
theorem ab.mono {F : Fid} {M M' : Mem} (h : M.le M') : ∀ (d : D) (v : Value),ab F M d v -> ab F M' d v
 | .any,_,_=>by simp only [ab]
 | .int k n,v,x=>by simpa only [ab] using x
 | .bool b,v,x=>by simpa only [ab] using x
 | .bb,v,x=>by simpa only [ab] using x
 | .str s,v,x=>by simpa only [ab] using x
 | .nilp,v,x=>by simpa only [ab] using x
 | .nils,v,x=>by simpa only [ab] using x
 | .agg ds,v,x=>by
  simp only [ab] at x ⊢
  obtain ⟨vs,e,r⟩:=x
  exact ⟨vs,e,ap.mono h ds vs r⟩
 | .tup ds,v,x=>by
  simp only [ab] at x ⊢
  obtain ⟨vs,e,r⟩:=x
  exact ⟨vs,e,ap.mono h ds vs r⟩
 | .sl es,v,x=>by
  simp only [ab] at x ⊢
  obtain ⟨A,cap,vs,sz,e,hc,r,hs,ha⟩:=x
  exact ⟨A,cap,vs,sz,e,hc,aZ.mono h es vs r,hs,fun hp=>let ⟨a,e1,e2⟩:=ha hp;⟨a,e1,e2.mono h⟩⟩
 | .ptr ds,v,x=>by
  simp only [ab] at x ⊢
  obtain ⟨a,vs,e,r,c⟩:=x
  exact ⟨a,vs,e,ap.mono h ds vs r,c.mono h⟩
 | .fn g cs,v,x=>by
  simp only [ab] at x ⊢
  obtain ⟨f,vs,hf,e,r⟩:=x
  exact ⟨f,vs,hf,e,ap.mono h cs vs r⟩
 | .own _ _,_,x=>by simp only [ab] at x
 | .blk _ _,_,x=>by simp only [ab] at x
 | .mp _ _ _ _,_,x=>by simp only [ab] at x
 | .mrf _,_,x=>by simp only [ab] at x
 | .ref _ _ _,_,x=>by simp only [ab] at x
 | .adr _ _ _,_,x=>by simp only [ab] at x
 | .agx _,_,x=>by simp only [ab] at x
 | .tpx _,_,x=>by simp only [ab] at x
 | .ptx _,_,x=>by simp only [ab] at x
 | .rfx _ _ _,_,x=>by simp only [ab] at x
 | .fnx _ _,_,x=>by simp only [ab] at x
 | .ifa _ _ _ _,_,x=>by simp only [ab] at x
 | .ifi _ _,v,x=>by simpa only [ab] using x
 | .slv k es,v,x=>by
  simp only [ab] at x ⊢
  obtain ⟨e0,A,cap,vs,sz,e,hc,r,hs,ha⟩:=x
  exact ⟨e0,A,cap,vs,sz,e,hc,aZ.mono h es vs r,hs,fun hp=>let ⟨a,e1,e2⟩:=ha hp;⟨a,e1,e2.mono h⟩⟩
 | .fny _ _ _,_,x=>by simp only [ab] at x
theorem ap.mono {F : Fid} {M M' : Mem} (h : M.le M') : ∀ (ds : List D) (vs : List Value),ap F M ds vs -> ap F M' ds vs
 | [],vs,x=>by simpa only [ap] using x
 | d::ds,vs,x=>by
  simp only [ap] at x ⊢
  obtain ⟨v,r,e,x1,x2⟩:=x
  exact ⟨v,r,e,ab.mono h d v x1,ap.mono h ds r x2⟩
theorem aZ.mono {F : Fid} {M M' : Mem} (h : M.le M') : ∀ (es : List (List D)) (vs : List Value),aZ F M es vs -> aZ F M' es vs
 | [],vs,x=>by simpa only [aZ] using x
 | e::es,vs,x=>by
  simp only [aZ] at x ⊢
  obtain ⟨p,r,e1,x1,x2⟩:=x
  exact ⟨p,r,e1,ap.mono h e p x1,aZ.mono h es r x2⟩
end
theorem ap.length {F : Fid} {M : Mem} : ∀ {ds : List D} {vs : List Value},ap F M ds vs -> vs.length=ds.length
 | [],vs,x=>by simp only [ap] at x;simp [x]
 | d::ds,vs,x=>by
  simp only [ap] at x
  obtain ⟨v,r,e,_,x2⟩:=x
  simp [e,ap.length x2]
theorem ap.get {F : Fid} {M : Mem} : ∀ {ds : List D} {vs : List Value},ap F M ds vs -> ∀ {i : Nat} {d : D},ds[i]? = some d -> ∃ v,vs[i]? = some v /\ ab F M d v
 | [],vs,_,i,d,h=>by simp at h
 | d0::ds,vs,x,i,d,h=>by
  simp only [ap] at x
  obtain ⟨v,r,e,x1,x2⟩:=x
  subst e
  cases i with
  | zero=>simp at h;subst h;exact ⟨v,by simp,x1⟩
  | succ i=>simp at h;obtain ⟨v',h1,h2⟩:=ap.get x2 h;exact ⟨v',by simpa using h1,h2⟩
theorem ap.append {F : Fid} {M : Mem} : ∀ {ds es : List D} {vs us : List Value},ap F M ds vs -> ap F M es us -> ap F M (ds++es) (vs++us)
 | [],es,vs,us,x,y=>by simp only [ap] at x;subst x;simpa using y
 | d::ds,es,vs,us,x,y=>by
  simp only [ap] at x
  obtain ⟨v,r,e,x1,x2⟩:=x
  subst e
  simp only [List.cons_append,ap]
  exact ⟨v,r++us,rfl,x1,ap.append x2 y⟩
theorem ap.drop {F : Fid} {M : Mem} : ∀ {ds : List D} {vs : List Value} (n : Nat),ap F M ds vs -> ap F M (ds.drop n) (vs.drop n)
 | ds,vs,0,x=>by simpa using x
 | [],vs,n + 1,x=>by simp only [ap] at x;subst x;simp [ap]
 | d::ds,vs,n + 1,x=>by
  simp only [ap] at x
  obtain ⟨v,r,e,x1,x2⟩:=x
  subst e
  simpa using ap.drop n x2
theorem ap.take {F : Fid} {M : Mem} : ∀ {ds : List D} {vs : List Value} (n : Nat),ap F M ds vs -> ap F M (ds.take n) (vs.take n)
 | ds,vs,0,x=>by simp [ap]
 | [],vs,n + 1,x=>by simp only [ap] at x;subst x;simp [ap]
 | d::ds,vs,n + 1,x=>by
  simp only [ap] at x
  obtain ⟨v,r,e,x1,x2⟩:=x
  subst e
  simp only [List.take_succ_cons,ap]
  exact ⟨v,r.take n,rfl,x1,ap.take n x2⟩
theorem bM.drop {M : Mem} {a : Addr} {vs : List Value} (h : bM M a vs) (n : Nat) : bM M (a.add n) (vs.drop n):=by
 intro j v hj
 rw [List.getElem?_drop] at hj
 have:=h _ _ hj
 have e : (a.add n).add j=a.add (n + j):=by
  unfold Addr.add
  by_cases hi : n=0 <;> by_cases hj : j=0 <;> simp [hi,hj,Nat.add_assoc]
 rw [e]
 exact this
theorem bM.take {M : Mem} {a : Addr} {vs : List Value} (h : bM M a vs) (n : Nat) : bM M a (vs.take n):=by
 intro j v hj
 rw [List.getElem?_take] at hj
 split at hj
 ·exact h _ _ hj
 ·cases hj
theorem aZ.at_ {F : Fid} {M : Mem} {sz : Nat} : ∀ {es : List (List D)} {vs : List Value},aZ F M es vs -> (∀ e ∈ es,e.length=sz) -> ∀ {i : Nat} {e : List D},es[i]? = some e ->
  ap F M e ((vs.drop (i * sz)).take sz)
 | [],vs,_,_,i,e,h=>by simp at h
 | e0::es,vs,x,hs,i,e,h=>by
  simp only [aZ] at x
  obtain ⟨p,r,e1,x1,x2⟩:=x
  subst e1
  have hp : p.length=sz:=by rw [ap.length x1];exact hs e0 (by simp)
  cases i with
  | zero =>
   simp at h;subst h
   have : ((p++r).drop (0 * sz)).take sz=p:=by simp [<- hp]
   rw [this];exact x1
  | succ i =>
   simp at h
   have h2:=aZ.at_ x2 (fun e he=>hs e (by simp [he])) h
   have : (p++r).drop ((i + 1) * sz)=r.drop (i * sz):=by
    rw [Nat.succ_mul,Nat.add_comm,<- List.drop_drop,<- hp,List.drop_left]
   rw [this];exact h2
theorem aZ.drop {F : Fid} {M : Mem} {sz : Nat} : ∀ {es : List (List D)} {vs : List Value} (n : Nat),aZ F M es vs -> (∀ e ∈ es,e.length=sz) -> aZ F M (es.drop n) (vs.drop (n * sz))
 | es,vs,0,x,_=>by simpa using x
 | [],vs,n + 1,x,_=>by simp only [aZ] at x;subst x;simp [aZ]
 | e0::es,vs,n + 1,x,hs=>by
  simp only [aZ] at x
  obtain ⟨p,r,e1,x1,x2⟩:=x
  subst e1
  have hp : p.length=sz:=by rw [ap.length x1];exact hs e0 (by simp)
  have : (p++r).drop ((n + 1) * sz)=r.drop (n * sz):=by
   rw [Nat.succ_mul,Nat.add_comm,<- List.drop_drop,<- hp,List.drop_left]
  rw [this]
  simpa using aZ.drop n x2 (fun e he=>hs e (by simp [he]))
theorem aZ.take {F : Fid} {M : Mem} {sz : Nat} : ∀ {es : List (List D)} {vs : List Value} (n : Nat),aZ F M es vs -> (∀ e ∈ es,e.length=sz) -> aZ F M (es.take n) (vs.take (n * sz))
 | es,vs,0,x,_=>by simp [aZ]
 | [],vs,n + 1,x,_=>by simp only [aZ] at x;subst x;simp [aZ]
 | e0::es,vs,n + 1,x,hs=>by
  simp only [aZ] at x
  obtain ⟨p,r,e1,x1,x2⟩:=x
  subst e1
  have hp : p.length=sz:=by rw [ap.length x1];exact hs e0 (by simp)
  have : (p++r).take ((n + 1) * sz)=p++r.take (n * sz):=by
   rw [Nat.succ_mul,Nat.add_comm,<- hp,List.take_length_add_append]
  rw [this]
  simp only [List.take_succ_cons,aZ]
  exact ⟨p,_,rfl,x1,aZ.take n x2 (fun e he=>hs e (by simp [he]))⟩
theorem aZ.flat {F : Fid} {M : Mem} : ∀ {es : List (List D)} {vs : List Value},aZ F M es vs ↔ ap F M es.flatten vs
 | [],vs=>by simp [aZ,ap]
 | e::es,vs=>by
  simp only [aZ,List.flatten_cons]
  constructor
  ·rintro ⟨p,r,rfl,x1,x2⟩
   exact x1.append (aZ.flat.1 x2)
  ·intro h
   have h1:=h.take e.length
   have h2:=h.drop e.length
   rw [List.take_left] at h1
   rw [List.drop_left] at h2
   exact ⟨_,_,(List.take_append_drop e.length vs).symm,h1,aZ.flat.2 h2⟩
end Go.Gv

namespace Go.Gv
open Go.RowKit
inductive Opd where
 | t (s : Nat)
 | c (d : D)
 deriving Inhabited
inductive KSh where
 | int (q : IntKind)
 | str
 | bool
 | ints (q : IntKind) (n : Nat)
 deriving Inhabited
inductive NOp where
 | mov (x : Opd)
 | asg (x : Opd)
 | frz (x : Opd)
 | ldF (n : Nat) (x : Opd)
 | stP (x y : Opd)
 | stF (n : Nat) (x y : Opd)
 | stL (x y : Opd)
 | mkI (T : Nat) (x : Opd)
 | tya (T : Nat) (x : Opd)
 | callI (g : Nat) (m : String) (T : Nat) (x : Opd) (xs : List Opd)
 | callM (g : Nat) (x : Opd) (xs : List Opd)
 | callR (g : Nat) (x : Opd) (xs : List Opd)
 | callQ (g s : Nat) (x : Opd) (xs : List Opd)
 | boxK (s : Nat) (x : Opd)
 | cpy (sz : Nat) (x y : Opd)
 | ldQ (o : Nat) (x : Opd)
 | appQ (o sz by_ : Nat) (x y : Opd)
 | ldM (n : Nat) (x : Opd)
 | nilo (sz : Nat)
 | nck (x : Opd)
 | pick (c a b : Opd)
 | bin (op : BinOp) (x y : Opd)
 | beq (neg : Bool) (ks : List Nat) (x y : Opd)
 | un (op : UnOp) (x : Opd)
 | conv (k : IntKind) (x : Opd)
 | fld (off n : Nat) (ag : Bool) (x : Opd)
 | idxA (len sz : Nat) (ag : Bool) (x i : Opd)
 | idxS (x i : Opd)
 | ext (i : Nat) (x : Opd)
 | fad (off : Nat) (x : Opd)
 | iadS (sz : Nat) (x i : Opd)
 | iadA (len sz : Nat) (x i : Opd)
 | ld (n : Nat) (ag : Bool) (x : Opd)
 | box (ns : List Nat) (x : Opd)
 | boxF (x : Opd)
 | blsF (sz len : Nat) (zs : List D) (parts : List (Nat × Opd))
 | blsX (sz len : Nat) (zs : List D) (parts : List (Nat × Opd))
 | alc (zs : List D)
 | bld (zs : List D) (parts : List (Nat × Nat × Opd))
 | bls (sz len : Nat) (zs : List D) (ns : List Nat) (parts : List (Nat × Opd))
 | mks (sz by_ : Nat) (zs : List D) (n c : Opd)
 | len (x : Opd)
 | lens (x : Opd)
 | call (g : Nat) (xs : List Opd) (ms : List Bool)
 | callv (x : Opd) (xs : List Opd)
 | callF (g : Nat) (xs : List Opd)
 | callG (g : Nat) (xs : List Opd)
 | callS (g : Nat) (x : Opd) (xs : List Opd)
 | callN (g : Nat) (x : Opd) (xs : List Opd)
 | callE (g : Nat) (x : Opd) (xs : List Opd)
 | callL (g : Nat) (x : Opd) (xs : List Opd)
 | clr (zs : List D) (x : Opd)
 | callA (g : Nat) (xs : List Opd)
 | mk (g : Nat) (xs : List Opd)
 | slc (sz : Nat) (x : Opd) (lo hi : Option Opd)
 | slS (x : Opd) (lo hi : Option Opd)
 | slA (len sz : Nat) (x : Opd)
 | slM (len sz : Nat) (x : Opd)
 | cvS (x : Opd)
 | mn (x y : Opd)
 | mx (x y : Opd)
 | add64 (x y c : Opd)
 | sub64 (x y c : Opd)
 | st (n : Nat) (ns : List Nat) (a v : Opd)
 | app (sz by_ : Nat) (mv : Bool) (x y : Opd)
 | mkm (kt et : Nat)
 | mpl (sh : KSh) (kt et : Nat) (ok : Bool) (z : D) (m x : Opd)
 | mpu (sh : KSh) (kt et : Nat) (z : D) (m x v : Opd)
 | dead
 deriving Inhabited
structure am where
 dst : Option Nat
 op : NOp
 guard : Option (Nat × Bool)
 deriving Inhabited
def rt (t i : Nat) : Nat:=10000 + 16 * t + i
def isV : D -> Bool
 | .own _ _=>false
 | .blk _ _=>false
 | .mp _ _ _ _=>false
 | .ref _ _ _=>false
 | .adr _ _ _=>false
 | .mrf _=>false
 | .agx _=>false
 | .tpx _=>false
 | .ptx _=>false
 | .rfx _ _ _=>false
 | .fnx _ _=>false
 | .ifa _ _ _ _=>false
 | .fny _ _ _=>false
 | _=>true
def isK : D -> Bool
 | .any=>false
 | d=>isV d
def isP : D -> Bool
 | .own _ _=>false
 | .blk _ _=>false
 | .mp _ _ _ _=>false
 | .agx _=>false
 | .tpx _=>false
 | .ptx _=>false
 | .rfx _ _ _=>false
 | .fnx _ _=>false
 | .fny _ _ _=>false
 | _=>true
def isS : D -> Bool
 | .own _ _=>false
 | .blk _ _=>false
 | .mp _ _ _ _=>false
 | .agx ds=>ds.all isP
 | .tpx ds=>ds.all isP
 | .ptx ds=>ds.all isP
 | .rfx _ _ ds=>ds.all isP
 | .fnx _ ds=>ds.all isP
 | .fny _ ds cs=>ds.all isP && cs.all isP
 | _=>true
def au : D -> Bool
 | .int _ _=>true
 | .bool _=>true
 | .str _=>true
 | .nilp=>true
 | .nils=>true
 | .sl _=>true
 | .ptr _=>true
 | .fn _ _=>true
 | _=>false
def isO : D -> Bool
 | .own _ _=>true
 | _=>false
def isC (d : D) : Bool:=au d || isO d
def aP : D -> Bool
 | .int _ _=>true
 | .bool _=>true
 | .str _=>true
 | .nilp=>true
 | .nils=>true
 | .any=>true
 | .ifi _ _=>true
 | _=>false
def cU : D -> Bool
 | .agg ds=>ds.all aP
 | d=>aP d
def isF : D -> Bool
 | .tup ds=>ds.all cU
 | .agg ds=>ds.all aP
 | d=>aP d
def mQ (d : D) : D:=if cU d=true then d else .any
def oY : D -> D
 | .tup ds=>.tup (ds.map mQ)
 | d=>d
def bg (b : Nat) (all : Bool) : Pa -> Bool
 | .r c=>all && c == b
 | .n c _ _=>c == b
def ay (b : Nat) (all : Bool) : D -> Bool
 | .ref p _ _=>bg b all p
 | .adr p _ _=>bg b all p
 | .ifa _ p _ _=>bg b all p
 | .mrf c=>all && c == b
 | _=>false
def co (b : Nat) (all : Bool) : D -> Bool
 | .agx ds=>ds.any (ay b all)
 | .tpx ds=>ds.any (ay b all)
 | .ptx ds=>ds.any (ay b all)
 | .rfx _ _ ds=>ds.any (ay b all)
 | .fnx _ ds=>ds.any (ay b all)
 | .fny _ ds cs=>ds.any (ay b all) || cs.any (ay b all)
 | d=>ay b all d
def aw (ks : List (Nat × Bool)) (d : D) : Bool:=ks.any fun k=>co k.1 k.2 d
def Pa.root : Pa -> Nat
 | .r b=>b
 | .n b _ _=>b
def oq : D -> Option (List D)
 | .agx ds=>some ds
 | .adr p i o=>some [.adr p i o]
 | _=>none
def s5 : D -> Bool
 | .ref _ _ _=>true
 | .adr _ _ _=>true
 | d=>au d
def vd (f : Nat -> D) : Opd -> D
 | .t s=>f s
 | .c d=>d
def aL (f : Nat -> D) : Pa -> Option (Nat × List (List D))
 | .r b=>match f b with
  | .blk sz es=>some (sz,es)
  | _=>none
 | .n b i off=>match f b with
  | .blk _ es=>match (es[i]?.getD [])[off]? with
   | some (.own sz r)=>some (sz,r)
   | _=>none
  | _=>none
def aW (es : List (List D)) (i off n : Nat) (cs : List D) : List (List D):=es.set i ((es[i]?.getD []).take off++cs++(es[i]?.getD []).drop (off + n))
def PR (f : Nat -> D) (p : Pa) (es' : List (List D)) : D :=
 match p with
 | .r b=>match f b with
  | .blk sz _=>.blk sz es'
  | _=>.any
 | .n b i off=>match f b with
  | .blk sz es=>match (es[i]?.getD [])[off]? with
   | some (.own sz' _)=>.blk sz (aW es i off 1 [.own sz' es'])
   | _=>.any
  | _=>.any
def aU : D -> D
 | .own _ r=>.sl r
 | d=>d
def dp1 (f : Nat -> D) : D -> D
 | .ref p k n=>match aL f p with
  | some (_,es)=>.sl (((es.drop k).take n).map fun e=>e.map aU)
  | none=>.any
 | .adr p i off=>match aL f p with
  | some (_,es)=>.ptr (((es[i]?.getD []).drop off).map aU)
  | none=>.any
 | d=>d
def dp (f : Nat -> D) : D -> D
 | .agx ds=>.agg (ds.map (dp1 f))
 | .tpx ds=>.tup (ds.map (dp1 f))
 | .ptx ds=>.ptr (ds.map (dp1 f))
 | .fnx g cs=>.fn g (cs.map (dp1 f))
 | d=>dp1 f d
def ldc (p : Pa) (i o : Nat) : D -> D
 | .own _ r=>match p with
  | .r b=>.ref (.n b i o) 0 r.length
  | _=>.any
 | d=>d
def cellsOf : D -> List D
 | .agg ds=>ds
 | d=>[d]
def ke (ag : Bool) (n : Nat) (ds : List D) : D:=if ag then .agg (ds.take n) else ds.headD .any
def gk : List D -> List (Nat × Nat × D) -> List D
 | ds,[]=>ds
 | ds,(off,n,d)::r=>gk (ds.take off++(cellsOf d).take n++ds.drop (off + n)) r
def bK (sz : Nat) : Nat -> List D -> List (List D)
 | 0,_=>[]
 | n + 1,ds=>ds.take sz::bK sz n (ds.drop sz)
def c9 (f : Nat -> D) (o : Option Opd) (dflt : Nat) (K : Nat -> Prop) : Prop :=
 match o with
 | none=>K dflt
 | some x=>match vd f x with
  | .int _ n=>0 <= n /\ K n.toNat
  | _=>False
def b0 : List Nat -> List D -> List D -> Option Bool
 | [],[],[]=>some true
 | 0::ks,.int k a::xs,.int k' b::ys=>if k=k' then (b0 ks xs ys).map (decide (a=b) && ·) else none
 | 1::ks,.bool a::xs,.bool b::ys=>(b0 ks xs ys).map ((a == b) && ·)
 | 2::ks,.str a::xs,.str b::ys=>(b0 ks xs ys).map (decide (a=b) && ·)
 | _,_,_=>none
def dB (n : Nat) : D -> D
 | .nils=>if n=0 then .nils else .own n []
 | d=>d
def d3 (ns : List Nat) (cs : List D) : List D:=if ns=[] then cs else List.zipWith dB ns cs
def c8 (f : Nat -> D) (d : D) (K : D -> List Nat -> Prop) : Prop :=
 match d with
 | .ref (.r b) k n=>k=0 /\ match f b with
  | .blk sz es=>es.length=n /\ (∀ e ∈ es,∀ c ∈ e,au c=true) /\ K (.own sz es) [b]
  | _=>False
 | d=>au d=true /\ K d []
def jM (f : Nat -> D) : List D -> (List D -> List Nat -> Prop) -> Prop
 | [],K=>K [] []
 | d::ds,K=>c8 f d fun c bs=>jM f ds fun cs bs'=>K (c::cs) (bs++bs')
def bC : List Nat -> Bool
 | []=>true
 | x::xs=>!xs.contains x && bC xs
def eA (f : Nat -> D) (d : D) (ns : List Nat) (K : List D -> List Nat -> Prop) : Prop :=
 match d with
 | .agg ds=>(∀ c ∈ ds,au c=true) /\ (ns=[] \/ ns.length=ds.length) /\ K (d3 ns ds) []
 | .agx ds=>(ns=[] \/ ns.length=ds.length) /\ jM f ds fun cs bs=>bC bs=true /\ K (d3 ns cs) bs
 | d=>(ns=[] \/ ns.length=1) /\ c8 f d fun c bs=>K (d3 ns [c]) bs
def bO (bs : List Nat) : List (Nat × D):=bs.map fun b=>(b,.any)
def ef (f : Nat -> D) (mv : Bool) (d : D) (sz : Nat) (K : List (List D) -> List Nat -> Prop) : Prop :=
 match d with
 | .nils=>K [] []
 | .sl es=>(∀ e ∈ es,e.length=sz /\ ∀ c ∈ e,au c=true) /\ K es []
 | .ref p k n=>match mv with
  | true=>k=0 /\ match p with
   | .r b=>match f b with
    | .blk sz' es=>sz'=sz /\ es.length=n /\ (∀ e ∈ es,∀ c ∈ e,isC c=true) /\ K es [b]
    | _=>False
   | _=>False
  | false=>match aL f p with
   | some (sz',es)=>sz'=sz /\ k + n <= es.length /\ (∀ e ∈ (es.drop k).take n,∀ c ∈ e,au c=true) /\ K ((es.drop k).take n) []
   | none=>False
 | _=>False
def bJ : D -> D
 | .agx ds=>.agg ds
 | d=>d
def nZ (q : IntKind) (n : Int) : Prop:=(Lit.int q n).wf=true
def fl1 : D -> Bool
 | .int _ _=>true
 | .bool _=>true
 | .str _=>true
 | _=>false
def gy : D -> Bool
 | .agg ds=>ds.all fl1
 | d=>fl1 d
def cH : KSh -> D -> Prop
 | .int q,.int q' n=>q'=q /\ nZ q n
 | .str,.str s=>s.length <= maxLen
 | .bool,.bool _=>True
 | .ints q n,.agg ds=>ds.length=n /\ ∀ d ∈ ds,∃ x,d=.int q x /\ nZ q x
 | _,_=>False
def gi : D -> D -> Prop
 | .int q _,.int q' n=>q'=q /\ nZ q n
 | .bool _,.bool _=>True
 | .str _,.str s=>s.length <= maxLen
 | _,_=>False
def mL : D -> D -> Bool
 | .int k a,.int k' b=>decide (k=k') && decide (a=b)
 | .bool a,.bool b=>a == b
 | .str a,.str b=>decide (a=b)
 | _,_=>false
def mM : List D -> List D -> Bool
 | [],[]=>true
 | a::as,b::bs=>mL a b && mM as bs
 | _,_=>false
def eqD : D -> D -> Bool
 | .agg as,.agg bs=>mM as bs
 | a,b=>mL a b
def cJ : List D -> List D -> D -> Option D
 | k::ks,v::vs,x=>if eqD x k then some v else cJ ks vs x
 | _,_,_=>none
def cW : D -> List D
 | .agg ds=>ds
 | d=>[d]
def fm (f : Nat -> D) : List (Nat × Opd) -> List (List D) -> List (List D)
 | [],es=>es
 | p::ps,es=>fm f ps (es.set p.1 (cW (vd f p.2)))
def ik (f : Nat -> D) (sz len : Nat) (zs : List D) (parts : List (Nat × Opd)) : List D:=gk (List.replicate len zs).flatten (parts.map fun p=>(p.1 * sz,sz,bJ (vd f p.2)))
def ij : List D -> UInt8
 | [.int _ n]=>UInt8.ofNat n.toNat
 | _=>0
def res (f : Nat -> D) (K : D -> Prop) : NOp -> Prop
 | .mov x=>isS (vd f x)=true /\ K (vd f x)
 | .nck x=>match vd f x with
  | .ptr ds=>K (.ptr ds)
  | .adr p i off=>K (.adr p i off)
  | .ptx ds=>K (.ptx ds)
  | _=>False
 | .pick c a b=>match vd f c with
  | .bool v=>(v=true -> isS (vd f a)=true /\ K (vd f a)) /\ (v=false -> isS (vd f b)=true /\ K (vd f b))
  | _=>False
 | .bin op x y=>match vd f x,vd f y with
  | .int k a,.int k' b=>match op with
   | .add=>k=k' /\ K (.int k (k.wrap (a + b)))
   | .sub=>k=k' /\ K (.int k (k.wrap (a - b)))
   | .mul=>k=k' /\ K (.int k (k.wrap (a * b)))
   | .quo=>k=k' /\ b ≠ 0 /\ K (.int k (k.wrap (a.tdiv b)))
   | .rem=>k=k' /\ b ≠ 0 /\ K (.int k (a.tmod b))
   | .and=>k=k' /\ K (.int k (bits .and k a b))
   | .or=>k=k' /\ K (.int k (bits .or k a b))
   | .xor=>k=k' /\ K (.int k (bits .xor k a b))
   | .andNot=>k=k' /\ K (.int k (bits .andNot k a b))
   | .shl=>0 <= b /\ K (.int k (k.wrap (a * 2 ^ (min b.toNat k.bits))))
   | .shr=>0 <= b /\ K (.int k (a.fdiv (2 ^ (min b.toNat k.bits))))
   | .eql=>k=k' /\ K (.bool (decide (a=b)))
   | .neq=>k=k' /\ K (.bool (!decide (a=b)))
   | .lss=>k=k' /\ K (.bool (decide (a < b)))
   | .leq=>k=k' /\ K (.bool (decide (a <= b)))
   | .gtr=>k=k' /\ K (.bool (decide (b < a)))
   | .geq=>k=k' /\ K (.bool (decide (b <= a)))
  | .str a,.str b=>match op with
   | .eql=>K (.bool (decide (a=b)))
   | .neq=>K (.bool (!decide (a=b)))
   | .add=>((a++b).length : Int) <= 9223372036854775807 /\ K (.str (a++b))
   | .lss=>K (.bool (Op.bytesLess a b))
   | .leq=>K (.bool (Op.bytesLess a b || a == b))
   | .gtr=>K (.bool !(Op.bytesLess a b || a == b))
   | .geq=>K (.bool !(Op.bytesLess a b))
   | _=>False
  | _,_=>False
 | .un op x=>match vd f x with
  | .bool b=>match op with
   | .not=>K (.bool (!b))
   | _=>False
  | .int k n=>match op with
   | .neg=>K (.int k (k.wrap (0 - n)))
   | _=>False
  | _=>False
 | .conv k x=>match vd f x with
  | .int _ n=>K (.int k (k.wrap n))
  | _=>False
 | .beq neg ks x y=>match vd f x,vd f y with
  | .bool a,.bool b=>ks=[] /\ K (.bool ((a == b) != neg))
  | .agg a,.agg b=>ks ≠ [] /\ match b0 ks a b with
   | some r=>K (.bool (r != neg))
   | none=>False
  | .nils,.nils=>ks=[9] /\ K (.bool (!neg))
  | .sl es,.nils=>ks=[9] /\ (0 < es.length -> K (.bool neg)) /\ (es.length=0 -> K .bb)
  | .nilp,.nilp=>ks=[8] /\ K (.bool (!neg))
  | .ptr _,.nilp=>ks=[8] /\ K (.bool neg)
  | _,_=>False
 | .fld off n ag x=>match vd f x with
  | .agg ds=>off + n <= ds.length /\ K (ke ag n (ds.drop off))
  | .agx ds=>off + n <= ds.length /\ match ag with
   | true=>K (.agx ((ds.drop off).take n))
   | false=>K ((ds.drop off).headD .any)
  | _=>False
 | .idxA len sz ag x i=>match vd f x,vd f i with
  | .agg ds,.int _ j=>0 <= j /\ j < len /\ j.toNat * sz + sz <= ds.length /\ K (ke ag sz (ds.drop (j.toNat * sz)))
  | .agx ds,.int _ j=>0 <= j /\ j < len /\ j.toNat * sz + sz <= ds.length /\ match ag with
   | true=>K (.agx ((ds.drop (j.toNat * sz)).take sz))
   | false=>K ((ds.drop (j.toNat * sz)).headD .any)
  | _,_=>False
 | .idxS x i=>match vd f x,vd f i with
  | .str s,.int _ j=>0 <= j /\ ∃ b,s[j.toNat]? = some b /\ K (.int .u8 b.toNat)
  | _,_=>False
 | .ext i x=>match vd f x with
  | .tup ds=>∃ d,ds[i]? = some d /\ K d
  | .tpx ds=>∃ d,ds[i]? = some d /\ K d
  | _=>False
 | .mkI T x=>match vd f x with
  | .adr p i off=>K (.ifa T p i off)
  | .int k n=>k=.i64 /\ K (.ifi T n)
  | _=>False
 | .tya T x=>match vd f x with
  | .ifi T' n=>T'=T /\ K (.int .i64 n)
  | _=>False
 | .fad off x=>match vd f x with
  | .adr p i o=>K (.adr p i (o + off))
  | .ptr ds=>K (.ptr (ds.drop off))
  | .ptx ds=>K (.ptx (ds.drop off))
  | _=>False
 | .iadS sz x i=>match vd f x,vd f i with
  | .sl es,.int _ j=>0 <= j /\ ∃ e,es[j.toNat]? = some e /\ e.length=sz /\ K (.ptr e)
  | .slv _ es,.int _ j=>0 <= j /\ ∃ e,es[j.toNat]? = some e /\ e.length=sz /\ K (.ptr e)
  | .rfx n sz' ds,.int _ j=>0 <= j /\ j.toNat < n /\ sz'=sz /\ K (.ptx (ds.drop (j.toNat * sz)))
  | .ref p k n,.int _ j=>0 <= j /\ j.toNat < n /\ match aL f p with
   | some (sz',_)=>sz'=sz /\ K (.adr p (k + j.toNat) 0)
   | none=>False
  | _,_=>False
 | .iadA len sz x i=>match vd f x,vd f i with
  | .adr p r o,.int _ j=>0 <= j /\ j < len /\ K (.adr p r (o + j.toNat * sz))
  | .ptr ds,.int _ j=>0 <= j /\ j < len /\ K (.ptr (ds.drop (j.toNat * sz)))
  | _,_=>False
 | .ld n ag x=>match vd f x with
  | .adr p i off=>match aL f p with
   | some (_,es)=>∃ r,es[i]? = some r /\ off + n <= r.length /\ match ag with
    | true=>(((r.drop off).take n).all isV=true -> K (.agg ((r.drop off).take n))) /\
      (((r.drop off).take n).all isV=false -> K (.agx (((r.drop off).take n).mapIdx fun j c=>ldc p i (off + j) c)))
    | false=>K (ldc p i off ((r.drop off).headD .any))
   | none=>False
  | .ptr ds=>n <= ds.length /\ K (ke ag n ds)
  | .ptx ds=>n <= ds.length /\ match ag with
   | true=>((ds.take n).all isV=true -> K (.agg (ds.take n))) /\ ((ds.take n).all isV=false -> K (.agx (ds.take n)))
   | false=>0 < n /\ K (ds.headD .any)
  | _=>False
 | .blsF sz len zs parts=>(∀ p ∈ parts,p.1 < len /\ (cW (vd f p.2)).length=sz /\ ∀ c ∈ cW (vd f p.2),au c=true) /\ 0 < len /\
   (∀ e ∈ fm f parts (List.replicate len zs),∀ c ∈ e,au c=true) /\ K (.sl (fm f parts (List.replicate len zs)))
 | .blsX sz len zs parts=>zs.all au=true /\ (∀ p ∈ parts,p.1 < len /\ match vd f p.2 with
    | .agg ds=>ds.length=sz
    | .agx ds=>ds.length=sz
    | _=>False) /\ K (.rfx len sz (ik f sz len zs parts))
 | .boxF x=>match vd f x with
  | .agx ds=>K (.ptx ds)
  | .agg ds=>K (.ptr ds)
  | d=>au d=true /\ K (.ptr [d])
 | .bld zs parts=>(∀ p ∈ parts,isS (vd f p.2.2)=true /\ p.1 + p.2.1 <= zs.length /\ match vd f p.2.2 with
    | .agg ds=>ds.length=p.2.1
    | .agx ds=>ds.length=p.2.1
    | .any=>False
    | .tpx _=>False
    | .ptx _=>False
    | .rfx _ _ _=>False
    | .fny _ _ _=>False
    | .fnx _ _=>False
    | _=>p.2.1=1) /\
   ((parts.all fun p=>isV (vd f p.2.2))=true -> K (.agg (gk zs (parts.map fun p=>(p.1,p.2.1,vd f p.2.2))))) /\
   ((parts.all fun p=>isV (vd f p.2.2))=false -> K (.agx (gk zs (parts.map fun p=>(p.1,p.2.1,bJ (vd f p.2.2))))))
 | .len x=>match vd f x with
  | .sl es=>K (.int .i64 es.length)
  | .nils=>K (.int .i64 0)
  | .ref _ _ n=>K (.int .i64 n)
  | .rfx n _ _=>K (.int .i64 n)
  | _=>False
 | .lens x=>match vd f x with
  | .str s=>K (.int .i64 s.length)
  | _=>False
 | .mk g xs=>(∀ x ∈ xs,isP (vd f x)=true) /\ ((xs.all fun x=>isV (vd f x))=true -> K (.fn g (xs.map (vd f)))) /\ ((xs.all fun x=>isV (vd f x))=false -> K (.fnx g (xs.map (vd f))))
 | .slc sz x lo hi=>match vd f x with
  | .sl es=>(∀ e ∈ es,e.length=sz) /\ c9 f hi es.length fun h=>c9 f lo 0 fun l=>l <= h /\ h <= es.length /\ K (.sl ((es.take h).drop l))
  | .nils=>c9 f hi 0 fun h=>c9 f lo 0 fun l=>l <= h /\ h <= 0 /\ K (.sl [])
  | .ref p k n=>match aL f p with
   | some (sz',_)=>sz'=sz /\ c9 f hi n fun h=>c9 f lo 0 fun l=>l <= h /\ h <= n /\ K (.ref p (k + l) (h - l))
   | none=>False
  | _=>False
 | .slS x lo hi=>match vd f x with
  | .str s=>c9 f hi s.length fun h=>c9 f lo 0 fun l=>l <= h /\ h <= s.length /\ K (.str ((s.take h).drop l))
  | _=>False
 | .slA len sz x=>match vd f x with
  | .ptr ds=>0 < len /\ 0 < sz /\ len * sz <= ds.length /\ K (.sl (bK sz len ds))
  | _=>False
 | .cvS x=>match vd f x with
  | .sl es=>0 < es.length /\ (∀ e ∈ es,∃ n : Nat,e=[.int .u8 n] /\ n < 256) /\ K (.str (es.map ij))
  | _=>False
 | .mn x y=>match vd f x,vd f y with
  | .int k a,.int k' b=>k=k' /\ K (.int k (if b < a then b else a))
  | _,_=>False
 | .mx x y=>match vd f x,vd f y with
  | .int k a,.int k' b=>k=k' /\ K (.int k (if a < b then b else a))
  | _,_=>False
 | .add64 x y c=>match vd f x,vd f y,vd f c with
  | .int .u64 a,.int .u64 b,.int .u64 k=>0 <= a /\ a < 18446744073709551616 /\ 0 <= b /\ b < 18446744073709551616 /\ 0 <= k /\ k <= 1 /\
    K (.tup [.int .u64 ((a + b + k) % 18446744073709551616),.int .u64 ((a + b + k) / 18446744073709551616)])
  | _,_,_=>False
 | .sub64 x y c=>match vd f x,vd f y,vd f c with
  | .int .u64 a,.int .u64 b,.int .u64 k=>0 <= a /\ a < 18446744073709551616 /\ 0 <= b /\ b < 18446744073709551616 /\ 0 <= k /\ k <= 1 /\
    K (.tup [.int .u64 ((a - b - k) % 18446744073709551616),.int .u64 (if a < b + k then 1 else 0)])
  | _,_,_=>False
 | .mpl sh kt et ok z m x=>match vd f m with
  | .mrf b=>match f b with
   | .mp kt' et' ks vs=>kt'=kt /\ et'=et /\ cH sh (vd f x) /\ match ok with
    | true=>K (.tup [(cJ ks vs (vd f x)).getD z,.bool (cJ ks vs (vd f x)).isSome])
    | false=>K ((cJ ks vs (vd f x)).getD z)
   | _=>False
  | _=>False
 | _=>False
def d6 (f : Nat -> D) (sz : Nat) (ns : List Nat) : List (Nat × Opd) -> List (List D) -> List Nat -> (List (List D) -> List Nat -> Prop) -> Prop
 | [],es,bs,K=>K es bs
 | (i,x)::ps,es,bs,K=>i < es.length /\ eA f (vd f x) ns fun cs bs'=>cs.length=sz /\ d6 f sz ns ps (es.set i cs) (bs++bs') K
def stK (d : D) (ns : List Nat) (b : Nat) : List (Nat × Bool) :=
 match d with
 | .agx _=>[(b,false)]
 | .ref _ _ _=>[(b,false)]
 | _=>if ns=[] then [] else [(b,false)]
def aH (f : Nat -> D) : D -> Prop
 | .ref p k n=>match aL f p with
  | some (_,es)=>k + n <= es.length
  | none=>False
 | .adr p _ _=>match aL f p with
  | some _=>True
  | none=>False
 | .mrf _=>False
 | .ifa _ _ _ _=>False
 | _=>True
def bk (f : Nat -> D) : D -> Prop
 | .agx ds=>∀ d ∈ ds,aH f d
 | .tpx ds=>∀ d ∈ ds,aH f d
 | .ptx ds=>∀ d ∈ ds,aH f d
 | .rfx _ _ _=>False
 | .fny _ _ _=>False
 | .fnx _ ds=>∀ d ∈ ds,aH f d
 | d=>aH f d
def dpv (f : Nat -> D) (x : Opd) : D:=dp f (vd f x)
def cA (dst : Option Nat) (K : List (Nat × D) -> List (Nat × Bool) -> Prop) (d : D) : Prop :=
 match dst with
 | some t=>K [(t,d)] []
 | none=>K [] []
def fbE (f : Nat -> D) (b : Nat) : Nat -> D:=fun t=>if t=b then .any else f t
def lR (f : Nat -> D) (xs : List Opd) (es' : List (List D)) : Prop:=(xs.all fun y=>isV (vd f y))=true \/ ∀ e ∈ es',∀ c ∈ e,aP c=true
def j9 (f : Nat -> D) (b : Nat) (x : Opd) : Prop:=match vd f x with
 | .ref (.r c) k n=>k=0 /\ c ≠ b /\ match f c with
  | .blk _ es=>es.length=n /\ ∀ e ∈ es,∀ c ∈ e,aP c=true
  | _=>False
 | d=>isV d=true
def jg (f : Nat -> D) (x : Opd) : D:=match vd f x with
 | .ref (.r c) _ _=>match f c with
  | .blk sz es=>.own sz es
  | _=>.any
 | d=>d
def cF (f : Nat -> D) : Pa -> Nat × D
 | .r c=>(c,.any)
 | .n c i o=>match f c with
  | .blk sz0 es0=>(c,.blk sz0 (aW es0 i o 1 [.any]))
  | _=>(c,.any)
def cS (dst : Option Nat) : List (Nat × D):=match dst with
 | some t=>[(t,.tup [])]
 | none=>[]
def bN (dst : Option Nat) (d : D) : List (Nat × D):=match dst with
 | some t=>[(t,d)]
 | none=>[]
def gC : D -> List D
 | .agg ds=>ds
 | .tup ds=>ds
 | d=>[d]
def eE (t i : Nat) : D -> D
 | .own _ es=>.ref (.r (rt t i)) 0 es.length
 | .blk _ _=>.adr (.r (rt t i)) 0 0
 | d=>d
def bI (t : Nat) : Nat -> List D -> List D
 | _,[]=>[]
 | i,d::ds=>eE t i d::bI t (i + 1) ds
def dz (t : Nat) : D -> D
 | .agg ds=>.agx (bI t 1 ds)
 | .tup ds=>.tpx (bI t 1 ds)
 | d=>eE t 1 d
def ci (t i : Nat) : D -> List (Nat × D)
 | .own sz es=>[(rt t i,.blk sz es)]
 | .blk sz es=>[(rt t i,.blk sz es)]
 | _=>[]
def bB (t : Nat) : Nat -> List D -> List (Nat × D)
 | _,[]=>[]
 | i,d::ds=>ci t i d++bB t (i + 1) ds
def aK (t : Nat) (R : D) : List (Nat × D):=bB t 1 (gC R)
def df (t : Nat) (R : D) : List (Nat × Bool):=(aK t R).map fun p=>(p.1,true)
def tg : D -> Bool
 | .ref _ _ _=>false
 | .adr _ _ _=>false
 | .ifa _ _ _ _=>false
 | .mrf _=>false
 | _=>true
def okR : D -> Bool
 | .agg ds=>decide (ds.length <= 14) && ds.all tg
 | .tup ds=>decide (ds.length <= 14) && ds.all tg
 | .own _ _=>true
 | .blk _ _=>true
 | _=>false
def dl (es : List (List D)) (k n : Nat) (zs : List D) : List (List D):=es.take k++List.replicate n zs++es.drop (k + n)
def gf (es : List (List D)) (k : Nat) (rs : List (List D)) : List (List D):=es.take k++rs++es.drop (k + rs.length)
def gx (b : Nat) : D -> Bool
 | .ref (.n c i o) _ _=>c != b || (i == 0 && o == 1)
 | d=>!ay b false d
def iY (c : Nat) (q : Pa) : D -> D
 | .ref (.r c') k n=>if c'=c then .ref q k n else .ref (.r c') k n
 | d=>d
def aq (C : Nat -> List D -> D -> List D -> Prop) (f : Nat -> D) (dst : Option Nat) (K : List (Nat × D) -> List (Nat × Bool) -> Prop) (op : NOp) : Prop :=
 match op with
 | .asg x=>match dst with
  | some t=>match vd f x with
   | .ref (.r c) k n=>if c=rt t 0 then K [(t,.ref (.r c) k n)] [] else match f c with
    | .blk sz es=>K [(t,.ref (.r (rt t 0)) k n),(rt t 0,.blk sz es),(c,.any)] [(rt t 0,true)]
    | _=>False
   | d=>isS d=true /\ K [(t,d)] []
  | none=>False
 | .frz x=>match dst with
  | some t=>match vd f x with
   | .ref (.r c) k n=>aH f (.ref (.r c) k n) /\ K [(t,dp1 f (.ref (.r c) k n)),(c,.any)] []
   | d=>isS d=true /\ K [(t,d)] []
  | none=>False
 | .ldQ o x=>match vd f x with
  | .adr (.r c) i off=>off=o /\ match f c with
   | .blk _ es=>∃ r,es[i]? = some r /\ ∃ d,r[off]? = some d /\ cA dst K (ldc (.r c) i off d)
   | _=>False
  | _=>False
 | .appQ o sz by_ x y=>match dst with
  | some t=>match vd f x with
   | .ref (.n c i o') k n=>o'=o /\ ef f false (vd f y) sz fun rowsY bs=>bs=[] /\ c ≠ rt t 0 /\ match f c with
    | .blk sz0 es0=>∃ row0,es0[i]? = some row0 /\ ∃ es,row0[o']? = some (.own sz es) /\ k + n <= es.length /\ (n + rowsY.length) * by_ <= 140737488355328 /\
      K [(t,.ref (.r (rt t 0)) 0 (n + rowsY.length)),(rt t 0,.blk sz ((es.drop k).take n++rowsY)),(c,.blk sz0 (aW es0 i o' 1 [.any]))] [(rt t 0,true)]
    | _=>False
   | _=>False
  | none=>False
 | .cpy sz x y=>match dst with
  | some t=>ef f false (vd f y) sz fun rows bs=>bs=[] /\ 0 < rows.length /\ match vd f x with
   | .ref (.r b) k n=>(n=0 -> K [(t,.int .i64 0)] []) /\ (0 < n -> match f b with
    | .blk sz' es=>sz'=sz /\ k + n <= es.length /\ (∀ e ∈ es,∀ c ∈ e,au c=true) /\ (∀ e ∈ rows,∀ c ∈ e,au c=true) /\ K [(t,.int .i64 (min rows.length n : Nat)),(b,.blk sz (gf es k (rows.take n)))] []
    | _=>False)
   | _=>False
  | none=>False
 | .ldM n x=>match dst with
  | some t=>match vd f x with
   | .adr (.r c) i off=>i=0 /\ off=0 /\ match f c with
    | .blk _ [row]=>row.length=n /\ okR (.agg row)=true /\ (aK t (.agg row)).all (fun p=>p.1 != c)=true /\ K ((t,dz t (.agg row))::(c,.any)::aK t (.agg row)) (df t (.agg row))
    | _=>False
   | _=>False
  | none=>False
 | .stP x y=>dst=none /\ match y with
  | .t s=>s < 10000 /\ match f s with
   | .adr (.r c) i0 o0=>i0=0 /\ o0=0 /\ match f c with
    | .blk _ [row]=>(∀ d ∈ row,au d=true) /\ match vd f x with
     | .adr (.n b i1 o1) i off=>b ≠ c /\ match f b with
      | .blk sz0 es0=>∃ row0,es0[i1]? = some row0 /\ ∃ sz1 es,row0[o1]? = some (.own sz1 es) /\ ∃ r,es[i]? = some r /\ off + 1 <= r.length /\
        K [(b,.blk sz0 (aW es0 i1 o1 1 [.own sz1 (aW es i off 1 [.ptr row])])),(s,.ptr row),(c,.any)] []
      | _=>False
     | _=>False
    | _=>False
   | _=>False
  | .c _=>False
 | .stL x y=>dst=none /\ match vd f x,vd f y with
  | .adr (.r b) i off,.ref (.n b' i' o') k n=>b'=b /\ i'=i /\ o'=off /\ k=0 /\ match f b with
   | .blk sz0 es0=>∃ row0,es0[i]? = some row0 /\ ∃ sz es,row0[off]? = some (.own sz es) /\ n <= es.length /\ K [(b,.blk sz0 (aW es0 i off 1 [.own sz (es.take n)]))] []
   | _=>False
  | _,_=>False
 | .stF n x y=>dst=none /\ match x with
  | .t s=>s < 10000 /\ match f s with
   | .adr (.r c) i0 o0=>i0=0 /\ o0=0 /\ match f c with
    | .blk _ [row]=>row.length=n /\ ∃ ds,oq (vd f y)=some ds /\ ds.length=n /\ ds.all s5=true /\ K [(s,.ptx ds),(c,.any)] []
    | _=>False
   | _=>False
  | .c _=>False
 | .ldF n x=>match dst with
  | some t=>match vd f x with
   | .adr (.r c) i off=>match f c with
    | .blk _ es=>∃ r,es[i]? = some r /\ off + n <= r.length /\ K [(t,.agg (((r.drop off).take n).map aU)),(c,.any)] []
    | _=>False
   | _=>False
  | none=>False
 | .slM len sz x=>match dst with
  | some t=>match vd f x with
   | .adr (.r c) i off=>i=0 /\ off=0 /\ c ≠ rt t 0 /\ match f c with
    | .blk _ [row]=>0 < len /\ 0 < sz /\ row.length=len * sz /\ (∀ d ∈ row,au d=true) /\ K [(t,.ref (.r (rt t 0)) 0 len),(rt t 0,.blk sz (bK sz len row)),(c,.any)] [(rt t 0,true)]
    | _=>False
   | _=>False
  | none=>False
 | .nilo sz=>match dst with
  | some t=>0 < sz /\ K [(t,.ref (.r (rt t 0)) 0 0),(rt t 0,.blk sz [])] [(rt t 0,true)]
  | none=>False
 | .box ns x=>match dst with
  | some t=>eA f (vd f x) ns fun cs bs=>bs.contains (rt t 0)=false /\ K ((t,.adr (.r (rt t 0)) 0 0)::(rt t 0,.blk cs.length [cs])::bO bs) [(rt t 0,true)]
  | none=>False
 | .alc zs=>match dst with
  | some t=>K [(t,.adr (.r (rt t 0)) 0 0),(rt t 0,.blk zs.length [zs])] [(rt t 0,true)]
  | none=>False
 | .bls sz len zs ns parts=>match dst with
  | some t=>d6 f sz ns parts (List.replicate len zs) [] fun es bs=>bC bs=true /\ bs.contains (rt t 0)=false /\ K ((t,.ref (.r (rt t 0)) 0 len)::(rt t 0,.blk sz es)::bO bs) [(rt t 0,true)]
  | none=>False
 | .mks sz by_ zs n c=>match dst with
  | some t=>match vd f n,vd f c with
   | .int _ n,.int _ c=>0 <= n /\ n <= c /\ c * by_ <= 140737488355328 /\ K [(t,.ref (.r (rt t 0)) 0 n.toNat),(rt t 0,.blk sz (List.replicate c.toNat zs))] [(rt t 0,true)]
   | _,_=>False
  | none=>False
 | .st n ns a v=>dst=none /\ eA f (vd f v) ns fun cs bs=>cs.length=n /\ match vd f a with
  | .adr (.r b) i off=>bs.contains b=false /\ match f b with
   | .blk sz es=>∃ r,es[i]? = some r /\ off + n <= r.length /\ K ((b,.blk sz (aW es i off n cs))::bO bs) (stK (vd f v) ns b)
   | _=>False
  | .adr (.n b i0 o0) i off=>bs=[] /\ (∀ c ∈ cs,au c=true) /\ match f b with
   | .blk sz0 es0=>∃ row0,es0[i0]? = some row0 /\ ∃ sz es,row0[o0]? = some (.own sz es) /\ ∃ r,es[i]? = some r /\ off + n <= r.length /\ K [(b,.blk sz0 (aW es0 i0 o0 1 [.own sz (aW es i off n cs)]))] []
   | _=>False
  | _=>False
 | .app sz by_ mv x y=>match dst with
  | some t=>ef f mv (vd f y) sz fun rowsY bs=>bs.contains (rt t 0)=false /\ match vd f x with
   | .nils=>rowsY.length * by_ <= 140737488355328 /\ K ((t,.ref (.r (rt t 0)) 0 rowsY.length)::(rt t 0,.blk sz rowsY)::bO bs) [(rt t 0,true)]
   | .ref (.r c) k n=>c ≠ rt t 0 /\ bs.contains c=false /\ match f c with
    | .blk sz' es=>sz'=sz /\ k + n <= es.length /\ (n + rowsY.length) * by_ <= 140737488355328 /\
      K ((t,.ref (.r (rt t 0)) 0 (n + rowsY.length))::(rt t 0,.blk sz ((es.drop k).take n++rowsY))::(c,.any)::bO bs) [(rt t 0,true)]
    | _=>False
   | .ref (.n c i o) k n=>c ≠ rt t 0 /\ bs.contains c=false /\ match f c with
    | .blk sz0 es0=>∃ row0,es0[i]? = some row0 /\ ∃ es,row0[o]? = some (.own sz es) /\ k + n <= es.length /\ (n + rowsY.length) * by_ <= 140737488355328 /\
      K ((t,.ref (.r (rt t 0)) 0 (n + rowsY.length))::(rt t 0,.blk sz ((es.drop k).take n++rowsY))::(c,.blk sz0 (aW es0 i o 1 [.any]))::bO bs) [(rt t 0,true)]
    | _=>False
   | _=>False
  | none=>False
 | .mkm kt et=>match dst with
  | some t=>K [(t,.mrf (rt t 0)),(rt t 0,.mp kt et [] [])] [(rt t 0,true)]
  | none=>False
 | .mpu sh kt et z m x v=>dst=none /\ match vd f m with
  | .mrf b=>match f b with
   | .mp kt' et' ks vs=>kt'=kt /\ et'=et /\ ks.length < maxLen /\ cH sh (vd f x) /\ gi z (vd f v) /\ K [(b,.mp kt et (vd f x::ks) (vd f v::vs))] []
   | _=>False
  | _=>False
 | .call g xs _=>(∀ x ∈ xs,bk f (vd f x)) /\ ∃ d,C g (xs.map (dpv f)) d [] /\ (isF d=true \/ (xs.all fun x=>isV (vd f x))=true) /\ cA dst K d
 | .callG g xs=>(∀ x ∈ xs,bk f (vd f x)) /\ ∃ d,C g (xs.map (dpv f)) d [.nilp] /\ cA dst K d
 | .callF g xs=>(∀ x ∈ xs,bk f (vd f x)) /\ match dst with
  | some t=>∃ sz es,C g (xs.map (dpv f)) .any [.own sz es] /\ K [(t,.ref (.r (rt t 0)) 0 es.length),(rt t 0,.blk sz es)] [(rt t 0,true)]
  | none=>False
 | .callS g x xs=>match vd f x with
  | .ref (.r b) k n=>k=0 /\ match f b with
   | .blk sz es=>es.length=n /\ (∀ e ∈ es,∀ c ∈ e,au c=true) /\ (∀ x ∈ xs,bk (fbE f b) (vd (fbE f b) x)) /\ match dst with
    | none=>∃ es' : List (List D),es'.length=es.length /\ (∀ e ∈ es',e.length=sz /\ ∀ c ∈ e,au c=true) /\ lR (fbE f b) xs es' /\ C g (.own sz es::xs.map (dpv (fbE f b))) .any [.own sz es',.nilp] /\ K [(b,.blk sz es')] []
    | some t=>(∃ es' : List (List D),es'.length=es.length /\ (∀ e ∈ es',e.length=sz /\ ∀ c ∈ e,au c=true) /\ lR (fbE f b) xs es' /\ C g (.own sz es::xs.map (dpv (fbE f b))) .any [.own sz es',.nilp] /\ K [(t,.tup []),(b,.blk sz es')] []) \/ (b ≠ rt t 0 /\ 0 < sz /\ ∃ es' : List (List D),(∀ e ∈ es',e.length=sz /\ ∀ c ∈ e,au c=true) /\ lR (fbE f b) xs es' /\ C g (.own sz es::xs.map (dpv (fbE f b))) .any [.own sz es',.nils] /\ K [(t,.ref (.r (rt t 0)) 0 es'.length),(rt t 0,.blk sz es'),(b,.any)] [(rt t 0,true)])
   | _=>False
  | _=>False
 | .callN g x xs=>match vd f x with
  | .ref (.n b i o) k n=>k=0 /\ match f b with
   | .blk sz0 es0=>∃ row0,es0[i]? = some row0 /\ ∃ sz es,row0[o]? = some (.own sz es) /\ es.length=n /\ (∀ x ∈ xs,isV (vd f x)=true) /\ ∃ es' : List (List D),es'.length=es.length /\ (∀ e ∈ es',e.length=sz /\ ∀ c ∈ e,au c=true) /\
     C g (.own sz es::xs.map (vd f)) .any [.own sz es',.nilp] /\ K (cS dst++[(b,.blk sz0 (aW es0 i o 1 [.own sz es']))]) []
   | _=>False
  | _=>False
 | .callE g x xs=>match dst with
  | some t=>match vd f x with
   | .ref p k n=>match aL f p with
    | some (sz,es)=>k + n <= es.length /\ p.root ≠ rt t 0 /\ 0 < sz /\ (∀ e ∈ (es.drop k).take n,∀ c ∈ e,aP c=true) /\ (∀ x ∈ xs,j9 f p.root x) /\ ∃ es' : List (List D),(∀ e ∈ es',e.length=sz /\ ∀ c ∈ e,aP c=true) /\
      C g (.own sz ((es.drop k).take n)::xs.map (jg f)) .any [.own sz es',.nils,.nils] /\ K [(t,.ref (.r (rt t 0)) 0 es'.length),(rt t 0,.blk sz es'),cF f p] [(rt t 0,true)]
    | none=>False
   | _=>False
  | none=>False
 | .callL g x xs=>match vd f x with
  | .adr (.r b) i off=>i=0 /\ off=0 /\ match f b with
   | .blk sz es=>0 < es.length /\ (∀ x ∈ xs,isV (vd f x)=true) /\ ∃ d,∃ es' : List (List D),0 < es'.length /\ C g (.blk sz es::xs.map (vd f)) d [.blk sz es'] /\ K (bN dst d++[(b,.blk sz es')]) [(b,false)]
   | _=>False
  | _=>False
 | .callI g _ T x xs=>match vd f x with
  | .ifa T' (.r b) i off=>T'=T /\ i=0 /\ off=0 /\ match f b with
   | .blk sz es=>0 < es.length /\ (∀ x ∈ xs,isV (vd f x)=true) /\ ∃ d,∃ es' : List (List D),0 < es'.length /\ C g (.blk sz es::.adr (.r 10015) 0 0::xs.map (vd f)) d [.blk sz es',.nilp] /\ K (bN dst d++[(b,.blk sz es')]) [(b,false)]
   | _=>False
  | _=>False
 | .callM g x xs=>match vd f x with
  | .ifa T (.r b) i off=>i=0 /\ off=0 /\ match f b with
   | .blk sz es=>0 < es.length /\ (∀ x ∈ xs,isV (vd f x)=true) /\ ∃ d,∃ es' : List (List D),0 < es'.length /\ C g (.blk sz es::.ifa T (.r 10015) 0 0::xs.map (vd f)) d [.blk sz es',.nilp] /\ K (bN dst d++[(b,.blk sz es')]) [(b,false)]
   | _=>False
  | _=>False
 | .callR g x xs=>match vd f x with
  | .ref (.r b) k n=>k=0 /\ match f b with
   | .blk sz es=>0 < es.length /\ es.length=n /\ (∀ x ∈ xs,isV (vd f x)=true) /\ ∃ d,∃ es' : List (List D),0 < es'.length /\ C g (.blk sz es::.ref (.r 10015) 0 n::xs.map (vd f)) d [.blk sz es',.nilp] /\ K (bN dst d++[(b,.blk sz es')]) [(b,false)]
   | _=>False
  | _=>False
 | .callQ g s x xs=>match vd f x with
  | .ifa T (.r b) i off=>i=0 /\ off=0 /\ s < 10000 /\ dst ≠ some s /\ (∀ x ∈ xs,aP (vd f x)=true) /\ match f b with
   | .blk sz [[.own sz1 fs,.own sz2 sp]]=>match f s with
    | .ptx ds=>ds.all (gx b)=true /\ (∀ e ∈ fs,∀ c ∈ e,aP c=true) /\ (∀ e ∈ sp,∀ c ∈ e,aP c=true) /\ ∃ d,∃ fs' : List (List D),(aP d=true \/ d=.tup []) /\ (∀ e ∈ fs',∀ c ∈ e,aP c=true) /\
     C g (.blk sz [[.own sz1 fs,.slv 0 sp]]::.ifa T (.r 10015) 0 0::xs.map (vd f)) d [.blk sz [[.own sz1 fs',.slv 0 sp]],.nils] /\ K (bN dst d++[(b,.blk sz [[.own sz1 fs',.own sz2 sp]]),(s,.ptx ds)]) [(b,false)]
    | _=>False
   | _=>False
  | _=>False
 | .boxK s x=>match dst with
  | some t=>s < 10000 /\ s ≠ t /\ match vd f x with
   | .agx [.nils,.ref (.r c) k n]=>k=0 /\ c ≠ rt t 0 /\ match f c with
    | .blk sz es=>0 < sz /\ es.length=n /\ (∀ e ∈ es,∀ c ∈ e,au c=true) /\ match f s with
     | .ptx ds=>(ds.all fun d=>!ay (rt t 0) true d)=true /\ if n=0 then K [(t,.adr (.r (rt t 0)) 0 0),(rt t 0,.blk 2 [[.own sz [],.any]])] [(rt t 0,true)] else K [(t,.adr (.r (rt t 0)) 0 0),(rt t 0,.blk 2 [[.own sz [],.own sz es]]),(c,.any),(s,.ptx (ds.map (iY c (.n (rt t 0) 0 1))))] [(rt t 0,true)]
     | _=>False
    | _=>False
   | _=>False
  | none=>False
 | .callA g xs=>(∀ x ∈ xs,isV (vd f x)=true) /\ ((∃ d,C g (xs.map (vd f)) d [] /\ cA dst K d) \/ match dst with
  | some t=>∃ R,okR R=true /\ C g (xs.map (vd f)) R [.nils] /\ K ((t,dz t R)::aK t R) (df t R)
  | none=>False)
 | .clr zs x=>match vd f x with
  | .nils=>K (cS dst) []
  | .ref (.r b) k n=>match f b with
   | .blk sz es=>k + n <= es.length /\ zs.length=sz /\ (∀ e ∈ es,∀ c ∈ e,au c=true) /\ (∀ c ∈ zs,au c=true) /\ K (cS dst++[(b,.blk sz (dl es k n zs))]) []
   | _=>False
  | .ref (.n b i o) k n=>match f b with
   | .blk sz0 es0=>∃ row0,es0[i]? = some row0 /\ ∃ sz es,row0[o]? = some (.own sz es) /\ k + n <= es.length /\ zs.length=sz /\ (∀ c ∈ zs,au c=true) /\ K (cS dst++[(b,.blk sz0 (aW es0 i o 1 [.own sz (dl es k n zs)]))]) []
   | _=>False
  | _=>False
 | .callv x xs=>match vd f x with
  | .fn g cs=>(∀ x ∈ xs,bk f (vd f x)) /\ ∃ d,C g (xs.map (dpv f)++cs) d [] /\ (isF d=true \/ (xs.all fun x=>isV (vd f x))=true) /\ cA dst K d
  | .fnx g cs=>(∀ x ∈ xs,bk f (vd f x)) /\ (∀ c ∈ cs,aH f c) /\ ∃ d,C g (xs.map (dpv f)++cs.map (dp1 f)) d [] /\ isF d=true /\ cA dst K d
  | _=>False
 | op=>res f (cA dst K) op
end Go.Gv

namespace Go.Gv
open Go.RowKit
structure Ch (S : Nat -> Prop) (w w' : World) : Prop where
 os : w'.os=w.os
 tape : w'.tape=w.tape
 output : w'.output=w.output
 size : w.heap.size <= w'.heap.size
 block : ∀ k,k < w.heap.size -> ¬ S k -> w'.heap[k]? = w.heap[k]?
 drawn : w.drawn <= w'.drawn
structure Bel (w w' : World) : Prop where
 os : w'.os=w.os
 tape : w'.tape=w.tape
 output : w'.output=w.output
 size : w.heap.size <= w'.heap.size
 block : ∀ k,k < w.heap.size -> w'.heap[k]? = w.heap[k]?
 drawn : w.drawn <= w'.drawn
theorem Bel.refl (w : World) : Bel w w:=⟨rfl,rfl,rfl,Nat.le_refl _,fun _ _=>rfl,Nat.le_refl _⟩
theorem Bel.below {w w' : World} (h : Bel w w') : Below w.heap.size w w':=⟨h.os,h.tape,h.output,h.size,h.block⟩
theorem Bel.of {w w' : World} (h : Below w.heap.size w w') (hd : w.drawn <= w'.drawn) : Bel w w':=⟨h.os,h.tape,h.output,h.size,h.block,hd⟩
theorem Bel.drew (w : World) : Bel w w.drew:=.of (Below.refl _ _).drew (Nat.le_succ _)
theorem Bel.alloc (w : World) (o : Obj) : Bel w (w.alloc o):=.of ((Below.refl _ _).alloc (Nat.le_refl _) _) (Nat.le_refl _)
theorem Bel.drewAlloc (w : World) (o : Obj) : Bel w (w.drew.alloc o):=.of ((Below.refl _ _).drew.alloc (Nat.le_refl _) _) (Nat.le_succ _)
theorem Bel.cell {w w' : World} (h : Bel w w') {p : Addr} (hp : p.block < w.heap.size) : w'.cell? p=w.cell? p:=h.below.cell hp
theorem Bel.trans {w w' w'' : World} (h : Bel w w') (k : Bel w' w'') : Bel w w'' :=
 ⟨k.os.trans h.os,k.tape.trans h.tape,k.output.trans h.output,Nat.le_trans h.size k.size,fun i hi=>(k.block i (Nat.lt_of_lt_of_le hi h.size)).trans (h.block i hi),Nat.le_trans h.drawn k.drawn⟩
theorem Ch.refl (S : Nat -> Prop) (w : World) : Ch S w w:=⟨rfl,rfl,rfl,Nat.le_refl _,fun _ _ _=>rfl,Nat.le_refl _⟩
theorem Ch.trans {S T : Nat -> Prop} {w w' w'' : World} (h : Ch S w w') (h' : Ch T w' w'') (hT : ∀ k,k < w.heap.size -> T k -> S k) : Ch S w w'' :=
 ⟨h'.os.trans h.os,h'.tape.trans h.tape,h'.output.trans h.output,Nat.le_trans h.size h'.size,fun k hk hs=>(h'.block k (Nat.lt_of_lt_of_le hk h.size) (fun ht=>hs (hT k hk ht))).trans (h.block k hk hs),Nat.le_trans h.drawn h'.drawn⟩
theorem Ch.of_below {w w' : World} (h : Bel w w') (S : Nat -> Prop) : Ch S w w':=⟨h.os,h.tape,h.output,h.size,fun k hk _=>h.block k hk,h.drawn⟩
theorem Ch.below {S : Nat -> Prop} {w w' : World} (h : Ch S w w') (hs : ∀ k,k < w.heap.size -> ¬ S k) : Bel w w':=⟨h.os,h.tape,h.output,h.size,fun k hk=>h.block k hk (hs k hk),h.drawn⟩
structure Loc where
 blk : Nat
 base : Nat
 sz : Nat
 len : Nat
 deriving Inhabited
def al (F : Fid) (M : Mem) (ρ : Pa -> Loc) : D -> Value -> Prop
 | .ref p k n,v=>(n=0 /\ ∃ A,v=.slice A 0 0) \/ ∃ cap,v=.slice (some ⟨(ρ p).blk,(ρ p).base + k * (ρ p).sz,none⟩) n cap /\ n <= cap /\ (ρ p).base + (k + cap) * (ρ p).sz <= (ρ p).len /\ cap <= 9223372036854775807
 | .adr p i off,v=>v=.pointer (some ⟨(ρ p).blk,(ρ p).base + i * (ρ p).sz + off,none⟩)
 | .ifa T p i off,v=>v=.iface (F.ty T) (.pointer (some ⟨(ρ p).blk,(ρ p).base + i * (ρ p).sz + off,none⟩))
 | .mrf b,v=>v=.map (some (ρ (.r b)).blk)
 | d,v=>ab F M d v
def b6 (F : Fid) (M : Mem) (ρ : Pa -> Loc) (ds : List D) (vs : List Value) : Prop :=
 ds.length=vs.length /\ ∀ (i : Nat) (d : D) (v : Value),ds[i]? = some d -> vs[i]? = some v -> al F M ρ d v
def aV (F : Fid) (M : Mem) (ρ : Pa -> Loc) : D -> Value -> Prop
 | .agx ds,v=>∃ vs : List Value,v=.agg vs.toArray /\ b6 F M ρ ds vs
 | .tpx ds,v=>∃ vs : List Value,v=.tuple vs.toArray /\ b6 F M ρ ds vs
 | .ptx ds,v=>∃ (a : Addr) (vs : List Value),v=.pointer (some a) /\ b6 F M ρ ds vs /\ bM M a vs
 | .rfx n _ ds,v=>∃ (a : Addr) (cap : Nat) (vs : List Value),v=.slice (some a) n cap /\ b6 F M ρ ds vs /\ bM M a vs
 | .fnx g cs,v=>∃ (fi : Nat) (vs : List Value),F g=some fi /\ v=.func (.func fi) #[] vs.toArray /\ b6 F M ρ cs vs
 | .fny g ds cs,v=>∃ (fi : Nat) (a : Addr) (us vs : List Value),F g=some fi /\ v=.func (.func fi) #[] (.pointer (some a)::vs).toArray /\ b6 F M ρ ds us /\ bM M a us /\ b6 F M ρ cs vs
 | d,v=>al F M ρ d v
def isX : D -> Bool
 | .agx _=>true
 | .tpx _=>true
 | .ptx _=>true
 | .rfx _ _ _=>true
 | .fnx _ _=>true
 | .fny _ _ _=>true
 | _=>false
theorem ah {F : Fid} {M : Mem} {ρ : Pa -> Loc} {d : D} {v : Value} (h : isX d=false) : aV F M ρ d v=al F M ρ d v:=by
 cases d <;> first | rfl | (simp [isX] at h)
def dT (w : World) (l : Loc) (sz : Nat) (es : List (List D)) (R : Nat -> Nat -> D -> Value -> Prop) : Prop :=
 l.sz=sz /\ ∃ (vs : List Value) (T : TypeId),w.heap[l.blk]? = some (.cells vs.toArray T (0,0)) /\ vs.length=l.len /\ l.base + es.length * sz <= l.len /\ (∀ e ∈ es,e.length=sz) /\
  ∀ (i : Nat) (r : List D) (off : Nat) (d : D),es[i]? = some r -> r[off]? = some d -> ∃ v,vs[l.base + i * sz + off]? = some v /\ R i off d v
def I0 (l : Loc) (sz : Nat) (es : List (List D)) : Prop:=es=[] /\ l.len=0 /\ l.sz=sz /\ 0 < sz
def bG (ω : Nat -> Option Pa) (ρ : Pa -> Loc) (w : World) (p : Pa) (sz : Nat) (es : List (List D)) (R : Nat -> Nat -> D -> Value -> Prop) : Prop :=
 I0 (ρ p) sz es \/ (ω (ρ p).blk=some p /\ dT w (ρ p) sz es R)
def bF (F : Fid) (M : Mem) (ω : Nat -> Option Pa) (ρ : Pa -> Loc) (w : World) (b i off : Nat) : D -> Value -> Prop
 | .own sz es,v=>al F M ρ (.ref (.n b i off) 0 es.length) v /\ bG ω ρ w (.n b i off) sz es (fun _ _ d v=>ab F M d v)
 | d,v=>ab F M d v
def cC (F : Fid) (M : Mem) (ω : Nat -> Option Pa) (ρ : Pa -> Loc) (w : World) (b sz : Nat) (es : List (List D)) : Prop :=
 bG ω ρ w (.r b) sz es (fun i off d v=>bF F M ω ρ w b i off d v)
def qh (F : Fid) (M : Mem) (ρ : Pa -> Loc) (f : Nat -> D) (a : Act) (t : Nat) : Prop:=f t=.any \/ ∃ v,a.tmps[t]? = some v /\ aV F M ρ (f t) v
def isB : D -> Bool
 | .blk _ _=>true
 | .mp _ _ _ _=>true
 | _=>false
def j7 (F : Fid) (kt et : Nat) : List D -> List D -> DataW Empty -> Prop
 | [],[],d=>d=.map []
 | k::ks,v::vs,d=>∃ d' kv kl vv vd,j7 F kt et ks vs d' /\ d=d'.put kl vd /\ ab F (fun _=>none) k kv /\ keyOf F.P (F.ty kt) kv=some kl /\ ab F (fun _=>none) v vv /\ plainElem F.P (F.ty et) vv=some (vd,[])
 | _,_,_=>False
def xK (F : Fid) (w : World) (k kt et : Nat) (ks vs : List D) : Prop :=
 ∃ n d,n <= ks.length /\ w.ownsMap F.P (F.ty kt) (plainElem F.P (F.ty et)) k n d /\ (∀ x ∈ ks,gy x=true) /\ j7 F kt et ks vs d
def qg (F : Fid) (ω : Nat -> Option Pa) (ρ : Pa -> Loc) (w : World) (b kt et : Nat) (ks vs : List D) : Prop :=
 ω (ρ (.r b)).blk=some (.r b) /\ xK F w (ρ (.r b)).blk kt et ks vs
structure Own (F : Fid) (L : Nat -> Option Loc) (New : Nat -> Prop) (f : Nat -> D) (M : Mem) (a : Act) (w : World) (ρ : Pa -> Loc) (ω : Nat -> Option Pa) : Prop where
 slots : ∀ t,t < 10000 -> qh F M ρ f a t
 roots : ∀ b sz es,10000 <= b -> f b=.blk sz es -> cC F M ω ρ w b sz es
 maps : ∀ b kt et ks vs,10000 <= b -> f b=.mp kt et ks vs -> qg F ω ρ w b kt et ks vs
 lt : ∀ k p,ω k=some p -> k < w.heap.size
 new : ∀ k p,ω k=some p -> New k
 apart : ∀ (p : Addr) (q : Pa),ω p.block=some q -> M p=none
 lent : ∀ b l,10000 <= b -> L b=some l -> isB (f b)=true -> ρ (.r b)=l
structure SR (F : Fid) (nt : Nat) (S : Nat -> Prop) (L : Nat -> Option Loc) (w0 : World) (M0 : Mem) (f : Nat -> D) (M : Mem) (a : Act) (w : World) : Prop where
 hnt : nt <= 10000
 size : a.tmps.size=nt
 defers : a.defers=[]
 ch : Ch S w0 w
 holds : ∀ p v,M p=some v -> w.cell? p=some v
 ext : M0.le M
 fresh : ∀ p,M0 p=none -> M p ≠ none -> S p.block \/ w0.heap.size <= p.block
 own : ∃ ρ ω,Own F L (fun k=>S k \/ w0.heap.size <= k) f M a w ρ ω
section
variable {F : Fid} {M M' : Mem} {ρ ρ' : Pa -> Loc} {ω ω' : Nat -> Option Pa} {w w' : World} {f f' : Nat -> D} {a a' : Act} {L : Nat -> Option Loc} {New : Nat -> Prop}
theorem al.frame {d : D} {v : Value} (h : al F M ρ d v) (hM : M.le M') {ks : List (Nat × Bool)} (hρ : ∀ p,ρ' p ≠ ρ p -> ∃ k ∈ ks,bg k.1 k.2 p=true) (hm : (ks.any fun k=>ay k.1 k.2 d)=false) : al F M' ρ' d v:=by
 have keep : ∀ p,(∀ k ∈ ks,bg k.1 k.2 p=false) -> ρ' p=ρ p:=fun p hp=>Classical.byContradiction fun hne=>by
  obtain ⟨k,hk,e⟩:=hρ p hne
  rw [hp k hk] at e;cases e
 have hm' : ∀ k ∈ ks,ay k.1 k.2 d=false:=by simpa using hm
 cases d
 case ref p k n=>simp only [al] at h ⊢;rw [keep p (fun k hk=>hm' k hk)];exact h
 case adr p i off=>simp only [al] at h ⊢;rw [keep p (fun k hk=>hm' k hk)];exact h
 case ifa T p i off=>simp only [al] at h ⊢;rw [keep p (fun k hk=>hm' k hk)];exact h
 case mrf c=>simp only [al] at h ⊢;rw [keep (.r c) (fun k hk=>hm' k hk)];exact h
 all_goals exact ab.mono hM _ _ h
theorem aV.frame {d : D} {v : Value} (h : aV F M ρ d v) (hM : M.le M') {ks : List (Nat × Bool)} (hρ : ∀ p,ρ' p ≠ ρ p -> ∃ k ∈ ks,bg k.1 k.2 p=true) (hm : aw ks d=false) : aV F M' ρ' d v:=by
 have parts : ∀ {ds : List D} {vs : List Value},b6 F M ρ ds vs -> (∀ k ∈ ks,(ds.any (ay k.1 k.2))=false) -> b6 F M' ρ' ds vs:=fun {ds vs} hr hn=>⟨hr.1,fun i d v h1 h2=>(hr.2 i d v h1 h2).frame hM hρ (by
  simp only [List.any_eq_false]
  intro k hk
  have:=hn k hk
  simp only [List.any_eq_false] at this
  exact this d (List.mem_of_getElem? h1))⟩
 have hm' : ∀ k ∈ ks,co k.1 k.2 d=false:=by simpa [aw] using hm
 cases d
 case agx ds=>obtain ⟨vs,h1,h2⟩:=h;exact ⟨vs,h1,parts h2 hm'⟩
 case tpx ds=>obtain ⟨vs,h1,h2⟩:=h;exact ⟨vs,h1,parts h2 hm'⟩
 case ptx ds=>obtain ⟨a,vs,h1,h2,h3⟩:=h;exact ⟨a,vs,h1,parts h2 hm',h3.mono hM⟩
 case rfx n sz ds=>obtain ⟨a,cap,vs,h1,h2,h3⟩:=h;exact ⟨a,cap,vs,h1,parts h2 hm',h3.mono hM⟩
 case fnx g cs=>obtain ⟨fi,vs,h0,h1,h2⟩:=h;exact ⟨fi,vs,h0,h1,parts h2 hm'⟩
 case fny g ds cs =>
  obtain ⟨fi,a,us,vs,h0,h1,h2,h3,h4⟩:=h
  have hm2 : ∀ k ∈ ks,ds.any (ay k.1 k.2)=false /\ cs.any (ay k.1 k.2)=false:=fun k hk=>by
   have:=hm' k hk
   simpa only [co,Bool.or_eq_false_iff] using this
  exact ⟨fi,a,us,vs,h0,h1,parts h2 (fun k hk=>(hm2 k hk).1),h3.mono hM,parts h4 (fun k hk=>(hm2 k hk).2)⟩
 all_goals (rw [ah rfl] at h ⊢;exact h.frame hM hρ (by simpa [co] using hm'))
theorem aV.mono {d : D} {v : Value} (h : aV F M ρ d v) (hM : M.le M') : aV F M' ρ d v:=h.frame hM (ks:=[]) (fun p hp=>absurd rfl hp) (by simp [aw])
theorem al.mono {d : D} {v : Value} (h : al F M ρ d v) (hM : M.le M') : al F M' ρ d v:=h.frame hM (ks:=[]) (fun p hp=>absurd rfl hp) (by simp)
theorem dT.frame {l : Loc} {sz : Nat} {es : List (List D)} {R R' : Nat -> Nat -> D -> Value -> Prop} (h : dT w l sz es R) (hw : w'.heap[l.blk]? = w.heap[l.blk]?) (hR : ∀ i r off d v,es[i]? = some r -> r[off]? = some d -> R i off d v -> R' i off d v) : dT w' l sz es R':=by
 obtain ⟨h0,vs,T,h1,h2,h3,h4,h5⟩:=h
 refine ⟨h0,vs,T,hw.trans h1,h2,h3,h4,fun i r off d hi ho=>?_⟩
 obtain ⟨v,g1,g2⟩:=h5 i r off d hi ho
 exact ⟨v,g1,hR i r off d v hi ho g2⟩
theorem bG.frame {p : Pa} {sz : Nat} {es : List (List D)} {R R' : Nat -> Nat -> D -> Value -> Prop} (h : bG ω ρ w p sz es R) (hρ : ρ' p=ρ p) (hb : ω (ρ p).blk=some p -> ω' (ρ p).blk=some p /\ w'.heap[(ρ p).blk]? = w.heap[(ρ p).blk]?)
  (hR : ∀ i r off d v,es[i]? = some r -> r[off]? = some d -> R i off d v -> R' i off d v) : bG ω' ρ' w' p sz es R':=by
 unfold bG at h ⊢
 rw [hρ]
 rcases h with h | ⟨h1,h2⟩
 ·exact .inl h
 ·obtain ⟨g1,g2⟩:=hb h1
  exact .inr ⟨g1,h2.frame g2 hR⟩
def rT (ω : Nat -> Option Pa) (ρ : Pa -> Loc) (w : World) (ω' : Nat -> Option Pa) (ρ' : Pa -> Loc) (w' : World) (b : Nat) : Prop :=
 ∀ p : Pa,p.root=b -> ρ' p=ρ p /\ (ω (ρ p).blk=some p -> ω' (ρ p).blk=some p /\ w'.heap[(ρ p).blk]? = w.heap[(ρ p).blk]?)
theorem bF.frame {b i off : Nat} {d : D} {v : Value} (h : bF F M ω ρ w b i off d v) (hM : M.le M') (hs : ρ' (.n b i off)=ρ (.n b i off) /\ (ω (ρ (.n b i off)).blk=some (.n b i off) -> ω' (ρ (.n b i off)).blk=some (.n b i off) /\ w'.heap[(ρ (.n b i off)).blk]? = w.heap[(ρ (.n b i off)).blk]?)) : bF F M' ω' ρ' w' b i off d v:=by
 cases d
 case own sz es =>
  obtain ⟨h1,h2⟩:=h
  refine ⟨?_,h2.frame hs.1 hs.2 (fun _ _ _ d v _ _ hr=>ab.mono hM d v hr)⟩
  simp only [al] at h1 ⊢
  rw [hs.1]
  exact h1
 all_goals exact ab.mono hM _ _ h
theorem cC.frame {b sz : Nat} {es : List (List D)} (h : cC F M ω ρ w b sz es) (hM : M.le M') (hs : rT ω ρ w ω' ρ' w' b) : cC F M' ω' ρ' w' b sz es:=by
 unfold cC at h ⊢
 exact h.frame (hs (.r b) rfl).1 (hs (.r b) rfl).2 (fun i r off d v _ _ hr=>hr.frame hM (hs (.n b i off) rfl))
theorem qg.frame {b kt et : Nat} {ks vs : List D} (h : qg F ω ρ w b kt et ks vs) (hs : rT ω ρ w ω' ρ' w' b) : qg F ω' ρ' w' b kt et ks vs:=by
 obtain ⟨h1,n,d,h2,⟨es,clock,h3,h4⟩,h5⟩:=h
 obtain ⟨g1,g2⟩:=hs (.r b) rfl
 obtain ⟨g3,g4⟩:=g2 h1
 unfold qg xK
 rw [g1]
 exact ⟨g3,n,d,h2,⟨es,clock,g4.trans h3,h4⟩,h5⟩
def ui (F : Fid) (M : Mem) (ω : Nat -> Option Pa) (ρ : Pa -> Loc) (w : World) (b : Nat) (x : D) : Prop :=
 (∃ sz es,x=.blk sz es /\ cC F M ω ρ w b sz es) \/ ∃ kt et ks vs,x=.mp kt et ks vs /\ qg F ω ρ w b kt et ks vs
theorem Own.step (h : Own F L New f M a w ρ ω) {ks : List (Nat × Bool)} (hρ : ∀ p,ρ' p ≠ ρ p -> ∃ k ∈ ks,bg k.1 k.2 p=true) (hM : M.le M') (hsz : w.heap.size <= w'.heap.size)
  (hslots : ∀ t,t < 10000 -> (f' t=.any \/ (f' t=f t /\ a'.tmps[t]? = a.tmps[t]? /\ aw ks (f t)=false)) \/ qh F M' ρ' f' a' t)
  (hroots : ∀ b,10000 <= b -> (isB (f' b)=false \/ (f' b=f b /\ rT ω ρ w ω' ρ' w' b)) \/ ui F M' ω' ρ' w' b (f' b))
  (hlt : ∀ k p,ω' k=some p -> (∃ q,ω k=some q) \/ (k < w'.heap.size /\ New k))
  (hap : ∀ (p : Addr) (q : Pa),ω' p.block=some q -> M' p=none) (hlent : ∀ b l,10000 <= b -> L b=some l -> isB (f' b)=true -> ρ' (.r b)=ρ (.r b) /\ isB (f b)=true) : Own F L New f' M' a' w' ρ' ω' where
 slots t ht:=by
  rcases hslots t ht with (h1 | ⟨h1,h2,h3⟩) | h1
  ·exact .inl h1
  ·rcases h.slots t ht with g | ⟨v,g1,g2⟩
   ·exact .inl (h1.trans g)
   ·exact .inr ⟨v,h2.trans g1,by rw [h1];exact g2.frame hM hρ h3⟩
  ·exact h1
 roots b sz es hb e:=by
  rcases hroots b hb with (h1 | ⟨h1,h2⟩) | ⟨sz',es',h1,h2⟩ | ⟨kt',et',ks',vs',h1,h2⟩
  ·rw [e] at h1;cases h1
  ·exact (h.roots b sz es hb (by rw [<- h1];exact e)).frame hM h2
  ·rw [e] at h1;cases h1;exact h2
  ·rw [e] at h1;cases h1
 maps b kt et ks vs hb e:=by
  rcases hroots b hb with (h1 | ⟨h1,h2⟩) | ⟨sz',es',h1,h2⟩ | ⟨kt',et',ks',vs',h1,h2⟩
  ·rw [e] at h1;cases h1
  ·exact (h.maps b kt et ks vs hb (by rw [<- h1];exact e)).frame h2
  ·rw [e] at h1;cases h1
  ·rw [e] at h1;cases h1;exact h2
 lt k p e:=by
  rcases hlt k p e with ⟨q,h1⟩ | h1
  ·exact Nat.lt_of_lt_of_le (h.lt k q h1) hsz
  ·exact h1.1
 new k p e:=by
  rcases hlt k p e with ⟨q,h1⟩ | h1
  ·exact h.new k q h1
  ·exact h1.2
 apart:=hap
 lent b l hb hL hB:=by
  obtain ⟨h1,h2⟩:=hlent b l hb hL hB
  exact h1.trans (h.lent b l hb hL h2)
def kC (F : Fid) (M : Mem) (ω : Nat -> Option Pa) (ρ : Pa -> Loc) (w : World) (p : Pa) (i off : Nat) (d : D) (v : Value) : Prop :=
 match p with
 | .r b=>bF F M ω ρ w b i off d v
 | .n _ _ _=>ab F M d v
theorem Own.get (h : Own F L New f M a w ρ ω) {p : Pa} (hp : 10000 <= p.root) {sz : Nat} {es : List (List D)} (hg : aL f p=some (sz,es)) :
  bG ω ρ w p sz es (kC F M ω ρ w p) /\ ∃ sz0 es0,f p.root=.blk sz0 es0:=by
 cases p with
 | r b =>
  simp only [aL] at hg
  split at hg
  ·rename_i sz' es' e
   simp only [Option.some.injEq,Prod.mk.injEq] at hg
   obtain ⟨rfl,rfl⟩:=hg
   exact ⟨h.roots b sz' es' hp e,sz',es',e⟩
  ·cases hg
 | n b i off =>
  simp only [aL] at hg
  split at hg
  ·rename_i sz' es' e
   split at hg
   ·rename_i sz2 r hr
    simp only [Option.some.injEq,Prod.mk.injEq] at hg
    obtain ⟨rfl,rfl⟩:=hg
    refine ⟨?_,sz',es',e⟩
    cases hi : es'[i]? with
    | none=>rw [hi] at hr;simp at hr
    | some row =>
     rw [hi] at hr
     simp only [Option.getD_some] at hr
     rcases h.roots b sz' es' hp e with h1 | ⟨_,_,vs,T,_,_,_,_,h5⟩
     ·rw [h1.1] at hi;simp at hi
     ·obtain ⟨v,_,g⟩:=h5 i row off _ hi hr
      exact g.2
   ·cases hg
  ·cases hg
end
end Go.Gv

namespace Go.Gv
open Go.RowKit
def eff (ws : List (Nat × D)) (ks : List (Nat × Bool)) (f : Nat -> D) : Nat -> D:=fun t=>match ws.lookup t with
 | some d=>d
 | none=>if aw ks (f t) then .any else f t
theorem getElem?_put {a : Act} {t s : Nat} {v : Value} (hs : s ≠ t) : (a.put (some t) v).tmps[s]? = a.tmps[s]?:=by
 simp only [Act.put]
 rw [Array.getElem?_setIfInBounds_ne (Ne.symm hs)]
theorem getElem?_put_same {a : Act} {t : Nat} {v : Value} (ht : t < a.tmps.size) : (a.put (some t) v).tmps[t]? = some v:=by
 simp only [Act.put]
 rw [Array.getElem?_setIfInBounds_self_of_lt ht]
theorem jw (d : D) : aw [] d=false:=rfl
theorem gL (f : Nat -> D) : eff [] [] f=f:=by
 funext t;simp [eff,jw]
noncomputable def mvω (b : Nat) (nb : Option Nat) (π : Pa -> Option Pa) (ω : Nat -> Option Pa) : Nat -> Option Pa:=open Classical in fun k =>
 if nb=some k then some (.r b) else match ω k with
  | none=>none
  | some q=>if h : ∃ p,π p=some q then some h.choose else some q
def mvρ (b : Nat) (ρb : Pa -> Loc) (ρ : Pa -> Loc) : Pa -> Loc:=fun p=>if p.root=b then ρb p else ρ p
section
variable {F : Fid} {M M' : Mem} {ρ ρ' : Pa -> Loc} {ω ω' : Nat -> Option Pa} {w w' : World} {f f' : Nat -> D} {a a' : Act} {L : Nat -> Option Loc} {New : Nat -> Prop}
theorem mZ {b k : Nat} {nb : Option Nat} {π : Pa -> Option Pa} (h : nb=some k) : mvω b nb π ω k=some (.r b):=by
 unfold mvω;rw [if_pos h]
theorem dL {b k : Nat} {nb : Option Nat} {π : Pa -> Option Pa} {p q : Pa} (h : nb ≠ some k) (hq : ω k=some q) (hp : π p=some q) (inj : ∀ p p' q,π p=some q -> π p'=some q -> p=p') : mvω b nb π ω k=some p:=by
 have he : ∃ p,π p=some q:=⟨p,hp⟩
 unfold mvω;rw [if_neg h,hq]
 simp only [dif_pos he]
 rw [inj _ _ q he.choose_spec hp]
theorem lh {b k : Nat} {nb : Option Nat} {π : Pa -> Option Pa} {q : Pa} (h : nb ≠ some k) (hq : ω k=some q) (hp : ∀ p,π p ≠ some q) : mvω b nb π ω k=some q:=by
 unfold mvω;rw [if_neg h,hq]
 simp only [dif_neg (show ¬ ∃ p,π p=some q from fun ⟨p,e⟩=>hp p e)]
theorem oh {b k : Nat} {nb : Option Nat} {π : Pa -> Option Pa} {p : Pa} (h : mvω b nb π ω k=some p) : nb=some k \/ ∃ q,ω k=some q:=by
 unfold mvω at h
 split at h
 ·exact .inl ‹_›
 ·split at h
  ·cases h
  ·exact .inr ⟨_,‹_›⟩
theorem Own.moveX (h : Own F L New f M a w ρ ω) {b : Nat} {nb : Option Nat} {π : Pa -> Option Pa} {ρb : Pa -> Loc} {ks : List (Nat × Bool)} (inj : ∀ p p' q,π p=some q -> π p'=some q -> p=p')
  (hnb : ∀ k,nb=some k -> w.heap.size <= k /\ k < w'.heap.size /\ New k /\ ∀ p : Addr,p.block=k -> M' p=none) (hsz : w.heap.size <= w'.heap.size)
  (hρ : ∀ p,p.root=b -> ρb p ≠ ρ p -> ∃ k ∈ ks,bg k.1 k.2 p=true) (hM : M.le M') (hap : ∀ (p : Addr) (q : Pa),ω p.block=some q -> M' p=none)
  (hslots : ∀ t,t < 10000 -> (f' t=.any \/ (f' t=f t /\ a'.tmps[t]? = a.tmps[t]? /\ aw ks (f t)=false)) \/ qh F M' (mvρ b ρb ρ) f' a' t)
  (hheap : ∀ k q,ω k=some q -> q.root ≠ b -> (∀ p,π p ≠ some q) -> w'.heap[k]? = w.heap[k]?)
  (hroots : ∀ c,10000 <= c -> c ≠ b -> isB (f' c)=false \/ (f' c=f c /\ ∀ p q,π p=some q -> q.root ≠ c) \/ (isB (f c)=true /\ ui F M' (mvω b nb π ω) (mvρ b ρb ρ) w' c (f' c))) (hroot : 10000 <= b -> isB (f' b)=true -> ui F M' (mvω b nb π ω) (mvρ b ρb ρ) w' b (f' b))
  (hL : ∀ l,L b=some l -> isB (f' b)=true -> ρb (.r b)=ρ (.r b) /\ isB (f b)=true) : Own F L New f' M' a' w' (mvρ b ρb ρ) (mvω b nb π ω):=by
 refine h.step (ks:=ks) (fun p hp=>?_) hM hsz hslots (fun c hc=>?_) (fun k p e=>?_) (fun p q e=>?_) (fun c l hc hl hB=>?_)
 ·unfold mvρ at hp
  split at hp
  ·rename_i e;exact hρ p e hp
  ·exact absurd rfl hp
 ·by_cases hcb : c=b
  ·subst hcb
   cases hB : isB (f' c) with
   | false=>exact .inl (.inl rfl)
   | true=>exact .inr (hroot hc hB)
  ·rcases hroots c hc hcb with h1 | ⟨h1,h1'⟩ | ⟨_,h1⟩
   ·exact .inl (.inl h1)
   ·refine .inl (.inr ⟨h1,fun p hp=>?_⟩)
    have hpb : p.root ≠ b:=fun e=>hcb (hp.symm.trans e)
    have hmiss : ∀ p',π p' ≠ some p:=fun p' e=>h1' p' p e hp
    refine ⟨by unfold mvρ;rw [if_neg hpb],fun ho=>⟨lh (fun e=>?_) ho hmiss,hheap _ p ho hpb hmiss⟩⟩
    have:=(hnb _ e).1
    have:=h.lt _ _ ho
    omega
   ·exact .inr h1
 ·rcases oh e with e1 | e1
  ·exact .inr ⟨(hnb k e1).2.1,(hnb k e1).2.2.1⟩
  ·exact .inl e1
 ·rcases oh e with e1 | ⟨q',e1⟩
  ·exact (hnb _ e1).2.2.2 p rfl
  ·exact hap p q' e1
 ·by_cases hcb : c=b
  ·subst hcb
   obtain ⟨h1,h2⟩:=hL l hl hB
   exact ⟨by simp only [mvρ,Pa.root,if_true];exact h1,h2⟩
  ·refine ⟨by unfold mvρ;rw [if_neg (show ¬ (Pa.r c).root=b from hcb)],?_⟩
   rcases hroots c hc hcb with h1 | ⟨h1,_⟩ | ⟨h1,_⟩
   ·rw [hB] at h1;cases h1
   ·rw [<- h1];exact hB
   ·exact h1
theorem Own.move (h : Own F L New f M a w ρ ω) {b : Nat} {nb : Option Nat} {π : Pa -> Option Pa} {ρb : Pa -> Loc} {ks : List (Nat × Bool)} (inj : ∀ p p' q,π p=some q -> π p'=some q -> p=p')
  (hπ : ∀ p q,π p=some q -> q.root=b \/ isB (f' q.root)=false) (hnb : ∀ k,nb=some k -> w.heap.size <= k /\ k < w'.heap.size /\ New k /\ ∀ p : Addr,p.block=k -> M' p=none) (hsz : w.heap.size <= w'.heap.size)
  (hρ : ∀ p,p.root=b -> ρb p ≠ ρ p -> ∃ k ∈ ks,bg k.1 k.2 p=true) (hM : M.le M') (hap : ∀ (p : Addr) (q : Pa),ω p.block=some q -> M' p=none)
  (hslots : ∀ t,t < 10000 -> (f' t=.any \/ (f' t=f t /\ a'.tmps[t]? = a.tmps[t]? /\ aw ks (f t)=false)) \/ qh F M' (mvρ b ρb ρ) f' a' t)
  (hheap : ∀ k q,ω k=some q -> q.root ≠ b -> (∀ p,π p ≠ some q) -> w'.heap[k]? = w.heap[k]?)
  (hroots : ∀ c,10000 <= c -> c ≠ b -> isB (f' c)=false \/ f' c=f c) (hroot : 10000 <= b -> isB (f' b)=true -> ui F M' (mvω b nb π ω) (mvρ b ρb ρ) w' b (f' b))
  (hL : ∀ l,L b=some l -> isB (f' b)=true -> ρb (.r b)=ρ (.r b) /\ isB (f b)=true) : Own F L New f' M' a' w' (mvρ b ρb ρ) (mvω b nb π ω) :=
 h.moveX inj hnb hsz hρ hM hap hslots hheap (fun c hc hcb=>by
  cases hB : isB (f' c) with
  | false=>exact .inl rfl
  | true =>
   rcases hroots c hc hcb with h1 | h1
   ·rw [hB] at h1;cases h1
   ·refine .inr (.inl ⟨h1,fun p q e e'=>?_⟩)
    rcases hπ p q e with h2 | h2
    ·exact hcb (e'.symm.trans h2)
    ·rw [e',hB] at h2;cases h2) hroot hL
theorem oa {ws : List (Nat × D)} {t : Nat} (h : ∀ d,(t,d) ∉ ws) : ws.lookup t=none:=by
 induction ws with
 | nil=>rfl
 | cons p ws ih =>
  obtain ⟨s,d⟩:=p
  rw [List.lookup_cons]
  have hne : (t == s)=false:=by
   rw [beq_eq_false_iff_ne];rintro rfl;exact h d (by simp)
  rw [hne]
  exact ih (fun d' hd=>h d' (by simp [hd]))
theorem bl {ws : List (Nat × D)} {ks : List (Nat × Bool)} {t : Nat} (h : ws.lookup t=none) : eff ws ks f t=.any \/ (eff ws ks f t=f t /\ aw ks (f t)=false):=by
 unfold eff
 rw [h]
 cases hm : aw ks (f t) with
 | true=>left;simp
 | false=>right;simp
theorem mi {ks : List (Nat × Bool)} {d : D} (h : isB d=true) : aw ks d=false:=by
 cases d <;> simp only [isB,Bool.false_eq_true] at h <;> (unfold aw;simp [co,ay])
theorem bx {ws : List (Nat × D)} {ks : List (Nat × Bool)} {c : Nat} (h : ws.lookup c=none) : isB (eff ws ks f c)=false \/ eff ws ks f c=f c:=by
 rcases bl (f:=f) (ks:=ks) h with h1 | h1
 ·left;rw [h1];rfl
 ·exact .inr h1.1
theorem aA {ws : List (Nat × D)} {ks : List (Nat × Bool)} {t : Nat} {d : D} (h : ws.lookup t=some d) : eff ws ks f t=d:=by
 unfold eff;rw [h]
variable {nt : Nat} {S : Nat -> Prop} {w0 : World} {M0 : Mem}
theorem Own.big (h : Own F L New f M a w ρ ω) {b sz : Nat} {es : List (List D)} (e : f b=.blk sz es) : 10000 <= b:=by
 rcases Nat.lt_or_ge b 10000 with hb | hb
 ·rcases h.slots b hb with h1 | ⟨v,_,h1⟩
  ·rw [e] at h1;cases h1
  ·rw [e] at h1;simp [aV,al,ab] at h1
 ·exact hb
theorem Own.put (h : Own F L New f M a w ρ ω) {t : Nat} (ht : t < a.tmps.size) (ht' : t < 10000) {d : D} {v : Value} (r : aV F M ρ d v) : Own F L New (eff [(t,d)] [] f) M (a.put (some t) v) w ρ ω:=by
 have hl : ∀ s,s ≠ t -> [(t,d)].lookup s=none:=fun s hs=>by
  have e : (s == t)=false:=by simpa using hs
  simp [List.lookup,e]
 refine h.step (ks:=[]) (fun p hp=>absurd rfl hp) (Mem.le_refl _) (Nat.le_refl _) (fun s hs=>?_) (fun b hb=>?_) (fun k p e=>.inl ⟨p,e⟩) h.apart (fun b l hb hl' hB=>⟨rfl,?_⟩)
 ·by_cases e : s=t
  ·subst e
   exact .inr (.inr ⟨v,getElem?_put_same ht,by rw [aA (d:=d) (by simp)];exact r⟩)
  ·rcases bl (f:=f) (ks:=[]) (hl s e) with h1 | h1
   ·exact .inl (.inl h1)
   ·exact .inl (.inr ⟨h1.1,getElem?_put e,h1.2⟩)
 ·have e : b ≠ t:=by omega
  rcases bl (f:=f) (ks:=[]) (hl b e) with h1 | h1
  ·exact .inl (.inl (by rw [h1];rfl))
  ·exact .inl (.inr ⟨h1.1,fun p _=>⟨rfl,fun ho=>⟨ho,rfl⟩⟩⟩)
 ·have e : b ≠ t:=by omega
  rcases bl (f:=f) (ks:=[]) (hl b e) with h1 | h1
  ·rw [h1] at hB;cases hB
  ·rw [<- h1.1];exact hB
theorem SR.put (h : SR F nt S L w0 M0 f M a w) {t : Nat} (ht : t < nt) {d : D} {v : Value} (r : ∀ ρ ω,Own F L (fun k=>S k \/ w0.heap.size <= k) f M a w ρ ω -> aV F M ρ d v) : SR F nt S L w0 M0 (eff [(t,d)] [] f) M (a.put (some t) v) w where
 hnt:=h.hnt
 size:=by simp [Act.put,h.size]
 defers:=by simp [Act.put,h.defers]
 ch:=h.ch
 holds:=h.holds
 ext:=h.ext
 fresh:=h.fresh
 own:=by
  obtain ⟨ρ,ω,ho⟩:=h.own
  exact ⟨ρ,ω,ho.put (by rw [h.size];exact ht) (by have:=h.hnt;omega) (r ρ ω ho)⟩
theorem SR.world (h : SR F nt S L w0 M0 f M a w) (hb : Bel w w') (hM : M.le M') (hf : ∀ p,M p=none -> M' p ≠ none -> w.heap.size <= p.block)
  (hh : ∀ p v,M' p=some v -> w'.cell? p=some v) : SR F nt S L w0 M0 f M' a w' where
 hnt:=h.hnt
 size:=h.size
 defers:=h.defers
 ch:=h.ch.trans (Ch.of_below hb (fun _=>False)) (fun _ _ e=>e.elim)
 holds:=hh
 ext:=Mem.le_trans h.ext hM
 fresh p hp hq:=by
  by_cases e : M p=none
  ·exact .inr (Nat.le_trans h.ch.size (hf p e hq))
  ·exact h.fresh p hp e
 own:=by
  obtain ⟨ρ,ω,ho⟩:=h.own
  refine ⟨ρ,ω,ho.step (ks:=[]) (fun p hp=>absurd rfl hp) hM hb.size (fun t _=>.inl (.inr ⟨rfl,rfl,rfl⟩)) (fun b _=>.inl (.inr ⟨rfl,fun p _=>⟨rfl,fun e=>⟨e,hb.block _ (ho.lt _ _ e)⟩⟩⟩)) (fun k p e=>.inl ⟨p,e⟩) (fun p q e=>?_) (fun b l _ _ hB=>⟨rfl,hB⟩)⟩
  rcases hq : M' p with _ | v
  ·rfl
  ·have h1:=hf p (ho.apart p q e) (by rw [hq];simp)
   have h2:=ho.lt _ _ e
   omega
theorem SR.grow (h : SR F nt S L w0 M0 f M a w) (hb : Bel w w') : SR F nt S L w0 M0 f M a w' :=
 h.world hb (Mem.le_refl _) (fun _ e e'=>absurd e e') (fun p v hp=>by
  have h1:=h.holds p v hp
  rw [hb.cell (World.block_lt_of_cell? w p h1)]
  exact h1)
theorem SR.weak {g : Nat -> D} (h : SR F nt S L w0 M0 f M a w) (hg : ∀ t,g t=.any \/ g t=f t) : SR F nt S L w0 M0 g M a w where
 hnt:=h.hnt
 size:=h.size
 defers:=h.defers
 ch:=h.ch
 holds:=h.holds
 ext:=h.ext
 fresh:=h.fresh
 own:=by
  obtain ⟨ρ,ω,ho⟩:=h.own
  refine ⟨ρ,ω,ho.step (ks:=[]) (fun p hp=>absurd rfl hp) (Mem.le_refl _) (Nat.le_refl _) (fun t _=>.inl ?_) (fun b _=>.inl ?_) (fun k p e=>.inl ⟨p,e⟩) ho.apart (fun b l _ _ hB=>⟨rfl,?_⟩)⟩
  ·rcases hg t with e | e
   ·exact .inl e
   ·exact .inr ⟨e,rfl,rfl⟩
  ·rcases hg b with e | e
   ·exact .inl (by rw [e];rfl)
   ·exact .inr ⟨e,fun p _=>⟨rfl,fun e=>⟨e,rfl⟩⟩⟩
  ·rcases hg b with e | e
   ·rw [e] at hB;cases hB
   ·rw [<- e];exact hB
end
end Go.Gv

namespace Go.Gv
open Go.RowKit
section
variable {F : Fid} {nt : Nat} {S : Nat -> Prop} {L : Nat -> Option Loc} {w0 : World} {M0 : Mem} {f f' : Nat -> D} {M M' : Mem} {a a' : Act} {w w' : World} {ρ : Pa -> Loc} {ω : Nat -> Option Pa} {New : Nat -> Prop}
theorem eT {bs : List Nat} {c : Nat} : (bO bs).lookup c=none \/ (c ∈ bs /\ (bO bs).lookup c=some .any):=by
 induction bs with
 | nil=>exact .inl rfl
 | cons x bs ih =>
  simp only [bO,List.map_cons,List.lookup_cons]
  by_cases e : c=x
  ·subst e;right;simp
  ·have : (c == x)=false:=by simpa using e
   rw [this]
   rcases ih with h | ⟨h,h'⟩
   ·exact .inl h
   ·exact .inr ⟨by simp [h],h'⟩
theorem fV {bs : List Nat} {c : Nat} (h : c ∈ bs) : (bO bs).lookup c=some .any:=by
 induction bs with
 | nil=>cases h
 | cons x bs ih =>
  simp only [bO,List.map_cons,List.lookup_cons]
  by_cases e : c=x
  ·subst e;simp
  ·have : (c == x)=false:=by simpa using e
   rw [this]
   exact ih (by simpa [e] using h)
def ig (F : Fid) (L : Nat -> Option Loc) (New : Nat -> Prop) (f : Nat -> D) (M : Mem) (a : Act) (w : World) (src : Option Nat) (c : D) (u : Value) : Prop :=
 (isO c=false /\ ab F M c u) \/ (∃ n,c=.own n [] /\ 0 < n /\ src=none /\ ∃ A,u=.slice A 0 0) \/
 (∃ sz es b,src=some b /\ c=.own sz es /\ f b=.blk sz es /\ (∀ e ∈ es,∀ x ∈ e,au x=true) /\ ∀ ρ ω,Own F L New f M a w ρ ω -> al F M ρ (.ref (.r b) 0 es.length) u)
def lQ (b : Nat) (es : List (List D)) (src : Nat -> Nat -> Option Nat) (ρ : Pa -> Loc) (l : Loc) : Pa -> Loc
 | .r _=>l
 | .n _ i off=>match src i off with
  | some c=>ρ (.r c)
  | none=>match (es[i]?.getD [])[off]? with
   | some (.own n [])=>⟨0,0,n,0⟩
   | _=>ρ (.n b i off)
def piC (b : Nat) (src : Nat -> Nat -> Option Nat) : Pa -> Option Pa
 | .r _=>none
 | .n c i off=>if c=b then (src i off).map .r else none
theorem aR {b i off : Nat} {d : D} {v : Value} (h : isO d=false) : bF F M ω ρ w b i off d v=ab F M d v:=by
 cases d <;> first | rfl | (simp [isO] at h)
theorem bX {d : D} (h : au d=true) : isO d=false:=by
 cases d <;> first | rfl | (simp [au] at h)
theorem bG.into {q p : Pa} {sz : Nat} {es : List (List D)} {R : Nat -> Nat -> D -> Value -> Prop} {ρ' : Pa -> Loc} {ω' : Nat -> Option Pa} (h : bG ω ρ w q sz es R) (hρ : ρ' p=ρ q) (hω : ω (ρ q).blk=some q -> ω' (ρ q).blk=some p /\ w'.heap[(ρ q).blk]? = w.heap[(ρ q).blk]?)
  {R' : Nat -> Nat -> D -> Value -> Prop} (hR : ∀ i r off d v,es[i]? = some r -> r[off]? = some d -> R i off d v -> R' i off d v) : bG ω' ρ' w' p sz es R':=by
 unfold bG at h ⊢
 rw [hρ]
 rcases h with h | ⟨h1,h2⟩
 ·exact .inl h
 ·obtain ⟨g1,g2⟩:=hω h1
  exact .inr ⟨g1,h2.frame g2 hR⟩
theorem SR.makeAt (h : SR F nt S L w0 M0 f M a w) {t b sz : Nat} {es : List (List D)} {bs : List Nat} {src : Nat -> Nat -> Option Nat} {vs : List Value} {T : TypeId} {d : D} {v : Value} {B o : Nat} (ht : t < nt) (hb0 : 10000 <= b) (hL : L b=none)
  (hw : Bel w w') (hB : w.heap.size <= B) (hh : w'.heap[B]? = some (.cells vs.toArray T (0,0))) (hlen : o + es.length * sz <= vs.length) (hu : ∀ e ∈ es,e.length=sz)
  (hc : ∀ i r off c,es[i]? = some r -> r[off]? = some c -> ∃ u,vs[o + i * sz + off]? = some u /\ ig F L (fun k=>S k \/ w0.heap.size <= k) f M a w (src i off) c u)
  (inj : ∀ i off i' off' c,src i off=some c -> src i' off'=some c -> i=i' /\ off=off') (hsrc : ∀ i off c,src i off=some c -> c ∈ bs /\ c ≠ b)
  (hd : ∀ (ρ : Pa -> Loc) M,ρ (.r b)=⟨B,o,sz,vs.length⟩ -> aV F M ρ d v) :
  SR F nt S L w0 M0 (eff ((t,d)::(b,.blk sz es)::bO bs) [(b,true)] f) M (a.put (some t) v) w' where
 hnt:=h.hnt
 size:=by simp [Act.put,h.size]
 defers:=by simp [Act.put,h.defers]
 ch:=h.ch.trans (Ch.of_below hw (fun _=>False)) (fun _ _ e=>e.elim)
 holds p v hp:=by
  have h1:=h.holds p v hp
  rw [hw.cell (World.block_lt_of_cell? w p h1)]
  exact h1
 ext:=h.ext
 fresh:=h.fresh
 own:=by
  obtain ⟨ρ,ω,ho⟩:=h.own
  have ht10 : t < 10000:=by have:=h.hnt;omega
  let l : Loc:=⟨B,o,sz,vs.length⟩
  have hBw : B < w'.heap.size:=(Array.getElem?_eq_some_iff.1 hh).1
  have hMn : ∀ p : Addr,p.block=B -> M p=none:=fun p hp=>by
   rcases hq : M p with _ | u
   ·rfl
   ·have:=World.block_lt_of_cell? w p (h.holds p u hq);omega
  have hlk : ∀ s,s ≠ t -> s ≠ b -> ((t,d)::(b,.blk sz es)::bO bs).lookup s=(bO bs).lookup s:=fun s h1 h2=>by
   have e1 : (s == t)=false:=by simpa using h1
   have e2 : (s == b)=false:=by simpa using h2
   rw [List.lookup_cons,e1]
   simp only [List.lookup_cons,e2]
  have hbt : b ≠ t:=by omega
  have hfb : eff ((t,d)::(b,.blk sz es)::bO bs) [(b,true)] f b=.blk sz es:=aA (by
   have e1 : (b == t)=false:=by simpa using hbt
   rw [List.lookup_cons,e1]
   simp)
  have hcons : ∀ c ∈ bs,c ≠ b -> isB (eff ((t,d)::(b,.blk sz es)::bO bs) [(b,true)] f c)=false:=fun c hc hcb=>by
   by_cases hct : c=t
   ·subst hct
    rw [aA (d:=d) (by simp)]
    have:=hd (fun _=>l) M rfl
    cases d <;> first | rfl | (simp [aV,al,ab] at this)
   ·rw [aA (d:=.any) (by rw [hlk c hct hcb];exact fV hc)];rfl
  have hinj : ∀ p p' q,piC b src p=some q -> piC b src p'=some q -> p=p':=by
   intro p p' q h1 h2
   cases p <;> cases p' <;> simp only [piC,reduceCtorEq] at h1 h2
   rename_i c i off c' i' off'
   split at h1
   case isFalse=>cases h1
   split at h2
   case isFalse=>cases h2
   rename_i e1 e2
   simp only [Option.map_eq_some_iff] at h1 h2
   obtain ⟨x,h1,rfl⟩:=h1
   obtain ⟨y,h2,h3⟩:=h2
   cases h3
   obtain ⟨rfl,rfl⟩:=inj _ _ _ _ _ h1 h2
   rw [e1,e2]
  have hpi : ∀ i off c,src i off=some c -> piC b src (.n b i off)=some (.r c):=fun i off c e=>by simp [piC,e]
  refine ⟨_,_,ho.move (b:=b) (nb:=some B) (π:=piC b src) (ρb:=lQ b es src ρ l) (ks:=[(b,true)]) hinj (fun p q hq=>?_) (fun k e=>?_) hw.size (fun p hp hne=>⟨(b,true),by simp,?_⟩) (Mem.le_refl _) ho.apart (fun s hs=>?_) (fun k q hk _ _=>hw.block k (ho.lt k q hk))
   (fun c hc hcb=>?_) (fun _ _=>.inl ⟨sz,es,hfb,?_⟩) (fun l' e _=>by rw [hL] at e;cases e)⟩
  ·right
   cases p <;> simp only [piC,reduceCtorEq] at hq
   split at hq
   ·rw [Option.map_eq_some_iff] at hq
    obtain ⟨c,h1,rfl⟩:=hq
    obtain ⟨h2,h3⟩:=hsrc _ _ _ h1
    exact hcons c h2 h3
   ·cases hq
  ·cases e
   exact ⟨hB,hBw,.inr (Nat.le_trans h.ch.size hB),hMn⟩
  ·cases p with
   | r c=>simp only [Pa.root] at hp;simp [bg,hp]
   | n c i off=>simp only [Pa.root] at hp;simp [bg,hp]
  ·by_cases e : s=t
   ·subst e
    exact .inr (.inr ⟨v,getElem?_put_same (by rw [h.size];exact ht),by rw [aA (d:=d) (by simp)];exact hd _ _ (by simp [mvρ,Pa.root,lQ,l])⟩)
   ·left
    have e2 : s ≠ b:=by omega
    rcases eT (bs:=bs) (c:=s) with h1 | ⟨_,h1⟩
    ·rcases bl (f:=f) (ks:=[(b,true)]) ((hlk s e e2).trans h1) with h2 | h2
     ·exact .inl h2
     ·exact .inr ⟨h2.1,getElem?_put e,h2.2⟩
    ·exact .inl (aA ((hlk s e e2).trans h1))
  ·have e : c ≠ t:=by omega
   rcases eT (bs:=bs) (c:=c) with h1 | ⟨_,h1⟩
   ·exact bx ((hlk c e hcb).trans h1)
   ·left;rw [aA ((hlk c e hcb).trans h1)];rfl
  ·have hωn : mvω b (some B) (piC b src) ω B=some (.r b):=mZ rfl
   have hρb : mvρ b (lQ b es src ρ l) ρ (.r b)=l:=by simp [mvρ,Pa.root,lQ]
   refine .inr ⟨by rw [hρb];exact hωn,?_⟩
   rw [hρb]
   refine ⟨rfl,vs,T,hh,rfl,by simpa [l] using hlen,hu,fun i r off c hi hr=>?_⟩
   obtain ⟨u,h1,h2⟩:=hc i r off c hi hr
   refine ⟨u,by simpa [l] using h1,?_⟩
   have hρn : mvρ b (lQ b es src ρ l) ρ (.n b i off)=lQ b es src ρ l (.n b i off):=by simp [mvρ,Pa.root]
   rcases h2 with ⟨h2,h3⟩ | ⟨n,rfl,hn,hsr,A,rfl⟩ | ⟨sz',es',c',hsr,rfl,hf,hp,hrep⟩
   ·dsimp only;rw [aR h2];exact h3
   ·have hl : lQ b es src ρ l (.n b i off)=⟨0,0,n,0⟩:=by
     have : (es[i]?.getD [])[off]? = some (.own n []):=by rw [hi];exact hr
     simp only [lQ,hsr,this]
    refine ⟨?_,.inl ?_⟩
    ·simp only [al]
     exact .inl ⟨rfl,A,rfl⟩
    ·rw [hρn,hl]
     exact ⟨rfl,rfl,rfl,hn⟩
   ·have hl : lQ b es src ρ l (.n b i off)=ρ (.r c'):=by simp only [lQ,hsr]
    have h4:=hrep ρ ω ho
    refine ⟨?_,?_⟩
    ·simp only [al] at h4 ⊢
     rw [hρn,hl]
     exact h4
    ·have h5:=ho.roots c' sz' es' (ho.big hf) hf
     refine bG.into h5 (hρn.trans hl) (fun e=>⟨dL (fun e'=>?_) e (hpi i off c' hsr) hinj,hw.block _ (ho.lt _ _ e)⟩) (fun i r off d v hi hr hcell=>?_)
     ·have:=ho.lt _ _ e
      simp only [Option.some.injEq] at e'
      omega
     ·rwa [aR (bX (hp r (List.mem_of_getElem? hi) d (List.mem_of_getElem? hr)))] at hcell
theorem SR.make (h : SR F nt S L w0 M0 f M a w) {t b sz : Nat} {es : List (List D)} {bs : List Nat} {src : Nat -> Nat -> Option Nat} {vs : List Value} {T : TypeId} {d : D} {v : Value} (ht : t < nt) (hb0 : 10000 <= b) (hL : L b=none)
  (hw : Bel w w') (_ : w'.heap.size=w.heap.size + 1) (hh : w'.heap[w.heap.size]? = some (.cells vs.toArray T (0,0))) (hlen : es.length * sz <= vs.length) (hu : ∀ e ∈ es,e.length=sz)
  (hc : ∀ i r off c,es[i]? = some r -> r[off]? = some c -> ∃ u,vs[i * sz + off]? = some u /\ ig F L (fun k=>S k \/ w0.heap.size <= k) f M a w (src i off) c u)
  (inj : ∀ i off i' off' c,src i off=some c -> src i' off'=some c -> i=i' /\ off=off') (hsrc : ∀ i off c,src i off=some c -> c ∈ bs /\ c ≠ b)
  (hd : ∀ (ρ : Pa -> Loc) M,ρ (.r b)=⟨w.heap.size,0,sz,vs.length⟩ -> aV F M ρ d v) :
  SR F nt S L w0 M0 (eff ((t,d)::(b,.blk sz es)::bO bs) [(b,true)] f) M (a.put (some t) v) w' :=
 h.makeAt (B:=w.heap.size) (o:=0) ht hb0 hL hw (Nat.le_refl _) hh (by rw [Nat.zero_add];exact hlen) hu (by simpa only [Nat.zero_add] using hc) inj hsrc hd
end
end Go.Gv

namespace Go.Gv
open Go.RowKit
section
variable {F : Fid} {nt : Nat} {S : Nat -> Prop} {L : Nat -> Option Loc} {w0 : World} {M0 : Mem} {f f' : Nat -> D} {M M' : Mem} {a a' : Act} {w w' : World} {ρ : Pa -> Loc} {ω : Nat -> Option Pa} {New : Nat -> Prop}
theorem tI {es : List (List D)} {i off n : Nat} {cs r : List D} (hi : es[i]? = some r) : (aW es i off n cs)[i]? = some (r.take off++cs++r.drop (off + n)):=by
 obtain ⟨hlt,_⟩:=List.getElem?_eq_some_iff.1 hi
 unfold aW
 rw [hi]
 simp [hlt]
theorem vA {es : List (List D)} {i off n i' : Nat} {cs : List D} (h : i' ≠ i) : (aW es i off n cs)[i']? = es[i']?:=by
 unfold aW
 rw [List.getElem?_set]
 rw [if_neg (Ne.symm h)]
theorem dR {es : List (List D)} {i off n : Nat} {cs : List D} : (aW es i off n cs).length=es.length:=by simp [aW]
theorem gW {es : List (List D)} {i off n i' off' : Nat} {cs r r' : List D} {d : D} (hi : es[i]? = some r) (hn : off + n <= r.length) (hcs : cs.length=n) (h : (aW es i off n cs)[i']? = some r') (ho : r'[off']? = some d) :
  (i'=i /\ off <= off' /\ off' < off + n /\ cs[off' - off]? = some d) \/ (¬ (i'=i /\ off <= off' /\ off' < off + n) /\ ∃ r0,es[i']? = some r0 /\ r0[off']? = some d):=by
 by_cases e : i'=i
 ·subst e
  rw [tI hi] at h
  cases h
  rw [List.append_assoc] at ho
  by_cases h1 : off' < off
  ·rw [List.getElem?_append_left (by simp;omega),List.getElem?_take_of_lt h1] at ho
   exact .inr ⟨by omega,r,hi,ho⟩
  ·rw [List.getElem?_append_right (by simp;omega)] at ho
   have hl : (r.take off).length=off:=by simp;omega
   rw [hl] at ho
   by_cases h2 : off' < off + n
   ·rw [List.getElem?_append_left (by omega)] at ho
    exact .inl ⟨rfl,by omega,h2,ho⟩
   ·rw [List.getElem?_append_right (by omega),hcs,List.getElem?_drop] at ho
    rw [show off + n + (off' - off - n)=off' from by omega] at ho
    exact .inr ⟨by omega,r,hi,ho⟩
 ·rw [vA e] at h
  exact .inr ⟨fun x=>e x.1,r',h,ho⟩
theorem en {es : List (List D)} {i off n sz : Nat} {cs r : List D} (hu : ∀ e ∈ es,e.length=sz) (hi : es[i]? = some r) (hn : off + n <= r.length) (hcs : cs.length=n) : ∀ e ∈ aW es i off n cs,e.length=sz:=by
 intro e he
 unfold aW at he
 rw [hi] at he
 rcases List.mem_or_eq_of_mem_set he with h | rfl
 ·exact hu e h
 ·have:=hu r (List.mem_of_getElem? hi)
  simp;omega
theorem eL {vs us : List Value} {q n x : Nat} (hus : us.length=n) (hq : q + n <= vs.length) : (vs.take q++us++vs.drop (q + n))[x]? = if q <= x /\ x < q + n then us[x - q]? else vs[x]?:=by
 rw [List.append_assoc]
 by_cases h1 : x < q
 ·rw [List.getElem?_append_left (by simp;omega),List.getElem?_take_of_lt h1,if_neg (by omega)]
 ·have hl : (vs.take q).length=q:=by simp;omega
  rw [List.getElem?_append_right (by omega),hl]
  by_cases h2 : x < q + n
  ·rw [List.getElem?_append_left (by omega),if_pos (by omega)]
  ·rw [List.getElem?_append_right (by omega),hus,List.getElem?_drop,if_neg (by omega)]
   congr 1
   omega
theorem dT.set {l : Loc} {sz : Nat} {es : List (List D)} {R R' : Nat -> Nat -> D -> Value -> Prop} (h : dT w l sz es R) {i off n : Nat} {r cs : List D} (hi : es[i]? = some r) (hn : off + n <= r.length) (hcs : cs.length=n) {vs us : List Value} {T : TypeId}
  (hb : w.heap[l.blk]? = some (.cells vs.toArray T (0,0))) (hus : us.length=n) (hw : w'.heap[l.blk]? = some (.cells (vs.take (l.base + i * sz + off)++us++vs.drop (l.base + i * sz + off + n)).toArray T (0,0)))
  (hold : ∀ i' r' off' d v,es[i']? = some r' -> r'[off']? = some d -> ¬ (i'=i /\ off <= off' /\ off' < off + n) -> R i' off' d v -> R' i' off' d v) (hnew : ∀ j d u,cs[j]? = some d -> us[j]? = some u -> R' i (off + j) d u) :
  dT w' l sz (aW es i off n cs) R':=by
 obtain ⟨h0,vs',T',h1,h2,h3,h4,h5⟩:=h
 rw [hb] at h1
 simp only [Option.some.injEq,Obj.cells.injEq,and_true] at h1
 obtain ⟨e1,rfl⟩:=h1
 obtain rfl : vs=vs':=by simpa using congrArg Array.toList e1
 have hr:=h4 r (List.mem_of_getElem? hi)
 have hlt : i < es.length:=(List.getElem?_eq_some_iff.1 hi).1
 have hle : i * sz + sz <= es.length * sz:=by rw [<- Nat.succ_mul];exact Nat.mul_le_mul_right _ hlt
 refine ⟨h0,_,T,hw,?_,by rw [dR];exact h3,en h4 hi hn hcs,fun i' r' off' d hi' ho'=>?_⟩
 ·simp;omega
 ·have hget:=fun x=>eL (vs:=vs) (us:=us) (q:=l.base + i * sz + off) (n:=n) (x:=x) hus (by omega)
  rcases gW hi hn hcs hi' ho' with ⟨rfl,g1,g2,g3⟩ | ⟨g1,r0,g2,g3⟩
  ·obtain ⟨u,hu⟩ : ∃ u,us[off' - off]? = some u:=⟨_,List.getElem?_eq_getElem (by have:=(List.getElem?_eq_some_iff.1 g3).1;omega)⟩
   refine ⟨u,?_,?_⟩
   ·rw [hget,if_pos (by omega)]
    rw [show l.base + i' * sz + off' - (l.base + i' * sz + off)=off' - off from by omega]
    exact hu
   ·have:=hnew _ d u g3 hu
    rwa [show off + (off' - off)=off' from by omega] at this
  ·obtain ⟨v,k1,k2⟩:=h5 i' r0 off' d g2 g3
   refine ⟨v,?_,hold i' r0 off' d v g2 g3 g1 k2⟩
   have hr0:=h4 r0 (List.mem_of_getElem? g2)
   have ho0 : off' < r0.length:=(List.getElem?_eq_some_iff.1 g3).1
   rw [hget,if_neg,k1]
   intro hx
   by_cases hii : i'=i
   ·subst hii;exact g1 ⟨rfl,by omega,by omega⟩
   ·rcases Nat.lt_or_gt_of_ne hii with hlt' | hlt'
    ·have : i' * sz + sz <= i * sz:=by rw [<- Nat.succ_mul];exact Nat.mul_le_mul_right _ hlt'
     omega
    ·have : i * sz + sz <= i' * sz:=by rw [<- Nat.succ_mul];exact Nat.mul_le_mul_right _ hlt'
     omega
theorem kF (h : Ch S w0 w) {b : Nat} (hb : S b \/ w0.heap.size <= b) (hk : ∀ k,k ≠ b -> w'.heap[k]? = w.heap[k]?) (hsz : w'.heap.size=w.heap.size) (ho : w'.os=w.os) (ht : w'.tape=w.tape) (hou : w'.output=w.output) (hdr : w.drawn <= w'.drawn) : Ch S w0 w' :=
 ⟨ho.trans h.os,ht.trans h.tape,hou.trans h.output,by rw [hsz];exact h.size,fun k hkB hs=>(hk k (by rintro rfl;rcases hb with hb | hb;exact hs hb;omega)).trans (h.block k hkB hs),Nat.le_trans h.drawn hdr⟩
structure mH (w : World) (b q n : Nat) (us : List Value) (w' : World) : Prop where
 cells : ∀ vs T,w.heap[b]? = some (.cells vs T (0,0)) -> w'.heap[b]? = some (.cells (vs.toList.take q++us++vs.toList.drop (q + n)).toArray T (0,0))
 rest : ∀ k,k ≠ b -> w'.heap[k]? = w.heap[k]?
 size : w'.heap.size=w.heap.size
 os : w'.os=w.os
 tape : w'.tape=w.tape
 output : w'.output=w.output
 drawn : w'.drawn=w.drawn
def jt (i off n : Nat) (cs : List D) (src : Nat -> Option Nat) (ρ : Pa -> Loc) : Pa -> Loc
 | .r c=>ρ (.r c)
 | .n c i' off'=>if i'=i /\ off <= off' /\ off' < off + n then match src (off' - off) with
   | some c=>ρ (.r c)
   | none=>match cs[off' - off]? with
    | some (.own n [])=>⟨0,0,n,0⟩
    | _=>ρ (.n c i' off')
  else ρ (.n c i' off')
def piS (b : Nat) (i off n : Nat) (src : Nat -> Option Nat) : Pa -> Option Pa
 | .r c=>if c=b then some (.r b) else none
 | .n c i' off'=>if c=b then if i'=i /\ off <= off' /\ off' < off + n then (src (off' - off)).map .r else some (.n b i' off') else none
theorem SR.store (h : SR F nt S L w0 M0 f M a w) (ho : Own F L (fun k=>S k \/ w0.heap.size <= k) f M a w ρ ω) {b sz i off n : Nat} {es : List (List D)} {r cs : List D} {us : List Value} {bs : List Nat} {src : Nat -> Option Nat} {ks : List (Nat × Bool)} (hf : f b=.blk sz es) (hi : es[i]? = some r) (hn : off + n <= r.length)
  (hcs : cs.length=n) (hus : us.length=n) (hw : mH w (ρ (.r b)).blk ((ρ (.r b)).base + i * sz + off) n us w')
  (hc : ∀ j c u,cs[j]? = some c -> us[j]? = some u -> ig F L (fun k=>S k \/ w0.heap.size <= k) f M a w (src j) c u)
  (inj : ∀ j j' c,src j=some c -> src j'=some c -> j=j') (hsrc : ∀ j c,src j=some c -> c ∈ bs /\ ∃ d,cs[j]? = some d /\ isO d=true) (hbs : b ∉ bs) (hks : (cs.any isO=true -> (b,false) ∈ ks)) :
  SR F nt S L w0 M0 (eff ((b,.blk sz (aW es i off n cs))::bO bs) ks f) M a w':=by
 have hb:=ho.big hf
 have hroot:=ho.roots b sz es hb hf
 rcases hroot with ⟨e0,_⟩ | ⟨hω,hrows⟩
 ·rw [e0] at hi;simp at hi
 obtain ⟨h0,vs,T,h1,h2,h3,h4,h5⟩:=id hrows
 have hnew:=ho.new _ _ hω
 have hlk : ∀ s,s ≠ b -> ((b,.blk sz (aW es i off n cs))::bO bs).lookup s=(bO bs).lookup s:=fun s h2=>by
  have e2 : (s == b)=false:=by simpa using h2
  simp only [List.lookup_cons,e2]
 have hfb : eff ((b,.blk sz (aW es i off n cs))::bO bs) ks f b=.blk sz (aW es i off n cs):=aA (by simp)
 have hcons : ∀ c ∈ bs,eff ((b,.blk sz (aW es i off n cs))::bO bs) ks f c=.any:=fun c hc=>aA (by
  rw [hlk c (by rintro rfl;exact hbs hc)];exact fV hc)
 have hinj : ∀ p p' q,piS b i off n src p=some q -> piS b i off n src p'=some q -> p=p':=by
  intro p p' q g1 g2
  cases p with
  | r c =>
   simp only [piS] at g1
   split at g1
   case isFalse=>cases g1
   cases g1
   cases p' with
   | r c' =>
    simp only [piS] at g2
    split at g2
    case isFalse=>cases g2
    simp_all
   | n c' i' off' =>
    simp only [piS] at g2
    split at g2
    case isFalse=>cases g2
    split at g2
    ·rw [Option.map_eq_some_iff] at g2
     obtain ⟨x,g3,g4⟩:=g2
     cases g4
     exact absurd (hsrc _ _ g3).1 hbs
    ·cases g2
  | n c i1 o1 =>
   simp only [piS] at g1
   split at g1
   case isFalse=>cases g1
   cases p' with
   | r c' =>
    simp only [piS] at g2
    split at g2
    case isFalse=>cases g2
    cases g2
    split at g1
    ·rw [Option.map_eq_some_iff] at g1
     obtain ⟨x,g3,g4⟩:=g1
     cases g4
     exact absurd (hsrc _ _ g3).1 hbs
    ·cases g1
   | n c' i2 o2 =>
    simp only [piS] at g2
    split at g2
    case isFalse=>cases g2
    split at g1
    ·split at g2
     ·rw [Option.map_eq_some_iff] at g1 g2
      obtain ⟨x,g3,rfl⟩:=g1
      obtain ⟨y,g5,g6⟩:=g2
      cases g6
      have:=inj _ _ _ g3 g5
      simp_all
      omega
     ·rw [Option.map_eq_some_iff] at g1
      obtain ⟨x,g3,rfl⟩:=g1
      cases g2
    ·split at g2
     ·rw [Option.map_eq_some_iff] at g2
      obtain ⟨x,g3,rfl⟩:=g2
      cases g1
     ·cases g1;cases g2;simp_all
 have hMb : ∀ p : Addr,p.block=(ρ (.r b)).blk -> M p=none:=fun p hp=>ho.apart p (.r b) (by rw [hp];exact hω)
 refine { hnt:=h.hnt,size:=h.size,defers:=h.defers,ch:=kF h.ch hnew hw.rest hw.size hw.os hw.tape hw.output (Nat.le_of_eq hw.drawn.symm),holds:=fun p v hp=>?_,ext:=h.ext,fresh:=h.fresh,own:=⟨_,_,ho.move (b:=b) (nb:=none) (π:=piS b i off n src) (ρb:=jt i off n cs src ρ) (ks:=ks) hinj (fun p q hq=>?_) (fun k e=>(by cases e)) (Nat.le_of_eq hw.size.symm) (fun p hp hne=>?_) (Mem.le_refl _) ho.apart (fun s hs=>?_) (fun k q hk hqb _=>hw.rest k (by rintro rfl;rw [hω] at hk;cases hk;exact hqb rfl)) (fun c hc hcb=>?_) (fun _ _=>.inl ⟨sz,_,hfb,?_⟩) (fun l' e _=>⟨rfl,by rw [hf];rfl⟩)⟩ }
 ·have hne : p.block ≠ (ρ (.r b)).blk:=fun e=>by rw [hMb p e] at hp;cases hp
  rw [World.cell?_of_block (hw.rest _ hne)]
  exact h.holds p v hp
 ·cases p with
  | r c =>
   simp only [piS] at hq
   split at hq
   ·cases hq;exact .inl rfl
   ·cases hq
  | n c i' off' =>
   simp only [piS] at hq
   split at hq
   case isFalse=>cases hq
   split at hq
   ·rw [Option.map_eq_some_iff] at hq
    obtain ⟨x,g3,rfl⟩:=hq
    exact .inr (by rw [show (Pa.r x).root=x from rfl,hcons x (hsrc _ _ g3).1];rfl)
   ·cases hq;exact .inl rfl
 ·cases p with
  | r c=>simp [jt] at hne
  | n c i' off' =>
   have hcb : c=b:=hp
   subst hcb
   have key : cs.any isO=true:=by
    simp only [jt] at hne
    split at hne
    ·split at hne
     ·rename_i x hx
      obtain ⟨_,d,g1,g2⟩:=hsrc _ _ hx
      rw [List.any_eq_true]
      exact ⟨d,List.mem_of_getElem? g1,g2⟩
     ·split at hne
      ·rename_i nn g1
       rw [List.any_eq_true]
       exact ⟨_,List.mem_of_getElem? g1,rfl⟩
      ·exact absurd rfl hne
    ·exact absurd rfl hne
   exact ⟨_,hks key,by simp [bg]⟩
 ·left
  have e2 : s ≠ b:=by omega
  rcases eT (bs:=bs) (c:=s) with h1 | ⟨_,h1⟩
  ·rcases bl (f:=f) (ks:=ks) ((hlk s e2).trans h1) with h2 | h2
   ·exact .inl h2
   ·exact .inr ⟨h2.1,rfl,h2.2⟩
  ·exact .inl (aA ((hlk s e2).trans h1))
 ·rcases eT (bs:=bs) (c:=c) with h1 | ⟨_,h1⟩
  ·exact bx ((hlk c hcb).trans h1)
  ·left;rw [aA ((hlk c hcb).trans h1)];rfl
 ·have hρb : mvρ b (jt i off n cs src ρ) ρ (.r b)=ρ (.r b):=by simp [mvρ,Pa.root,jt]
  have hnn : ∀ k : Nat,(none : Option Nat) ≠ some k:=fun k e=>by cases e
  have hωb : mvω b none (piS b i off n src) ω (ρ (.r b)).blk=some (.r b):=dL (hnn _) hω (by simp [piS]) hinj
  refine .inr ⟨by rw [hρb];exact hωb,?_⟩
  rw [hρb]
  have hcell:=hw.cells _ _ h1
  refine hrows.set hi hn hcs h1 hus hcell (fun i' r' off' d v g1 g2 g3 g4=>?_) (fun j d u g1 g2=>?_)
  ·have hρn : mvρ b (jt i off n cs src ρ) ρ (.n b i' off')=ρ (.n b i' off'):=by simp [mvρ,Pa.root,jt,g3]
   refine g4.frame (Mem.le_refl _) ⟨hρn,fun e=>⟨dL (hnn _) e (by simp [piS,g3]) hinj,hw.rest _ (fun e'=>?_)⟩⟩
   rw [e',hω] at e;cases e
  ·have hj : j < n:=by have:=(List.getElem?_eq_some_iff.1 g1).1;omega
   have hin : (i=i /\ off <= off + j /\ off + j < off + n):=⟨rfl,by omega,by omega⟩
   have hsub : off + j - off=j:=by omega
   have hρn : mvρ b (jt i off n cs src ρ) ρ (.n b i (off + j))=jt i off n cs src ρ (.n b i (off + j)):=by simp [mvρ,Pa.root]
   rcases hc j d u g1 g2 with ⟨k1,k2⟩ | ⟨n',rfl,hn',hsr,A,rfl⟩ | ⟨sz',es',c',hsr,rfl,hf',hp,hrep⟩
   ·rw [aR k1];exact k2
   ·have hl : jt i off n cs src ρ (.n b i (off + j))=⟨0,0,n',0⟩:=by
     unfold jt;dsimp only;rw [if_pos hin,hsub,hsr,g1]
    refine ⟨?_,.inl ?_⟩
    ·simp only [al]
     exact .inl ⟨rfl,A,rfl⟩
    ·rw [hρn,hl]
     exact ⟨rfl,rfl,rfl,hn'⟩
   ·have hl : jt i off n cs src ρ (.n b i (off + j))=ρ (.r c'):=by unfold jt;dsimp only;rw [if_pos hin,hsub,hsr]
    have h4:=hrep ρ ω ho
    refine ⟨?_,?_⟩
    ·simp only [al] at h4 ⊢
     rw [hρn,hl]
     exact h4
    ·have h5:=ho.roots c' sz' es' (ho.big hf') hf'
     refine bG.into h5 (hρn.trans hl) (fun e=>⟨dL (hnn _) e (by unfold piS;dsimp only;rw [if_pos rfl,if_pos hin,hsub,hsr];rfl) hinj,hw.rest _ (fun e'=>?_)⟩) (fun i r off d v hi hr hcell=>?_)
     ·rw [e',hω] at e
      cases e
      exact hbs (hsrc _ _ hsr).1
     ·rwa [aR (bX (hp r (List.mem_of_getElem? hi) d (List.mem_of_getElem? hr)))] at hcell
end
end Go.Gv

namespace Go.Gv
open Go.RowKit
section
variable {F : Fid} {nt : Nat} {S : Nat -> Prop} {L : Nat -> Option Loc} {w0 : World} {M0 : Mem} {f f' : Nat -> D} {M M' : Mem} {a a' : Act} {w w' : World} {ρ : Pa -> Loc} {ω : Nat -> Option Pa} {New : Nat -> Prop}
theorem ct {b s : Nat} {d : D} (h : s ≠ b) : [(b,d)].lookup s=none:=by
 have e2 : (s == b)=false:=by simpa using h
 simp only [List.lookup_cons,e2,List.lookup_nil]
theorem Own.setN (ho : Own F L New f M a w ρ ω) {b sz0 i0 o0 sz : Nat} {es0 es es' : List (List D)} {row0 : List D} (hf : f b=.blk sz0 es0) (hi0 : es0[i0]? = some row0) (ho0 : row0[o0]? = some (.own sz es)) (hlen : es'.length=es.length)
  (hsz : w.heap.size <= w'.heap.size) (hM : M.le M') (hap : ∀ (p : Addr) (q : Pa),ω p.block=some q -> M' p=none)
  (hnew : bG ω ρ w' (.n b i0 o0) sz es' (fun _ _ d v=>ab F M' d v)) (hk : ∀ k q,ω k=some q -> q ≠ .n b i0 o0 -> w'.heap[k]? = w.heap[k]?) :
  Own F L New (eff [(b,.blk sz0 (aW es0 i0 o0 1 [.own sz es']))] [] f) M' a w' ρ ω:=by
 have hb:=ho.big hf
 have hfb : eff [(b,.blk sz0 (aW es0 i0 o0 1 [.own sz es']))] [] f b=.blk sz0 (aW es0 i0 o0 1 [.own sz es']):=aA (by simp)
 have hlt : o0 < row0.length:=(List.getElem?_eq_some_iff.1 ho0).1
 refine ho.step (ks:=[]) (fun p hp=>absurd rfl hp) hM hsz (fun t ht=>.inl ?_) (fun c hc=>?_) (fun k p e=>.inl ⟨p,e⟩) hap (fun c l hc hl hB=>⟨rfl,?_⟩)
 ·rcases bl (f:=f) (ks:=[]) (ct (d:=.blk sz0 (aW es0 i0 o0 1 [.own sz es'])) (show t ≠ b by omega)) with h2 | h2
  ·exact .inl h2
  ·exact .inr ⟨h2.1,rfl,h2.2⟩
 ·by_cases e : c=b
  ·subst e
   right
   refine .inl ⟨sz0,_,hfb,?_⟩
   rcases ho.roots c sz0 es0 hb hf with ⟨e0,_⟩ | ⟨hω,h0,vs,T,h1,h2,h3,h4,h5⟩
   ·rw [e0] at hi0;simp at hi0
   ·refine .inr ⟨hω,h0,vs,T,(hk _ _ hω (by simp)).trans h1,h2,by rw [dR];exact h3,en h4 hi0 (by omega) rfl,fun i r off d hi hr=>?_⟩
    rcases gW hi0 (show o0 + 1 <= row0.length by omega) rfl hi hr with ⟨rfl,g1,g2,g3⟩ | ⟨g1,r0,g2,g3⟩
    ·have : off=o0:=by omega
     subst this
     simp at g3
     subst g3
     obtain ⟨v,k1,k2⟩:=h5 i row0 off _ hi0 ho0
     refine ⟨v,k1,?_,hnew⟩
     have:=k2.1
     simp only [al,hlen] at this ⊢
     exact this
    ·obtain ⟨v,k1,k2⟩:=h5 i r0 off d g2 g3
     exact ⟨v,k1,bF.frame k2 hM ⟨rfl,fun e=>⟨e,hk _ _ e (by
      intro h;cases h
      exact g1 ⟨rfl,by omega,by omega⟩)⟩⟩⟩
  ·left
   have hl:=ct (s:=c) (b:=b) (d:=.blk sz0 (aW es0 i0 o0 1 [.own sz es'])) e
   rcases bx (f:=f) (ks:=[]) hl with h1 | h1
   ·exact .inl h1
   ·exact .inr ⟨h1,fun p hp=>⟨rfl,fun e'=>⟨e',hk _ _ e' (by rintro rfl;exact e hp.symm)⟩⟩⟩
 ·by_cases e : c=b
  ·subst e;rw [hf];rfl
  ·rcases bx (f:=f) (ks:=[]) (ct (s:=c) (b:=b) (d:=.blk sz0 (aW es0 i0 o0 1 [.own sz es'])) e) with h1 | h1
   ·rw [hB] at h1;cases h1
   ·rw [<- h1];exact hB
theorem SR.storeN (h : SR F nt S L w0 M0 f M a w) (ho : Own F L (fun k=>S k \/ w0.heap.size <= k) f M a w ρ ω) {b sz0 i0 o0 sz i off n : Nat} {es0 es : List (List D)} {row0 r cs : List D} {us : List Value} (hf : f b=.blk sz0 es0) (hi0 : es0[i0]? = some row0) (ho0 : row0[o0]? = some (.own sz es))
  (hi : es[i]? = some r) (hn : off + n <= r.length) (hcs : cs.length=n) (hus : us.length=n) (hw : mH w (ρ (.n b i0 o0)).blk ((ρ (.n b i0 o0)).base + i * sz + off) n us w') (hc : ∀ (j : Nat) (c : D) (u : Value),cs[j]? = some c -> us[j]? = some u -> ab F M c u) :
  SR F nt S L w0 M0 (eff [(b,.blk sz0 (aW es0 i0 o0 1 [.own sz (aW es i off n cs)]))] [] f) M a w':=by
 have hb:=ho.big hf
 have hp : bG ω ρ w (.n b i0 o0) sz es (fun _ _ d v=>ab F M d v):=by
  rcases ho.roots b sz0 es0 hb hf with ⟨e0,_⟩ | ⟨hω,h0,vs,T,h1,h2,h3,h4,h5⟩
  ·rw [e0] at hi0;simp at hi0
  ·obtain ⟨v,k1,k2⟩:=h5 i0 row0 o0 _ hi0 ho0
   exact k2.2
 rcases hp with ⟨e0,_⟩ | ⟨hω,hrows⟩
 ·rw [e0] at hi;simp at hi
 obtain ⟨h0,vs,T,h1,h2,h3,h4,h5⟩:=id hrows
 have hnew:=ho.new _ _ hω
 have hMb : ∀ p : Addr,p.block=(ρ (.n b i0 o0)).blk -> M p=none:=fun p hp=>ho.apart p (.n b i0 o0) (by rw [hp];exact hω)
 refine { hnt:=h.hnt,size:=h.size,defers:=h.defers,ch:=kF h.ch hnew hw.rest hw.size hw.os hw.tape hw.output (Nat.le_of_eq hw.drawn.symm),holds:=fun p v hp=>?_,ext:=h.ext,fresh:=h.fresh,own:=⟨ρ,ω,ho.setN hf hi0 ho0 (by rw [dR]) (Nat.le_of_eq hw.size.symm) (Mem.le_refl _) ho.apart (.inr ⟨hω,?_⟩) (fun k q hk hq=>hw.rest k (by rintro rfl;rw [hω] at hk;cases hk;exact hq rfl))⟩ }
 ·have hne : p.block ≠ (ρ (.n b i0 o0)).blk:=fun e=>by rw [hMb p e] at hp;cases hp
  rw [World.cell?_of_block (hw.rest _ hne)]
  exact h.holds p v hp
 ·exact hrows.set hi hn hcs h1 hus (hw.cells _ _ h1) (fun _ _ _ _ _ _ _ _ x=>x) (fun j d u g1 g2=>hc j d u g1 g2)
def piR (b c : Nat) : Pa -> Option Pa
 | .r x=>if x=b then some (.r c) else none
 | .n x i off=>if x=b then some (.n c i off) else none
theorem SR.asg (h : SR F nt S L w0 M0 f M a w) {t b c sz k n : Nat} {es : List (List D)} {v : Value} (ht : t < nt) (hb0 : 10000 <= b) (hL : L b=none) (hbc : b ≠ c) (hf : f c=.blk sz es)
  (hv : ∀ ρ ω,Own F L (fun k=>S k \/ w0.heap.size <= k) f M a w ρ ω -> al F M ρ (.ref (.r c) k n) v) :
  SR F nt S L w0 M0 (eff [(t,.ref (.r b) k n),(b,.blk sz es),(c,.any)] [(b,true)] f) M (a.put (some t) v) w where
 hnt:=h.hnt
 size:=by simp [Act.put,h.size]
 defers:=by simp [Act.put,h.defers]
 ch:=h.ch
 holds:=h.holds
 ext:=h.ext
 fresh:=h.fresh
 own:=by
  obtain ⟨ρ,ω,ho⟩:=h.own
  have hc0:=ho.big hf
  have ht10 : t < 10000:=by have:=h.hnt;omega
  have lk : ∀ s,s ≠ t -> s ≠ b -> s ≠ c -> [(t,D.ref (.r b) k n),(b,.blk sz es),(c,.any)].lookup s=none:=fun s h1 h2 h3=>by
   have e1 : (s == t)=false:=by simpa using h1
   have e2 : (s == b)=false:=by simpa using h2
   have e3 : (s == c)=false:=by simpa using h3
   simp only [List.lookup_cons,e1,e2,e3,List.lookup_nil]
  have lkb : [(t,D.ref (.r b) k n),(b,.blk sz es),(c,.any)].lookup b=some (.blk sz es):=by
   have e1 : (b == t)=false:=by simp;omega
   simp only [List.lookup_cons,e1,beq_self_eq_true]
  have lkc : [(t,D.ref (.r b) k n),(b,.blk sz es),(c,.any)].lookup c=some .any:=by
   have e1 : (c == t)=false:=by simp;omega
   have e2 : (c == b)=false:=by simp;exact Ne.symm hbc
   simp only [List.lookup_cons,e1,e2,beq_self_eq_true]
  have hinj : ∀ p p' q,piR b c p=some q -> piR b c p'=some q -> p=p':=by
   intro p p' q h1 h2
   cases p <;> cases p' <;> simp only [piR] at h1 h2 <;> split at h1 <;> split at h2 <;> simp_all
   all_goals (obtain rfl:=h1;cases h2;try exact ⟨rfl,rfl⟩)
  have nn : ∀ x : Nat,(none : Option Nat) ≠ some x:=fun x e=>by cases e
  refine ⟨_,_,ho.move (b:=b) (nb:=none) (π:=piR b c) (ρb:=fun p=>match p with | .r _=>ρ (.r c) | .n _ i off=>ρ (.n c i off)) (ks:=[(b,true)]) hinj (fun p q hq=>?_) (fun k e=>(by cases e)) (Nat.le_refl _) (fun p hp hne=>⟨(b,true),by simp,?_⟩) (Mem.le_refl _) ho.apart (fun s hs=>?_) (fun _ _ _ _ _=>rfl)
   (fun x hx hxb=>?_) (fun _ _=>.inl ⟨sz,es,aA lkb,?_⟩) (fun l' e _=>by rw [hL] at e;cases e)⟩
  ·right
   have : q.root=c:=by
    cases p <;> simp only [piR] at hq <;> split at hq <;> cases hq <;> rfl
   rw [this,aA lkc];rfl
  ·cases p with
   | r x=>simp only [Pa.root] at hp;simp [bg,hp]
   | n x i off=>simp only [Pa.root] at hp;simp [bg,hp]
  ·by_cases e : s=t
   ·subst e
    refine .inr (.inr ⟨v,getElem?_put_same (by rw [h.size];exact ht),?_⟩)
    rw [aA (d:=.ref (.r b) k n) (by simp),ah rfl]
    have h1:=hv ρ ω ho
    simp only [al] at h1 ⊢
    simp only [mvρ,Pa.root,if_true]
    exact h1
   ·left
    rcases bl (f:=f) (ks:=[(b,true)]) (lk s e (by omega) (by omega)) with h2 | h2
    ·exact .inl h2
    ·exact .inr ⟨h2.1,getElem?_put e,h2.2⟩
  ·by_cases e : x=c
   ·subst e;left;rw [aA lkc];rfl
   ·exact bx (lk x (by omega) hxb e)
  ·have h5:=ho.roots c sz es hc0 hf
   refine bG.into h5 (by simp [mvρ,Pa.root]) (fun e=>⟨dL (nn _) e (by simp [piR]) hinj,rfl⟩) (fun i r off d u hi hr hcell=>?_)
   cases d
   case own sz' es' =>
    obtain ⟨g1,g2⟩:=hcell
    refine ⟨?_,bG.into g2 (by simp [mvρ,Pa.root]) (fun e=>⟨dL (nn _) e (by simp [piR]) hinj,rfl⟩) (fun _ _ _ _ _ _ _ x=>x)⟩
    simp only [al] at g1 ⊢
    simp only [mvρ,Pa.root,if_true]
    exact g1
   all_goals exact hcell
end
end Go.Gv

namespace Go.Gv
open Go.RowKit
section
variable {P : Program} {w : World}
theorem fC (b : Nat) (T : TypeId) : ∀ (us : List Value) (k : Nat) (vs : List Value) (w : World),w.heap[b]? = some (.cells vs.toArray T (0,0)) -> k + us.length <= vs.length ->
  (w.setCells b k us).heap[b]? = some (.cells (vs.take k++us++vs.drop (k + us.length)).toArray T (0,0)) /\ (∀ x,x ≠ b -> (w.setCells b k us).heap[x]? = w.heap[x]?) /\ (w.setCells b k us).heap.size=w.heap.size /\
   (w.setCells b k us).os=w.os /\ (w.setCells b k us).tape=w.tape /\ (w.setCells b k us).output=w.output /\ (w.setCells b k us).drawn=w.drawn
 | [],k,vs,w,h,_=>⟨by simpa [World.setCells] using h,fun _ _=>rfl,rfl,rfl,rfl,rfl,rfl⟩
 | u::us,k,vs,w,h,hl=>by
  simp only [List.length_cons] at hl
  have h' : (w.setCell ⟨b,k,none⟩ u).heap[b]? = some (.cells (vs.set k u).toArray T (0,0)):=by
   simp [World.setCell,Array.getElem?_modify,h]
  obtain ⟨h1,h2,h3,h4,h5,h6,h7⟩:=fC b T us (k + 1) (vs.set k u) (w.setCell ⟨b,k,none⟩ u) h' (by simp;omega)
  simp only [World.setCells]
  refine ⟨?_,fun x hx=>(h2 x hx).trans (Below.heap_setCell w _ _ _ hx),h3.trans (by simp [World.setCell]),h4,h5,h6,h7⟩
  rw [h1]
  congr 3
  have e1 : (vs.set k u).take (k + 1)=vs.take k++[u]:=by
   rw [List.take_succ_eq_append_getElem (by simp;omega),List.take_set_of_le (by omega)]
   simp
  have e2 : (vs.set k u).drop (k + 1 + us.length)=vs.drop (k + (u::us).length):=by
   rw [List.drop_set_of_lt (by omega)]
   congr 1
   simp;omega
  rw [e1,e2]
  simp
def kB (w : World) (A : Option Addr) (n cap m sz e : Nat) (olds news : List Value) (v' : Value) (w' : World) : Prop :=
 (n + m <= cap /\ ∃ (b o : Nat) (vs : List Value) (T : TypeId),A=some ⟨b,o,none⟩ /\ w.heap[b]? = some (.cells vs.toArray T (0,0)) /\ v'=.slice (some ⟨b,o,none⟩) (n + m) cap /\ o + n * sz + m * sz <= vs.length /\
     w'.heap[b]? = some (.cells (vs.take (o + n * sz)++news++vs.drop (o + n * sz + m * sz)).toArray T (0,0)) /\ (∀ x,x ≠ b -> w'.heap[x]? = w.heap[x]?) /\ w'.heap.size=w.heap.size /\ w'.os=w.os /\ w'.tape=w.tape /\ w'.output=w.output /\ w'.drawn=w.drawn) \/
    (∃ (cap' : Nat) (vs' : List Value),v'=.slice (some ⟨w.heap.size,0,none⟩) (n + m) cap' /\ (n + m <= cap' /\ cap' <= 9223372036854775807) /\ Bel w w' /\ w'.heap.size=w.heap.size + 1 /\ w'.heap[w.heap.size]? = some (.cells vs'.toArray e (0,0)) /\ vs'.length=cap' * sz /\
     vs'.take ((n + m) * sz)=olds++news)
theorem lC (t ty e : TypeId) (i : TypeInfo) (z : Value) (ht : P.underlying t=some (.slice e)) (hi : P.info? e=some i) (hz : i.zero=some z) (hzs : z.cells.size=i.size)
  (A : Option Addr) (n cap : Nat) (olds : List Value) (hcase : (A=none /\ n=0 /\ cap=0) \/ ∃ b : Addr,A=some b) (hlo : olds.length=n * i.size) (holds : ∀ b,A=some b -> ∀ j u,olds[j]? = some u -> w.cell? (b.add j)=some u) (hnc : n <= cap)
  (ad : Addr) (m c : Nat) (news : List Value) (hl : news.length=m * i.size) (hnews : ∀ j u,news[j]? = some u -> w.cell? (ad.add j)=some u) (h1 : ∀ u ∈ news,u.oneCell'=true)
  (hroom : n + m <= cap -> 0 < m -> ∃ (b o : Nat) (vs : List Value) (T : TypeId),A=some ⟨b,o,none⟩ /\ w.heap[b]? = some (.cells vs.toArray T (0,0)) /\ o + cap * i.size <= vs.length)
  (hb : (n + m) * i.bytes <= 140737488355328) (h63 : n + m <= 9223372036854775807) (hm : 0 < m) :
  ∃ v' w',(Builtin.append_ #[t,t] ty #[.slice A n cap,.slice (some ad) m c]).run P w=.ok v' w' /\ kB w A n cap m i.size e olds news v' w':=by
 unfold kB
 have grow : ∀ (old : Nat),old < n + m -> (∃ (cap' : Nat) (vs' : List Value),Value.slice (some ⟨w.heap.size,0,none⟩) (n + m) (grownCap w (n + m) old e)=.slice (some ⟨w.heap.size,0,none⟩) (n + m) cap' /\ (n + m <= cap' /\ cap' <= 9223372036854775807) /\
   Bel w (w.drew.alloc (.cells (olds.toArray++news.toArray++Builtin.zeroCells z.cells (grownCap w (n + m) old e - (n + m))) e)) /\
   (w.drew.alloc (.cells (olds.toArray++news.toArray++Builtin.zeroCells z.cells (grownCap w (n + m) old e - (n + m))) e)).heap.size=w.heap.size + 1 /\
   (w.drew.alloc (.cells (olds.toArray++news.toArray++Builtin.zeroCells z.cells (grownCap w (n + m) old e - (n + m))) e)).heap[w.heap.size]? = some (.cells vs'.toArray e (0,0)) /\ vs'.length=cap' * i.size /\ vs'.take ((n + m) * i.size)=olds++news):=by
  intro old _
  have hge:=grownCap_ge w (n + m) old e
  have hlen : (olds++news).length=(n + m) * i.size:=by rw [List.length_append,hlo,hl,Nat.add_mul]
  refine ⟨_,(olds.toArray++news.toArray++Builtin.zeroCells z.cells (grownCap w (n + m) old e - (n + m))).toList,rfl,⟨hge,grownCap_le_maxLen w (n + m) old e h63⟩,Bel.drewAlloc _ _,by simp,by rw [Array.toArray_toList];exact heap_alloc_new w.drew _,?_,?_⟩
  ·simp only [Array.toList_append,List.length_append,Array.length_toList,size_zeroCells,hzs,hlo,hl,<- Nat.add_mul]
   congr 1
   omega
  ·simp only [Array.toList_append]
   rw [<- hlen]
   exact List.take_left
 by_cases hr : n + m <= cap
 ·obtain ⟨b,o,vs,T,rfl,g1,g2⟩:=hroom hr hm
  have hle : (n + m) * i.size <= cap * i.size:=Nat.mul_le_mul_right _ hr
  rw [Nat.add_mul] at hle
  have hcell : ∀ j,j < news.length -> (w.cell? ⟨b,o + n * i.size + j,none⟩).isSome=true:=by
   intro j hj
   have hlt : o + n * i.size + j < vs.length:=by omega
   simp [World.cell?,g1,hlt]
  have hrun:=run_append_room_cells (P:=P) w t ty e i ht hi b o n cap ad m c news hl hnews h1 hr hcell (fun j hj=>by simp [World.frozen?,g1])
  obtain ⟨k1,k2,k3,k4,k5,k6,k7⟩:=fC b T news (o + n * i.size) vs w g1 (by omega)
  rw [hl] at k1
  exact ⟨_,_,hrun,.inl ⟨hr,b,o,vs,T,rfl,g1,rfl,by omega,k1,k2,k3,k4,k5,k6,k7⟩⟩
 ·rcases hcase with ⟨rfl,rfl,rfl⟩ | ⟨b,rfl⟩
  ·obtain rfl : olds=[]:=List.eq_nil_of_length_eq_zero (by simpa using hlo)
   have hg:=grow 0 (by omega)
   simp only [Nat.zero_add,Array.empty_append] at hg hb ⊢
   exact ⟨_,_,run_append_nil (P:=P) w t ty e i z ht hi hz ad m c news hl hnews hm (by omega) (by omega),.inr (by simpa using hg)⟩
  ·exact ⟨_,_,run_append_grow (P:=P) w t ty e i z ht hi hz b n cap olds hlo (holds b rfl) ad m c news hl hnews (by omega) (by omega) (growslice_fits (by omega) hb),.inr (grow cap (by omega))⟩
theorem ki (t ty e : TypeId) (i : TypeInfo) (ht : P.underlying t=some (.slice e)) (hi : P.info? e=some i) (A : Option Addr) (n cap : Nat) (hnc : n <= cap) (A2 : Option Addr) (c2 : Nat) :
  (Builtin.append_ #[t,t] ty #[.slice A n cap,.slice A2 0 c2]).run P w=.ok (.slice A n cap) w:=by
 cases A <;> cases A2 <;> simp [Builtin.append_,run_underlying ht,sizeOf,typeInfo,hi,Builtin.lenOf,hnc,Builtin.firstCells,loadCells,loadCellsFrom,storeCells]
theorem lB (t ty e : TypeId) (i : TypeInfo) (z : Value) (ht : P.underlying t=some (.slice e)) (hi : P.info? e=some i) (hz : i.zero=some z) (hzs : z.cells.size=i.size)
  (A : Option Addr) (n cap : Nat) (olds : List Value) (hcase : (A=none /\ n=0 /\ cap=0) \/ ∃ b : Addr,A=some b) (hlo : olds.length=n * i.size) (holds : ∀ b,A=some b -> ∀ j u,olds[j]? = some u -> w.cell? (b.add j)=some u) (hnc : n <= cap)
  (A2 : Option Addr) (m c : Nat) (news : List Value) (hl : news.length=m * i.size) (hA2 : 0 < m -> ∃ ad,A2=some ad /\ ∀ j u,news[j]? = some u -> w.cell? (ad.add j)=some u) (h1 : ∀ u ∈ news,u.oneCell'=true)
  (hroom : n + m <= cap -> 0 < m -> ∃ (b o : Nat) (vs : List Value) (T : TypeId),A=some ⟨b,o,none⟩ /\ w.heap[b]? = some (.cells vs.toArray T (0,0)) /\ o + cap * i.size <= vs.length)
  (hb : (n + m) * i.bytes <= 140737488355328) (h63 : n + m <= 9223372036854775807) :
  ∃ v' w',(Builtin.append_ #[t,t] ty #[.slice A n cap,.slice A2 m c]).run P w=.ok v' w' /\ ((0 < m /\ kB w A n cap m i.size e olds news v' w') \/ (m=0 /\ v'=.slice A n cap /\ w'=w)):=by
 rcases Nat.eq_zero_or_pos m with rfl | hm
 ·exact ⟨_,_,ki t ty e i ht hi A n cap hnc A2 c,.inr ⟨rfl,rfl,rfl⟩⟩
 ·obtain ⟨ad,rfl,hnews⟩:=hA2 hm
  obtain ⟨v',w',g1,g2⟩:=lC (P:=P) (w:=w) t ty e i z ht hi hz hzs A n cap olds hcase hlo holds hnc ad m c news hl hnews h1 hroom hb h63 hm
  exact ⟨v',w',g1,.inl ⟨hm,g2⟩⟩
end
end Go.Gv

namespace Go.Gv
open Go.RowKit
section
variable {F : Fid} {nt : Nat} {S : Nat -> Prop} {L : Nat -> Option Loc} {w0 : World} {M0 : Mem} {f f' : Nat -> D} {M M' : Mem} {a a' : Act} {w w' : World} {ρ : Pa -> Loc} {ω : Nat -> Option Pa} {New : Nat -> Prop}
def piA (b : Nat) (src : Option (Pa × Nat)) (inp : Bool) (n : Nat) (c2 : Option Nat) : Pa -> Option Pa
 | .r x=>if x=b then if inp then src.map (·.1) else none else none
 | .n x i off=>if x=b then if i < n then match src with
   | some (.r c,k)=>some (.n c (k + i) off)
   | _=>none
  else match c2 with
   | some c=>some (.n c (i - n) off)
   | none=>none
  else none
def n8 (b : Nat) (src : Option (Pa × Nat)) (n : Nat) (c2 : Option Nat) (l : Loc) (ρ : Pa -> Loc) : Pa -> Loc
 | .r _=>l
 | .n x i off=>match piA b src false n c2 (.n b i off) with
  | some q=>ρ q
  | none=>ρ (.n x i off)
def ez (F : Fid) (M : Mem) (ω : Nat -> Option Pa) (ρ : Pa -> Loc) (w : World) (c : Option Nat) (i off : Nat) (d : D) (u : Value) : Prop :=
 match c with
 | some c=>bF F M ω ρ w c i off d u
 | none=>isO d=false /\ ab F M d u
def aI : Option (Pa × Nat) -> Option Nat
 | some (p,_)=>some p.root
 | none=>none
def v7 : Option (Pa × Nat) -> Option Nat
 | some (.r c,_)=>some c
 | _=>none
def v6 : Option (Pa × Nat) -> Nat
 | some (_,k)=>k
 | none=>0
theorem vi {b : Nat} {src : Option (Pa × Nat)} {inp : Bool} {n : Nat} {c2 : Option Nat} (h2 : ∀ c,c2=some c -> aI src ≠ some c) : ∀ p p' q,piA b src inp n c2 p=some q -> piA b src inp n c2 p'=some q -> p=p':=by
 intro p p' q g1 g2
 have key : ∀ x i off q,piA b src inp n c2 (.n x i off)=some q -> x=b /\ ((i < n /\ ∃ c k,src=some (.r c,k) /\ q=.n c (k + i) off) \/ (¬ i < n /\ ∃ c,c2=some c /\ q=.n c (i - n) off)):=by
  intro x i off q h
  simp only [piA] at h
  split at h
  case isFalse=>cases h
  rename_i e
  refine ⟨e,?_⟩
  split at h
  ·rename_i hi
   split at h
   ·rename_i c k;cases h;exact .inl ⟨hi,c,k,rfl,rfl⟩
   ·cases h
  ·rename_i hi
   split at h
   ·rename_i c;cases h;exact .inr ⟨hi,c,rfl,rfl⟩
   ·cases h
 have keyr : ∀ x q,piA b src inp n c2 (.r x)=some q -> x=b /\ ∃ k,src=some (q,k):=by
  intro x q h
  simp only [piA] at h
  split at h
  case isFalse=>cases h
  rename_i e
  refine ⟨e,?_⟩
  split at h
  ·cases src with
   | none=>cases h
   | some s=>obtain ⟨p,k⟩:=s;simp at h;subst h;exact ⟨k,rfl⟩
  ·cases h
 cases p with
 | r x =>
  obtain ⟨rfl,k,hs⟩:=keyr x q g1
  cases p' with
  | r x'=>obtain ⟨rfl,_⟩:=keyr x' q g2;rfl
  | n x' i off =>
   obtain ⟨rfl,⟨_,c,k',hs',rfl⟩ | ⟨_,c,hc,rfl⟩⟩:=key x' i off q g2
   ·rw [hs] at hs';cases hs'
   ·exact absurd (by rw [hs];rfl) (h2 c hc)
 | n x i off =>
  obtain ⟨rfl,h1⟩:=key x i off q g1
  cases p' with
  | r x' =>
   obtain ⟨rfl,k,hs⟩:=keyr x' q g2
   rcases h1 with ⟨_,c,k',hs',rfl⟩ | ⟨_,c,hc,rfl⟩
   ·rw [hs] at hs';cases hs'
   ·exact absurd (by rw [hs];rfl) (h2 c hc)
  | n x' i' off' =>
   obtain ⟨rfl,h3⟩:=key x' i' off' q g2
   rcases h1 with ⟨hi,c,k,hs,rfl⟩ | ⟨hi,c,hc,rfl⟩ <;> rcases h3 with ⟨hi',c',k',hs',h4⟩ | ⟨hi',c',hc',h4⟩
   ·rw [hs] at hs';cases hs';simp only [Pa.n.injEq] at h4
    obtain ⟨_,h5,rfl⟩:=h4
    have : i=i':=by omega
    rw [this]
   ·simp only [Pa.n.injEq] at h4
    obtain ⟨rfl,_,_⟩:=h4
    exact absurd (by rw [hs];rfl) (h2 c hc')
   ·simp only [Pa.n.injEq] at h4
    obtain ⟨rfl,_,_⟩:=h4
    exact absurd (by rw [hs'];rfl) (h2 c hc)
   ·rw [hc] at hc';cases hc';simp only [Pa.n.injEq] at h4
    obtain ⟨_,h5,rfl⟩:=h4
    have : i=i':=by omega
    rw [this]
theorem SR.app_core (h : SR F nt S L w0 M0 f M a w) (ho : Own F L (fun k=>S k \/ w0.heap.size <= k) f M a w ρ ω) {t b sz n m : Nat} {rows rowsY : List (List D)} {src : Option (Pa × Nat)} {inp : Bool} {c2 : Option Nat} {l : Loc} {nb : Option Nat} {v : Value} (ht : t < nt) (hL : L b=none)
  (hn : rows.length=n) (hm : rowsY.length=m) (hbs : aI src ≠ some b) (hb2 : c2 ≠ some b) (h2 : ∀ c,c2=some c -> aI src ≠ some c)
  (hft : f' t=.ref (.r b) 0 (n + m)) (hfb : f' b=.blk sz (rows++rowsY)) (hfs : ∀ s,s < 10000 -> s ≠ t -> f' s=.any \/ (f' s=f s /\ aw [(b,true)] (f s)=false))
  (hfc : ∀ c,10000 <= c -> c ≠ b -> aI src ≠ some c -> c2 ≠ some c -> isB (f' c)=false \/ f' c=f c) (hf2 : ∀ c,c2=some c -> isB (f' c)=false)
  (hfr : ∀ c k,src=some (.r c,k) -> isB (f' c)=false) (hfn : ∀ c i o k,src=some (.n c i o,k) -> ∃ sz0 es0,f c=.blk sz0 es0 /\ f' c=.blk sz0 (aW es0 i o 1 [.any]) /\ ∃ row0,es0[i]? = some row0 /\ o < row0.length)
  (hnb : ∀ k,nb=some k -> k=w.heap.size /\ w'.heap.size=w.heap.size + 1) (hsz : w.heap.size <= w'.heap.size) (hch : Ch S w0 w') (hholds : ∀ p v,M p=some v -> w'.cell? p=some v)
  (hk : ∀ k q,ω k=some q -> (inp=true -> src.map (·.1) ≠ some q) -> w'.heap[k]? = w.heap[k]?)
  (hv : al F M (fun p=>if p=.r b then l else ρ p) (.ref (.r b) 0 (n + m)) v)
  (hblk : I0 l sz (rows++rowsY) \/ ((nb=some l.blk \/ (inp=true /\ ∃ p k,src=some (p,k) /\ ω (ρ p).blk=some p /\ l.blk=(ρ p).blk)) /\ l.sz=sz /\ ∃ (vs : List Value) (T : TypeId),w'.heap[l.blk]? = some (.cells vs.toArray T (0,0)) /\ vs.length=l.len /\ l.base + (n + m) * sz <= l.len /\ (∀ e ∈ rows++rowsY,e.length=sz) /\
   (∀ (i : Nat) (r : List D) (off : Nat) (d : D),rows[i]? = some r -> r[off]? = some d -> ∃ u,vs[l.base + i * sz + off]? = some u /\ ez F M ω ρ w (v7 src) (v6 src + i) off d u) /\
   (∀ (i : Nat) (r : List D) (off : Nat) (d : D),rowsY[i]? = some r -> r[off]? = some d -> ∃ u,vs[l.base + (n + i) * sz + off]? = some u /\ ez F M ω ρ w c2 i off d u))) :
  SR F nt S L w0 M0 f' M (a.put (some t) v) w' where
 hnt:=h.hnt
 size:=by simp [Act.put,h.size]
 defers:=by simp [Act.put,h.defers]
 ch:=hch
 holds:=hholds
 ext:=h.ext
 fresh:=h.fresh
 own:=by
  have ht10 : t < 10000:=by have:=h.hnt;omega
  have hinj:=vi (b:=b) (inp:=inp) (n:=n) h2
  have hρr : mvρ b (n8 b src n c2 l ρ) ρ (.r b)=l:=by simp [mvρ,Pa.root,n8]
  have hnbk : ∀ k q,ω k=some q -> nb ≠ some k:=fun k q hq e=>by
   have:=(hnb k e).1
   have:=ho.lt _ _ hq
   omega
  have hroots' : ∀ p q,piA b src inp n c2 p=some q -> aI src=some q.root \/ c2=some q.root:=by
   intro p q hq
   cases p with
   | r x =>
    simp only [piA] at hq
    split at hq
    case isFalse=>cases hq
    split at hq
    ·rw [Option.map_eq_some_iff] at hq
     obtain ⟨⟨p,k⟩,hs,rfl⟩:=hq
     exact .inl (by rw [hs];rfl)
    ·cases hq
   | n x i off =>
    simp only [piA] at hq
    split at hq
    case isFalse=>cases hq
    split at hq
    ·split at hq
     ·cases hq;exact .inl rfl
     ·cases hq
    ·split at hq
     ·cases hq;exact .inr rfl
     ·cases hq
  have moved : ∀ (i off : Nat) (c i0 : Nat) (d : D) (u : Value),piA b src inp n c2 (.n b i off)=some (.n c i0 off) -> bF F M ω ρ w c i0 off d u -> bF F M (mvω b nb (piA b src inp n c2) ω) (mvρ b (n8 b src n c2 l ρ) ρ) w' b i off d u:=by
   intro i off c i0 d u hpi hcell
   have hloc : mvρ b (n8 b src n c2 l ρ) ρ (.n b i off)=ρ (.n c i0 off):=by
    have : piA b src false n c2 (.n b i off)=some (.n c i0 off):=hpi
    simp only [mvρ,Pa.root,if_true,n8,this]
   cases d
   case own sz' es' =>
    obtain ⟨g1,g2⟩:=hcell
    refine ⟨?_,bG.into g2 hloc (fun e=>⟨dL (hnbk _ _ e) e hpi hinj,hk _ _ e (fun hi=>?_)⟩) (fun _ _ _ _ _ _ _ x=>x)⟩
    ·simp only [al] at g1 ⊢
     rw [hloc]
     exact g1
    ·intro hs
     rw [Option.map_eq_some_iff] at hs
     obtain ⟨⟨p,k⟩,hs,hp⟩:=hs
     simp only at hp
     have h3 : piA b src inp n c2 (.r b)=some (.n c i0 off):=by simp [piA,hi,hs,hp]
     have:=hinj _ _ _ h3 hpi
     cases this
   all_goals exact hcell
  refine ⟨_,_,ho.moveX (b:=b) (nb:=nb) (π:=piA b src inp n c2) (ρb:=n8 b src n c2 l ρ) (ks:=[(b,true)]) hinj (fun k e=>?_) hsz (fun p hp _=>⟨(b,true),by simp,?_⟩) (Mem.le_refl _) ho.apart (fun s hs=>?_) (fun k q hk' hqb hmiss=>hk k q hk' (fun hi hs=>?_))
   (fun c hc hcb=>?_) (fun _ _=>.inl ⟨sz,_,hfb,?_⟩) (fun l' e _=>by rw [hL] at e;cases e)⟩
  ·obtain ⟨rfl,h3⟩:=hnb k e
   exact ⟨Nat.le_refl _,by omega,.inr h.ch.size,fun p hp=>by
    rcases hq : M p with _ | u
    ·rfl
    ·have:=World.block_lt_of_cell? w p (h.holds p u hq);omega⟩
  ·cases p with
   | r x=>simp only [Pa.root] at hp;simp [bg,hp]
   | n x i off=>simp only [Pa.root] at hp;simp [bg,hp]
  ·by_cases e : s=t
   ·subst e
    refine .inr (.inr ⟨v,getElem?_put_same (by rw [h.size];exact ht),?_⟩)
    rw [hft,ah rfl]
    simp only [al,if_true] at hv ⊢
    rw [hρr]
    exact hv
   ·left
    rcases hfs s hs e with h3 | ⟨h3,h4⟩
    ·exact .inl h3
    ·exact .inr ⟨h3,getElem?_put e,h4⟩
  ·rw [Option.map_eq_some_iff] at hs
   obtain ⟨⟨p,k'⟩,hs,hp⟩:=hs
   simp only at hp
   exact hmiss (.r b) (by simp [piA,hi,hs,hp])
  ·by_cases e2 : c2=some c
   ·exact .inl (hf2 c e2)
   ·by_cases e1 : aI src=some c
    ·cases src with
     | none=>cases e1
     | some s =>
      obtain ⟨p,k⟩:=s
      cases p with
      | r x =>
       simp only [aI,Pa.root,Option.some.injEq] at e1
       subst e1
       exact .inl (hfr _ _ rfl)
      | n x i o =>
       simp only [aI,Pa.root,Option.some.injEq] at e1
       subst e1
       obtain ⟨sz0,es0,g1,g2,row0,g3,g4⟩:=hfn _ _ _ _ rfl
       refine .inr (.inr ⟨by rw [g1];rfl,.inl ⟨sz0,_,g2,?_⟩⟩)
       rcases ho.roots x sz0 es0 hc g1 with ⟨e0,_⟩ | ⟨hω,k0,vs,T,k1,k2,k3,k4,k5⟩
       ·rw [e0] at g3;simp at g3
       ·have hmiss : ∀ off',(Pa.n x off'=Pa.n x off') -> True:=fun _ _=>trivial
        have hm1 : ∀ p,piA b (some (.n x i o,k)) inp n c2 p ≠ some (.r x):=fun p e=>by
         cases p with
         | r y =>
          simp only [piA] at e
          split at e
          ·split at e <;> simp at e
          ·cases e
         | n y i' o' =>
          simp only [piA] at e
          split at e
          ·split at e
           ·cases e
           ·split at e <;> simp at e
          ·cases e
        have hm2 : ∀ p i' o',(i' ≠ i \/ o' ≠ o) -> piA b (some (.n x i o,k)) inp n c2 p ≠ some (.n x i' o'):=fun p i' o' hne e=>by
         cases p with
         | r y =>
          simp only [piA] at e
          split at e
          ·split at e
           ·simp at e;omega
           ·cases e
          ·cases e
         | n y i1 o1 =>
          simp only [piA] at e
          split at e
          ·split at e
           ·cases e
           ·split at e
            ·simp only [Option.some.injEq,Pa.n.injEq] at e
             exact e2 (by rw [e.1])
            ·cases e
          ·cases e
        have hxb : ∀ i' o',mvρ b (n8 b (some (.n x i o,k)) n c2 l ρ) ρ (.n x i' o')=ρ (.n x i' o'):=fun i' o'=>by simp [mvρ,Pa.root,hcb]
        have hxr : mvρ b (n8 b (some (.n x i o,k)) n c2 l ρ) ρ (.r x)=ρ (.r x):=by simp [mvρ,Pa.root,hcb]
        refine .inr ⟨?_,?_⟩
        ·rw [hxr];exact lh (hnbk _ _ hω) hω hm1
        ·rw [hxr]
         refine ⟨k0,vs,T,(hk _ _ hω (fun _=>by simp)).trans k1,k2,by rw [dR];exact k3,en k4 g3 (by omega) rfl,fun i' r off d hi hr=>?_⟩
         rcases gW g3 (show o + 1 <= row0.length by omega) rfl hi hr with ⟨rfl,q1,q2,q3⟩ | ⟨q1,r0,q2,q3⟩
         ·have hoo : off=o:=by omega
          subst hoo
          simp at q3
          subst q3
          obtain ⟨u,z1,_⟩:=k5 i' row0 off _ g3 (List.getElem?_eq_getElem g4)
          exact ⟨u,z1,by simp [bF,ab]⟩
         ·obtain ⟨u,z1,z2⟩:=k5 i' r0 off d q2 q3
          have hne : i' ≠ i \/ off ≠ o:=by
           by_cases hi' : i'=i
           ·subst hi'
            right;rintro rfl;exact q1 ⟨rfl,by omega,by omega⟩
           ·exact .inl hi'
          exact ⟨u,z1,z2.frame (Mem.le_refl _) ⟨hxb _ _,fun e=>⟨lh (hnbk _ _ e) e (fun p=>hm2 p _ _ hne),hk _ _ e (fun _ hs=>by
           simp only [Option.map_some,Option.some.injEq,Pa.n.injEq,true_and] at hs
           omega)⟩⟩⟩
    ·rcases hfc c hc hcb e1 e2 with h3 | h3
     ·exact .inl h3
     ·refine .inr (.inl ⟨h3,fun p q hq e=>?_⟩)
      rcases hroots' p q hq with h4 | h4
      ·exact e1 (by rw [h4,e])
      ·exact e2 (by rw [h4,e])
  ·unfold cC bG
   rw [hρr]
   rcases hblk with h3 | ⟨h3,h4,vs,T,h5,h6,h7,h8,h9,h10⟩
   ·exact .inl h3
   ·refine .inr ⟨?_,h4,vs,T,h5,h6,by rw [List.length_append,hn,hm];exact h7,h8,fun i r off d hi hr=>?_⟩
    ·rcases h3 with h3 | ⟨hi,p,k,hs,h11,h12⟩
     ·exact mZ h3
     ·rw [h12]
      refine dL (hnbk _ _ h11) h11 (by simp [piA,hi,hs]) hinj
    ·by_cases hin : i < n
     ·rw [List.getElem?_append_left (by omega)] at hi
      obtain ⟨u,z1,z2⟩:=h9 i r off d hi hr
      refine ⟨u,z1,?_⟩
      cases src with
      | none=>obtain ⟨z3,z4⟩:=z2;exact (aR z3).symm ▸ z4
      | some s =>
       obtain ⟨p,k⟩:=s
       cases p with
       | r c=>exact moved i off c (k + i) d u (by simp [piA,hin]) z2
       | n c i0 o0=>obtain ⟨z3,z4⟩:=z2;exact (aR z3).symm ▸ z4
     ·rw [List.getElem?_append_right (by omega),hn] at hi
      obtain ⟨u,z1,z2⟩:=h10 (i - n) r off d hi hr
      rw [show n + (i - n)=i from by omega] at z1
      refine ⟨u,z1,?_⟩
      cases c2 with
      | none=>obtain ⟨z3,z4⟩:=z2;exact (aR z3).symm ▸ z4
      | some c=>exact moved i off c (i - n) d u (by simp [piA,hin]) z2
end
end Go.Gv

namespace Go.Gv
open Go.RowKit
structure xJ (f f' : Nat -> D) (t b sz n m : Nat) (rows rowsY : List (List D)) (src : Option (Pa × Nat)) (c2 : Option Nat) : Prop where
 hn : rows.length=n
 hm : rowsY.length=m
 hbs : aI src ≠ some b
 hb2 : c2 ≠ some b
 h2 : ∀ c,c2=some c -> aI src ≠ some c
 hft : f' t=.ref (.r b) 0 (n + m)
 hfb : f' b=.blk sz (rows++rowsY)
 hfs : ∀ s,s < 10000 -> s ≠ t -> f' s=.any \/ (f' s=f s /\ aw [(b,true)] (f s)=false)
 hfc : ∀ c,10000 <= c -> c ≠ b -> aI src ≠ some c -> c2 ≠ some c -> isB (f' c)=false \/ f' c=f c
 hf2 : ∀ c,c2=some c -> isB (f' c)=false
 hfr : ∀ c k,src=some (.r c,k) -> isB (f' c)=false
 hfn : ∀ c i o k,src=some (.n c i o,k) -> ∃ sz0 es0,f c=.blk sz0 es0 /\ f' c=.blk sz0 (aW es0 i o 1 [.any]) /\ ∃ row0,es0[i]? = some row0 /\ o < row0.length
def rS (f : Nat -> D) (sz n : Nat) (rows : List (List D)) : D -> Option (Pa × Nat) -> Prop
 | .nils,src=>src=none /\ rows=[] /\ n=0
 | .ref p k n',src=>src=some (p,k) /\ n'=n /\ ∃ es,aL f p=some (sz,es) /\ k + n <= es.length /\ rows=(es.drop k).take n
 | _,_=>False
section
variable {F : Fid} {nt : Nat} {S : Nat -> Prop} {L : Nat -> Option Loc} {w0 : World} {M0 : Mem} {f f' : Nat -> D} {M M' : Mem} {a a' : Act} {w w' : World} {ρ : Pa -> Loc} {ω : Nat -> Option Pa} {New : Nat -> Prop}
theorem getElem?_slice {vs : List Value} {o k x : Nat} (h : x < k) : ((vs.drop o).take k)[x]? = vs[o + x]?:=by
 rw [List.getElem?_take_of_lt h,List.getElem?_drop]
theorem d8 {i off sz n : Nat} (hi : i < n) (ho : off < sz) : i * sz + off < n * sz:=by
 have : i * sz + sz <= n * sz:=by rw [<- Nat.succ_mul];exact Nat.mul_le_mul_right _ hi
 omega
set_option maxHeartbeats 1000000 in
theorem SR.app (h : SR F nt S L w0 M0 f M a w) (ho : Own F L (fun k=>S k \/ w0.heap.size <= k) f M a w ρ ω) {t b sz n m e : Nat} {rows rowsY : List (List D)} {src : Option (Pa × Nat)} {c2 : Option Nat} {d0 : D} {v0 : Value} {news : List Value} (ht : t < nt) (hL : L b=none) (hsz : 0 < sz)
  (hF : xJ f f' t b sz n m rows rowsY src c2) (hs : rS f sz n rows d0 src) (hp0 : ∀ p k,src=some (p,k) -> 10000 <= p.root) (r0 : al F M ρ d0 v0) (huY : ∀ r ∈ rowsY,r.length=sz) (hnl : news.length=m * sz)
  (hY : ∀ (i : Nat) (r : List D) (off : Nat) (d : D),rowsY[i]? = some r -> r[off]? = some d -> ∃ u,news[i * sz + off]? = some u /\ ez F M ω ρ w c2 i off d u) :
  ∃ (A : Option Addr) (cap : Nat) (olds : List Value),v0=.slice A n cap /\ ((A=none /\ n=0 /\ cap=0) \/ ∃ b : Addr,A=some b) /\ olds.length=n * sz /\
   (∀ b,A=some b -> ∀ j u,olds[j]? = some u -> w.cell? (b.add j)=some u) /\ n <= cap /\
   (n + m <= cap -> 0 < m -> ∃ (b o : Nat) (vs : List Value) (T : TypeId),A=some ⟨b,o,none⟩ /\ w.heap[b]? = some (.cells vs.toArray T (0,0)) /\ o + cap * sz <= vs.length) /\
   ∀ v' w',((0 < m /\ kB w A n cap m sz e olds news v' w') \/ (m=0 /\ v'=.slice A n cap /\ w'=w)) -> SR F nt S L w0 M0 f' M (a.put (some t) v') w':=by
 have core:=fun {inp : Bool} {l : Loc} {nb : Option Nat} {v : Value} {w' : World}=>h.app_core ho (inp:=inp) (l:=l) (nb:=nb) (v:=v) (w':=w') ht hL hF.hn hF.hm hF.hbs hF.hb2 hF.h2 hF.hft hF.hfb hF.hfs hF.hfc hF.hf2 hF.hfr hF.hfn
 have ninj : ∀ k : Nat,(none : Option Nat)=some k -> k=w.heap.size /\ w.heap.size=w.heap.size + 1:=fun k e=>by cases e
 have fresh : ∀ (olds : List Value),olds.length=n * sz -> (∀ r ∈ rows,r.length=sz) -> (∀ (i : Nat) (r : List D) (off : Nat) (d : D),rows[i]? = some r -> r[off]? = some d -> ∃ u,olds[i * sz + off]? = some u /\ ez F M ω ρ w (v7 src) (v6 src + i) off d u) ->
   ∀ v' w',(∃ (cap' : Nat) (vs' : List Value),v'=.slice (some ⟨w.heap.size,0,none⟩) (n + m) cap' /\ (n + m <= cap' /\ cap' <= 9223372036854775807) /\ Bel w w' /\ w'.heap.size=w.heap.size + 1 /\ w'.heap[w.heap.size]? = some (.cells vs'.toArray e (0,0)) /\ vs'.length=cap' * sz /\
     vs'.take ((n + m) * sz)=olds++news) -> SR F nt S L w0 M0 f' M (a.put (some t) v') w':=by
  rintro olds hol huR hold v' w' ⟨cap',vs',rfl,⟨hcap,hmc⟩,hb,hs',hh,hl',htk⟩
  have hle : (n + m) * sz <= cap' * sz:=Nat.mul_le_mul_right _ hcap
  have hget : ∀ j,j < (n + m) * sz -> vs'[j]? = (olds++news)[j]?:=fun j hj=>by rw [<- htk,List.getElem?_take_of_lt hj]
  refine core (inp:=false) (l:=⟨w.heap.size,0,sz,vs'.length⟩) (nb:=some w.heap.size) (fun k e'=>by cases e';exact ⟨rfl,hs'⟩) hb.size (h.ch.trans (Ch.of_below hb (fun _=>False)) (fun _ _ e=>e.elim)) (fun p v hp=>?_) (fun k q hq _=>hb.block k (ho.lt k q hq)) (.inr ⟨cap',by simp,hcap,by simp [hl'],hmc⟩)
   (.inr ⟨.inl rfl,rfl,vs',e,hh,rfl,by simp only [Nat.zero_add,hl'];exact hle,fun r hr=>?_,fun i r off d hi hr=>?_,fun i r off d hi hr=>?_⟩)
  ·have h1:=h.holds p v hp
   rw [hb.cell (World.block_lt_of_cell? w p h1)]
   exact h1
  ·rcases List.mem_append.1 hr with h3 | h3
   ·exact huR r h3
   ·exact huY r h3
  ·obtain ⟨u,z1,z2⟩:=hold i r off d hi hr
   refine ⟨u,?_,z2⟩
   have hi' : i < n:=by rw [<- hF.hn];exact (List.getElem?_eq_some_iff.1 hi).1
   have hof : off < sz:=by rw [<- huR r (List.mem_of_getElem? hi)];exact (List.getElem?_eq_some_iff.1 hr).1
   have h3:=d8 hi' hof
   simp only [Nat.zero_add]
   rw [hget _ (by rw [Nat.add_mul];omega),List.getElem?_append_left (by omega)]
   exact z1
  ·obtain ⟨u,z1,z2⟩:=hY i r off d hi hr
   refine ⟨u,?_,z2⟩
   have hi' : i < m:=by rw [<- hF.hm];exact (List.getElem?_eq_some_iff.1 hi).1
   have hof : off < sz:=by rw [<- huY r (List.mem_of_getElem? hi)];exact (List.getElem?_eq_some_iff.1 hr).1
   have h3:=d8 hi' hof
   simp only [Nat.zero_add]
   rw [hget _ (by rw [Nat.add_mul,Nat.add_mul];omega),List.getElem?_append_right (by rw [Nat.add_mul];omega),hol]
   rw [show (n + i) * sz + off - n * sz=i * sz + off from by rw [Nat.add_mul];omega]
   exact z1
 have empty : ∀ (A : Option Addr),n=0 -> rows=[] -> v0=.slice A 0 0 -> ((A=none /\ n=0 /\ 0=0) \/ ∃ b : Addr,A=some b) ->
   ∃ (A : Option Addr) (cap : Nat) (olds : List Value),v0=.slice A n cap /\ ((A=none /\ n=0 /\ cap=0) \/ ∃ b : Addr,A=some b) /\ olds.length=n * sz /\
   (∀ b,A=some b -> ∀ j u,olds[j]? = some u -> w.cell? (b.add j)=some u) /\ n <= cap /\
   (n + m <= cap -> 0 < m -> ∃ (b o : Nat) (vs : List Value) (T : TypeId),A=some ⟨b,o,none⟩ /\ w.heap[b]? = some (.cells vs.toArray T (0,0)) /\ o + cap * sz <= vs.length) /\
   ∀ v' w',((0 < m /\ kB w A n cap m sz e olds news v' w') \/ (m=0 /\ v'=.slice A n cap /\ w'=w)) -> SR F nt S L w0 M0 f' M (a.put (some t) v') w':=by
  rintro A hn0 hr0 hv0 hA
  refine ⟨A,0,[],by rw [hv0,hn0],hA,by simp [hn0],by simp,by omega,fun h1 h2=>by omega,fun v' w' hout=>?_⟩
  rcases hout with ⟨hm,hin | hfr⟩ | ⟨hm,rfl,rfl⟩
  ·exact absurd hin.1 (by omega)
  ·exact fresh [] (by simp [hn0]) (by simp [hr0]) (fun i r off d hi=>by rw [hr0] at hi;simp at hi) v' w' hfr
  ·have hY0 : rowsY=[]:=List.eq_nil_of_length_eq_zero (by rw [hF.hm];exact hm)
   refine core (inp:=false) (l:=⟨0,0,sz,0⟩) (nb:=none) ninj (Nat.le_refl _) h.ch h.holds (fun _ _ _ _=>rfl) (.inl ⟨by omega,A,by rw [hn0]⟩) (.inl ⟨by rw [hr0,hY0];rfl,rfl,rfl,hsz⟩)
 cases d0 <;> simp only [rS] at hs
 case nils =>
  obtain ⟨rfl,rfl,rfl⟩:=hs
  simp only [al,ab] at r0
  exact empty none rfl rfl r0 (.inl ⟨rfl,rfl,rfl⟩)
 case ref p k n' =>
  obtain ⟨rfl,rfl,es,hg,hkn,rfl⟩:=hs
  have hpr:=hp0 p k rfl
  obtain ⟨hP,_⟩:=ho.get hpr hg
  simp only [al] at r0
  rcases r0 with ⟨hn0,A,rfl⟩ | ⟨cap,rfl,hcap,hfit,hmc⟩
  ·refine empty A hn0 (by rw [hn0];simp) rfl ?_
   cases A with
   | none=>exact .inl ⟨rfl,hn0,rfl⟩
   | some x=>exact .inr ⟨x,rfl⟩
  ·rcases hP with ⟨he,hlen0,hs0,_⟩ | ⟨hω,h0,vs,T,h1,h2,h3,h4,h5⟩
   ·have hn0 : n'=0:=by rw [he] at hkn;simp at hkn;omega
    have hc0 : cap=0:=by
     rw [hlen0,hs0] at hfit
     have : (k + cap) * sz=0:=by omega
     rcases Nat.mul_eq_zero.1 this with h' | h' <;> omega
    subst hc0
    exact empty (some ⟨(ρ p).blk,(ρ p).base + k * (ρ p).sz,none⟩) hn0 (by rw [hn0];simp) (by rw [hn0]) (.inr ⟨_,rfl⟩)
   ·rw [h0] at hfit ⊢
    have hkc : (k + cap) * sz=k * sz + cap * sz:=Nat.add_mul _ _ _
    have hnc : n' * sz <= cap * sz:=Nat.mul_le_mul_right _ hcap
    have hvl : ((vs.drop ((ρ p).base + k * sz)).take (n' * sz)).length=n' * sz:=by
     simp only [List.length_take,List.length_drop];omega
    have huR : ∀ r ∈ (es.drop k).take n',r.length=sz:=fun r hr=>h4 r (List.mem_of_mem_drop (List.mem_of_mem_take hr))
    have hold : ∀ (i : Nat) (r : List D) (off : Nat) (d : D),((es.drop k).take n')[i]? = some r -> r[off]? = some d -> ∃ u,vs[(ρ p).base + k * sz + (i * sz + off)]? = some u /\ ez F M ω ρ w (v7 (some (p,k))) (v6 (some (p,k)) + i) off d u:=by
     intro i r off d hi hr
     have hin : i < n':=by have:=(List.getElem?_eq_some_iff.1 hi).1;simp at this;omega
     rw [List.getElem?_take_of_lt hin,List.getElem?_drop] at hi
     obtain ⟨u,z1,z2⟩:=h5 (k + i) r off d hi hr
     refine ⟨u,?_,?_⟩
     ·rw [show (ρ p).base + k * sz + (i * sz + off)=(ρ p).base + (k + i) * sz + off from by rw [Nat.add_mul];omega]
      exact z1
     ·cases p with
      | r c=>exact z2
      | n c i0 o0=>exact ⟨by (have z3 : ab F M d u:=z2);cases d <;> first | rfl | (simp [ab] at z3),z2⟩
    have hold' : ∀ (i : Nat) (r : List D) (off : Nat) (d : D),((es.drop k).take n')[i]? = some r -> r[off]? = some d -> ∃ u,((vs.drop ((ρ p).base + k * sz)).take (n' * sz))[i * sz + off]? = some u /\ ez F M ω ρ w (v7 (some (p,k))) (v6 (some (p,k)) + i) off d u:=by
     intro i r off d hi hr
     obtain ⟨u,z1,z2⟩:=hold i r off d hi hr
     refine ⟨u,?_,z2⟩
     have hin : i < n':=by have:=(List.getElem?_eq_some_iff.1 hi).1;simp at this;omega
     have hof : off < sz:=by rw [<- huR r (List.mem_of_getElem? hi)];exact (List.getElem?_eq_some_iff.1 hr).1
     rw [getElem?_slice (d8 hin hof)]
     exact z1
    have addr : ∀ (x y : Nat),(⟨(ρ p).blk,x,none⟩ : Addr).add y=⟨(ρ p).blk,x + y,none⟩:=fun x y=>by unfold Addr.add;split <;> simp_all
    refine ⟨_,cap,(vs.drop ((ρ p).base + k * sz)).take (n' * sz),rfl,.inr ⟨_,rfl⟩,hvl,fun b' e' j u hj=>?_,hcap,fun _ _=>⟨_,_,vs,T,rfl,h1,by omega⟩,fun v' w' hout=>?_⟩
    ·cases e'
     have hjl : j < n' * sz:=by rw [<- hvl];exact (List.getElem?_eq_some_iff.1 hj).1
     rw [getElem?_slice hjl] at hj
     rw [addr]
     simp [World.cell?,h1,hj]
    ·have hMb : ∀ q : Addr,q.block=(ρ p).blk -> M q=none:=fun q hq=>ho.apart q p (by rw [hq];exact hω)
     rcases hout with ⟨hm,⟨hle,b1,o1,vs1,T1,g1,g2,rfl,g3,g4,g5,g6,g7,g8,g9,g10⟩ | hfr⟩ | ⟨hm,rfl,rfl⟩
     ·simp only [Option.some.injEq,Addr.mk.injEq,and_true] at g1
      obtain ⟨rfl,rfl⟩:=g1
      rw [h1] at g2
      simp only [Option.some.injEq,Obj.cells.injEq,and_true] at g2
      obtain ⟨e1,rfl⟩:=g2
      obtain rfl : vs=vs1:=by simpa using congrArg Array.toList e1
      have hget:=fun x=>eL (vs:=vs) (us:=news) (q:=(ρ p).base + k * sz + n' * sz) (n:=m * sz) (x:=x) hnl (by omega)
      have hlm : (n' + m) * sz <= cap * sz:=Nat.mul_le_mul_right _ hle
      have hnm : (n' + m) * sz=n' * sz + m * sz:=Nat.add_mul _ _ _
      refine core (inp:=true) (l:=⟨(ρ p).blk,(ρ p).base + k * sz,sz,(ρ p).len⟩) (nb:=none) (fun k e=>by cases e) (Nat.le_of_eq g6.symm) (kF h.ch (ho.new _ _ hω) g5 g6 g7 g8 g9 (Nat.le_of_eq g10.symm)) (fun q v hq=>?_) (fun x q hx hne=>g5 x (by
       rintro rfl;rw [hω] at hx;cases hx;exact hne rfl rfl)) (.inr ⟨cap,by simp,hle,by simp;omega,hmc⟩)
       (.inr ⟨.inr ⟨rfl,p,k,rfl,hω,rfl⟩,rfl,_,T,g4,by simp only [List.length_append,List.length_take,List.length_drop,hnl];omega,by simp only [];omega,fun r hr=>?_,fun i r off d hi hr=>?_,fun i r off d hi hr=>?_⟩)
      ·have hne : q.block ≠ (ρ p).blk:=fun e=>by rw [hMb q e] at hq;cases hq
       rw [World.cell?_of_block (g5 _ hne)]
       exact h.holds q v hq
      ·rcases List.mem_append.1 hr with h' | h'
       ·exact huR r h'
       ·exact huY r h'
      ·obtain ⟨u,z1,z2⟩:=hold i r off d hi hr
       refine ⟨u,?_,z2⟩
       have hin : i < n':=by have:=(List.getElem?_eq_some_iff.1 hi).1;simp at this;omega
       have hof : off < sz:=by rw [<- huR r (List.mem_of_getElem? hi)];exact (List.getElem?_eq_some_iff.1 hr).1
       have:=d8 hin hof
       dsimp only
       rw [hget,if_neg (by omega),Nat.add_assoc]
       exact z1
      ·obtain ⟨u,z1,z2⟩:=hY i r off d hi hr
       refine ⟨u,?_,z2⟩
       have hin : i < m:=by rw [<- hF.hm];exact (List.getElem?_eq_some_iff.1 hi).1
       have hof : off < sz:=by rw [<- huY r (List.mem_of_getElem? hi)];exact (List.getElem?_eq_some_iff.1 hr).1
       have h3':=d8 hin hof
       have e2 : (n' + i) * sz=n' * sz + i * sz:=Nat.add_mul _ _ _
       dsimp only
       rw [hget,if_pos (by omega),show (ρ p).base + k * sz + (n' + i) * sz + off - ((ρ p).base + k * sz + n' * sz)=i * sz + off from by omega]
       exact z1
     ·exact fresh _ hvl huR hold' v' w' hfr
     ·have hY0 : rowsY=[]:=List.eq_nil_of_length_eq_zero (by rw [hF.hm];exact hm)
      subst hm
      refine core (inp:=true) (l:=⟨(ρ p).blk,(ρ p).base + k * sz,sz,(ρ p).len⟩) (nb:=none) ninj (Nat.le_refl _) h.ch h.holds (fun _ _ _ _=>rfl) (.inr ⟨cap,by simp,hcap,by simp;omega,hmc⟩)
       (.inr ⟨.inr ⟨rfl,p,k,rfl,hω,rfl⟩,rfl,vs,T,h1,h2,by simp only [Nat.add_zero];omega,fun r hr=>?_,fun i r off d hi hr=>?_,fun i r off d hi hr=>by rw [hY0] at hi;simp at hi⟩)
      ·rw [hY0,List.append_nil] at hr
       exact huR r hr
      ·obtain ⟨u,z1,z2⟩:=hold i r off d hi hr
       exact ⟨u,by rw [Nat.add_assoc];exact z1,z2⟩
end
end Go.Gv

namespace Go.Gv
open Go.RowKit
def tyS (P : Program) (t n : Nat) (ag : Bool) : Bool:=match P.info? t with
 | some i=>i.size == n && (match P.underlying t with
  | some (.struct _)=>ag
  | some (.array _ _)=>ag
  | some _=>!ag
  | none=>false) && (ag || n == 1)
 | none=>false
def fG (P : Program) (t n : Nat) : Bool:=match P.info? t with
 | some i=>i.size == n
 | none=>false
section
variable {P : Program} {w : World}
theorem b5 {t n : Nat} (h : fG P t n=true) : (sizeOf t).run P w=.ok n w:=by
 unfold fG at h
 split at h
 ·rename_i i hi
  simp only [beq_iff_eq] at h
  simp [sizeOf,typeInfo,hi,h]
 ·cases h
theorem nz {t n : Nat} {ag : Bool} (h : tyS P t n ag=true) : fG P t n=true:=by
 unfold tyS at h
 unfold fG
 split at h
 ·simp only [Bool.and_eq_true] at h;exact h.1.1
 ·cases h
theorem p9 {t n : Nat} {ag : Bool} (h : tyS P t n ag=true) : (isAgg t).run P w=.ok ag w:=by
 unfold tyS at h
 split at h
 ·simp only [Bool.and_eq_true] at h
  obtain ⟨⟨_,h⟩,_⟩:=h
  split at h
  ·rename_i e;simp [isAgg,run_underlying e,h]
  ·rename_i e;simp [isAgg,run_underlying e,h]
  ·rename_i d e1 e2 e
   simp only [Bool.not_eq_true'] at h
   subst h
   simp only [isAgg,Sem.run_bind,run_underlying e,Result.andThen_ok]
   rfl
  ·cases h
 ·cases h
theorem fT {t n : Nat} (h : tyS P t n false=true) : n=1:=by
 unfold tyS at h
 split at h
 ·simp only [Bool.and_eq_true,Bool.false_or,beq_iff_eq] at h;exact h.2
 ·cases h
theorem lN (a : Addr) : a.add 0=a:=by simp [Addr.add]
theorem cK {t n : Nat} {ag : Bool} (h : tyS P t n ag=true) {a : Addr} {vs : List Value} (hc : ∀ j v,vs[j]? = some v -> w.cell? (a.add j)=some v) (hn : n <= vs.length) :
  (Instr.loadAt t (.pointer (some a))).run P w=.ok (if ag then .agg (vs.take n).toArray else vs.headD undef) w:=by
 simp only [Instr.loadAt,Instr.sureAddr,Sem.run_bind,Sem.run_pure,Result.andThen_ok,loadVar,p9 h]
 cases ag
 ·have h1:=fT h
  subst h1
  match vs,hn with
  | v::r,_ =>
   have h0:=hc 0 v rfl
   rw [lN] at h0
   simp [h0]
 ·simp only [if_true,Sem.run_bind,b5 (nz h),Result.andThen_ok]
  have hl : (vs.take n).length=n:=by simp [hn]
  have h1:=run_loadCells_list (P:=P) w a (vs.take n) (fun j v hj=>hc j v (by rw [List.getElem?_take] at hj;split at hj;exact hj;cases hj))
  rw [hl] at h1
  simp [h1]
theorem i3 {t n off : Nat} {ag : Bool} (h : tyS P t n ag=true) {vs : List Value} (hn : off + n <= vs.length) :
  (part t vs.toArray off).run P w=.ok (if ag then .agg ((vs.drop off).take n).toArray else (vs.drop off).headD undef) w:=by
 simp only [part,Sem.run_bind,p9 h,Result.andThen_ok]
 cases ag
 ·have h1:=fT h
  subst h1
  have hlt : off < vs.length:=by omega
  simp [hlt]
 ·simp only [if_true,Sem.run_bind,b5 (nz h),Result.andThen_ok,Sem.run_pure]
  congr 2
  apply Array.ext'
  simp
end
theorem iT {F : Fid} {M : Mem} {ds : List D} {vs : List Value} (r : ap F M ds vs) (ag : Bool) (n : Nat) : ab F M (ke ag n ds) (if ag then .agg (vs.take n).toArray else vs.headD undef):=by
 unfold ke
 cases ag
 ·cases ds with
  | nil=>simp [ab]
  | cons d ds =>
   simp only [ap] at r
   obtain ⟨v,r',e,h1,_⟩:=r
   subst e
   simpa using h1
 ·simp only [if_true,ab]
  exact ⟨_,rfl,r.take n⟩
theorem ce {P : Program} {o : Oper} {a : Act} {w w' : World} {v : Value} {K : Act -> World -> Prop} {Q : Exit -> Act -> World -> Prop} (h : (execOp a.eval o).run P w=.ok (.value v) w') (hk : K (a.put o.dst v) w') :
  o.wp P a w K Q:=by
 unfold Oper.wp
 rw [h]
 exact hk
theorem vp {F : Fid} {M : Mem} {d : D} {v : Value} (h : ab F M d v) : isV d=true:=by
 cases d <;> simp_all [isV,ab]
def gK : D -> Value -> Bool
 | .int k n,.int k' n'=>k == k' && n == n'
 | .bool b,.bool b'=>b == b'
 | .str s,.string b=>s == b.data.toList
 | .nilp,.pointer none=>true
 | .nils,.slice none 0 0=>true
 | .any,_=>true
 | _,_=>false
def ae (F : Fid) : Opd -> Operand -> Bool
 | .t s,.tmp s'=>s == s' && decide (s < 10000)
 | .c d,.const v=>gK d v
 | .c (.fn g []),.func f=>F g == some f
 | _,_=>false
theorem gd {F : Fid} {M : Mem} {d : D} {v : Value} (h : gK d v=true) : ab F M d v:=by
 unfold gK at h
 split at h
 ·simp only [Bool.and_eq_true,beq_iff_eq] at h;simp [ab,h.1,h.2]
 ·simp only [beq_iff_eq] at h;simp [ab,h]
 ·simp only [beq_iff_eq] at h
  rename_i s b
  obtain ⟨b⟩:=b
  simp [ab,h]
 ·simp [ab]
 ·simp [ab]
 ·simp [ab]
 ·cases h
theorem aV.of_pure {F : Fid} {M : Mem} {ρ : Pa -> Loc} {d : D} {v : Value} (h : ab F M d v) : aV F M ρ d v:=by
 cases d <;> first | exact h | (simp [ab] at h)
theorem al.of_pure {F : Fid} {M : Mem} {ρ : Pa -> Loc} {d : D} {v : Value} (h : ab F M d v) : al F M ρ d v:=by
 cases d <;> first | exact h | (simp [ab] at h)
theorem aV.pure {F : Fid} {M : Mem} {ρ : Pa -> Loc} {d : D} {v : Value} (h : aV F M ρ d v) (hv : isV d=true) : ab F M d v:=by
 cases d <;> first | exact h | (simp [isV] at hv)
theorem al.pure {F : Fid} {M : Mem} {ρ : Pa -> Loc} {d : D} {v : Value} (h : al F M ρ d v) (hv : isV d=true) : ab F M d v:=by
 cases d <;> first | exact h | (simp [isV] at hv)
section
variable {P : Program} {F : Fid} {nt : Nat} {S : Nat -> Prop} {L : Nat -> Option Loc} {w0 : World} {M0 : Mem} {f : Nat -> D} {M : Mem} {a : Act} {w : World} {o : Oper} {d : D} {Q : Exit -> Act -> World -> Prop} {ρ : Pa -> Loc} {ω : Nat -> Option Pa}
abbrev lM (S : Nat -> Prop) (w0 : World) : Nat -> Prop:=fun k=>S k \/ w0.heap.size <= k
theorem sE {a : Act} {t : Nat} {v : Value} (h : a.tmps[t]? = some v) : a.eval (.tmp t)=v:=by
 simp [Act.eval,h]
theorem Own.opd {New : Nat -> Prop} (ho : Own F L New f M a w ρ ω) {x : Opd} {y : Operand} (hx : ae F x y=true) : aV F M ρ (vd f x) (a.eval y):=by
 unfold ae at hx
 split at hx
 ·rename_i s s'
  simp only [Bool.and_eq_true,beq_iff_eq,decide_eq_true_eq] at hx
  obtain ⟨rfl,hs⟩:=hx
  simp only [vd]
  rcases ho.slots s hs with h1 | ⟨v,h1,h2⟩
  ·rw [h1];simp [aV,al,ab]
  ·rw [sE h1];exact h2
 ·exact aV.of_pure (gd hx)
 ·rename_i g f'
  simp only [beq_iff_eq] at hx
  refine aV.of_pure ?_
  simp only [vd,ab,ap]
  exact ⟨f',[],hx,rfl,rfl⟩
 ·cases hx
theorem bH {New : Nat -> Prop} (ho : Own F L New f M a w ρ ω) {p : Pa} {x : Nat × List (List D)} (h : aL f p=some x) : 10000 <= p.root:=by
 cases p with
 | r b =>
  simp only [aL] at h
  split at h
  ·rename_i e;exact ho.big e
  ·cases h
 | n b i off =>
  simp only [aL] at h
  split at h
  ·rename_i e;exact ho.big e
  ·cases h
theorem SR.opd (h : SR F nt S L w0 M0 f M a w) {x : Opd} {y : Operand} (hx : ae F x y=true) (hv : isV (vd f x)=true) : ab F M (vd f x) (a.eval y):=by
 obtain ⟨ρ,ω,ho⟩:=h.own
 exact (ho.opd hx).pure hv
def Am (f : Nat -> D) (dst : Option Nat) (d : D) : Nat -> D:=match dst with
 | none=>f
 | some t=>eff [(t,d)] [] f
def br (nt : Nat) (_ : Nat -> D) (dst : Option Nat) : Prop :=
 match dst with
 | none=>True
 | some t=>t < nt
def bz (F : Fid) (nt : Nat) (S : Nat -> Prop) (L : Nat -> Option Loc) (w0 : World) (M0 : Mem) (f : Nat -> D) (dst : Option Nat) (d : D) : Act -> World -> Prop :=
 fun a' w'=>∃ M',SR F nt S L w0 M0 (Am f dst d) M' a' w'
theorem fh (h : SR F nt S L w0 M0 f M a w) (hp : br nt f o.dst) {v : Value} (r : ∀ ρ ω,Own F L (lM S w0) f M a w ρ ω -> aV F M ρ d v) (hr : (execOp a.eval o).run P w=.ok (.value v) w) :
  o.wp P a w (bz F nt S L w0 M0 f o.dst d) Q:=by
 refine ce hr ⟨M,?_⟩
 generalize o.dst=t at hp ⊢
 cases t with
 | none=>simpa [Act.put,Am] using h
 | some t=>exact h.put hp r
theorem aD (h : SR F nt S L w0 M0 f M a w) (hp : br nt f o.dst) {v : Value} (r : ab F M d v) (hr : (execOp a.eval o).run P w=.ok (.value v) w) :
  o.wp P a w (bz F nt S L w0 M0 f o.dst d) Q:=fh h hp (fun _ _ _=>aV.of_pure r) hr
theorem bj (h : SR F nt S L w0 M0 f M a w) (hp : br nt f o.dst) (hr : ∀ ρ ω,Own F L (lM S w0) f M a w ρ ω -> ∃ v,aV F M ρ d v /\ (execOp a.eval o).run P w=.ok (.value v) w) :
  o.wp P a w (bz F nt S L w0 M0 f o.dst d) Q:=by
 obtain ⟨ρ0,ω0,ho0⟩:=h.own
 obtain ⟨v0,_,hrun0⟩:=hr ρ0 ω0 ho0
 refine fh h hp (fun ρ ω ho=>?_) hrun0
 obtain ⟨v,h1,h2⟩:=hr ρ ω ho
 rw [hrun0] at h2
 cases h2
 exact h1
theorem qe (h : SR F nt S L w0 M0 f M a w) (hp : br nt f o.dst) {x : Opd} {y : Operand} (ho : o.op=.move y \/ o.op=.assign y) (hx : ae F x y=true) (hr : res f (·=d) (.mov x)) :
  o.wp P a w (bz F nt S L w0 M0 f o.dst d) Q:=by
 simp only [res] at hr
 obtain ⟨_,rfl⟩:=hr
 exact fh h hp (fun ρ ω hO=>hO.opd hx) (by rcases ho with ho | ho <;> simp [execOp,ho])
theorem vQ (h : SR F nt S L w0 M0 f M a w) (hp : br nt f o.dst) {x : Opd} {y : Operand} (ho : o.op=.nilCheck y) (hx : ae F x y=true) (hr : res f (·=d) (.nck x)) :
  o.wp P a w (bz F nt S L w0 M0 f o.dst d) Q:=by
 simp only [res] at hr
 split at hr
 ·rename_i ds e
  subst hr
  have h1:=h.opd hx (by simp [e,isV])
  rw [e] at h1
  have h2:=h1
  simp only [ab] at h1
  obtain ⟨p,vs,e1,_⟩:=h1
  exact aD h hp h2 (by simp [execOp,ho,e1])
 ·rename_i p i off e
  subst hr
  refine bj h hp (fun ρ ω hO=>?_)
  have h1:=hO.opd hx
  rw [e] at h1
  refine ⟨_,h1,?_⟩
  rw [ah rfl] at h1
  simp only [al] at h1
  simp [execOp,ho,h1]
 ·rename_i ds e
  subst hr
  refine bj h hp (fun ρ ω hO=>?_)
  have h1:=hO.opd hx
  rw [e] at h1
  refine ⟨_,h1,?_⟩
  obtain ⟨b,vs,h2,_⟩:=h1
  simp [execOp,ho,h2]
 ·exact hr.elim
theorem tU (h : SR F nt S L w0 M0 f M a w) (hp : br nt f o.dst) {c x y : Opd} {c' x' y' : Operand} (ho : o.op=.pick c' x' y') (hc : ae F c c'=true) (hx : ae F x x'=true) (hy : ae F y y'=true)
  (hr : res f (·=d) (.pick c x y)) : o.wp P a w (bz F nt S L w0 M0 f o.dst d) Q:=by
 simp only [res] at hr
 split at hr
 ·rename_i v e
  have h1:=h.opd hc (by simp [e,isV])
  rw [e] at h1
  simp only [ab] at h1
  cases v
  ·obtain ⟨_,rfl⟩:=hr.2 rfl
   exact fh h hp (fun ρ ω hO=>hO.opd hy) (by simp [execOp,ho,h1,asBool])
  ·obtain ⟨_,rfl⟩:=hr.1 rfl
   exact fh h hp (fun ρ ω hO=>hO.opd hx) (by simp [execOp,ho,h1,asBool])
 ·exact hr.elim
theorem hG (x y : List UInt8) : (⟨x.toArray⟩ : ByteArray)++⟨y.toArray⟩=⟨(x++y).toArray⟩:=by
 apply ByteArray.ext
 simp
theorem vE (h : SR F nt S L w0 M0 f M a w) (hp : br nt f o.dst) {op : BinOp} {x y : Opd} {x' y' : Operand} {t t' : TypeId} (ho : o.op=.binOp op t x' y' t') (hx : ae F x x'=true) (hy : ae F y y'=true)
  (hr : res f (·=d) (.bin op x y)) : o.wp P a w (bz F nt S L w0 M0 f o.dst d) Q:=by
 simp only [res] at hr
 split at hr
 ·rename_i k n k' m ex ey
  have h1:=h.opd hx (by simp [ex,isV])
  have h2:=h.opd hy (by simp [ey,isV])
  rw [ex] at h1
  rw [ey] at h2
  simp only [ab] at h1 h2
  have hg : eqGuard op t x' y' (.int k n) (.int k' m)=pure ():=by cases op <;> rfl
  have fin : ∀ v,ab F M d v -> (binOp op t (.int k n) (.int k' m)).run P w=.ok v w -> o.wp P a w (bz F nt S L w0 M0 f o.dst d) Q:=fun v hv hrun =>
   aD h hp hv (by simp only [execOp,ho,h1,h2,hg,Sem.run_bind,Sem.run_pure,Result.andThen_ok,hrun])
  cases op <;> simp only [] at hr
  case add=>obtain ⟨rfl,rfl⟩:=hr;exact fin _ rfl (by simp [binOp,Op.intArith])
  case sub=>obtain ⟨rfl,rfl⟩:=hr;exact fin _ rfl (by simp [binOp,Op.intArith])
  case mul=>obtain ⟨rfl,rfl⟩:=hr;exact fin _ rfl (by simp [binOp,Op.intArith])
  case quo=>obtain ⟨rfl,hb,rfl⟩:=hr;exact fin _ rfl (by simp [binOp,Op.intDiv,hb])
  case rem=>obtain ⟨rfl,hb,rfl⟩:=hr;exact fin _ rfl (by simp [binOp,Op.intDiv,hb])
  case and=>obtain ⟨rfl,rfl⟩:=hr;exact fin _ rfl (by simp [binOp,intBits_and])
  case or=>obtain ⟨rfl,rfl⟩:=hr;exact fin _ rfl (by simp [binOp,intBits_or])
  case xor=>obtain ⟨rfl,rfl⟩:=hr;exact fin _ rfl (by simp [binOp,intBits_xor])
  case andNot=>obtain ⟨rfl,rfl⟩:=hr;exact fin _ rfl (by simp [binOp,intBits_andNot])
  case shl=>obtain ⟨hb,rfl⟩:=hr;exact fin _ rfl (by simp [binOp,Op.shift,Int.not_lt.2 hb])
  case shr=>obtain ⟨hb,rfl⟩:=hr;exact fin _ rfl (by simp [binOp,Op.shift,Int.not_lt.2 hb])
  case eql=>obtain ⟨rfl,rfl⟩:=hr;exact fin _ rfl (by simp [binOp,Op.intCmp];rfl)
  case neq=>obtain ⟨rfl,rfl⟩:=hr;exact fin _ rfl (by simp [binOp,Op.intCmp];rfl)
  case lss=>obtain ⟨rfl,rfl⟩:=hr;exact fin _ rfl (by simp [binOp,Op.intCmp])
  case leq=>obtain ⟨rfl,rfl⟩:=hr;exact fin _ rfl (by simp [binOp,Op.intCmp])
  case gtr=>obtain ⟨rfl,rfl⟩:=hr;exact fin _ rfl (by simp [binOp,Op.intCmp])
  case geq=>obtain ⟨rfl,rfl⟩:=hr;exact fin _ rfl (by simp [binOp,Op.intCmp])
 ·rename_i n m ex ey
  have h1:=h.opd hx (by simp [ex,isV])
  have h2:=h.opd hy (by simp [ey,isV])
  rw [ex] at h1
  rw [ey] at h2
  simp only [ab] at h1 h2
  have hg : eqGuard op t x' y' (.string ⟨n.toArray⟩) (.string ⟨m.toArray⟩)=pure ():=by cases op <;> rfl
  have fin : ∀ v,ab F M d v -> (binOp op t (.string ⟨n.toArray⟩) (.string ⟨m.toArray⟩)).run P w=.ok v w -> o.wp P a w (bz F nt S L w0 M0 f o.dst d) Q:=fun v hv hrun =>
   aD h hp hv (by simp only [execOp,ho,h1,h2,hg,Sem.run_bind,Sem.run_pure,Result.andThen_ok,hrun])
  cases op <;> simp only [] at hr
  case add =>
   obtain ⟨hl,rfl⟩:=hr
   have hs : ¬ (((n.length + m.length : Nat) : Int) > 9223372036854775807):=by rw [List.length_append] at hl;omega
   refine fin _ rfl ?_
   simp only [binOp,Op.stringOp,IntKind.max_i64]
   rw [if_neg (by simpa [ByteArray.size] using hs)]
   rw [hG]
   rfl
  case eql=>subst hr;exact fin _ rfl (by simp [binOp,Op.stringOp];rw [Bool.eq_iff_iff];simp)
  case neq=>subst hr;exact fin _ rfl (by simp [binOp,Op.stringOp];rw [Bool.eq_iff_iff];simp)
  case lss=>subst hr;exact fin _ rfl (by simp [binOp,Op.stringOp])
  case leq=>subst hr;exact fin _ rfl (by simp [binOp,Op.stringOp])
  case gtr=>subst hr;exact fin _ rfl (by simp [binOp,Op.stringOp])
  case geq=>subst hr;exact fin _ rfl (by simp [binOp,Op.stringOp])
 ·exact hr.elim
theorem Ac (h : SR F nt S L w0 M0 f M a w) (hp : br nt f o.dst) {op : UnOp} {x : Opd} {x' : Operand} {t : TypeId} (ho : o.op=.unOp op t x') (hx : ae F x x'=true)
  (hr : res f (·=d) (.un op x)) : o.wp P a w (bz F nt S L w0 M0 f o.dst d) Q:=by
 simp only [res] at hr
 split at hr
 ·rename_i b ex
  have h1:=h.opd hx (by simp [ex,isV])
  rw [ex] at h1
  simp only [ab] at h1
  cases op <;> simp only [] at hr
  subst hr
  exact aD h hp (v:=.bool (!b)) rfl (by simp [execOp,ho,h1,Op.unary])
 ·rename_i k n ex
  have h1:=h.opd hx (by simp [ex,isV])
  rw [ex] at h1
  simp only [ab] at h1
  cases op <;> simp only [] at hr
  subst hr
  exact aD h hp (v:=.int k (k.wrap (0 - n))) rfl (by simp [execOp,ho,h1,Op.unary,Op.intArith])
 ·exact hr.elim
def oO (P : Program) (k : IntKind) (src dst : TypeId) : Bool:=(P.underlying src).isSome && match P.underlying dst with
 | some (.int k')=>k == k'
 | _=>false
theorem tO (h : SR F nt S L w0 M0 f M a w) (hp : br nt f o.dst) {k : IntKind} {x : Opd} {x' : Operand} {src dst : TypeId} (ho : o.op=.convert src dst x') (hx : ae F x x'=true) (hk : oO P k src dst=true)
  (hr : res f (·=d) (.conv k x)) : o.wp P a w (bz F nt S L w0 M0 f o.dst d) Q:=by
 simp only [res] at hr
 split at hr
 ·rename_i k0 n ex
  have h1:=h.opd hx (by simp [ex,isV])
  rw [ex] at h1
  simp only [ab] at h1
  subst hr
  unfold oO at hk
  simp only [Bool.and_eq_true] at hk
  obtain ⟨hs,hk⟩:=hk
  split at hk
  ·rename_i k' e
   simp only [beq_iff_eq] at hk
   subst hk
   obtain ⟨ds,hs⟩:=Option.isSome_iff_exists.1 hs
   exact aD h hp (v:=.int k (k.wrap n)) rfl (by simp [execOp,ho,h1,convert,run_underlying hs,run_underlying e,Conv.intToInt])
  ·cases hk
 ·exact hr.elim
end
end Go.Gv

namespace Go.Gv
open Go.RowKit
section
variable {P : Program} {F : Fid} {nt : Nat} {S : Nat -> Prop} {L : Nat -> Option Loc} {w0 : World} {M0 : Mem} {f : Nat -> D} {M : Mem} {a : Act} {w : World} {o : Oper} {d : D} {Q : Exit -> Act -> World -> Prop} {ρ : Pa -> Loc} {ω : Nat -> Option Pa}
theorem b6.drop {ds : List D} {vs : List Value} (h : b6 F M ρ ds vs) (n : Nat) : b6 F M ρ (ds.drop n) (vs.drop n) :=
 ⟨by simp [h.1],fun i d v h1 h2=>h.2 (n + i) d v (by simpa using h1) (by simpa using h2)⟩
theorem b6.take {ds : List D} {vs : List Value} (h : b6 F M ρ ds vs) (n : Nat) : b6 F M ρ (ds.take n) (vs.take n) :=
 ⟨by simp [h.1],fun i d v h1 h2=>by
  rw [List.getElem?_take] at h1 h2
  split at h1
  ·rename_i hi
   rw [if_pos hi] at h2
   exact h.2 i d v h1 h2
  ·cases h1⟩
theorem b6.head {ds : List D} {vs : List Value} (h : b6 F M ρ ds vs) (hl : 0 < ds.length) : al F M ρ (ds.headD .any) (vs.headD undef):=by
 cases ds with
 | nil=>simp at hl
 | cons d ds =>
  cases vs with
  | nil=>have:=h.1;simp at this
  | cons v vs=>exact h.2 0 d v rfl rfl
theorem b6.get {ds : List D} {vs : List Value} (h : b6 F M ρ ds vs) {i : Nat} {d : D} (hi : ds[i]? = some d) : ∃ v,vs[i]? = some v /\ al F M ρ d v:=by
 have hlt:=(List.getElem?_eq_some_iff.1 hi).1
 have h2 : vs[i]? = some (vs[i]'(by rw [<- h.1];exact hlt)):=List.getElem?_eq_getElem _
 exact ⟨_,h2,h.2 i d _ hi h2⟩
theorem aV.of_R {v : Value} (h : al F M ρ d v) (hx : isX d=false) : aV F M ρ d v:=by rw [ah hx];exact h
theorem Hb {v : Value} (h : al F M ρ d v) : isX d=false:=by
 cases d <;> first | rfl | (simp [al,ab] at h)
theorem aV.ofR {v : Value} (h : al F M ρ d v) : aV F M ρ d v:=h |> fun h=>aV.of_R h (Hb h)
theorem ap.of_forall' : ∀ {ds : List D} {vs : List Value},ds.length=vs.length -> (∀ (i : Nat) (d : D) (v : Value),ds[i]? = some d -> vs[i]? = some v -> ab F M d v) -> ap F M ds vs
 | [],[],_,_=>by simp [ap]
 | d::ds,v::vs,hl,h=>by
  simp only [ap]
  exact ⟨v,vs,rfl,h 0 d v rfl rfl,ap.of_forall' (by simpa using hl) (fun i d' v' h1 h2=>h (i + 1) d' v' (by simpa using h1) (by simpa using h2))⟩
def pR (P : Program) (t i off n : Nat) (ag : Bool) : Bool:=match P.underlying t with
 | some (.struct fs)=>match fs[i]? with
  | some fl=>fl.offset == off && tyS P fl.type n ag
  | none=>false
 | _=>false
theorem vL (h : SR F nt S L w0 M0 f M a w) (hp : br nt f o.dst) {off n i : Nat} {ag : Bool} {x : Opd} {x' : Operand} {t : TypeId} (ho : o.op=.field t x' i) (hx : ae F x x'=true) (hk : pR P t i off n ag=true)
  (hr : res f (·=d) (.fld off n ag x)) : o.wp P a w (bz F nt S L w0 M0 f o.dst d) Q:=by
 simp only [res] at hr
 have run : ∀ vs : List Value,a.eval x'=.agg vs.toArray -> off + n <= vs.length -> (execOp a.eval o).run P w=.ok (.value (if ag then .agg ((vs.drop off).take n).toArray else (vs.drop off).headD undef)) w:=by
  intro vs e1 hn
  unfold pR at hk
  split at hk
  ·rename_i fs e
   split at hk
   ·rename_i fl hfl
    simp only [Bool.and_eq_true,beq_iff_eq] at hk
    obtain ⟨rfl,ht⟩:=hk
    simp only [execOp,ho,e1,Instr.field,Sem.run_bind,run_underlying e,Result.andThen_ok,hfl,asAgg,Sem.run_pure,i3 ht hn]
   ·cases hk
  ·cases hk
 split at hr
 ·rename_i ds ex
  have h1:=h.opd hx (by simp [ex,isV])
  rw [ex] at h1
  simp only [ab] at h1
  obtain ⟨vs,e1,r⟩:=h1
  obtain ⟨hn,rfl⟩:=hr
  exact aD h hp (iT (r.drop off) ag n) (run vs e1 (by rw [r.length];exact hn))
 ·rename_i ds ex
  obtain ⟨hn,hr⟩:=hr
  refine bj h hp (fun ρ ω hO=>?_)
  have h1:=hO.opd hx
  rw [ex] at h1
  obtain ⟨vs,e1,r⟩:=h1
  refine ⟨_,?_,run vs e1 (by rw [<- r.1];exact hn)⟩
  cases ag with
  | true =>
   simp only at hr
   subst hr
   exact ⟨_,rfl,(r.drop off).take n⟩
  | false =>
   simp only at hr
   subst hr
   have hn1 : n=1:=by
    unfold pR at hk
    split at hk
    ·split at hk
     ·simp only [Bool.and_eq_true,beq_iff_eq] at hk
      exact fT hk.2
     ·cases hk
    ·cases hk
   exact aV.ofR ((r.drop off).head (by simp;omega))
 ·exact hr.elim
def mT (P : Program) (t len sz : Nat) (ag : Bool) : Bool:=match P.underlying t with
 | some (.array l e)=>l == len && tyS P e sz ag
 | _=>false
theorem tR (h : SR F nt S L w0 M0 f M a w) (hp : br nt f o.dst) {len sz : Nat} {ag : Bool} {x i : Opd} {x' i' : Operand} {t : TypeId} (ho : o.op=.index t x' i') (hx : ae F x x'=true) (hi : ae F i i'=true)
  (hk : mT P t len sz ag=true) (hr : res f (·=d) (.idxA len sz ag x i)) : o.wp P a w (bz F nt S L w0 M0 f o.dst d) Q:=by
 simp only [res] at hr
 split at hr
 ·rename_i ds k j ex ei
  have h1:=h.opd hx (by simp [ex,isV])
  rw [ex] at h1
  have h2:=h.opd hi (by simp [ei,isV])
  rw [ei] at h2
  simp only [ab] at h1 h2
  obtain ⟨vs,e1,r⟩:=h1
  obtain ⟨hj,hl,hn,rfl⟩:=hr
  unfold mT at hk
  split at hk
  ·rename_i l e hu
   simp only [Bool.and_eq_true,beq_iff_eq] at hk
   obtain ⟨rfl,ht⟩:=hk
   refine aD h hp (iT (r.drop (j.toNat * sz)) ag sz) ?_
   simp only [execOp,ho,e1,h2,Instr.index,asIntOf,Sem.run_bind,run_underlying hu,Result.andThen_ok,Sem.run_pure,hj,hl,and_self,if_true,b5 (nz ht),
    i3 ht (show j.toNat * sz + sz <= vs.length by rw [r.length];exact hn)]
  ·cases hk
 ·rename_i ds k j ex ei
  have h2:=h.opd hi (by simp [ei,isV])
  rw [ei] at h2
  simp only [ab] at h2
  obtain ⟨hj,hl,hn,hr⟩:=hr
  refine bj h hp (fun ρ ω hO=>?_)
  have h1:=hO.opd hx
  rw [ex] at h1
  obtain ⟨vs,e1,r⟩:=h1
  unfold mT at hk
  split at hk
  ·rename_i l e hu
   simp only [Bool.and_eq_true,beq_iff_eq] at hk
   obtain ⟨rfl,ht⟩:=hk
   have run : (execOp a.eval o).run P w=.ok (.value (if ag then .agg ((vs.drop (j.toNat * sz)).take sz).toArray else (vs.drop (j.toNat * sz)).headD undef)) w:=by
    simp only [execOp,ho,e1,h2,Instr.index,asIntOf,Sem.run_bind,run_underlying hu,Result.andThen_ok,Sem.run_pure,hj,hl,and_self,if_true,b5 (nz ht),
     i3 ht (show j.toNat * sz + sz <= vs.length by rw [<- r.1];exact hn)]
   refine ⟨_,?_,run⟩
   cases ag with
   | true =>
    simp only at hr
    subst hr
    exact ⟨_,rfl,(r.drop _).take sz⟩
   | false =>
    simp only at hr
    subst hr
    have hn1:=fT ht
    exact aV.ofR ((r.drop (j.toNat * sz)).head (by simp;omega))
  ·cases hk
 ·exact hr.elim
def i7 (P : Program) (t : Nat) : Bool:=match P.underlying t with
 | some .string=>true
 | _=>false
theorem kz {P : Program} {t : Nat} (h : i7 P t=true) : P.underlying t=some .string:=by
 unfold i7 at h
 split at h
 ·assumption
 ·cases h
theorem tS (h : SR F nt S L w0 M0 f M a w) (hp : br nt f o.dst) {x i : Opd} {x' i' : Operand} {t : TypeId} (ho : o.op=.index t x' i') (hx : ae F x x'=true) (hi : ae F i i'=true)
  (hk : i7 P t=true) (hr : res f (·=d) (.idxS x i)) : o.wp P a w (bz F nt S L w0 M0 f o.dst d) Q:=by
 simp only [res] at hr
 split at hr
 ·rename_i s k j ex ei
  have h1:=h.opd hx (by simp [ex,isV])
  rw [ex] at h1
  have h2:=h.opd hi (by simp [ei,isV])
  rw [ei] at h2
  simp only [ab] at h1 h2
  obtain ⟨hj,b,hb,rfl⟩:=hr
  refine aD h hp (v:=.int .u8 b.toNat) rfl ?_
  have hb' : (⟨s.toArray⟩ : ByteArray)[j.toNat]? = some b:=by
   obtain ⟨hlt,hb2⟩:=List.getElem?_eq_some_iff.1 hb
   have hs : j.toNat < (⟨s.toArray⟩ : ByteArray).size:=by simpa [ByteArray.size] using hlt
   rw [_root_.getElem?_pos _ j.toNat hs]
   simpa [ByteArray.getElem_eq_getElem_data] using hb2
  simp only [execOp,ho,h1,h2,Instr.index,asIntOf,Sem.run_bind,run_underlying (kz hk),Result.andThen_ok,Sem.run_pure,hj,if_true,hb']
 ·exact hr.elim
theorem vJ (h : SR F nt S L w0 M0 f M a w) (hp : br nt f o.dst) {i : Nat} {x : Opd} {x' : Operand} (ho : o.op=.extract x' i) (hx : ae F x x'=true)
  (hr : res f (·=d) (.ext i x)) : o.wp P a w (bz F nt S L w0 M0 f o.dst d) Q:=by
 simp only [res] at hr
 split at hr
 ·rename_i ds ex
  have h1:=h.opd hx (by simp [ex,isV])
  rw [ex] at h1
  simp only [ab] at h1
  obtain ⟨vs,e1,r⟩:=h1
  obtain ⟨d',hd,rfl⟩:=hr
  obtain ⟨v,hv,rv⟩:=r.get hd
  exact aD h hp rv (by simp [execOp,ho,e1,Instr.extract,hv])
 ·rename_i ds ex
  obtain ⟨d',hd,rfl⟩:=hr
  refine bj h hp (fun ρ ω hO=>?_)
  have h1:=hO.opd hx
  rw [ex] at h1
  obtain ⟨vs,e1,r⟩:=h1
  obtain ⟨v,hv,rv⟩:=r.get hd
  exact ⟨v,aV.ofR rv,by simp [execOp,ho,e1,Instr.extract,hv]⟩
 ·exact hr.elim
def pO (P : Program) (t i off : Nat) : Bool:=match P.underlying t with
 | some (.struct fs)=>match fs[i]? with
  | some fl=>fl.offset == off && (match P.info? fl.type with
   | some j=>!(j.size == 0)
   | none=>false)
  | none=>false
 | _=>false
theorem gG {t i off : Nat} (hk : pO P t i off=true) (p : Addr) (w : World) : (Instr.fieldAt t (.pointer (some p)) i).run P w=.ok (.pointer (some (p.add off))) w:=by
 unfold pO at hk
 split at hk
 ·rename_i fs e
  split at hk
  ·rename_i fl hfl
   simp only [Bool.and_eq_true,beq_iff_eq] at hk
   obtain ⟨rfl,ht⟩:=hk
   split at ht
   ·rename_i j hj
    simp only [Bool.not_eq_true',beq_eq_false_iff_ne] at ht
    have hz : (sizeOf fl.type).run P w=.ok j.size w:=b5 (by simp [fG,hj])
    simp only [Instr.fieldAt,Sem.run_bind,run_underlying e,Result.andThen_ok,hfl,Instr.sureAddr,Sem.run_pure,fieldPlace,hz,if_neg ht]
   ·cases ht
  ·cases hk
 ·cases hk
theorem cg (b off o : Nat) : (⟨b,o,none⟩ : Addr).add off=⟨b,o + off,none⟩:=by
 unfold Addr.add
 split <;> simp_all
theorem vK (h : SR F nt S L w0 M0 f M a w) (hp : br nt f o.dst) {off i : Nat} {x : Opd} {x' : Operand} {t : TypeId} (ho : o.op=.fieldAddr t x' i) (hx : ae F x x'=true) (hk : pO P t i off=true)
  (hr : res f (·=d) (.fad off x)) : o.wp P a w (bz F nt S L w0 M0 f o.dst d) Q:=by
 simp only [res] at hr
 split at hr
 ·rename_i p i' o' e
  subst hr
  refine bj h hp (fun ρ ω hO=>?_)
  have h1:=hO.opd hx
  rw [e,ah rfl] at h1
  simp only [al] at h1
  refine ⟨.pointer (some ⟨(ρ p).blk,(ρ p).base + i' * (ρ p).sz + o' + off,none⟩),aV.ofR ?_,by simp only [execOp,ho,h1,Sem.run_bind,gG hk,Result.andThen_ok,Sem.run_pure,cg]⟩
  simp only [al,Nat.add_assoc]
 ·rename_i ds e
  subst hr
  have h1:=h.opd hx (by simp [e,isV])
  rw [e] at h1
  simp only [ab] at h1
  obtain ⟨p,vs,e1,r,c⟩:=h1
  refine aD h hp (v:=.pointer (some (p.add off))) ?_ (by simp only [execOp,ho,e1,Sem.run_bind,gG hk,Result.andThen_ok,Sem.run_pure])
  simp only [ab]
  exact ⟨_,_,rfl,r.drop off,c.drop off⟩
 ·rename_i ds e
  subst hr
  refine bj h hp (fun ρ ω hO=>?_)
  have h1:=hO.opd hx
  rw [e] at h1
  obtain ⟨p,vs,e1,r,c⟩:=h1
  refine ⟨.pointer (some (p.add off)),⟨_,_,rfl,⟨by simp [r.1],fun i d v k1 k2=>?_⟩,c.drop off⟩,by simp only [execOp,ho,e1,Sem.run_bind,gG hk,Result.andThen_ok,Sem.run_pure]⟩
  rw [List.getElem?_drop] at k1 k2
  exact r.2 _ d v k1 k2
 ·exact hr.elim
def pd (P : Program) (t sz : Nat) : Bool:=match P.underlying t with
 | some (.slice e)=>fG P e sz
 | _=>false
theorem tQ (h : SR F nt S L w0 M0 f M a w) (hp : br nt f o.dst) {sz : Nat} {x i : Opd} {x' i' : Operand} {t : TypeId} (ho : o.op=.indexAddr t x' i') (hx : ae F x x'=true) (hi : ae F i i'=true)
  (hk : pd P t sz=true) (hr : res f (·=d) (.iadS sz x i)) : o.wp P a w (bz F nt S L w0 M0 f o.dst d) Q:=by
 simp only [res] at hr
 have run : ∀ (A : Addr) (n cap : Nat) (k : IntKind) (j : Int),a.eval x'=.slice (some A) n cap -> a.eval i'=.int k j -> 0 <= j -> j.toNat < n -> (execOp a.eval o).run P w=.ok (.value (.pointer (some (A.add (j.toNat * sz))))) w:=by
  intro A n cap k j e1 e2 hj hlt
  unfold pd at hk
  split at hk
  ·rename_i el hu
   have hj2 : j < (n : Int):=by omega
   simp only [execOp,ho,e1,e2,Instr.indexAt,asIntOf,Sem.run_bind,run_underlying hu,Result.andThen_ok,Sem.run_pure,hj,hj2,and_self,if_true,b5 hk]
  ·cases hk
 split at hr
 ·rename_i es k j ex ei
  have h1:=h.opd hx (by simp [ex,isV])
  rw [ex] at h1
  have h2:=h.opd hi (by simp [ei,isV])
  rw [ei] at h2
  simp only [ab] at h1 h2
  obtain ⟨hj,e,he,hl,rfl⟩:=hr
  obtain ⟨A,cap,vs,sz',e1,hc,r,hs,ha⟩:=h1
  have hlt : j.toNat < es.length:=(List.getElem?_eq_some_iff.1 he).1
  obtain ⟨p,rfl,c⟩:=ha (by omega)
  obtain rfl : sz'=sz:=by rw [<- hl];exact (hs e (List.mem_of_getElem? he)).symm
  refine aD h hp (v:=.pointer (some (p.add (j.toNat * sz')))) ?_ (run p _ _ _ j e1 h2 hj hlt)
  simp only [ab]
  exact ⟨_,_,rfl,r.at_ hs he,(c.drop (j.toNat * sz')).take sz'⟩
 ·rename_i k0 es k j ex ei
  have h1:=h.opd hx (by simp [ex,isV])
  rw [ex] at h1
  have h2:=h.opd hi (by simp [ei,isV])
  rw [ei] at h2
  simp only [ab] at h1 h2
  obtain ⟨hj,e,he,hl,rfl⟩:=hr
  obtain ⟨_,A,cap,vs,sz',e1,hc,r,hs,ha⟩:=h1
  have hlt : j.toNat < es.length:=(List.getElem?_eq_some_iff.1 he).1
  obtain ⟨p,rfl,c⟩:=ha (by omega)
  obtain rfl : sz'=sz:=by rw [<- hl];exact (hs e (List.mem_of_getElem? he)).symm
  refine aD h hp (v:=.pointer (some (p.add (j.toNat * sz')))) ?_ (run p _ _ _ j e1 h2 hj hlt)
  simp only [ab]
  exact ⟨_,_,rfl,r.at_ hs he,(c.drop (j.toNat * sz')).take sz'⟩
 ·rename_i n sz' ds kk j ex ei
  obtain ⟨hj,hlt,rfl,rfl⟩:=hr
  have h2:=h.opd hi (by simp [ei,isV])
  rw [ei] at h2
  simp only [ab] at h2
  refine bj h hp (fun ρ ω hO=>?_)
  have h1:=hO.opd hx
  rw [ex] at h1
  obtain ⟨p,cap,vs,e1,r,c⟩:=h1
  refine ⟨.pointer (some (p.add (j.toNat * sz'))),⟨_,_,rfl,⟨by simp [r.1],fun i d v k1 k2=>?_⟩,c.drop _⟩,run p _ _ _ j e1 h2 hj hlt⟩
  rw [List.getElem?_drop] at k1 k2
  exact r.2 _ d v k1 k2
 ·rename_i p k n kk j ex ei
  obtain ⟨hj,hlt,hr⟩:=hr
  have h2:=h.opd hi (by simp [ei,isV])
  rw [ei] at h2
  simp only [ab] at h2
  split at hr
  ·rename_i sz' es hg
   obtain ⟨rfl,rfl⟩:=hr
   refine bj h hp (fun ρ ω hO=>?_)
   have h1:=hO.opd hx
   rw [ex,ah rfl] at h1
   simp only [al] at h1
   obtain ⟨hP,_⟩:=hO.get (bH hO hg) hg
   rcases h1 with ⟨h1,_⟩ | ⟨cap,h1,hcap,hfit⟩
   ·omega
   ·have hsz : (ρ p).sz=sz':=by
     rcases hP with ⟨_,_,h3,_⟩ | ⟨_,h3,_⟩ <;> exact h3
    refine ⟨_,aV.ofR ?_,run _ _ _ _ j h1 h2 hj hlt⟩
    simp only [al,cg,hsz,Nat.add_mul,Nat.add_zero,Nat.add_assoc]
  ·exact hr.elim
 ·exact hr.elim
def fc (P : Program) (t len sz : Nat) : Bool:=match P.underlying t with
 | some (.array l e)=>l == len && fG P e sz
 | _=>false
theorem fW {t len sz : Nat} (hk : fc P t len sz=true) (p : Addr) (k : IntKind) {j : Int} (h0 : 0 <= j) (h1 : j < len) (w : World) :
  (Instr.indexAt t (.pointer (some p)) (.int k j)).run P w=.ok (.pointer (some (p.add (j.toNat * sz)))) w:=by
 unfold fc at hk
 split at hk
 ·rename_i l e hu
  simp only [Bool.and_eq_true,beq_iff_eq] at hk
  obtain ⟨rfl,hz⟩:=hk
  simp only [Instr.indexAt,asIntOf,Sem.run_bind,run_underlying hu,Result.andThen_ok,Sem.run_pure,Instr.sureAddr,h0,h1,and_self,if_true,b5 hz]
 ·cases hk
theorem tP (h : SR F nt S L w0 M0 f M a w) (hp : br nt f o.dst) {len sz : Nat} {x i : Opd} {x' i' : Operand} {t : TypeId} (ho : o.op=.indexAddr t x' i') (hx : ae F x x'=true) (hi : ae F i i'=true)
  (hk : fc P t len sz=true) (hr : res f (·=d) (.iadA len sz x i)) : o.wp P a w (bz F nt S L w0 M0 f o.dst d) Q:=by
 simp only [res] at hr
 split at hr
 ·rename_i p r o' k j ex ei
  have hj:=h.opd hi (by simp [ei,isV])
  rw [ei] at hj
  simp only [ab] at hj
  obtain ⟨h0,h1,rfl⟩:=hr
  refine bj h hp (fun ρ ω hO=>?_)
  have g1:=hO.opd hx
  rw [ex,ah rfl] at g1
  simp only [al] at g1
  refine ⟨.pointer (some ⟨(ρ p).blk,(ρ p).base + r * (ρ p).sz + o' + j.toNat * sz,none⟩),aV.ofR ?_,by simp only [execOp,ho,g1,hj,Sem.run_bind,fW hk _ _ h0 h1,Result.andThen_ok,Sem.run_pure,cg]⟩
  simp only [al,Nat.add_assoc]
 ·rename_i ds k j ex ei
  have hj:=h.opd hi (by simp [ei,isV])
  rw [ei] at hj
  simp only [ab] at hj
  obtain ⟨h0,h1,rfl⟩:=hr
  have g1:=h.opd hx (by simp [ex,isV])
  rw [ex] at g1
  simp only [ab] at g1
  obtain ⟨p,vs,e1,r,c⟩:=g1
  refine aD h hp (v:=.pointer (some (p.add (j.toNat * sz)))) ?_ (by simp only [execOp,ho,e1,hj,Sem.run_bind,fW hk _ _ h0 h1,Result.andThen_ok,Sem.run_pure])
  simp only [ab]
  exact ⟨_,_,rfl,r.drop _,c.drop _⟩
 ·exact hr.elim
theorem Own.row {New : Nat -> Prop} (ho : Own F L New f M a w ρ ω) {p : Pa} (hp : 10000 <= p.root) {sz : Nat} {es : List (List D)} (hg : aL f p=some (sz,es)) {i : Nat} {r : List D} (hi : es[i]? = some r) :
  ∃ (vs : List Value) (T : TypeId),ω (ρ p).blk=some p /\ (ρ p).sz=sz /\ r.length=sz /\ w.heap[(ρ p).blk]? = some (.cells vs.toArray T (0,0)) /\ vs.length=(ρ p).len /\ (ρ p).base + i * sz + sz <= vs.length /\
   ∀ (off : Nat) (d : D),r[off]? = some d -> ∃ v,vs[(ρ p).base + i * sz + off]? = some v /\ kC F M ω ρ w p i off d v:=by
 obtain ⟨hP,_⟩:=ho.get hp hg
 rcases hP with ⟨e,_⟩ | ⟨hω,h0,vs,T,h1,h2,h3,h4,h5⟩
 ·rw [e] at hi;simp at hi
 ·have hlt : i < es.length:=(List.getElem?_eq_some_iff.1 hi).1
  have hle : i * sz + sz <= es.length * sz:=by rw [<- Nat.succ_mul];exact Nat.mul_le_mul_right _ hlt
  exact ⟨vs,T,hω,h0,h4 r (List.mem_of_getElem? hi),h1,h2,by omega,fun off d ho=>h5 i r off d hi ho⟩
theorem n7 {p : Pa} {i o : Nat} (h : isO d=false) : ldc p i o d=d:=by
 cases d <;> first | rfl | (simp [isO] at h)
theorem u5 {p : Pa} {i o : Nat} {v : Value} (h : kC F M ω ρ w p i o d v) : al F M ρ (ldc p i o d) v:=by
 cases p with
 | r b =>
  cases d
  case own sz es=>exact h.1
  all_goals exact al.of_pure h
 | n b i' o' =>
  have h' : ab F M d v:=h
  have : isO d=false:=by
   cases d <;> first | rfl | (simp [ab] at h')
  rw [n7 this]
  exact al.of_pure h'
theorem z7 (h : SR F nt S L w0 M0 f M a w) (hp : br nt f o.dst) {n : Nat} {ag : Bool} {x : Opd} {x' : Operand} {t : TypeId} (ho : o.op=.load t x') (hx : ae F x x'=true) (hk : tyS P t n ag=true)
  (hr : res f (·=d) (.ld n ag x)) : o.wp P a w (bz F nt S L w0 M0 f o.dst d) Q:=by
 simp only [res] at hr
 split at hr
 ·rename_i p i off ex
  split at hr
  ·rename_i sz es hg
   obtain ⟨r,hi,hn,hr⟩:=hr
   refine bj h hp (fun ρ ω hO=>?_)
   have g1:=hO.opd hx
   rw [ex,ah rfl] at g1
   simp only [al] at g1
   obtain ⟨vs,T,hω,h0,hl,h1,h2,h3,h4⟩:=hO.row (bH hO hg) hg hi
   rw [h0] at g1
   have hcells : ∀ j v,(vs.drop ((ρ p).base + i * sz + off))[j]? = some v -> w.cell? ((⟨(ρ p).blk,(ρ p).base + i * sz + off,none⟩ : Addr).add j)=some v:=by
    intro j v hj
    rw [cg]
    rw [List.getElem?_drop] at hj
    simp [World.cell?,h1,hj]
   refine ⟨if ag then .agg ((vs.drop ((ρ p).base + i * sz + off)).take n).toArray else (vs.drop ((ρ p).base + i * sz + off)).headD undef,?_,by simp only [execOp,ho,g1,Sem.run_bind,cK hk hcells (by simp;omega),Result.andThen_ok,Sem.run_pure]⟩
   have hpart : ∀ (j : Nat) (c : D),(r.drop off)[j]? = some c -> ∃ v,(vs.drop ((ρ p).base + i * sz + off))[j]? = some v /\ al F M ρ (ldc p i (off + j) c) v:=by
    intro j c hj
    rw [List.getElem?_drop] at hj
    obtain ⟨v,k1,k2⟩:=h4 _ _ hj
    exact ⟨v,by rw [List.getElem?_drop,Nat.add_assoc];exact k1,u5 k2⟩
   cases ag with
   | false =>
    simp only at hr
    subst hr
    have hn1:=fT hk
    subst hn1
    cases hd : r.drop off with
    | nil=>have:=congrArg List.length hd;simp at this;omega
    | cons c cs =>
     obtain ⟨v,k1,k2⟩:=hpart 0 c (by rw [hd];rfl)
     simp only [List.headD_cons,Bool.false_eq_true,if_false]
     have : (vs.drop ((ρ p).base + i * sz + off)).headD undef=v:=by
      cases hv : vs.drop ((ρ p).base + i * sz + off) with
      | nil=>rw [hv] at k1;simp at k1
      | cons x xs=>rw [hv] at k1;simpa using k1
     rw [this]
     exact aV.ofR k2
   | true =>
    simp only [if_true]
    cases hall : (((r.drop off).take n).all isV) with
    | true =>
     obtain rfl:=hr.1 hall
     refine aV.of_pure ?_
     simp only [ab]
     refine ⟨_,rfl,ap.of_forall' (by simp;omega) (fun j c v hc hv=>?_)⟩
     rw [List.getElem?_take] at hc hv
     split at hc
     ·rename_i hj
      rw [if_pos hj] at hv
      obtain ⟨v',k1,k2⟩:=hpart j c hc
      rw [hv] at k1;cases k1
      have hcv : isV c=true:=by
       rw [List.all_eq_true] at hall
       exact hall c (List.mem_of_getElem? (by rw [List.getElem?_take_of_lt hj];exact hc))
      rw [n7 (by cases c <;> first | rfl | (simp [isV] at hcv))] at k2
      exact k2.pure hcv
     ·cases hc
    | false =>
     obtain rfl:=hr.2 hall
     refine ⟨_,rfl,by simp;omega,fun j c v hc hv=>?_⟩
     rw [List.getElem?_mapIdx,Option.map_eq_some_iff] at hc
     obtain ⟨c',hc,rfl⟩:=hc
     rw [List.getElem?_take] at hc hv
     split at hc
     ·rename_i hj
      rw [if_pos hj] at hv
      obtain ⟨v',k1,k2⟩:=hpart j c' hc
      rw [hv] at k1;cases k1
      exact k2
     ·cases hc
  ·exact hr.elim
 ·rename_i ds ex
  obtain ⟨hn,rfl⟩:=hr
  have g1:=h.opd hx (by simp [ex,isV])
  rw [ex] at g1
  simp only [ab] at g1
  obtain ⟨p,vs,e1,r,c⟩:=g1
  refine aD h hp (iT r ag n) ?_
  simp only [execOp,ho,e1,Sem.run_bind,cK hk (a:=p) (vs:=vs) (fun j v hj=>h.holds _ _ (c j v hj)) (by rw [r.length];exact hn),Result.andThen_ok,Sem.run_pure]
 ·rename_i ds ex
  obtain ⟨hn,hr⟩:=hr
  refine bj h hp (fun ρ ω hO=>?_)
  have g1:=hO.opd hx
  rw [ex] at g1
  obtain ⟨p,vs,e1,r,c⟩:=g1
  refine ⟨if ag then .agg (vs.take n).toArray else vs.headD undef,?_,by simp only [execOp,ho,e1,Sem.run_bind,cK hk (a:=p) (vs:=vs) (fun j v hj=>h.holds _ _ (c j v hj)) (by rw [<- r.1];exact hn),Result.andThen_ok,Sem.run_pure]⟩
  cases ag with
  | false =>
   simp only at hr
   obtain ⟨h0,rfl⟩:=hr
   simp only [Bool.false_eq_true,if_false]
   cases ds with
   | nil=>simp at hn;omega
   | cons d0 ds =>
    cases vs with
    | nil=>have:=r.1;simp at this
    | cons v0 vs=>exact aV.ofR (r.2 0 d0 v0 rfl rfl)
  | true =>
   simp only [if_true]
   have part : ∀ (j : Nat) (x : D) (v : Value),(ds.take n)[j]? = some x -> (vs.take n)[j]? = some v -> al F M ρ x v:=fun j x v k1 k2=>by
    rw [List.getElem?_take] at k1 k2
    split at k1
    ·rename_i hj
     rw [if_pos hj] at k2
     exact r.2 j x v k1 k2
    ·cases k1
   have hl : (ds.take n).length=(vs.take n).length:=by simp [r.1]
   cases hall : (ds.take n).all isV with
   | true =>
    obtain rfl:=hr.1 hall
    refine aV.of_pure ?_
    simp only [ab]
    rw [List.all_eq_true] at hall
    exact ⟨_,rfl,ap.of_forall' hl (fun j x v k1 k2=>(part j x v k1 k2).pure (hall x (List.mem_of_getElem? k1)))⟩
   | false =>
    obtain rfl:=hr.2 hall
    exact ⟨_,rfl,hl,part⟩
 ·exact hr.elim
end
end Go.Gv

namespace Go.Gv
open Go.RowKit
def Abs1 (f : Nat -> D) (d c : D) (s : Option Nat) : Prop :=
 (au d = true /\ c = d /\ s = none) \/ (∃ b sz es, d = .ref (.r b) 0 es.length /\ f b = .blk sz es /\ (∀ e ∈ es, ∀ x ∈ e, au x = true) /\ c = .own sz es /\ s = some b)
theorem abs1W_spec {f : Nat -> D} {d : D} {K : D -> List Nat -> Prop} (h : c8 f d K) : ∃ c s, K c (Option.toList s) /\ Abs1 f d c s := by
 unfold c8 at h
 split at h
 ·rename_i b k n
  obtain ⟨rfl, h⟩ := h
  split at h
  ·rename_i sz es e
   obtain ⟨rfl, h2, h3⟩ := h
   exact ⟨_, some b, h3, .inr ⟨b, sz, es, rfl, e, h2, rfl, rfl⟩⟩
  ·exact h.elim
 ·exact ⟨_, none, h.2, .inl ⟨h.1, rfl, rfl⟩⟩
theorem absLW_spec {f : Nat -> D} : ∀ {ds : List D} {K : List D -> List Nat -> Prop}, jM f ds K -> ∃ (cs : List D) (ss : List (Option Nat)), K cs (ss.filterMap id) /\ cs.length = ds.length /\ ss.length = ds.length /\
  ∀ (j : Nat) (d c : D) (s : Option Nat), ds[j]? = some d -> cs[j]? = some c -> ss[j]? = some s -> Abs1 f d c s
 | [], K, h => ⟨[], [], h, rfl, rfl, fun j d c s h1 => by simp at h1⟩
 | d :: ds, K, h => by
  obtain ⟨c, s, h1, h2⟩ := abs1W_spec h
  obtain ⟨cs, ss, h3, h4, h5, h6⟩ := absLW_spec h1
  refine ⟨c :: cs, s :: ss, ?_, by simp [h4], by simp [h5], fun j d' c' s' g1 g2 g3 => ?_⟩
  ·cases s with
   | none => simpa using h3
   | some b => simpa using h3
  ·cases j with
   | zero => simp at g1 g2 g3; subst g1; subst g2; subst g3; exact h2
   | succ j => exact h6 j d' c' s' (by simpa using g1) (by simpa using g2) (by simpa using g3)
theorem noDupN_inj : ∀ {ss : List (Option Nat)}, bC (ss.filterMap id) = true -> ∀ (j j' c : Nat), ss[j]? = some (some c) -> ss[j']? = some (some c) -> j = j'
 | [], _, j, j', c, h, _ => by simp at h
 | s :: ss, hn, j, j', c, h1, h2 => by
  have mem : ∀ i : Nat, ss[i]? = some (some c) -> c ∈ ss.filterMap id := fun i hi => List.mem_filterMap.2 ⟨some c, List.mem_of_getElem? hi, rfl⟩
  have tail : bC (ss.filterMap id) = true := by
   cases s with
   | none => simpa using hn
   | some b => simp only [List.filterMap_cons, id, bC, Bool.and_eq_true] at hn; exact hn.2
  cases j with
  | zero =>
   simp at h1; subst h1
   simp only [List.filterMap_cons, id, bC, Bool.and_eq_true, Bool.not_eq_true'] at hn
   cases j' with
   | zero => rfl
   | succ j' =>
    have h4 := List.contains_iff_mem.2 (mem j' (by simpa using h2))
    rw [h4] at hn
    cases hn.1
  | succ j =>
   cases j' with
   | zero =>
    simp at h2; subst h2
    simp only [List.filterMap_cons, id, bC, Bool.and_eq_true, Bool.not_eq_true'] at hn
    have h4 := List.contains_iff_mem.2 (mem j (by simpa using h1))
    rw [h4] at hn
    cases hn.1
   | succ j' => rw [noDupN_inj tail j j' c (by simpa using h1) (by simpa using h2)]
theorem nilC_length {ns : List Nat} {cs : List D} (h : ns = [] \/ ns.length = cs.length) : (d3 ns cs).length = cs.length := by
 unfold d3
 split
 ·rfl
 ·rcases h with h | h
  ·contradiction
  ·simp [h]
theorem nilC_get {ns : List Nat} {cs : List D} {j : Nat} {c : D} (h : (d3 ns cs)[j]? = some c) : ∃ c0, cs[j]? = some c0 /\ (c = c0 \/ ∃ n, c0 = .nils /\ c = .own n [] /\ 0 < n) := by
 unfold d3 at h
 split at h
 ·exact ⟨c, h, .inl rfl⟩
 ·rw [List.getElem?_zipWith] at h
  split at h
  ·rename_i n c0 h1 h2
   simp only [Option.some.injEq] at h
   refine ⟨c0, h2, ?_⟩
   subst h
   by_cases hc : c0 = .nils
   ·subst hc
    by_cases hn : n = 0
    ·left; simp [dB, hn]
    ·right; exact ⟨n, rfl, by simp [dB, hn], by omega⟩
   ·left; cases c0 <;> first | rfl | exact absurd rfl hc
  ·cases h
section
variable {P : Program} {F : Fid} {nt : Nat} {S : Nat -> Prop} {L : Nat -> Option Loc} {w0 : World} {M0 : Mem} {f : Nat -> D} {M : Mem} {a : Act} {w : World} {o : Oper} {d : D} {Q : Exit -> Act -> World -> Prop} {ρ : Pa -> Loc} {ω : Nat -> Option Pa} {New : Nat -> Prop}
theorem oneCell_of {c : D} {v : Value} (r : ab F M c v) (h : au c = true) : v.oneCell' = true := by
 cases c <;> simp only [au, Bool.false_eq_true] at h <;> simp only [ab] at r
 case sl es => obtain ⟨A, cap, vs, sz, rfl, _⟩ := r; rfl
 case ptr ds => obtain ⟨p, vs, rfl, _⟩ := r; rfl
 case fn g cs => obtain ⟨p, vs, _, rfl, _⟩ := r; rfl
 all_goals (subst r; rfl)
structure AbsS (F : Fid) (L : Nat -> Option Loc) (New : Nat -> Prop) (f : Nat -> D) (M : Mem) (a : Act) (w : World) (cs : List D) (bs : List Nat) (v : Value) (src : Nat -> Option Nat) : Prop where
 len : v.cells.size = cs.length
 inj : ∀ j j' c, src j = some c -> src j' = some c -> j = j'
 srcs : ∀ j c, src j = some c -> c ∈ bs /\ ∃ e, cs[j]? = some e /\ isO e = true
 cells : ∀ (j : Nat) (c : D) (u : Value), cs[j]? = some c -> v.cells.toList[j]? = some u -> ig F L New f M a w (src j) c u /\ u.oneCell' = true
 isC : ∀ c ∈ cs, Gv.isC c = true
 pure : bs = [] -> ∀ j, src j = Option.none
theorem Abs1.in_ {d c : D} {s : Option Nat} {u : Value} (ho : Own F L New f M a w ρ ω) (h : Abs1 f d c s) (r : ∀ ρ ω, Own F L New f M a w ρ ω -> al F M ρ d u) {c' : D} (hc : c' = c \/ ∃ n, c = .nils /\ c' = .own n [] /\ 0 < n) :
  ig F L New f M a w s c' u /\ u.oneCell' = true /\ Gv.isC c' = true := by
 rcases h with ⟨h1, rfl, rfl⟩ | ⟨b, sz, es, rfl, h2, h3, rfl, rfl⟩
 ·have r1 : ab F M c u := (r ρ ω ho).pure (by cases c <;> first | rfl | (simp [au] at h1))
  rcases hc with rfl | ⟨n, rfl, rfl, hn⟩
  ·exact ⟨.inl ⟨bX h1, r1⟩, oneCell_of r1 h1, by simp [Gv.isC, h1]⟩
  ·simp only [ab] at r1
   subst r1
   exact ⟨.inr (.inl ⟨n, rfl, hn, rfl, _, rfl⟩), rfl, rfl⟩
 ·have r1 := r ρ ω ho
  have one : u.oneCell' = true := by
   simp only [al] at r1
   rcases r1 with ⟨_, A, rfl⟩ | ⟨cap, rfl, _⟩ <;> rfl
  rcases hc with rfl | ⟨n, h4, _⟩
  ·exact ⟨.inr (.inr ⟨sz, es, b, rfl, rfl, h2, h3, r⟩), one, rfl⟩
  ·cases h4
theorem absW_spec (ho : Own F L New f M a w ρ ω) {ns : List Nat} {K : List D -> List Nat -> Prop} (h : eA f d ns K) {v : Value} (r : ∀ ρ ω, Own F L New f M a w ρ ω -> aV F M ρ d v) :
  ∃ cs bs src, K cs bs /\ AbsS F L New f M a w cs bs v src /\ (cs.any isO = true -> ∀ b, (b, false) ∈ stK d ns b) := by
 have one : isX d = false -> (∀ ds, d ≠ .agg ds) -> (ns = [] \/ ns.length = 1) -> c8 f d (fun c bs => K (d3 ns [c]) bs) -> ∃ cs bs src, K cs bs /\ AbsS F L New f M a w cs bs v src /\ (cs.any isO = true -> ∀ b, (b, false) ∈ stK d ns b) := by
  intro hx hag hns h
  obtain ⟨c, s, h1, h2⟩ := abs1W_spec h
  have hl : (d3 ns [c]).length = 1 := nilC_length (by simpa using hns)
  obtain ⟨c', hc'⟩ : ∃ c', d3 ns [c] = [c'] := by
   match hq : d3 ns [c], hl with
   | [x], _ => exact ⟨x, rfl⟩
  obtain ⟨c0, k1, k2⟩ := nilC_get (show (d3 ns [c])[0]? = some c' by rw [hc']; rfl)
  simp at k1
  subst k1
  have rR : ∀ ρ ω, Own F L New f M a w ρ ω -> al F M ρ d v := fun ρ ω ho => by
   have := r ρ ω ho; rwa [ah hx] at this
  obtain ⟨g1, g2, g3⟩ := h2.in_ ho rR k2
  have hcells : v.cells = #[v] := by
   have hr := rR ρ ω ho
   rcases h2 with ⟨h3, rfl, _⟩ | ⟨b, sz, es, rfl, _⟩
   ·cases c <;> simp only [au, Bool.false_eq_true] at h3 <;> simp only [al, ab] at hr
    case sl es => obtain ⟨A, cap, vs, sz, rfl, _⟩ := hr; rfl
    case ptr ds => obtain ⟨p, vs, rfl, _⟩ := hr; rfl
    case fn g cs => obtain ⟨p, vs, _, rfl, _⟩ := hr; rfl
    all_goals (subst hr; rfl)
   ·simp only [al] at hr
    rcases hr with ⟨_, A, rfl⟩ | ⟨cap, rfl, _⟩ <;> rfl
  refine ⟨[c'], s.toList, fun j => if j = 0 then s else none, by rw [<- hc']; exact h1, ⟨by rw [hcells]; rfl, fun j j' x e1 e2 => ?_, fun j x e => ?_, fun j x u e1 e2 => ?_, fun x hx => ?_, fun e j => ?_⟩, fun hany b => ?_⟩
  ·split at e1
   ·split at e2
    ·omega
    ·cases e2
   ·cases e1
  ·split at e
   ·rename_i hj
    subst hj
    refine ⟨by simp [e], c', rfl, ?_⟩
    rcases h2 with ⟨_, _, h5⟩ | ⟨b', sz, es, _, _, _, rfl, _⟩
    ·rw [h5] at e; cases e
    ·rcases k2 with rfl | ⟨n, h6, _⟩
     ·rfl
     ·cases h6
   ·cases e
  ·cases j with
   | zero =>
    rw [hcells] at e2
    simp at e1 e2
    subst e1; subst e2
    exact ⟨g1, g2⟩
   | succ j => simp at e1
  ·simp at hx; subst hx; exact g3
  ·cases s with
   | none => simp
   | some x => simp at e
  ·
   rcases h2 with ⟨h3, h4, _⟩ | ⟨b', sz, es, rfl, _⟩
   ·subst h4
    have : ns ≠ [] := by
     rintro rfl
     simp only [d3, if_true, List.cons.injEq, and_true] at hc'
     subst hc'
     simp at hany
     rw [bX h3] at hany; cases hany
    cases c <;> simp_all [stK, au]
   ·simp [stK]
 unfold eA at h
 split at h
 ·rename_i ds
  obtain ⟨h1, h2, h3⟩ := h
  have hr : ab F M (.agg ds) v := (r ρ ω ho).pure rfl
  simp only [ab] at hr
  obtain ⟨vs, rfl, hL⟩ := hr
  have hlen := nilC_length (cs := ds) h2
  refine ⟨_, [], fun _ => none, h3, ⟨by simp [Value.cells, hlen, hL.length], fun j j' c e => (by cases e), fun j c e => (by cases e), fun j c u e1 e2 => ?_, fun c hc => ?_, fun _ _ => rfl⟩, fun hany b => ?_⟩
  ·obtain ⟨c0, k1, k2⟩ := nilC_get e1
   obtain ⟨u', k3, k4⟩ := hL.get k1
   simp only [Value.cells] at e2
   have e2' : vs[j]? = some u := by simpa using e2
   rw [k3] at e2'; cases e2'
   have hc0 := h1 c0 (List.mem_of_getElem? k1)
   obtain ⟨g1, g2, g3⟩ := (show Abs1 f c0 c0 none from .inl ⟨hc0, rfl, rfl⟩).in_ ho (fun _ _ _ => al.of_pure k4) k2
   exact ⟨g1, g2⟩
  ·obtain ⟨j, hj, e⟩ := List.mem_iff_getElem.1 hc
   obtain ⟨c0, k1, k2⟩ := nilC_get (show (d3 ns ds)[j]? = some c by rw [<- e]; exact List.getElem?_eq_getElem hj)
   rcases k2 with rfl | ⟨n, _, rfl, _⟩
   ·simp [Gv.isC, h1 c (List.mem_of_getElem? k1)]
   ·rfl
  ·have : ns ≠ [] := by
    rintro rfl
    simp only [d3, if_true, List.any_eq_true] at hany
    obtain ⟨c, hc, h5⟩ := hany
    rw [bX (h1 c hc)] at h5; cases h5
   simp [stK, this]
 ·rename_i ds
  obtain ⟨h0, h⟩ := h
  obtain ⟨cs, ss, ⟨h1, h2⟩, h3, h4, h5⟩ := absLW_spec h
  obtain ⟨vs, rfl, hL⟩ := r ρ ω ho
  have hrep : ∀ (j : Nat) (x : D) (u : Value), ds[j]? = some x -> vs[j]? = some u -> ∀ ρ ω, Own F L New f M a w ρ ω -> al F M ρ x u := fun j x u e1 e2 ρ ω ho => by
   obtain ⟨vs', e, hL'⟩ := r ρ ω ho
   have : vs = vs' := by simpa using e
   subst this
   exact hL'.2 j x u e1 e2
  have hlen : (d3 ns cs).length = cs.length := nilC_length (by rw [h3]; exact h0)
  have hvl : vs.length = ds.length := hL.1.symm
  have at_ : ∀ (j : Nat) (c : D), (d3 ns cs)[j]? = some c -> ∃ x c0 s u, ds[j]? = some x /\ cs[j]? = some c0 /\ ss[j]? = some s /\ vs[j]? = some u /\ Abs1 f x c0 s /\ (c = c0 \/ ∃ n, c0 = .nils /\ c = .own n [] /\ 0 < n) := by
   intro j c hc
   obtain ⟨c0, k1, k2⟩ := nilC_get hc
   have hj : j < ds.length := by have := (List.getElem?_eq_some_iff.1 k1).1; omega
   exact ⟨ds[j], c0, ss[j]'(by omega), vs[j]'(by omega), List.getElem?_eq_getElem hj, k1, List.getElem?_eq_getElem _, List.getElem?_eq_getElem _, h5 j _ _ _ (List.getElem?_eq_getElem hj) k1 (List.getElem?_eq_getElem _), k2⟩
  refine ⟨_, _, fun j => (ss[j]?).join, h2, ⟨by simp [Value.cells, hlen, h3, hvl], fun j j' c e1 e2 => ?_, fun j c e => ?_, fun j c u e1 e2 => ?_, fun c hc => ?_, fun e j => ?_⟩, fun _ b => by simp [stK]⟩
  ·have g : ∀ i : Nat, (ss[i]?).join = some c -> ss[i]? = some (some c) := fun i h => by
    cases hq : ss[i]? with
    | none => rw [hq] at h; cases h
    | some s => rw [hq] at h; simp at h; rw [h]
   exact noDupN_inj h1 j j' c (g j e1) (g j' e2)
  ·cases hq : ss[j]? with
   | none => rw [hq] at e; cases e
   | some s =>
    rw [hq] at e
    simp at e
    subst e
    have hj : j < ss.length := (List.getElem?_eq_some_iff.1 hq).1
    refine ⟨List.mem_filterMap.2 ⟨some c, List.mem_of_getElem? hq, rfl⟩, ?_⟩
    have hj2 : j < (d3 ns cs).length := by omega
    obtain ⟨x, c0, s', u, k1, k2, k3, k4, k5, k6⟩ := at_ j _ (List.getElem?_eq_getElem hj2)
    rw [hq] at k3; cases k3
    refine ⟨_, List.getElem?_eq_getElem hj2, ?_⟩
    rcases k5 with ⟨_, _, h6⟩ | ⟨b', sz, es, _, _, _, rfl, _⟩
    ·cases h6
    ·rcases k6 with h6 | ⟨n, h6, _⟩
     ·rw [h6]; rfl
     ·cases h6
  ·obtain ⟨x, c0, s, u', k1, k2, k3, k4, k5, k6⟩ := at_ j c e1
   simp only [Value.cells] at e2
   have e2' : vs[j]? = some u := by simpa using e2
   rw [k4] at e2'; cases e2'
   obtain ⟨g1, g2, _⟩ := k5.in_ ho (hrep j x u k1 k4) k6
   rw [k3]
   exact ⟨g1, g2⟩
  ·obtain ⟨j, hj, e⟩ := List.mem_iff_getElem.1 hc
   obtain ⟨x, c0, s, u', k1, k2, k3, k4, k5, k6⟩ := at_ j c (by rw [<- e]; exact List.getElem?_eq_getElem hj)
   exact (k5.in_ ho (hrep j x u' k1 k4) k6).2.2
  ·cases hq : ss[j]? with
   | none => rfl
   | some s =>
    cases s with
    | none => rfl
    | some c =>
     have : c ∈ ss.filterMap id := List.mem_filterMap.2 ⟨some c, List.mem_of_getElem? hq, rfl⟩
     rw [e] at this; cases this
 ·rename_i hne1 hne2
  refine one ?_ (fun ds e => hne1 ds e) h.1 h.2
  have h2 := h.2
  cases d <;> first | rfl | (exact absurd rfl (hne2 _)) | (simp [c8, au] at h2)
theorem run_newVar (t : TypeId) (v : Value) (w : World) : (newVar t v).run P w = .ok ⟨w.heap.size, 0, none⟩ (w.alloc (.cells v.cells.toList.toArray t)) := by
 simp [newVar, newRow]
def alcOk (P : Program) (t : Nat) (zs : List D) : Bool := match P.info? t with
 | some i => match i.zero with
  | some z => zs.length == z.cells.size && (zs.zip z.cells.toList).all fun p => gK p.1 p.2
  | none => false
 | none => false
theorem consts_rep : ∀ {ds : List D} {vs : List Value}, ds.length = vs.length -> (∀ p ∈ ds.zip vs, gK p.1 p.2 = true) -> ap F M ds vs
 | [], [], _, _ => by simp [ap]
 | d :: ds, v :: vs, hl, h => by
  simp only [ap]
  exact ⟨v, vs, rfl, gd (h (d, v) (by simp)), consts_rep (by simpa using hl) (fun p hp => h p (by simp [hp]))⟩
theorem alcOk_z {t : Nat} {zs : List D} (h : alcOk P t zs = true) : ∃ z, (∀ w, (zeroValue t).run P w = .ok z w) /\ ∀ F M, ap F M zs z.cells.toList := by
 unfold alcOk at h
 split at h
 ·rename_i i hi
  split at h
  ·rename_i z hz
   simp only [Bool.and_eq_true, beq_iff_eq, List.all_eq_true] at h
   exact ⟨z, fun w => by simp [zeroValue, typeInfo, hi, hz], fun F M => consts_rep (by simpa using h.1) h.2⟩
  ·cases h
 ·cases h
end
end Go.Gv
