/-
  Texts of the proof: GvV, GvV2, BS1, E2, K24c, E3, E3b, TL5, S19, TL6, ItPl, TPa, TPb, TPc, TPd, TPe, TPf, Lts.
-/
import Derived.Test.YtlipihhhgpnjmaaGreatX6
import Derived.Test.YtlipihhhgpnjmaaGreatX4
import Derived.Test.YtlipihhhgpnjmaaGreatX5
import Derived.Test.YtlipihhhgpnjmaaGreatX8
import Derived.Test.YtlipihhhgpnjmaaGreatX7
import Derived.Shelf.Small.Bits
import Derived.Shelf.Small.Strs
import Derived.Shelf.Small.Wraps
import Derived.Shelf.Strconv.Itoa0
import Derived.Shelf.Sort.Plain
import Derived.Shelf.Bits.Mul64
import Derived.Shelf.Slices.Reverse
import Derived.Shelf.Slices.Equal
import Derived.Ground.Names2Prog
import Derived.Shelf.Slices.Clone
import Derived.Shelf.Slices.CompactI
import Derived.Shelf.Slices.SearchI
import Derived.Shelf.Slices.Cells
import Derived.Shelf.Slices.In.SortNone
import Derived.Shelf.Slices.Empties2
import Derived.Ground.SlgnProg
import Derived.Shelf.SlicesE.Reverse
import Derived.Shelf.SlicesE.Clone
import Derived.Shelf.SlIterI.Nil
import Derived.Shelf.SortM.Plain
import Derived.Shelf.SortM.SortNone
import Derived.Ground.GgzProg
import Derived.Ground.SlgmProg
import Derived.Test.YtlipihhhgpnjmaaGreatProg
import Derived.WalkKit
import Derived.LoopN
import Derived.Maps.OwnSet
import Derived.OwnWalk
import Derived.Deep.AppendLies
import Derived.BigQuiet
import Derived.Test.YtlipihhhgpnjmaaGreatRows
import Derived.ProofKit
set_option linter.all false
namespace Go.Gv
open Go.RowKit
abbrev KE:=List (Nat×D)×List (Nat×Bool)
section
variable{α β:Type}
def aj(b:Bool)(x:Option α):Option α:=if b then x else none
theorem af{b:Bool}{x:Option α}{y:α}(h:aj b x=some y):b=true/\x=some y:=by
 unfold aj at h
 split at h
 ·rename_i hb;exact⟨hb,h⟩
 ·cases h
def aK(x:Option α)(k:α->Option β):Option β:=match x with
 | some a=>k a
 | none=>none
theorem aq{x:Option α}{k:α->Option β}{y:β}(h:aK x k=some y):∃a,x=some a/\k a=some y:=by
 cases x with
 | none=>cases h
 | some a=>exact⟨a,rfl,h⟩
end
def G9(op:BinOp)(k k':IntKind)(a b:Int):Option D:=match op with
 | .add=>aj (decide (k=k')) (some (.int k (k.wrap (a+b))))
 | .sub=>aj (decide (k=k')) (some (.int k (k.wrap (a-b))))
 | .mul=>aj (decide (k=k')) (some (.int k (k.wrap (a*b))))
 | .quo=>aj (decide (k=k')&&decide (b≠0)) (some (.int k (k.wrap (a.tdiv b))))
 | .rem=>aj (decide (k=k')&&decide (b≠0)) (some (.int k (a.tmod b)))
 | .and=>aj (decide (k=k')) (some (.int k (bits .and k a b)))
 | .or=>aj (decide (k=k')) (some (.int k (bits .or k a b)))
 | .xor=>aj (decide (k=k')) (some (.int k (bits .xor k a b)))
 | .andNot=>aj (decide (k=k')) (some (.int k (bits .andNot k a b)))
 | .shl=>aj (decide (0<=b)) (some (.int k (k.wrap (a*2^(min b.toNat k.bits)))))
 | .shr=>aj (decide (0<=b)) (some (.int k (a.fdiv (2^(min b.toNat k.bits)))))
 | .eql=>aj (decide (k=k')) (some (.bool (decide (a=b))))
 | .neq=>aj (decide (k=k')) (some (.bool (!decide (a=b))))
 | .lss=>aj (decide (k=k')) (some (.bool (decide (a<b))))
 | .leq=>aj (decide (k=k')) (some (.bool (decide (a<=b))))
 | .gtr=>aj (decide (k=k')) (some (.bool (decide (b<a))))
 | .geq=>aj (decide (k=k')) (some (.bool (decide (b<=a))))
def CA(op:BinOp)(x y:D):Option D:=match x,y with
 | .int k a,.int k' b=>G9 op k k' a b
 | .str a,.str b=>match op with
  | .eql=>some (.bool (decide (a=b)))
  | .neq=>some (.bool (!decide (a=b)))
  | .add=>aj (decide ((a++b).length<1000000)) (some (.str (a++b)))
  | _=>none
 | _,_=>none
theorem CB{f:Nat->D}{K:D->Prop}{op:BinOp}{x y:Opd}{d:D}(h:CA op (vd f x) (vd f y)=some d)(hk:K d):res f K (.bin op x y):=by
 simp only[res]
 revert h
 generalize vd f x=a
 generalize vd f y=b
 intro h
 unfold CA at h
 split at h
 ·cases op<;>simp only[G9]at h ⊢<;>(obtain⟨h1,h2⟩:=af h)<;>cases h2<;>simp_all
 ·cases op<;>first|(cases h;exact hk)|(cases h;done)|(obtain⟨h1,h2⟩:=af h;cases h2;have h3:=of_decide_eq_true h1;exact⟨by omega,hk⟩)
 ·cases h
def jK(f:Nat->D)(o:Option Opd)(dflt:Nat):Option Nat:=match o with
 | none=>some dflt
 | some x=>match vd f x with
  | .int _ n=>aj (decide (0<=n)) (some n.toNat)
  | _=>none
theorem gF{f:Nat->D}{o:Option Opd}{dflt n:Nat}{K:Nat->Prop}(h:jK f o dflt=some n)(hk:K n):eD f o dflt K:=by
 unfold jK at h
 unfold eD
 split at h
 ·cases h;exact hk
 ·split at h
  ·rename_i hx
   obtain⟨h1,h2⟩:=af h
   cases h2
   dsimp only
   rw[hx]
   exact⟨by simpa using h1,hk⟩
  ·cases h
def xM(f:Nat->D)(d:D):Option (D×List Nat):=match d with
 | .ref (.r b) k n=>match f b with
  | .blk sz es=>aj (decide (k=0)&&decide (es.length=n)&&es.all fun e=>e.all aA) (some (.own sz es,[b]))
  | _=>none
 | d=>aj (aA d) (some (d,[]))
theorem uo{f:Nat->D}{d c:D}{bs:List Nat}{K:D->List Nat->Prop}(h:xM f d=some (c,bs))(hk:K c bs):eC f d K:=by
 unfold xM at h
 split at h
 ·rename_i b k n
  split at h
  ·rename_i hb
   obtain⟨h1,h2⟩:=af h
   cases h2
   simp only[x0a,x0b,x0f]at h1
   show k=0/\_
   rw[hb]
   exact⟨h1.1.1,h1.1.2,h1.2,hk⟩
  ·cases h
 ·rename_i hn
  obtain⟨h1,h2⟩:=af h
  cases h2
  unfold eC
  split
  ·rename_i b k n
   exact absurd rfl (hn b k n)
  ·exact⟨h1,hk⟩
def BH(f:Nat->D):List D->Option (List D×List Nat)
 | []=>some ([],[])
 | d::ds=>aK (xM f d) fun p=>aK (BH f ds) fun q=>some (p.1::q.1,p.2++q.2)
theorem uq{f:Nat->D}:∀{ds cs:List D} {bs:List Nat} {K:List D->List Nat->Prop},BH f ds=some (cs,bs)->K cs bs->jG f ds K
 | [],cs,bs,K,h,hk=>by cases h;exact hk
 | d::ds,cs,bs,K,h,hk=>by
  obtain⟨⟨c,b⟩,h1,h⟩:=aq h
  obtain⟨⟨cs',bs'⟩,h2,h⟩:=aq h
  cases h
  exact uo h1 (uq h2 hk)
def BG(f:Nat->D)(d:D)(ns:List Nat):Option (List D×List Nat):=match d with
 | .agg ds=>aj (ds.all aA&&(decide (ns=[])||decide (ns.length=ds.length))) (some (dQ ns ds,[]))
 | .agx ds=>aj (decide (ns=[])||decide (ns.length=ds.length)) (aK (BH f ds) fun p=>aj (bG p.2) (some (dQ ns p.1,p.2)))
 | d=>aj (decide (ns=[])||decide (ns.length=1)) (aK (xM f d) fun p=>some (dQ ns [p.1],p.2))
theorem sI{f:Nat->D}{d:D}{ns:List Nat}{cs:List D}{bs:List Nat}{K:List D->List Nat->Prop}(h:BG f d ns=some (cs,bs))(hk:K cs bs):fV f d ns K:=by
 unfold BG at h
 unfold fV
 split at h
 ·obtain⟨h1,h2⟩:=af h
  cases h2
  simp only[x0a,x0f,x0u,x0b]at h1
  exact⟨h1.1,h1.2,hk⟩
 ·obtain⟨h1,h2⟩:=af h
  obtain⟨⟨c,b⟩,h3,h4⟩:=aq h2
  obtain⟨h5,h6⟩:=af h4
  cases h6
  simp only[x0u,x0b]at h1
  exact⟨h1,uq h3 ⟨h5,hk⟩⟩
 ·rename_i hn1 hn2
  obtain⟨h1,h2⟩:=af h
  obtain⟨⟨c,b⟩,h3,h4⟩:=aq h2
  cases h4
  simp only[x0u,x0b]at h1
  split
  ·rename_i ds;exact absurd rfl (hn1 ds)
  ·rename_i ds;exact absurd rfl (hn2 ds)
  ·exact⟨h1,uo h3 hk⟩
def DK(f:Nat->D)(mv:Bool)(d:D)(sz:Nat):Option (List (List D)×List Nat):=match d with
 | .nils=>some ([],[])
 | .sl es=>aj (es.all fun e=>decide (e.length=sz)&&e.all aA) (some (es,[]))
 | .ref p k n=>match mv with
  | true=>match p with
   | .r b=>match f b with
    | .blk sz' es=>aj (decide (k=0)&&decide (sz'=sz)&&decide (es.length=n)&&es.all fun e=>e.all isC) (some (es,[b]))
    | _=>none
   | _=>none
  | false=>match aX f p with
   | some (sz',es)=>aj (decide (sz'=sz)&&decide (k+n<=es.length)&&((es.drop k).take n).all fun e=>e.all aA) (some ((es.drop k).take n,[]))
   | none=>none
 | _=>none
theorem DL{f:Nat->D}{mv:Bool}{d:D}{sz:Nat}{es:List (List D)}{bs:List Nat}{K:List (List D)->List Nat->Prop}(h:DK f mv d sz=some (es,bs))(hk:K es bs):fH f mv d sz K:=by
 unfold DK at h
 unfold fH
 split at h
 ·cases h;exact hk
 ·obtain⟨h1,h2⟩:=af h
  cases h2
  simp only[x0f,x0a,x0b]at h1
  exact⟨fun e he=>⟨(h1 e he).1,(h1 e he).2⟩,hk⟩
 ·split at h
  ·split at h
   ·split at h
    ·rename_i hb
     obtain⟨h1,h2⟩:=af h
     cases h2
     simp only[x0f,x0a,x0b]at h1
     dsimp only
     rw[hb]
     exact⟨h1.1.1.1,h1.1.1.2,h1.1.2,h1.2,hk⟩
    ·cases h
   ·cases h
  ·split at h
   ·rename_i hg
    obtain⟨h1,h2⟩:=af h
    cases h2
    simp only[x0f,x0a,x0b]at h1
    dsimp only
    rw[hg]
    exact⟨h1.1.1,h1.1.2,h1.2,hk⟩
   ·cases h
 ·cases h
def xe(f:Nat->D)(sz:Nat)(ns:List Nat):List (Nat×Opd)->List (List D)->List Nat->Option (List (List D)×List Nat)
 | [],es,bs=>some (es,bs)
 | (i,x)::ps,es,bs=>aj (decide (i<es.length)) (aK (BG f (vd f x) ns) fun p=>aj (decide (p.1.length=sz)) (xe f sz ns ps (es.set i p.1) (bs++p.2)))
theorem sf{f:Nat->D}{sz:Nat}{ns:List Nat}:∀{ps:List (Nat×Opd)} {es es':List (List D)} {bs bs':List Nat} {K:List (List D)->List Nat->Prop},xe f sz ns ps es bs=some (es',bs')->K es' bs'->fP f sz ns ps es bs K
 | [],es,es',bs,bs',K,h,hk=>by cases h;exact hk
 | (i,x)::ps,es,es',bs,bs',K,h,hk=>by
  obtain⟨h1,h2⟩:=af h
  obtain⟨⟨c,b⟩,h3,h4⟩:=aq h2
  obtain⟨h5,h6⟩:=af h4
  exact⟨by simpa using h1,sI h3 ⟨by simpa using h5,sf h6 hk⟩⟩
def jP(f:Nat->D)(d:D):Bool:=match d with
 | .ref p k n=>match aX f p with
  | some (_,es)=>decide (k+n<=es.length)
  | none=>false
 | .adr p _ _=>(aX f p).isSome
 | .mrf _=>false
 | .ifa _ _ _ _=>false
 | _=>true
theorem kM{f:Nat->D}{d:D}(h:jP f d=true):bA f d:=by
 cases d<;>first|trivial|(cases h;done)|skip
 ·rename_i p k n
  show match aX f p with
   | some (_,es)=>k+n<=es.length
   | none=>False
  have h':(match aX f p with
   | some (_,es)=>decide (k+n<=es.length)
   | none=>false)=true:=h
  revert h'
  cases aX f p with
  | none=>intro h';cases h'
  | some q=>intro h';simpa using h'
 ·rename_i p i o
  show match aX f p with
   | some _=>True
   | none=>False
  have h':(aX f p).isSome=true:=h
  revert h'
  cases aX f p with
  | none=>intro h';cases h'
  | some q=>intro h';trivial
def om(f:Nat->D)(d:D):Bool:=match d with
 | .agx ds=>ds.all (jP f)
 | .tpx ds=>ds.all (jP f)
 | .ptx ds=>ds.all (jP f)
 | .rfx _ _ _=>false
 | .fny _ _ _=>false
 | .fnx _ ds=>ds.all (jP f)
 | d=>jP f d
theorem uJ{f:Nat->D}{d:D}(h:om f d=true):bW f d:=by
 unfold om at h
 unfold bW
 cases d<;>dsimp only at h ⊢<;>first|(cases h;done)|exact kM h|(rw[x0f]at h;exact fun x hx=>kM (h x hx))
def Dn(ag:Bool)(n:Nat)(ds:List D)(f:Nat->D)(p:Pa)(i off:Nat):D:=match ag with
 | true=>if ((ds.take n).all isV) then .agg (ds.take n) else .agx ((ds.take n).mapIdx fun j c=>ldc p i (off+j) c)
 | false=>ldc p i off (ds.headD .any)
def Do(n:Nat)(d:D):Bool:=match d with
 | .agg ds=>decide (ds.length=n)
 | .agx ds=>decide (ds.length=n)
 | .any=>false
 | .tpx _=>false
 | .ptx _=>false
 | .rfx _ _ _=>false
 | .fny _ _ _=>false
 | .fnx _ _=>false
 | _=>decide (n=1)
def Hv(n:Nat)(d:D):Prop:=match d with
 | .agg ds=>ds.length=n
 | .agx ds=>ds.length=n
 | .any=>False
 | .tpx _=>False
 | .ptx _=>False
 | .rfx _ _ _=>False
 | .fny _ _ _=>False
 | .fnx _ _=>False
 | _=>n=1
theorem Dp{n:Nat}{d:D}(h:Do n d=true):Hv n d:=by
 unfold Do at h
 unfold Hv
 cases d<;>dsimp only at h ⊢<;>first|(cases h;done)|exact of_decide_eq_true h
def Is(q:IntKind):D->Bool
 | .int q' n=>decide (q'=q)&&(Lit.int q n).wf
 | _=>false
theorem FA{q:IntKind}{d:D}(h:Is q d=true):∃x,d=.int q x/\Fz q x:=by
 unfold Is at h
 split at h
 ·rw[x0a,x0b]at h
  obtain⟨rfl,h⟩:=h
  exact⟨_,rfl,h⟩
 ·cases h
def tq:KSh->D->Bool
 | .int q,.int q' n=>decide (q'=q)&&(Lit.int q n).wf
 | .str,.str s=>decide (s.length<=maxLen)
 | .bool,.bool _=>true
 | .ints q n,.agg ds=>decide (ds.length=n)&&ds.all (Is q)
 | _,_=>false
theorem rP{sh:KSh}{d:D}(h:tq sh d=true):eS sh d:=by
 unfold tq at h
 split at h
 ·rw[x0a]at h
  exact⟨of_decide_eq_true h.1,h.2⟩
 ·show _<=maxLen
  exact of_decide_eq_true h
 ·trivial
 ·rw[x0a,x0f]at h
  exact⟨of_decide_eq_true h.1,fun d hd=>FA (h.2 d hd)⟩
 ·cases h
def Cp:D->D->Bool
 | .int q _,.int q' n=>decide (q'=q)&&(Lit.int q n).wf
 | .bool _,.bool _=>true
 | .str _,.str s=>decide (s.length<=maxLen)
 | _,_=>false
theorem Cq{z d:D}(h:Cp z d=true):ll z d:=by
 unfold Cp at h
 split at h
 ·rw[x0a]at h
  exact⟨of_decide_eq_true h.1,h.2⟩
 ·trivial
 ·show _<=maxLen
  exact of_decide_eq_true h
 ·cases h
def evD(f:Nat->D):NOp->Option D
 | .mov x=>aj (isS (vd f x)) (some (vd f x))
 | .nck x=>match vd f x with
  | .ptr ds=>some (.ptr ds)
  | .adr p i off=>some (.adr p i off)
  | .ptx ds=>some (.ptx ds)
  | _=>none
 | .pick c a b=>match vd f c with
  | .bool true=>aj (isS (vd f a)) (some (vd f a))
  | .bool false=>aj (isS (vd f b)) (some (vd f b))
  | _=>none
 | .bin op x y=>CA op (vd f x) (vd f y)
 | .un op x=>match vd f x,op with
  | .bool b,.not=>some (.bool (!b))
  | .int k n,.neg=>some (.int k (k.wrap (0-n)))
  | _,_=>none
 | .conv k x=>match vd f x with
  | .int _ n=>some (.int k (k.wrap n))
  | _=>none
 | .beq neg ks x y=>match vd f x,vd f y with
  | .bool a,.bool b=>aj (decide (ks=[])) (some (.bool ((a==b) != neg)))
  | .nils,.nils=>aj (decide (ks=[9])) (some (.bool (!neg)))
  | .sl es,.nils=>aj (decide (ks=[9])&&decide (0<es.length)) (some (.bool neg))
  | .nilp,.nilp=>aj (decide (ks=[8])) (some (.bool (!neg)))
  | .ptr _,.nilp=>aj (decide (ks=[8])) (some (.bool neg))
  | .agg a,.agg b=>aj (decide (ks≠[])) (aK (cJ ks a b) fun r=>some (.bool (r != neg)))
  | _,_=>none
 | .idxA len sz ag x i=>match vd f x,vd f i with
  | .agg ds,.int _ j=>aj (decide (0<=j)&&decide (j<len)&&decide (j.toNat*sz+sz<=ds.length)) (some (qi ag sz (ds.drop (j.toNat*sz))))
  | .agx ds,.int _ j=>aj (decide (0<=j)&&decide (j<len)&&decide (j.toNat*sz+sz<=ds.length)) (some (match ag with
   | true=>.agx ((ds.drop (j.toNat*sz)).take sz)
   | false=>(ds.drop (j.toNat*sz)).headD .any))
  | _,_=>none
 | .idxS x i=>match vd f x,vd f i with
  | .str s,.int _ j=>aj (decide (0<=j)) (aK s[j.toNat]? fun b=>some (.int .u8 b.toNat))
  | _,_=>none
 | .ext i x=>match vd f x with
  | .tup ds=>ds[i]?
  | .tpx ds=>ds[i]?
  | _=>none
 | .fad off x=>match vd f x with
  | .adr p i o=>some (.adr p i (o+off))
  | .ptr ds=>some (.ptr (ds.drop off))
  | .ptx ds=>some (.ptx (ds.drop off))
  | _=>none
 | .iadS sz x i=>match vd f x,vd f i with
  | .sl es,.int _ j=>aj (decide (0<=j)) (aK es[j.toNat]? fun e=>aj (decide (e.length=sz)) (some (.ptr e)))
  | .rfx n sz' ds,.int _ j=>aj (decide (0<=j)&&decide (j.toNat<n)&&decide (sz'=sz)) (some (.ptx (ds.drop (j.toNat*sz))))
  | .ref p k n,.int _ j=>aj (decide (0<=j)&&decide (j.toNat<n)) (aK (aX f p) fun q=>aj (decide (q.1=sz)) (some (.adr p (k+j.toNat) 0)))
  | _,_=>none
 | .iadA len sz x i=>match vd f x,vd f i with
  | .adr p r o,.int _ j=>aj (decide (0<=j)&&decide (j<len)) (some (.adr p r (o+j.toNat*sz)))
  | .ptr ds,.int _ j=>aj (decide (0<=j)&&decide (j<len)) (some (.ptr (ds.drop (j.toNat*sz))))
  | _,_=>none
 | .ld n ag x=>match vd f x with
  | .adr p i off=>aK (aX f p) fun q=>aK q.2[i]? fun r=>aj (decide (off+n<=r.length)) (some (Dn ag n (r.drop off) f p i off))
  | .ptr ds=>aj (decide (n<=ds.length)) (some (qi ag n ds))
  | .ptx ds=>aj (decide (n<=ds.length)&&decide (0<n)) (some (match ag with
   | true=>if (ds.take n).all isV then .agg (ds.take n) else .agx (ds.take n)
   | false=>ds.headD .any))
  | _=>none
 | .boxF x=>match vd f x with
  | .agx ds=>some (.ptx ds)
  | .agg ds=>some (.ptr ds)
  | d=>aj (aA d) (some (.ptr [d]))
 | .bld zs parts=>aj (parts.all fun p=>isS (vd f p.2.2)&&decide (p.1+p.2.1<=zs.length)&&Do p.2.1 (vd f p.2.2)) (some (if (parts.all fun p=>isV (vd f p.2.2)) then .agg (iQ zs (parts.map fun p=>(p.1,p.2.1,vd f p.2.2))) else .agx (iQ zs (parts.map fun p=>(p.1,p.2.1,fw (vd f p.2.2))))))
 | .blsF sz len zs parts=>aj ((parts.all fun p=>decide (p.1<len)&&decide ((fJ (vd f p.2)).length=sz)&&(fJ (vd f p.2)).all aA)&&decide (0<len)&&(gT f parts (List.replicate len zs)).all fun e=>e.all aA) (some (.sl (gT f parts (List.replicate len zs))))
 | .mpl sh kt et ok z m x=>match vd f m with
  | .mrf b=>match f b with
   | .mp kt' et' ks vs=>aj (decide (kt'=kt)&&decide (et'=et)&&tq sh (vd f x)) (some (match ok with
    | true=>.tup [(ee ks vs (vd f x)).getD z,.bool (ee ks vs (vd f x)).isSome]
    | false=>(ee ks vs (vd f x)).getD z))
   | _=>none
  | _=>none
 | .add64 x y c=>match vd f x,vd f y,vd f c with
  | .int .u64 a,.int .u64 b,.int .u64 k=>aj (decide (0<=a)&&decide (a<18446744073709551616)&&decide (0<=b)&&decide (b<18446744073709551616)&&decide (0<=k)&&decide (k<=1)) (some (.tup [.int .u64 ((a+b+k)%18446744073709551616),.int .u64 ((a+b+k)/18446744073709551616)]))
  | _,_,_=>none
 | .sub64 x y c=>match vd f x,vd f y,vd f c with
  | .int .u64 a,.int .u64 b,.int .u64 k=>aj (decide (0<=a)&&decide (a<18446744073709551616)&&decide (0<=b)&&decide (b<18446744073709551616)&&decide (0<=k)&&decide (k<=1)) (some (.tup [.int .u64 ((a-b-k)%18446744073709551616),.int .u64 (if a<b+k then 1 else 0)]))
  | _,_,_=>none
 | .len x=>match vd f x with
  | .sl es=>some (.int .i64 es.length)
  | .nils=>some (.int .i64 0)
  | .ref _ _ n=>some (.int .i64 n)
  | .rfx n _ _=>some (.int .i64 n)
  | _=>none
 | .lens x=>match vd f x with
  | .str s=>some (.int .i64 s.length)
  | _=>none
 | .cvB x=>match vd f x with
  | .str s=>some (.sl (s.map fun(b:UInt8)=>[.int .u8 (b.toNat:Int)]))
  | _=>none
 | .mk g xs=>aj (xs.all fun x=>isP (vd f x)) (some (if (xs.all fun x=>isV (vd f x)) then .fn g (xs.map (vd f)) else .fnx g (xs.map (vd f))))
 | .slc sz x lo hi=>match vd f x with
  | .sl es=>aj (es.all fun e=>decide (e.length=sz)) (aK (jK f hi es.length) fun h=>aK (jK f lo 0) fun l=>aj (decide (l<=h)&&decide (h<=es.length)) (some (.sl ((es.take h).drop l))))
  | .nils=>aK (jK f hi 0) fun h=>aK (jK f lo 0) fun l=>aj (decide (l<=h)&&decide (h<=0)) (some (.sl []))
  | .ref p k n=>aK (aX f p) fun q=>aj (decide (q.1=sz)) (aK (jK f hi n) fun h=>aK (jK f lo 0) fun l=>aj (decide (l<=h)&&decide (h<=n)) (some (.ref p (k+l) (h-l))))
  | _=>none
 | .mn x y=>match vd f x,vd f y with
  | .int k a,.int k' b=>aj (decide (k=k')) (some (.int k (if b<a then b else a)))
  | _,_=>none
 | .mx x y=>match vd f x,vd f y with
  | .int k a,.int k' b=>aj (decide (k=k')) (some (.int k (if a<b then b else a)))
  | _,_=>none
 | _=>none
theorem pT{d y:D}{K:D->Prop}(h:aj (isS d) (some d)=some y)(hk:K y):isS d=true/\K d:=by
 obtain⟨h1,h2⟩:=af h
 cases h2
 exact⟨h1,hk⟩
theorem If{f:Nat->D}{op:NOp}{d:D}{K:D->Prop}(h:evD f op=some d)(hk:K d):res f K op:=by
 cases op with
 | mov x=>exact pT h hk
 | bin op x y=>exact CB h hk
 | nck x =>
  simp only[evD]at h
  simp only[res]
  split at h<;>first|(cases h;done)|(rename_i hx;rw[hx];cases h;exact hk)
 | pick c a b =>
  simp only[evD]at h
  simp only[res]
  split at h
  ·rename_i hx;rw[hx]
   exact And.intro (fun _=>pT h hk) (fun e=>by cases e)
  ·rename_i hx;rw[hx]
   exact And.intro (fun e=>by cases e) (fun _=>pT h hk)
  ·cases h
 | un op x =>
  simp only[evD]at h
  simp only[res]
  split at h
  ·rename_i hx;rw[hx];cases h;exact hk
  ·rename_i hx;rw[hx];cases h;exact hk
  ·cases h
 | conv k x =>
  simp only[evD]at h
  simp only[res]
  split at h
  ·rename_i hx;rw[hx];cases h;exact hk
  ·cases h
 | ext i x =>
  simp only[evD]at h
  simp only[res]
  split at h
  ·rename_i hx;rw[hx];exact⟨_,h,hk⟩
  ·rename_i hx;rw[hx];exact⟨_,h,hk⟩
  ·cases h
 | fad off x =>
  simp only[evD]at h
  simp only[res]
  split at h<;>first|(cases h;done)|(rename_i hx;rw[hx];cases h;exact hk)
 | len x =>
  simp only[evD]at h
  simp only[res]
  split at h<;>first|(cases h;done)|(rename_i hx;rw[hx];cases h;exact hk)
 | cvB x =>
  simp only[evD]at h
  simp only[res]
  split at h<;>first|(cases h;done)|(rename_i hx;rw[hx];cases h;exact hk)
 | lens x =>
  simp only[evD]at h
  simp only[res]
  split at h<;>first|(cases h;done)|(rename_i hx;rw[hx];cases h;exact hk)
 | beq neg ks x y =>
  simp only[evD]at h
  simp only[res]
  split at h
  ·rename_i hx hy;rw[hx,hy];obtain⟨h1,h2⟩:=af h;cases h2;exact⟨of_decide_eq_true h1,hk⟩
  ·rename_i hx hy;rw[hx,hy];obtain⟨h1,h2⟩:=af h;cases h2;exact⟨of_decide_eq_true h1,hk⟩
  ·rename_i hx hy;rw[hx,hy];obtain⟨h1,h2⟩:=af h;cases h2
   simp only[x0a,x0b]at h1
   exact⟨h1.1,fun _=>hk,fun h0=>absurd h1.2 (by omega)⟩
  ·rename_i hx hy;rw[hx,hy];obtain⟨h1,h2⟩:=af h;cases h2;exact⟨of_decide_eq_true h1,hk⟩
  ·rename_i hx hy;rw[hx,hy];obtain⟨h1,h2⟩:=af h;cases h2;exact⟨of_decide_eq_true h1,hk⟩
  ·rename_i hx hy;rw[hx,hy];obtain⟨h1,h2⟩:=af h
   obtain⟨r,h3,h4⟩:=aq h2
   cases h4
   refine⟨of_decide_eq_true h1,?_⟩
   rw[h3]
   exact hk
  ·cases h
 | idxA len sz ag x i =>
  simp only[evD]at h
  simp only[res]
  split at h
  ·rename_i hx hy;rw[hx,hy];obtain⟨h1,h2⟩:=af h;cases h2
   simp only[x0a,x0b]at h1
   exact⟨h1.1.1,h1.1.2,h1.2,hk⟩
  ·rename_i hx hy;rw[hx,hy];obtain⟨h1,h2⟩:=af h;cases h2
   simp only[x0a,x0b]at h1
   refine⟨h1.1.1,h1.1.2,h1.2,?_⟩
   cases ag<;>exact hk
  ·cases h
 | idxS x i =>
  simp only[evD]at h
  simp only[res]
  split at h
  ·rename_i hx hy;rw[hx,hy];obtain⟨h1,h2⟩:=af h
   obtain⟨r,h3,h4⟩:=aq h2
   cases h4
   exact⟨of_decide_eq_true h1,r,h3,hk⟩
  ·cases h
 | iadS sz x i =>
  simp only[evD]at h
  simp only[res]
  split at h
  ·rename_i hx hy;rw[hx,hy];obtain⟨h1,h2⟩:=af h
   obtain⟨r,h3,h4⟩:=aq h2
   obtain⟨h5,h6⟩:=af h4
   cases h6
   exact⟨of_decide_eq_true h1,r,h3,of_decide_eq_true h5,hk⟩
  ·rename_i hx hy;rw[hx,hy];obtain⟨h1,h2⟩:=af h;cases h2
   simp only[x0a,x0b]at h1
   exact⟨h1.1.1,h1.1.2,h1.2,hk⟩
  ·rename_i hx hy;rw[hx,hy];obtain⟨h1,h2⟩:=af h
   obtain⟨⟨a,c⟩,h3,h4⟩:=aq h2
   obtain⟨h5,h6⟩:=af h4
   cases h6
   simp only[x0a,x0b]at h1 h5
   refine⟨h1.1,h1.2,?_⟩
   rw[h3]
   exact⟨h5,hk⟩
  ·cases h
 | iadA len sz x i =>
  simp only[evD]at h
  simp only[res]
  split at h
  ·rename_i hx hy;rw[hx,hy];obtain⟨h1,h2⟩:=af h;cases h2
   simp only[x0a,x0b]at h1
   exact⟨h1.1,h1.2,hk⟩
  ·rename_i hx hy;rw[hx,hy];obtain⟨h1,h2⟩:=af h;cases h2
   simp only[x0a,x0b]at h1
   exact⟨h1.1,h1.2,hk⟩
  ·cases h
 | ld n ag x =>
  simp only[evD]at h
  simp only[res]
  split at h
  ·rename_i hx;rw[hx]
   obtain⟨⟨a,es⟩,h1,h2⟩:=aq h
   obtain⟨r,h3,h4⟩:=aq h2
   obtain⟨h5,h6⟩:=af h4
   cases h6
   dsimp only
   rw[h1]
   refine⟨r,h3,of_decide_eq_true h5,?_⟩
   cases ag
   ·exact hk
   ·refine⟨fun g=>?_,fun g=>?_⟩
    ·simp only[Dn,g,if_true]at hk;exact hk
    ·simp only[Dn,g,if_false,x0o]at hk;exact hk
  ·rename_i hx;rw[hx];obtain⟨h1,h2⟩:=af h;cases h2;exact⟨of_decide_eq_true h1,hk⟩
  ·rename_i hx;rw[hx];obtain⟨h1,h2⟩:=af h;cases h2
   simp only[x0a,x0b]at h1
   refine⟨h1.1,?_⟩
   cases ag
   ·exact⟨h1.2,hk⟩
   ·refine⟨fun g=>?_,fun g=>?_⟩
    ·simp only[g,if_true]at hk;exact hk
    ·simp only[g,if_false,x0o]at hk;exact hk
  ·cases h
 | boxF x =>
  simp only[evD]at h
  simp only[res]
  revert h
  cases vd f x<;>intro h<;>first|(cases h;exact hk)|(obtain⟨h1,h2⟩:=af h;cases h2;exact⟨h1,hk⟩)
 | bld zs parts =>
  simp only[evD]at h
  simp only[res]
  obtain⟨h1,h2⟩:=af h
  cases h2
  simp only[x0f,x0a,x0b]at h1
  refine⟨fun p hp=>⟨(h1 p hp).1.1,(h1 p hp).1.2,Dp (h1 p hp).2⟩,fun g=>?_,fun g=>?_⟩
  ·rw[if_pos g]at hk;exact hk
  ·rw[if_neg (by rw[g];decide)]at hk;exact hk
 | blsF sz len zs parts =>
  simp only[evD]at h
  simp only[res]
  obtain⟨h1,h2⟩:=af h
  cases h2
  simp only[x0f,x0a,x0b]at h1
  exact⟨fun p hp=>⟨(h1.1.1 p hp).1.1,(h1.1.1 p hp).1.2,(h1.1.1 p hp).2⟩,h1.1.2,h1.2,hk⟩
 | mpl sh kt et ok z m x =>
  simp only[evD]at h
  simp only[res]
  split at h
  ·rename_i b hm
   rw[hm]
   split at h
   ·rename_i hb
    dsimp only
    rw[hb]
    obtain⟨h1,h2⟩:=af h
    cases h2
    simp only[x0a,x0b]at h1
    refine⟨h1.1.1,h1.1.2,rP h1.2,?_⟩
    cases ok<;>exact hk
   ·cases h
  ·cases h
 | add64 x y c =>
  simp only[evD]at h
  simp only[res]
  split at h
  ·rename_i hx hy hz
   rw[hx,hy,hz]
   obtain⟨h1,h2⟩:=af h
   cases h2
   simp only[x0a,x0b]at h1
   exact⟨h1.1.1.1.1.1,h1.1.1.1.1.2,h1.1.1.1.2,h1.1.1.2,h1.1.2,h1.2,hk⟩
  ·cases h
 | sub64 x y c =>
  simp only[evD]at h
  simp only[res]
  split at h
  ·rename_i hx hy hz
   rw[hx,hy,hz]
   obtain⟨h1,h2⟩:=af h
   cases h2
   simp only[x0a,x0b]at h1
   exact⟨h1.1.1.1.1.1,h1.1.1.1.1.2,h1.1.1.1.2,h1.1.1.2,h1.1.2,h1.2,hk⟩
  ·cases h
 | mk g xs =>
  simp only[evD]at h
  simp only[res]
  obtain⟨h1,h2⟩:=af h
  cases h2
  refine⟨fun x hx=>x0f.1 h1 x hx,fun g=>?_,fun g=>?_⟩
  ·rw[if_pos g]at hk;exact hk
  ·rw[if_neg (by rw[g];decide)]at hk;exact hk
 | slc sz x lo hi =>
  simp only[evD]at h
  simp only[res]
  split at h
  ·rename_i hx;rw[hx];obtain⟨h1,h2⟩:=af h
   obtain⟨a,h3,h4⟩:=aq h2
   obtain⟨b,h5,h6⟩:=aq h4
   obtain⟨h7,h8⟩:=af h6
   cases h8
   simp only[x0a,x0b,x0f]at h1 h7
   exact⟨h1,gF h3 (gF h5 ⟨h7.1,h7.2,hk⟩)⟩
  ·rename_i hx;rw[hx]
   obtain⟨a,h3,h4⟩:=aq h
   obtain⟨b,h5,h6⟩:=aq h4
   obtain⟨h7,h8⟩:=af h6
   cases h8
   simp only[x0a,x0b]at h7
   exact gF h3 (gF h5 ⟨h7.1,h7.2,hk⟩)
  ·rename_i hx;rw[hx]
   obtain⟨⟨c,es⟩,h1,h2⟩:=aq h
   obtain⟨h0,h2⟩:=af h2
   obtain⟨a,h3,h4⟩:=aq h2
   obtain⟨b,h5,h6⟩:=aq h4
   obtain⟨h7,h8⟩:=af h6
   cases h8
   simp only[x0a,x0b]at h0 h7
   dsimp only
   rw[h1]
   exact⟨h0,gF h3 (gF h5 ⟨h7.1,h7.2,hk⟩)⟩
  ·cases h
 | mn x y =>
  simp only[evD]at h
  simp only[res]
  split at h
  ·rename_i hx hy;rw[hx,hy];obtain⟨h1,h2⟩:=af h;cases h2;exact⟨of_decide_eq_true h1,hk⟩
  ·cases h
 | mx x y =>
  simp only[evD]at h
  simp only[res]
  split at h
  ·rename_i hx hy;rw[hx,hy];obtain⟨h1,h2⟩:=af h;cases h2;exact⟨of_decide_eq_true h1,hk⟩
  ·cases h
 | _=>cases h
structure CE where
 pl:Nat->List D->Option D
 ow:Nat->List D->Option (Nat×List (List D))
 nw:Nat->List D->Option D
 hd:Nat->List D->Option D
 lx:Nat->Nat->List (List D)->Nat->List (List D)->List D->Option (D×List (List D)×List (List D))
def CE.holds(ce:CE)(C:CC):Prop:=(∀g ds d,ce.pl g ds=some d->C g ds d [])/\(∀g ds sz es,ce.ow g ds=some (sz,es)->C g ds .any [.own sz es])/\(∀g ds d,ce.nw g ds=some d->C g ds d [.nilp])/\(∀g ds d,ce.hd g ds=some d->okR d=true/\C g ds d [.nils]) /\
 ∀g sz1 es1 sz2 es2 W d es1' es2',ce.lx g sz1 es1 sz2 es2 W=some (d,es1',es2')->0<es1'.length/\0<es2'.length/\C g (.blk sz1 es1::.blk sz2 es2::W) d [.blk sz1 es1',.blk sz2 es2',.nilp]
def wy(dst:Option Nat)(d:D):KE:=match dst with
 | some t=>([(t,d)],[])
 | none=>([],[])
theorem oX{dst:Option Nat}{d:D}{ws:List (Nat×D)}{ks:List (Nat×Bool)}{K:List (Nat×D)->List (Nat×Bool)->Prop}(h:wy dst d=(ws,ks))(hk:K ws ks):en dst K d:=by
 cases dst<;>(cases h;exact hk)
def evX(ce:CE)(f:Nat->D)(dst:Option Nat):NOp->Option KE
 | .asg x=>aK dst fun t=>match vd f x with
  | .ref (.r c) k n=>if c=rt t 0 then some ([(t,.ref (.r c) k n)],[]) else match f c with
   | .blk sz es=>some ([(t,.ref (.r (rt t 0)) k n),(rt t 0,.blk sz es),(c,.any)],[(rt t 0,true)])
   | _=>none
  | d=>aj (isS d) (some ([(t,d)],[]))
 | .frz x=>aK dst fun t=>match vd f x with
  | .ref (.r c) k n=>aj (jP f (.ref (.r c) k n)) (some ([(t,dp1 f (.ref (.r c) k n)),(c,.any)],[]))
  | d=>aj (isS d) (some ([(t,d)],[]))
 | .nilo sz=>aK dst fun t=>aj (decide (0<sz)) (some ([(t,.ref (.r (rt t 0)) 0 0),(rt t 0,.blk sz [])],[(rt t 0,true)]))
 | .box ns x=>aK dst fun t=>aK (BG f (vd f x) ns) fun p=>aj (!p.2.contains (rt t 0)) (some ((t,.adr (.r (rt t 0)) 0 0)::(rt t 0,.blk p.1.length [p.1])::cM p.2,[(rt t 0,true)]))
 | .alc zs=>aK dst fun t=>some ([(t,.adr (.r (rt t 0)) 0 0),(rt t 0,.blk zs.length [zs])],[(rt t 0,true)])
 | .bls sz len zs ns parts=>aK dst fun t=>aK (xe f sz ns parts (List.replicate len zs) []) fun p=>aj (bG p.2&&!p.2.contains (rt t 0)) (some ((t,.ref (.r (rt t 0)) 0 len)::(rt t 0,.blk sz p.1)::cM p.2,[(rt t 0,true)]))
 | .mks sz by_ zs n c=>aK dst fun t=>match vd f n,vd f c with
  | .int _ n,.int _ c=>aj (decide (0<=n)&&decide (n<=c)&&decide (c*by_<=140737488355328)) (some ([(t,.ref (.r (rt t 0)) 0 n.toNat),(rt t 0,.blk sz (List.replicate c.toNat zs))],[(rt t 0,true)]))
  | _,_=>none
 | .st n ns a v=>aj dst.isNone (aK (BG f (vd f v) ns) fun p=>aj (decide (p.1.length=n)) (match vd f a with
  | .adr (.r b) i off=>aj (!p.2.contains b) (match f b with
   | .blk sz es=>aK es[i]? fun r=>aj (decide (off+n<=r.length)) (some ((b,.blk sz (bK es i off n p.1))::cM p.2,stK (vd f v) ns b))
   | _=>none)
  | .adr (.n b i0 o0) i off=>aj (decide (p.2=[])&&p.1.all aA) (match f b with
   | .blk sz0 es0=>aK es0[i0]? fun row0=>match row0[o0]? with
    | some (.own sz es)=>aK es[i]? fun r=>aj (decide (off+n<=r.length)) (some ([(b,.blk sz0 (bK es0 i0 o0 1 [.own sz (bK es i off n p.1)]))],[]))
    | _=>none
   | _=>none)
  | _=>none))
 | .app sz by_ mv x y=>aK dst fun t=>aK (DK f mv (vd f y) sz) fun p=>aj (!p.2.contains (rt t 0)) (match vd f x with
  | .nils=>aj (decide (p.1.length*by_<=140737488355328)) (some ((t,.ref (.r (rt t 0)) 0 p.1.length)::(rt t 0,.blk sz p.1)::cM p.2,[(rt t 0,true)]))
  | .ref (.r c) k n=>aj (decide (c≠rt t 0)&&!p.2.contains c) (match f c with
   | .blk sz' es=>aj (decide (sz'=sz)&&decide (k+n<=es.length)&&decide ((n+p.1.length)*by_<=140737488355328)) (some ((t,.ref (.r (rt t 0)) 0 (n+p.1.length))::(rt t 0,.blk sz ((es.drop k).take n++p.1))::(c,.any)::cM p.2,[(rt t 0,true)]))
   | _=>none)
  | .ref (.n c i o) k n=>aj (decide (c≠rt t 0)&&!p.2.contains c) (match f c with
   | .blk sz0 es0=>aK es0[i]? fun row0=>match row0[o]? with
    | some (.own sz' es)=>aj (decide (sz'=sz)&&decide (k+n<=es.length)&&decide ((n+p.1.length)*by_<=140737488355328)) (some ((t,.ref (.r (rt t 0)) 0 (n+p.1.length))::(rt t 0,.blk sz ((es.drop k).take n++p.1))::(c,.blk sz0 (bK es0 i o 1 [.any]))::cM p.2,[(rt t 0,true)]))
    | _=>none
   | _=>none)
  | _=>none)
 | .ldF n x=>aK dst fun t=>match vd f x with
  | .adr (.r c) i off=>match f c with
   | .blk _ es=>aK es[i]? fun r=>aj (decide (off+n<=r.length)) (some ([(t,.agg (((r.drop off).take n).map bq)),(c,.any)],[]))
   | _=>none
  | _=>none
 | .mkm kt et=>aK dst fun t=>some ([(t,.mrf (rt t 0)),(rt t 0,.mp kt et [] [])],[(rt t 0,true)])
 | .mpu sh kt et z m x v=>aj dst.isNone (match vd f m with
  | .mrf b=>match f b with
   | .mp kt' et' ks vs=>aj (decide (kt'=kt)&&decide (et'=et)&&decide (ks.length<maxLen)&&tq sh (vd f x)&&Cp z (vd f v)) (some ([(b,.mp kt et (vd f x::ks) (vd f v::vs))],[]))
   | _=>none
  | _=>none)
 | .call g xs _=>aj (xs.all fun x=>om f (vd f x)) (aK (ce.pl g (xs.map (dpv f))) fun d=>aj (isF d||xs.all fun x=>isV (vd f x)) (some (wy dst d)))
 | .callF g xs=>aK dst fun t=>aj (xs.all fun x=>om f (vd f x)) (aK (ce.ow g (xs.map (dpv f))) fun p=>some ([(t,.ref (.r (rt t 0)) 0 p.2.length),(rt t 0,.blk p.1 p.2)],[(rt t 0,true)]))
 | .callv x xs=>match vd f x with
  | .fn g cs=>aj (xs.all fun x=>om f (vd f x)) (aK (ce.pl g (xs.map (dpv f)++cs)) fun d=>aj (isF d||xs.all fun x=>isV (vd f x)) (some (wy dst d)))
  | .fnx g cs=>aj ((xs.all fun x=>om f (vd f x))&&cs.all (jP f)) (aK (ce.pl g (xs.map (dpv f)++cs.map (dp1 f))) fun d=>aj (isF d) (some (wy dst d)))
  | _=>none
 | .callA g xs=>aK dst fun t=>aj (xs.all fun x=>isV (vd f x)) (aK (ce.hd g (xs.map (vd f))) fun d=>some ((t,fZ t d)::aS t d,fF t d))
 | op=>aK (evD f op) fun d=>some (wy dst d)
theorem lV{f:Nat->D}{xs:List Opd}(h:(xs.all fun x=>om f (vd f x))=true):∀x∈xs,bW f (vd f x):=fun x hx=>uJ (x0f.1 h x hx)
theorem noC{bs:List Nat}{b:Nat}(h:(!bs.contains b)=true):bs.contains b=false:=by simpa using h
theorem tb{C:CC}{ce:CE}(H:ce.holds C){f:Nat->D}{dst:Option Nat}{op:NOp}{ws:List (Nat×D)}{ks:List (Nat×Bool)}{K:List (Nat×D)->List (Nat×Bool)->Prop}(h:evX ce f dst op=some (ws,ks))(hk:K ws ks):aG C f dst K op:=by
 have other:∀{op:NOp},aK (evD f op) (fun d=>some (wy dst d))=some (ws,ks)->res f (en dst K) op:=fun h=>by
  obtain⟨d,h1,h2⟩:=aq h
  exact If h1 (oX (Option.some.inj h2) hk)
 cases op with
 | asg x =>
  obtain⟨t,ht,h'⟩:=aq h
  clear h
  subst ht
  have h:=h'
  clear h'
  try dsimp only at h
  simp only[aG]
  split at h
  ·rename_i c k n hx
   rw[hx]
   dsimp only
   split at h
   ·rename_i hc;rw[if_pos hc];cases h;exact hk
   ·rename_i hc;rw[if_neg hc]
    split at h
    ·rename_i hb;rw[hb];cases h;exact hk
    ·cases h
  ·rename_i hn
   obtain⟨h1,h2⟩:=af h
   cases h2
   split
   ·rename_i c k n hx;exact absurd hx (hn c k n)
   ·exact⟨h1,hk⟩
 | frz x =>
  obtain⟨t,ht,h'⟩:=aq h
  clear h
  subst ht
  have h:=h'
  clear h'
  try dsimp only at h
  simp only[aG]
  split at h
  ·rename_i c k n hx
   rw[hx]
   obtain⟨h1,h2⟩:=af h
   cases h2
   exact⟨kM h1,hk⟩
  ·rename_i hn
   obtain⟨h1,h2⟩:=af h
   cases h2
   split
   ·rename_i c k n hx;exact absurd hx (hn c k n)
   ·exact⟨h1,hk⟩
 | nilo sz =>
  obtain⟨t,ht,h'⟩:=aq h
  clear h
  subst ht
  have h:=h'
  clear h'
  obtain⟨h1,h2⟩:=af h
  cases h2
  exact⟨of_decide_eq_true h1,hk⟩
 | box ns x =>
  obtain⟨t,ht,h'⟩:=aq h
  clear h
  subst ht
  have h:=h'
  clear h'
  obtain⟨⟨cs,bs⟩,h1,h⟩:=aq h
  obtain⟨h2,h⟩:=af h
  cases h
  simp only[aG]
  exact sI h1 ⟨noC h2,hk⟩
 | alc zs =>
  obtain⟨t,ht,h'⟩:=aq h
  clear h
  subst ht
  have h:=h'
  clear h'
  cases h
  exact hk
 | bls sz len zs ns parts =>
  obtain⟨t,ht,h'⟩:=aq h
  clear h
  subst ht
  have h:=h'
  clear h'
  obtain⟨⟨es,bs⟩,h1,h⟩:=aq h
  obtain⟨h2,h⟩:=af h
  cases h
  rw[x0a]at h2
  simp only[aG]
  exact sf h1 ⟨h2.1,noC h2.2,hk⟩
 | mks sz by_ zs n c =>
  obtain⟨t,ht,h'⟩:=aq h
  clear h
  subst ht
  have h:=h'
  clear h'
  try dsimp only at h
  simp only[aG]
  split at h
  ·rename_i hx hy
   rw[hx,hy]
   obtain⟨h1,h2⟩:=af h
   cases h2
   simp only[x0a,x0b]at h1
   exact⟨h1.1.1,h1.1.2,h1.2,hk⟩
  ·cases h
 | st n ns a v =>
  obtain⟨h0,h⟩:=af h
  obtain⟨⟨cs,bs⟩,h1,h⟩:=aq h
  obtain⟨h2,h⟩:=af h
  simp only[aG]
  refine And.intro (by cases dst<;>first|rfl|cases h0) (sI h1 ⟨of_decide_eq_true h2,?_⟩)
  try dsimp only at h ⊢
  split at h
  ·rename_i b i off hx
   rw[hx]
   obtain⟨h3,h⟩:=af h
   refine⟨noC h3,?_⟩
   split at h
   ·rename_i hb
    rw[hb]
    obtain⟨r,h4,h⟩:=aq h
    obtain⟨h5,h⟩:=af h
    cases h
    exact⟨r,h4,of_decide_eq_true h5,hk⟩
   ·cases h
  ·rename_i b i0 o0 i off hx
   rw[hx]
   obtain⟨h3,h⟩:=af h
   simp only[x0a,x0b,x0f]at h3
   refine⟨h3.1,h3.2,?_⟩
   split at h
   ·rename_i hb
    rw[hb]
    obtain⟨row0,h4,h⟩:=aq h
    split at h
    ·rename_i sz es hr
     obtain⟨r,h5,h⟩:=aq h
     obtain⟨h6,h⟩:=af h
     cases h
     exact⟨row0,h4,sz,es,hr,r,h5,of_decide_eq_true h6,hk⟩
    ·cases h
   ·cases h
  ·cases h
 | app sz by_ mv x y =>
  obtain⟨t,ht,h'⟩:=aq h
  clear h
  subst ht
  have h:=h'
  clear h'
  obtain⟨⟨rows,bs⟩,h1,h⟩:=aq h
  obtain⟨h2,h⟩:=af h
  simp only[aG]
  refine DL h1 ⟨noC h2,?_⟩
  try dsimp only at h ⊢
  split at h
  ·rename_i hx
   rw[hx]
   obtain⟨h3,h⟩:=af h
   cases h
   exact⟨of_decide_eq_true h3,hk⟩
  ·rename_i c k n hx
   rw[hx]
   obtain⟨h3,h⟩:=af h
   rw[x0a]at h3
   refine⟨of_decide_eq_true h3.1,noC h3.2,?_⟩
   split at h
   ·rename_i hb
    rw[hb]
    obtain⟨h4,h⟩:=af h
    cases h
    simp only[x0a,x0b]at h4
    exact⟨h4.1.1,h4.1.2,h4.2,hk⟩
   ·cases h
  ·rename_i c i o k n hx
   rw[hx]
   obtain⟨h3,h⟩:=af h
   rw[x0a]at h3
   refine⟨of_decide_eq_true h3.1,noC h3.2,?_⟩
   split at h
   ·rename_i hb
    rw[hb]
    obtain⟨row0,h4,h⟩:=aq h
    split at h
    ·rename_i sz' es hr
     obtain⟨h5,h⟩:=af h
     cases h
     simp only[x0a,x0b]at h5
     obtain⟨⟨rfl,h6⟩,h7⟩:=h5
     exact⟨row0,h4,es,hr,h6,h7,hk⟩
    ·cases h
   ·cases h
  ·cases h
 | ldF n x =>
  obtain⟨t,ht,h'⟩:=aq h
  clear h
  subst ht
  have h:=h'
  clear h'
  simp only[aG]
  split at h
  ·rename_i c i off hx
   rw[hx]
   split at h
   ·rename_i hb
    obtain⟨r,h1,h⟩:=aq h
    obtain⟨h2,h⟩:=af h
    cases h
    dsimp only
    rw[hb]
    exact⟨r,h1,of_decide_eq_true h2,hk⟩
   ·cases h
  ·cases h
 | mkm kt et =>
  obtain⟨t,ht,h'⟩:=aq h
  clear h
  subst ht
  cases h'
  exact hk
 | mpu sh kt et z m x v =>
  obtain⟨h0,h⟩:=af h
  simp only[aG]
  refine And.intro (by cases dst<;>first|rfl|cases h0) ?_
  split at h
  ·rename_i b hm
   rw[hm]
   split at h
   ·rename_i hb
    dsimp only
    rw[hb]
    obtain⟨h1,h2⟩:=af h
    cases h2
    simp only[x0a,x0b]at h1
    exact⟨h1.1.1.1.1,h1.1.1.1.2,h1.1.1.2,rP h1.1.2,Cq h1.2,hk⟩
   ·cases h
  ·cases h
 | call g xs ms =>
  obtain⟨h1,h⟩:=af h
  obtain⟨d,h2,h⟩:=aq h
  obtain⟨h3,h⟩:=af h
  rw[x0u]at h3
  exact⟨lV h1,d,H.1 _ _ _ h2,h3,oX (Option.some.inj h) hk⟩
 | callF g xs =>
  obtain⟨t,ht,h'⟩:=aq h
  clear h
  subst ht
  have h:=h'
  clear h'
  obtain⟨h1,h⟩:=af h
  obtain⟨⟨sz,es⟩,h2,h⟩:=aq h
  cases h
  exact⟨lV h1,sz,es,H.2.1 _ _ _ _ h2,hk⟩
 | callA g xs =>
  obtain⟨t,ht,h'⟩:=aq h
  clear h
  subst ht
  have h:=h'
  clear h'
  obtain⟨h1,h⟩:=af h
  obtain⟨d,h2,h⟩:=aq h
  cases h
  obtain⟨h3,h4⟩:=H.2.2.2.1 _ _ _ h2
  exact⟨fun x hx=>x0f.1 h1 x hx,.inr ⟨d,h3,h4,hk⟩⟩
 | callv x xs =>
  dsimp only[evX]at h
  simp only[aG]
  split at h
  ·rename_i hx
   rw[hx]
   obtain⟨h1,h⟩:=af h
   obtain⟨d,h2,h⟩:=aq h
   obtain⟨h3,h⟩:=af h
   rw[x0u]at h3
   exact⟨lV h1,d,H.1 _ _ _ h2,h3,oX (Option.some.inj h) hk⟩
  ·rename_i hx
   rw[hx]
   obtain⟨h1,h⟩:=af h
   rw[x0a]at h1
   obtain⟨d,h2,h⟩:=aq h
   obtain⟨h3,h⟩:=af h
   exact⟨lV h1.1,fun c hc=>kM (x0f.1 h1.2 c hc),d,H.1 _ _ _ h2,h3,oX (Option.some.inj h) hk⟩
  ·cases h
 | _=>first|exact other h|(exfalso;have h':aK none (fun d:D=>some (wy dst d))=some (ws,ks):=h;cases h')
def vN(e:Env)(dst:Option Nat):Env:=match dst with
 | none=>e
 | some t=>(t,.tup [])::e
theorem m7{e:Env}{dst:Option Nat}{K:Env->Prop}(h:K (vN e dst)):iB e dst K:=by cases dst<;>exact h
def wE(ce:CE):List au->Env->Option Env
 | [],e=>some e
 | o::os,e=>match o.guard with
  | none=>aK (evX ce (ac e) o.dst o.op) fun p=>wE ce os (p.1++dG p.2 e)
  | some (s,want)=>match ac e s with
   | .bool b=>if b=want then aK (evX ce (ac ((s,.bool want)::e)) o.dst o.op) fun p=>wE ce os (p.1++dG p.2 ((s,.bool want)::e)) else wE ce os (vN ((s,.bool !want)::e) o.dst)
   | .tup []=>wE ce os (vN e o.dst)
   | _=>none
theorem mi{C:CC}{ce:CE}(H:ce.holds C){K:Env->Prop}:∀{ops:List au} {e e':Env},wE ce ops e=some e'->K e'->i9 C K ops e
 | [],e,e',h,hk=>by cases h;exact hk
 | o::os,e,e',h,hk=>by
  unfold wE at h
  unfold i9
  split at h
  ·rename_i hg
   rw[hg]
   obtain⟨⟨ws,ks⟩,h1,h2⟩:=aq h
   exact tb H h1 (mi H h2 hk)
  ·rename_i s want hg
   rw[hg]
   dsimp only
   split at h
   ·rename_i b hs
    rw[hs]
    dsimp only
    split at h
    ·rename_i hb
     subst hb
     obtain⟨⟨ws,ks⟩,h1,h2⟩:=aq h
     exact⟨fun _=>tb H h1 (mi H h2 hk),fun e1=>by cases b<;>cases e1⟩
    ·rename_i hb
     exact⟨fun e1=>absurd e1 hb,fun _=>m7 (mi H h hk)⟩
   ·rename_i hs
    rw[hs]
    exact m7 (mi H h hk)
   ·cases h
def wD(ce:CE)(hs:List Nat):List au->Env->List (List Nat×List Nat)->Option Env
 | [],e,acc=>aj (lm hs acc.reverse) (some e)
 | o::os,e,acc=>aj (chk (ac e) o) (match o.guard with
  | none=>aK (evX ce (ac e) o.dst o.op) fun p=>aj (wOk (gQ (ac e) o) p.1 p.2) (wD ce hs os (p.1++dG p.2 e) ((gQ (ac e) o,wrK p.1 p.2)::acc))
  | some (s,want)=>match ac e s with
   | .bool b=>if b=want then aK (evX ce (ac e) o.dst o.op) fun p=>aj (wOk (gQ (ac e) o) p.1 p.2) (wD ce hs os (p.1++dG p.2 e) ((gQ (ac e) o,wrK p.1 p.2)::acc)) else wD ce hs os (vN e o.dst) ((gQ (ac e) o,uK o.dst)::acc)
   | .tup []=>wD ce hs os (vN e o.dst) ((gQ (ac e) o,uK o.dst)::acc)
   | _=>none)
theorem mh{C:CC}{ce:CE}(H:ce.holds C){K:Env->Prop}{hs:List Nat}:∀{ops:List au} {e e':Env} {acc:List (List Nat×List Nat)},wD ce hs ops e acc=some e'->K e'->jB C hs K ops e acc
 | [],e,e',acc,h,hk=>by
  obtain⟨h1,h2⟩:=af h
  cases h2
  exact⟨h1,hk⟩
 | o::os,e,e',acc,h,hk=>by
  unfold wD at h
  unfold jB
  obtain⟨h1,h⟩:=af h
  refine⟨h1,?_⟩
  split at h
  ·rename_i hg
   rw[hg]
   obtain⟨⟨ws,ks⟩,h2,h⟩:=aq h
   obtain⟨h3,h⟩:=af h
   exact tb H h2 ⟨h3,mh H h hk⟩
  ·rename_i s want hg
   rw[hg]
   dsimp only
   split at h
   ·rename_i b hs
    rw[hs]
    dsimp only
    split at h
    ·rename_i hb
     subst hb
     obtain⟨⟨ws,ks⟩,h2,h⟩:=aq h
     obtain⟨h3,h⟩:=af h
     exact⟨fun _=>tb H h2 ⟨h3,mh H h hk⟩,fun e1=>by cases b<;>cases e1⟩
    ·rename_i hb
     exact⟨fun e1=>absurd e1 hb,fun _=>m7 (mh H h hk)⟩
   ·rename_i hs
    rw[hs]
    exact m7 (mh H h hk)
   ·cases h
def sa(e:Env):Env:=e.map fun p=>(p.1,ac e p.1)
theorem sy(e:Env):lT e (sa e):=by
 have key:∀l:Env,lT e (l.map fun p=>(p.1,ac e p.1)):=by
  intro l
  induction l with
  | nil=>trivial
  | cons p l ih=>exact⟨rfl,ih⟩
 exact key e
def evL(body:Env->Option (bS×Env)):Nat->Env->Option (bS×Env)
 | 0,_=>none
 | n+1,e=>match body e with
  | some (.nrm,e')=>evL body n (sa e')
  | r=>r
def evC(ce:CE):cL->Env->Option (bS×Env)
 | .skip,e=>some (.nrm,e)
 | .reg dr hs keep ops,e=>match dr with
  | false=>aK (wE ce ops e) fun e'=>some (.nrm,prune keep e')
  | true=>aK (wD ce hs ops e []) fun e'=>some (.nrm,prune keep e')
 | .seq x y,e=>match evC ce x e with
  | some (.nrm,e')=>evC ce y e'
  | r=>r
 | .cond c x y,e=>match vd (ac e) c with
  | .bool true=>evC ce x e
  | .bool false=>evC ce y e
  | _=>none
 | .block id c,e=>match evC ce c e with
  | some (.ext i,e')=>if i=id then some (.nrm,e') else some (.ext i,e')
  | r=>r
 | .loop c,e=>evL (evC ce c) 5000 (sa e)
 | .exit id,e=>some (.ext id,e)
 | .ret,e=>some (.ret,e)
theorem Ig{C:CC}{c:cL}{body:Env->Option (bS×Env)}(hb:∀{Q:bS->Env->Prop} {e e':Env} {t:bS},body e=some (t,e')->Q t e'->wpN C c Q e){Q:bS->Env->Prop}{n:Nat}{e e':Env}{t:bS}
  (h:evL body n (sa e)=some (t,e')) (hk:Q t e'):wpN C (.loop c) Q e:=by
 refine⟨Nat×Env,fun s=>s.2,fun s=>evL body s.1 s.2=some (t,e'),fun s=>s.1,(n,sa e),h,sy e,?_⟩
 rintro⟨k,e1⟩ hI
 dsimp only at hI ⊢
 cases k with
 | zero=>cases hI
 | succ k =>
  unfold evL at hI
  split at hI
  ·rename_i e2 hx
   exact hb hx ⟨(k,sa e2),hI,Nat.lt_succ_self k,sy e2⟩
  ·rename_i hn
   cases hbe:body e1 with
   | none=>rw[hbe]at hI;cases hI
   | some p =>
    obtain⟨t2,e2⟩:=p
    rw[hbe]at hI
    cases hI
    refine hb hbe ?_
    cases t with
    | nrm=>exact absurd hbe (hn e')
    | ext i=>exact hk
    | ret=>exact hk
theorem gS{C:CC}{ce:CE}(H:ce.holds C):∀{c:cL} {Q:bS->Env->Prop} {e e':Env} {t:bS},evC ce c e=some (t,e')->Q t e'->wpN C c Q e
 | .skip,Q,e,e',t,h,hk=>by cases h;exact hk
 | .reg dr hs keep ops,Q,e,e',t,h,hk=>by
  unfold evC at h
  unfold wpN
  cases dr
  ·obtain⟨e1,h1,h2⟩:=aq h
   cases h2
   exact mi H h1 hk
  ·obtain⟨e1,h1,h2⟩:=aq h
   cases h2
   exact mh H h1 hk
 | .seq x y,Q,e,e',t,h,hk=>by
  unfold evC at h
  unfold wpN
  cases hx:evC ce x e with
  | none=>rw[hx]at h;cases h
  | some p =>
   obtain⟨t1,e1⟩:=p
   rw[hx]at h
   refine gS H hx ?_
   cases t1 with
   | nrm=>exact gS H h hk
   | ext i=>cases h;exact hk
   | ret=>cases h;exact hk
 | .cond c x y,Q,e,e',t,h,hk=>by
  unfold evC at h
  unfold wpN
  split at h
  ·rename_i hc;rw[hc]
   exact⟨fun _=>gS H h hk,fun e1=>by cases e1⟩
  ·rename_i hc;rw[hc]
   exact⟨fun e1=>(by cases e1),fun _=>gS H h hk⟩
  ·cases h
 | .block id c,Q,e,e',t,h,hk=>by
  unfold evC at h
  unfold wpN
  cases hx:evC ce c e with
  | none=>rw[hx]at h;cases h
  | some p =>
   obtain⟨t1,e1⟩:=p
   rw[hx]at h
   refine gS H hx ?_
   cases t1 with
   | nrm=>cases h;exact hk
   | ret=>cases h;exact hk
   | ext i =>
    dsimp only at h ⊢
    split at h
    ·rename_i hi;rw[if_pos hi];cases h;exact hk
    ·rename_i hi;rw[if_neg hi];cases h;exact hk
 | .loop c,Q,e,e',t,h,hk=>Ig (fun h1 h2=>gS H h1 h2) h hk
 | .exit id,Q,e,e',t,h,hk=>by cases h;exact hk
 | .ret,Q,e,e',t,h,hk=>by cases h;exact hk
def yB(e:Env)(r:Nat×Option (Nat×Bool)):Bool:=match r with
 | (t,none)=>decide (t<10000)&&om (ac e) (ac e t)
 | (t,some (n,_))=>decide (t<10000)&&match ac e t with
  | .adr p i off=>match aX (ac e) p with
   | some (_,es)=>decide (off+n<=(es[i]?.getD []).length)
   | none=>false
  | _=>false
theorem DE{e:Env}{r:Nat×Option (Nat×Bool)}(h:yB e r=true):AN e r:=by
 obtain⟨t,o⟩:=r
 cases o with
 | none =>
  unfold yB at h
  rw[x0a]at h
  exact⟨of_decide_eq_true h.1,uJ h.2⟩
 | some p =>
  obtain⟨n,ag⟩:=p
  unfold yB at h
  rw[x0a]at h
  refine⟨of_decide_eq_true h.1,?_⟩
  have h2:=h.2
  clear h
  split at h2
  ·rename_i p i off hx
   rw[hx]
   dsimp only
   split at h2
   ·rename_i hg
    rw[hg]
    exact of_decide_eq_true h2
   ·cases h2
  ·cases h2
def AQ(rs:List (Nat×Option (Nat×Bool)))(e:Env):Option D:=aj (rs.all (yB e)) (some (match rs with
 | [r]=>mY e r
 | rs=>.tup (rs.map (mY e))))
theorem mZ{rs:List (Nat×Option (Nat×Bool))}{e:Env}{d:D}(h:AQ rs e=some d):ef rs d e:=by
 obtain⟨h1,h2⟩:=af h
 refine⟨fun r hr=>DE (x0f.1 h1 r hr),?_⟩
 rcases rs with _|⟨r,_|⟨r2,rs⟩⟩
 ·cases h2;rfl
 ·cases h2;rfl
 ·cases h2;rfl
def I7(rs:List (Nat×Option (Nat×Bool)))(e:Env):Option (Nat×List (List D)):=match rs with
 | [(t,none)]=>aj (decide (t<10000)) (match ac e t with
  | .ref (.r b) k n=>match ac e b with
   | .blk sz es=>aj (decide (k=0)&&decide (n=es.length)&&decide (0<sz)&&es.all fun r=>r.all bP) (some (sz,es))
   | _=>none
  | .nils=>some (1,[])
  | _=>none)
 | _=>none
theorem Gg{rs:List (Nat×Option (Nat×Bool))}{e:Env}{sz:Nat}{es:List (List D)}(h:I7 rs e=some (sz,es)):lI rs sz es e:=by
 unfold I7 at h
 split at h
 ·rename_i t
  obtain⟨h1,h⟩:=af h
  split at h
  ·rename_i b k n hx
   split at h
   ·rename_i hb
    obtain⟨h2,h3⟩:=af h
    cases h3
    simp only[x0a,x0b,x0f]at h2
    refine⟨h2.1.2,h2.2,of_decide_eq_true h1,?_⟩
    rw[hx]
    exact⟨h2.1.1.1,h2.1.1.2,hb⟩
   ·cases h
  ·rename_i hx
   cases h
   refine⟨by decide,(fun r hr=>by cases hr),of_decide_eq_true h1,?_⟩
   rw[hx]
  ·cases h
 ·cases h
def wF:D->Bool
 | .any=>true
 | .nils=>true
 | .ref _ _ _=>true
 | .blk _ es=>es.all fun r=>r.all bP
 | d=>bP d
theorem Ab{d:D}(h:wF d=true):ml d:=by
 unfold wF at h
 unfold ml
 cases d<;>dsimp only at h ⊢<;>first|trivial|exact h|(simp only[x0f]at h;exact h)
def Nt(rs:List (Nat×Option (Nat×Bool)))(e:Env):Option D:=aK (AQ rs (prune (rs.map (·.1)) e)) fun d=>aj ((prune (rs.map (·.1)) e).all fun p=>wF p.2&&(!decide (p.1<10000)||!isB p.2)) (some d)
theorem Gf{rs:List (Nat×Option (Nat×Bool))}{e:Env}{d:D}(h:Nt rs e=some d):qB rs d e:=by
 obtain⟨x,h1,h⟩:=aq h
 obtain⟨h2,h⟩:=af h
 cases h
 refine⟨mZ h1,fun p hp=>?_⟩
 have h3:=x0f.1 h2 p hp
 simp only[x0a,x0u,x0t,x0x]at h3
 exact⟨Ab h3.1,fun g=>by rcases h3.2 with h4|h4;exact absurd g h4;exact h4⟩
def uQ(ce:CE)(nf:ar)(ds:List D):Option Env:=aj (decide (ds.length=nf.np)) (match evC ce nf.body (params 0 ds) with
 | some (.nrm,e)=>some e
 | some (.ret,e)=>some e
 | _=>none)
theorem mj{C:CC}{ce:CE}(H:ce.holds C){nf:ar}{ds:List D}{e:Env}(h:uQ ce nf ds=some e):ds.length=nf.np/\∀R:Env->Prop,R e->wpN C nf.body (fun t e=>(match t with
  | .ext _=>False
  | _=>True)/\R e) (params 0 ds):=by
 obtain⟨h1,h⟩:=af h
 refine⟨of_decide_eq_true h1,fun R hR=>?_⟩
 split at h
 ·rename_i hx;cases h;exact gS H hx ⟨trivial,hR⟩
 ·rename_i hx;cases h;exact gS H hx ⟨trivial,hR⟩
 ·cases h
def pL(f:Nat->D):D->Option D
 | .ref (.r b) k n=>match f b with
  | .blk sz es=>aj (decide (k=0)&&decide (n=es.length)) (some (.own sz es))
  | _=>none
 | d=>aj (isV d) (some d)
theorem rN{f:Nat->D}{d r:D}(h:pL f d=some r):eG f d r:=by
 unfold pL at h
 split at h
 ·rename_i b k n
  split at h
  ·rename_i hb
   obtain⟨h1,h2⟩:=af h
   cases h2
   simp only[x0a,x0b]at h1
   exact⟨h1.1,h1.2,hb⟩
  ·cases h
 ·rename_i hn
  obtain⟨h1,h2⟩:=af h
  cases h2
  unfold eG
  cases d<;>first|(simp[isV]at h1;done)|exact⟨h1,rfl⟩
def tj(f:Nat->D):List D->Option (List D)
 | []=>some []
 | d::ds=>aK (pL f d) fun r=>aK (tj f ds) fun rs=>some (r::rs)
theorem nE{f:Nat->D}:∀{ds rs:List D},tj f ds=some rs->mo f ds rs
 | [],rs,h=>by cases h;trivial
 | d::ds,rs,h=>by
  obtain⟨r,h1,h⟩:=aq h
  obtain⟨rs',h2,h⟩:=aq h
  cases h
  exact⟨rN h1,nE h2⟩
def DF(rs:List (Nat×Option (Nat×Bool)))(e:Env):Option D:=match rs with
 | [(t,none)]=>aj (decide (t<10000)) (match ac e t with
  | .agx ds=>aK (tj (ac e) ds) fun Rs=>aj (bG (ds.flatMap cX)) (some (.agg Rs))
  | .ref (.r b) k n=>pL (ac e) (.ref (.r b) k n)
  | _=>none)
 | [(t,some (n,true))]=>aj (decide (t<10000)) (match ac e t with
  | .adr (.r c) i off=>match ac e c with
   | .blk _ [Rs]=>aj (decide (i=0)&&decide (off=0)&&decide (Rs.length=n)&&okR (.agg Rs)&&(aS t (.agg Rs)).all fun p=>p.1 != c) (some (.agg Rs))
   | _=>none
  | _=>none)
 | [(_,some (_,false))]=>none
 | rs=>aj ((rs.all fun r=>decide (r.1<10000)&&decide (r.2=none))&&bG ((rs.map fun r=>ac e r.1).flatMap cX)&&decide (rs.length≠1)) (aK (tj (ac e) (rs.map fun r=>ac e r.1)) fun Rs=>some (.tup Rs))
theorem DG{rs:List (Nat×Option (Nat×Bool))}{e:Env}{R:D}(h:DF rs e=some R):tO rs R e:=by
 unfold DF at h
 split at h
 ·rename_i t
  obtain⟨h1,h⟩:=af h
  refine⟨of_decide_eq_true h1,?_⟩
  split at h
  ·rename_i ds hx
   obtain⟨Rs,h2,h⟩:=aq h
   obtain⟨h3,h⟩:=af h
   cases h
   rw[hx]
   exact⟨nE h2,h3⟩
  ·rename_i b k n hx
   have h2:=rN h
   unfold pL at h
   dsimp only at h
   split at h
   ·obtain⟨_,h3⟩:=af h
    cases h3
    rw[hx]
    exact h2
   ·cases h
  ·cases h
 ·rename_i t n
  obtain⟨h1,h⟩:=af h
  refine⟨of_decide_eq_true h1,?_⟩
  split at h
  ·rename_i c i off hx
   split at h
   ·rename_i sz Rs hb
    obtain⟨h2,h⟩:=af h
    cases h
    simp only[x0a,x0b]at h2
    rw[hx]
    exact⟨h2.1.1.1.1,h2.1.1.1.2,⟨sz,hb⟩,h2.1.1.2,h2.1.2,h2.2⟩
   ·cases h
  ·cases h
 ·cases h
 ·rename_i rs' n1 n2 n3
  obtain⟨h1,h⟩:=af h
  obtain⟨Rs,h2,h⟩:=aq h
  cases h
  simp only[x0a,x0b,x0f]at h1
  unfold tO
  split
  ·exact absurd rfl (n1 _)
  ·exact absurd rfl (n2 _ _)
  ·exact⟨h1.2,h1.1.1,nE h2,h1.1.2⟩
def pB(ce:CE)(c:cL)(e0:Env):Option Env:=match evC ce c e0 with
 | some (.nrm,e)=>some e
 | some (.ret,e)=>some e
 | _=>none
theorem nB{C:CC}{ce:CE}(H:ce.holds C){c:cL}{e0 e:Env}(h:pB ce c e0=some e):∀R:Env->Prop,R e->wpN C c (fun t e=>(match t with
  | .ext _=>False
  | _=>True)/\R e) e0:=by
 intro R hR
 unfold pB at h
 split at h
 ·rename_i hx;cases h;exact gS H hx ⟨trivial,hR⟩
 ·rename_i hx;cases h;exact gS H hx ⟨trivial,hR⟩
 ·cases h
def Pz(ce:CE)(nf:ar)(sz1:Nat)(es1:List (List D))(sz2:Nat)(es2:List (List D))(W:List D):Option (D×List (List D)×List (List D)) :=
 aj (decide (W.length=nf.np)) (aK (pB ce nf.body (gW W sz1 es1 sz2 es2)) fun e=>match ac e ap,ac e br with
  | .blk s1 f1,.blk s2 f2=>aj (decide (s1=sz1)&&decide (s2=sz2)&&decide (0<f1.length)&&decide (0<f2.length)) (aK (AQ nf.res ((ap,.any)::(br,.any)::e)) fun d=>some (d,f1,f2))
  | _,_=>none)
def wG:D->Bool
 | .any=>true
 | .nils=>true
 | .ref _ _ _=>true
 | .adr _ _ _=>true
 | .blk _ es=>es.all fun r=>r.all Ha
 | d=>bP d
theorem Ad{d:D}(h:wG d=true):CM d:=by
 unfold wG at h
 unfold CM
 cases d<;>dsimp only at h ⊢<;>first|trivial|exact h|(simp only[x0f]at h;exact h)
def Hx(rs:List (Nat×Option (Nat×Bool)))(e:Env):Option D:=aK (AQ rs (prune (rs.map (·.1)) e)) fun d=>aj ((prune (rs.map (·.1)) e).all fun p=>wG p.2&&(!decide (p.1<10000)||!isB p.2)) (some d)
theorem DH{rs:List (Nat×Option (Nat×Bool))}{e:Env}{d:D}(h:Hx rs e=some d):tP rs d e:=by
 obtain⟨x,h1,h⟩:=aq h
 obtain⟨h2,h⟩:=af h
 cases h
 refine⟨mZ h1,fun p hp=>?_⟩
 have h3:=x0f.1 h2 p hp
 simp only[x0a,x0u,x0t,x0x]at h3
 exact⟨Ad h3.1,fun g=>by rcases h3.2 with h4|h4;exact absurd g h4;exact h4⟩
def Mj(ce:CE)(nd:lj)(gf:ar)(ds:List D):Option D :=
 aj (decide (ds.length=nd.np)&&decide (1+nd.nc=gf.np)) (match evC ce nd.pre (params 0 ds) with
  | some (.nrm,e)=>match ac e nd.e with
   | .adr (.r c) 0 0=>match ac e c with
    | .blk 1 [[y]]=>aj (decide (c≠uI nd)) (aK (pB ce nd.post (LX nd c y e)) fun e'=>match ac e' (uI nd) with
     | .blk 1 [[x]]=>aj (bP x) (aK (pB ce gf.body (params 0 (.ptr [x]::List.replicate nd.nc .any))) fun e2=>match AQ gf.res e2 with
      | some (.tup [])=>Hx nd.res e'
      | _=>none)
     | _=>none)
    | _=>none
   | _=>none
  | _=>none)
theorem Fb{C:CC}{ce:CE}(H:ce.holds C){nd:lj}{gf:ar}{ds:List D}{d:D}(h:Mj ce nd gf ds=some d):ds.length=nd.np/\∃x,GZ C nd gf ds x d:=by
 obtain⟨h1,h⟩:=af h
 simp only[x0a,x0b]at h1
 refine⟨h1.1,?_⟩
 split at h
 ·rename_i e hx
  split at h
  ·rename_i c he
   split at h
   ·rename_i y hc
    obtain⟨h2,h⟩:=af h
    obtain⟨e',h3,h⟩:=aq h
    split at h
    ·rename_i x hb
     obtain⟨h4,h⟩:=af h
     obtain⟨e2,h5,h⟩:=aq h
     split at h
     ·rename_i h6
      refine⟨x,gS H hx ⟨c,y,he,hc,of_decide_eq_true h2,nB H h3 (fun e'=>ac e' (uI nd)=.blk 1 [[x]]/\tP nd.res d e') ⟨hb,DH h⟩⟩,h4,h1.2,nB H h5 (fun e=>ef gf.res (.tup []) e) (mZ h6)⟩
     ·cases h
    ·cases h
   ·cases h
  ·cases h
 ·cases h
def evF(prog:Nat->Option ar)(da:Nat->Option lj)(base:CE):Nat->CE
 | 0=>base
 | n+1=>⟨fun g ds=>match base.pl g ds with
   | some d=>some d
   | none=>aK (prog g) fun nf=>aK (uQ (evF prog da base n) nf ds) (AQ nf.res),
  fun g ds=>match base.ow g ds with
   | some d=>some d
   | none=>aK (prog g) fun nf=>aK (uQ (evF prog da base n) nf ds) (I7 nf.res),
  fun g ds=>match base.nw g ds with
   | some d=>some d
   | none=>match da g with
    | some nd=>aK (prog nd.g) fun gf=>Mj (evF prog da base n) nd gf ds
    | none=>aK (prog g) fun nf=>aK (uQ (evF prog da base n) nf ds) (Nt nf.res),
  fun g ds=>match base.hd g ds with
   | some d=>some d
   | none=>aK (prog g) fun nf=>aK (uQ (evF prog da base n) nf ds) fun e=>aK (DF nf.res e) fun d=>aj (okR d) (some d),
  fun g sz1 es1 sz2 es2 W=>match base.lx g sz1 es1 sz2 es2 W with
   | some d=>some d
   | none=>aK (prog g) fun nf=>Pz (evF prog da base n) nf sz1 es1 sz2 es2 W⟩
theorem CD{C:CC}{prog:Nat->Option ar}{da:Nat->Option lj}(hC:al prog C)(hD:kC prog da C){base:CE}(hb:base.holds C):∀n,(evF prog da base n).holds C
 | 0=>hb
 | n+1=>by
  have ih:=CD hC hD hb n
  refine⟨fun g ds d h=>?_,fun g ds sz es h=>?_,fun g ds d h=>?_,fun g ds d h=>?_,fun g sz1 es1 sz2 es2 W d es1' es2' h=>?_⟩
  ·simp only[evF]at h
   split at h
   ·rename_i hx;cases h;exact hb.1 _ _ _ hx
   ·obtain⟨nf,h1,h⟩:=aq h
    obtain⟨e,h2,h⟩:=aq h
    obtain⟨h3,h4⟩:=mj ih h2
    exact hC.1.1 g nf ds d h1 h3 (h4 _ (mZ h))
  ·simp only[evF]at h
   split at h
   ·rename_i hx;cases h;exact hb.2.1 _ _ _ _ hx
   ·obtain⟨nf,h1,h⟩:=aq h
    obtain⟨e,h2,h⟩:=aq h
    obtain⟨h3,h4⟩:=mj ih h2
    exact hC.1.2.2.1 g nf ds sz es h1 h3 (h4 _ (Gg h))
  ·simp only[evF]at h
   split at h
   ·rename_i hx;cases h;exact hb.2.2.1 _ _ _ hx
   ·split at h
    ·rename_i nd hp
     obtain⟨gf,h1,h⟩:=aq h
     obtain⟨h2,x,h3⟩:=Fb ih h
     exact hD g nd gf ds x d hp h1 h2 h3
    ·obtain⟨nf,h1,h⟩:=aq h
     obtain⟨e,h2,h⟩:=aq h
     obtain⟨h3,h4⟩:=mj ih h2
     exact hC.1.2.2.2.1 g nf ds d h1 h3 (h4 _ (Gf h))
  ·simp only[evF]at h
   split at h
   ·rename_i hx;cases h;exact hb.2.2.2.1 _ _ _ hx
   ·obtain⟨nf,h1,h⟩:=aq h
    obtain⟨e,h2,h⟩:=aq h
    obtain⟨R,h5,h⟩:=aq h
    obtain⟨h6,h⟩:=af h
    cases h
    obtain⟨h3,h4⟩:=mj ih h2
    exact⟨h6,hC.1.2.2.2.2.2.2.2.2 g nf ds d h1 h3 h6 (h4 _ (DG h5))⟩
  ·simp only[evF]at h
   split at h
   ·rename_i hx;cases h;exact hb.2.2.2.2 _ _ _ _ _ _ _ _ _ hx
   ·obtain⟨nf,h1,h⟩:=aq h
    obtain⟨h2,h⟩:=af h
    obtain⟨e,h3,h⟩:=aq h
    split at h
    ·rename_i s1 f1 s2 f2 k1 k2
     obtain⟨h4,h⟩:=af h
     obtain⟨d',h5,h⟩:=aq h
     cases h
     simp only[x0a,x0b]at h4
     obtain⟨⟨⟨rfl,rfl⟩,h6⟩,h7⟩:=h4
     exact⟨h6,h7,hC.1.2.2.2.2.2.2.2.1 g nf W d s1 es1 es1' s2 es2 es2' h1 (of_decide_eq_true h2) (nB ih h3 (fun e=>(0<es1'.length/\0<es2'.length/\ac e ap=.blk s1 es1'/\ac e br=.blk s2 es2')/\ef nf.res d ((ap,.any)::(br,.any)::e)) ⟨⟨h6,h7,k1,k2⟩,mZ h5⟩)⟩
    ·cases h
end Go.Gv

namespace Go.Gv
mutual
def Ie:D->D->Bool
 | .any,.any=>true
 | .int k n,.int k' n'=>decide (k=k')&&decide (n=n')
 | .bool b,.bool b'=>b==b'
 | .str s,.str s'=>decide (s=s')
 | .nilp,.nilp=>true
 | .nils,.nils=>true
 | .agg a,.agg b=>sY a b
 | .tup a,.tup b=>sY a b
 | .sl a,.sl b=>xZ a b
 | .ptr a,.ptr b=>sY a b
 | .fn f a,.fn g b=>decide (f=g)&&sY a b
 | _,_=>false
def sY:List D->List D->Bool
 | [],[]=>true
 | a::xs,b::bs=>Ie a b&&sY xs bs
 | _,_=>false
def xZ:List (List D)->List (List D)->Bool
 | [],[]=>true
 | a::xs,b::bs=>sY a b&&xZ xs bs
 | _,_=>false
end
mutual
theorem Fa:∀(a b:D),Ie a b=true->a=b
 | a,b,h=>by
  unfold Ie at h
  split at h
  ·rfl
  ·simp only[x0a,x0b]at h;rw[h.1,h.2]
  ·rw[x0r]at h;rw[h]
  ·rw[x0b]at h;rw[h]
  ·rfl
  ·rfl
  ·rw[je _ _ h]
  ·rw[je _ _ h]
  ·rw[uP _ _ h]
  ·rw[je _ _ h]
  ·simp only[x0a,x0b]at h;rw[h.1,je _ _ h.2]
  ·cases h
theorem je:∀(a b:List D),sY a b=true->a=b
 | [],[],_=>rfl
 | a::xs,b::bs,h=>by
  simp only[sY,x0a]at h
  rw[Fa _ _ h.1,je _ _ h.2]
 | [],_::_,h=>by cases h
 | _::_,[],h=>by cases h
theorem uP:∀(a b:List (List D)),xZ a b=true->a=b
 | [],[],_=>rfl
 | a::xs,b::bs,h=>by
  simp only[xZ,x0a]at h
  rw[je _ _ h.1,uP _ _ h.2]
 | [],_::_,h=>by cases h
 | _::_,[],h=>by cases h
end
abbrev uh:=Nat×List D×D
def rU:List uh->Nat->List D->Option D
 | [],_,_=>none
 | (g',ds',d)::l,g,ds=>match decide (g'=g) with
  | true=>match sY ds' ds with
   | true=>some d
   | false=>rU l g ds
  | false=>rU l g ds
def ceL(l m:List uh):CE:=⟨rU l,fun _ _=>none,rU m,fun _ _=>none,fun _ _ _ _ _ _=>none⟩
def kO(C:CC):List uh->Prop
 | []=>True
 | (g,ds,d)::l=>C g ds d []/\kO C l
theorem mC{C:CC}:∀{l:List uh},kO C l->∀{g:Nat} {ds:List D} {d:D},rU l g ds=some d->C g ds d []
 | [],_,g,ds,d,h=>by cases h
 | (g',ds',d')::l,hl,g,ds,d,h=>by
  unfold rU at h
  split at h
  ·rename_i h1
   rw[x0b]at h1
   split at h
   ·rename_i h2
    cases h
    rw[<- h1,<- je _ _ h2]
    exact hl.1
   ·exact mC hl.2 h
  ·exact mC hl.2 h
def Dd(C:CC)(m:List uh):Prop:=kO (fun g ds d _=>C g ds d [.nilp]) m
theorem HZ{C:CC}{l m:List uh}(h:kO C l)(h2:Dd C m):(ceL l m).holds C:=⟨fun _ _ _ e=>mC h e,fun _ _ _ _ e=>(by cases e),fun _ _ _ e=>mC h2 e,fun _ _ _ e=>(by cases e),fun _ _ _ _ _ _ _ _ _ e=>(by cases e)⟩
section
variable{C:CC}{prog:Nat->Option ar}{da:Nat->Option lj}(hC:al prog C)(hD:kC prog da C){l m:List uh}(hl:kO C l)(hm:Dd C m){n g:Nat}{ds:List D}{d:D}
include hC hD hl hm
theorem rK(h:(evF prog da (ceL l m) n).pl g ds=some d):kO C ((g,ds,d)::l):=⟨(CD hC hD (HZ hl hm) n).1 _ _ _ h,hl⟩
end
end Go.Gv

namespace Go.Gv
def sg:List D:=[.int .i64 5,.int .i64 10,.int .i64 0,.sl [[.int .i64 3]],.sl [[.int .i64 0],[.int .i64 4]],.sl [[.int .i64 0,.int .i64 2]],.int .i64 1]
def sx:List D:=[.int .i64 5,.int .i64 10,.int .i64 0,.sl [[.int .i64 3]],.sl [[.int .i64 0],[.int .i64 4]],.sl [[.int .i64 0,.int .i64 2]],.int .i64 1,.sl [[.int .i64 2],[.int .i64 2]]]
theorem es1:(evF prog da (ceL [] []) 30).pl 1016 [.agg sg]=some (.tup [.ptr sx,.bool true]):=by kernel_rfl
theorem es2:(evF prog da (ceL [] []) 30).pl 1020 [.ptr sx,.int .i64 5,.int .i64 0,.int .i64 0]=some (.tup [.int .i64 8,.int .i64 2,.bool true]):=by kernel_rfl
theorem es3:(evF prog da (ceL [] []) 30).pl 1020 [.ptr sx,.int .i64 5,.int .i64 0,.int .i64 1]=some (.tup [.int .i64 4,.int .i64 2,.bool true]):=by kernel_rfl
theorem es4:(evF prog da (ceL [] []) 30).pl 1013 [.nils,.fn 1014 []]=some (.bool false):=by kernel_rfl
theorem es5:(evF prog da (ceL [] []) 30).pl 928 [.nils,.fn 1015 []]=some (.bool false):=by kernel_rfl
def ksA:List uh:=[(1007,[.agg sg],.tup [.int .i64 2,.sl [[.int .i64 0]],.int .i64 0])]
theorem es6:(evF prog da (ceL ksA []) 40).pl 1003 []=some (.bool true):=by kernel_rfl
section
variable{C:CC}(hC:al prog C)(hD:kC prog da C)
include hC hD
theorem Jt:C 1016 [.agg sg] (.tup [.ptr sx,.bool true]) []:=(rK hC hD (l:=[]) (m:=[]) (show True from trivial) (show True from trivial) es1).1
theorem GL:C 1020 [.ptr sx,.int .i64 5,.int .i64 0,.int .i64 0] (.tup [.int .i64 8,.int .i64 2,.bool true]) []:=(rK hC hD (l:=[]) (m:=[]) (show True from trivial) (show True from trivial) es2).1
theorem GM:C 1020 [.ptr sx,.int .i64 5,.int .i64 0,.int .i64 1] (.tup [.int .i64 4,.int .i64 2,.bool true]) []:=(rK hC hD (l:=[]) (m:=[]) (show True from trivial) (show True from trivial) es3).1
theorem Df:C 1013 [.nils,.fn 1014 []] (.bool false) []:=(rK hC hD (l:=[]) (m:=[]) (show True from trivial) (show True from trivial) es4).1
theorem De:C 928 [.nils,.fn 1015 []] (.bool false) []:=(rK hC hD (l:=[]) (m:=[]) (show True from trivial) (show True from trivial) es5).1
theorem vx(h:C 1007 [.agg sg] (.tup [.int .i64 2,.sl [[.int .i64 0]],.int .i64 0]) []):C 1003 [] (.bool true) []:=(rK hC hD (l:=ksA) (m:=[]) ⟨h,trivial⟩ (show True from trivial) es6).1
end
end Go.Gv

namespace Go.Gv
end Go.Gv

namespace Go.Gv
variable{C:CC}(hC:al prog C)
include hC
set_option maxHeartbeats 2000000 in
theorem yY(j:Job)(b:Bool)(ch:List Int)(hl:ch.length<2^62):C 118 [.agg (dX j),slx b (ch.map fun n=>[.int .i64 n])] (.tup [.bool (bi j ch).1,.int .i64 (bi j ch).2.1,.int .i64 (bi j ch).2.2]) []:=by
 refine start hC (nf:=N118) rfl rfl ?_
 simp[N118]
 have hcc:=uB hC j b ch hl
 have ht:=fun hv=>vV hC j hv
 simp[aB]
 simp[aB]at hcc ht
 refine aa hcc (.inl rfl) ?_
 simp
 refine ab (fun h=>?_) (fun h=>?_)<;>simp at h<;>simp[h]
 case' refine_1=>simp[bi,h]
 obtain⟨hv,hlen,hs⟩:=fL h
 refine aa (ht hv) (.inr rfl) ?_
 simp
 refine ay Nat (fun i=>[(2,.ptr (dX j)),(3,.ptr [slx b (ch.map fun n=>[.int .i64 n])]),(8,dH j),(20,slx b (ch.map fun n=>[.int .i64 n])),(21,.int .i64 ch.length),(22,.int .i64 i)])
  (fun i=>i<=ch.length/\∀k,k<i->gw j ch k=false) (fun i=>ch.length-i) 0 (by simp) (by simp[aB]) ?_
 rintro i ⟨hi,hok⟩
 simp
 refine ab (fun h1=>?_) (fun h1=>?_)<;>simp at h1<;>simp[h1]
 ·have hi':i<j.below.l.length:=by omega
  have hu:=fun a ha=>GP hC j b ch a i h ha hi'
  simp[h1,bf,aB,pw,hi']
  have hci:i<ch.length:=h1
  have hh:C 11 [.sl ((aI j i).map it),.fn 121 [.ptr (dX j),.ptr [slx b (ch.map fun n=>[.int .i64 n])],.ptr [.int .i64 ch[i]!]]] (.bool ((aI j i).any (i5 j ch i))) []:=by
   have hh:=mq hC (b:=false) (xs:=(aI j i).map fun a=>((a:Nat):Int)) (g:=121) (cs:=[.ptr (dX j),.ptr [slx b (ch.map fun n=>[.int .i64 n])],.ptr [.int .i64 ch[i]!]]) (fun a=>i5 j ch i a.toNat) (by
    have:=ro j i
    simp;omega) (fun x hx=>by
     obtain⟨a,ha,rfl⟩:=x0w.1 hx
     exact hu a (dx ha))
   rw[dc,x1K,List.any_map]at hh
   exact hh
  rw[x0c ch i hci]at hh
  simp only[aB,Gq]at hh
  obtain⟨s,e1,e2,e3⟩:=hs i hi'
  have hw:IntKind.wrap .i64 ((i:Int)+1)=((i+1:Nat):Int):=wrap_i64 (by omega) (by omega)
  refine aa hh (.inl rfl) ?_
  rw[x0c ch i hci]at e1
  have hbad:gw j ch i=(!bZ j i s||(aI j i).any (i5 j ch i)):=by rw[gw,e3]
  have done:gw j ch i=true->bi j ch=(false,(i:Int),0):=fun hb=>sK h hi' hok hb
  have next:gw j ch i=false->∀k,k<i+1->gw j ch k=false:=fun hb k hk=>by
   rcases x0y.1 hk with h5|rfl
   ·exact hok k h5
   ·exact hb
  rw[hbad]at done next
  cases hp:bZ j i s
  ·simp[h1,bf,aB,mU,hi',e1,e2,bl,hp]
   refine⟨aw (by decide +kernel),?_⟩
   simp[done (by simp[hp])]
  ·simp[h1,bf,aB,mU,hi',e1,e2,bl,hp]
   refine⟨aw (by decide +kernel),?_⟩
   cases hb:(aI j i).any (i5 j ch i)
   ·simp[hw]
    exact⟨i+1,⟨by omega,next (by rw[hb,hp];rfl)⟩,by omega,by simp[bf,aB]⟩
   ·simp[done (by rw[hb,hp];rfl)]
 ·rw[jd h (fun k hk=>hok k (by omega))]
  simp
end Go.Gv

namespace Go.Gv
def fdD(x:Int×List UInt8):List D:=[.int .i64 x.1,.str x.2]
variable{C:CC}(hC:al prog C)
include hC
end Go.Gv

namespace Go.Gv
variable{C:CC}(hC:al prog C)
include hC
theorem Fw{b:Bool}{xs:List (Int×List UInt8)}{g:Nat}{cs:List D}(p:Int×List UInt8->Bool)(hs:xs.length<2^62)(hp:∀x∈xs,C g (.agg (fdD x)::cs) (.bool (p x)) []):C 129 [slx b (xs.map fun x=>fdD x),.fn g cs] (.int .i64 (ct p xs)) []:=by
 refine start hC (nf:=N129) rfl rfl ?_
 simp[N129]
 refine ay Nat (fun i=>[(0,slx b (xs.map fun x=>fdD x)),(1,.fn g cs),(7,.int .i64 xs.length),(8,.int .i64 i)]) (fun i=>i<=xs.length/\∀(j:Nat) (h:j<xs.length),j<i->p xs[j]=false) (fun i=>xs.length-i) 0 (by simp) (by simp) ?_
 rintro i ⟨hi,hj⟩
 simp
 refine ab (fun h=>?_) (fun h=>?_)<;>simp[h]<;>simp at h
 ·have hw:IntKind.wrap .i64 ((i:Int)+1)=((i+1:Nat):Int):=wrap_i64 (by omega) (by omega)
  have hc:=hp _ (x0h h)
  simp[h,fdD]at hc ⊢
  refine aa hc (.inl rfl) ?_
  simp
  refine ab (fun h1=>?_) (fun h1=>?_)<;>simp[h1,hw]
  ·rw[dE hj h h1]
  ·refine⟨i+1,⟨by omega,fun j hl hjj=>?_⟩,by omega,rfl⟩
   rcases x0y.1 hjj with h2|rfl
   ·exact hj j hl h2
   ·exact h1
 ·rw[fh (fun j hl=>hj j hl (by omega))]
theorem Fo{b:Bool}{xs:List (Int×List UInt8)}{g:Nat}{cs:List D}(p:Int×List UInt8->Bool)(hs:xs.length<2^62)(hp:∀x∈xs,C g (.agg (fdD x)::cs) (.bool (p x)) []):C 125 [slx b (xs.map fun x=>fdD x),.fn g cs] (.bool (xs.any p)) []:=by
 refine start hC (nf:=N125) rfl rfl ?_
 simp[N125]
 refine aa (Fw hC p hs hp) (.inl rfl) ?_
 simp[f9]
end Go.Gv

set_option maxRecDepth 4000
namespace Go.Gv
def pY(s:Sec):Bool:=decide (20<s.area.length)||decide (20<s.conv.length)
def pX(l:List Sec):Bool:=decide (8<l.length)||l.any pY
theorem Db{l:List Sec}(h:pX l=false):l.length<=8/\∀s∈l,s.area.length<=20/\s.conv.length<=20:=by
 simp only[pX,x0N,x0x]at h
 refine⟨by omega,fun s hs=>?_⟩
 have:=x0E.1 h.2 s hs
 simp only[pY,x0u,x0b]at this
 omega
variable{C:CC}(hC:al prog C)
include hC
theorem Nr(x:Nod):C 1010 [.agg (bz x)] (.bool (qT x)) []:=by
 refine start hC (nf:=N1010) rfl rfl ?_
 simp[N1010,bz]
 refine ab (fun h1=>?_) (fun h1=>?_)<;>simp[h1]<;>simp at h1
 ·simp[qT];omega
 simp[qT]
 rw[x0J];simp
 omega
theorem Nq(x:Lnk):C 1011 [.agg (aJ x)] (.bool (nj x)) []:=by
 refine start hC (nf:=N1011) rfl rfl ?_
 simp[N1011,aJ]
 refine ab (fun h1=>?_) (fun h1=>?_)<;>simp[h1]<;>simp at h1
 ·simp[nj];omega
 refine ab (fun h2=>?_) (fun h2=>?_)<;>simp[h2]<;>simp at h2
 ·simp[nj];omega
 refine ab (fun h3=>?_) (fun h3=>?_)<;>simp[h3]<;>simp at h3
 ·simp[nj];omega
 refine ab (fun h4=>?_) (fun h4=>?_)<;>simp[h4]<;>simp at h4
 ·simp[nj];omega
 simp[nj]
 rw[x0J];simp
 omega
theorem vy(b1 b2:Bool)(ns:List Nod)(ls:List Lnk)(hn:ns.length<2^62)(hl:ls.length<2^62):C 1004 [.agg [slx b1 (ns.map bz),slx b2 (ls.map aJ)]] (.bool (ni ns ls)) []:=by
 have k1:=CX hC (b:=b1) (xs:=ns) (g:=1010) (cs:=[]) qT hn (fun x _=>Nr hC x)
 have k2:=mr hC (b:=b2) (xs:=ls) (g:=1011) (cs:=[]) nj hl (fun x _=>Nq hC x)
 refine start hC (nf:=N1004) rfl rfl ?_
 simp[N1004]
 by_cases h1:12<ns.length
 ·have h1':(12:Int)<(ns.length:Int):=by omega
  simp[h1',ni,h1]
 have h1':¬(12:Int)<(ns.length:Int):=by omega
 simp[h1']
 by_cases h2:12<ls.length
 ·have h2':(12:Int)<(ls.length:Int):=by omega
  simp[h2',ni,h2]
 have h2':¬(12:Int)<(ls.length:Int):=by omega
 simp[h2']
 refine aa k1 (.inl rfl) ?_
 cases h3:ns.any qT
 ·simp
  refine aa k2 (.inl rfl) ?_
  simp[ni,h1,h2,h3]
 ·simp[ni,h1,h2,h3]
theorem Ns(s:Sec):C 1012 [.agg (aQ s)] (.bool (pY s)) []:=by
 refine start hC (nf:=N1012) rfl rfl ?_
 simp[N1012,aQ]
 refine ab (fun h=>?_) (fun h=>?_)<;>simp[h]<;>simp at h
 ·simp[pY];omega
 simp[pY]
 rw[x0J];simp
 omega
theorem xh(hD:kC prog da C)(b:Bool)(l:List Sec)(hl:l.length<2^62):C 1005 [slx b (l.map aQ),.nils,.nils] (.bool (pX l)) []:=by
 have k1:=CY hC (b:=b) (xs:=l) (g:=1012) (cs:=[]) pY hl (fun x _=>Ns hC x)
 have k2:=Df hC hD
 have k3:=De hC hD
 refine start hC (nf:=N1005) rfl rfl ?_
 simp[N1005]
 by_cases h1:8<l.length
 ·have h1':(8:Int)<(l.length:Int):=by omega
  simp[h1',pX,h1]
 have h1':¬(8:Int)<(l.length:Int):=by omega
 simp[h1']
 refine aa k1 (.inl rfl) ?_
 cases h3:l.any pY
 ·simp
  refine aa k2 (.inl rfl) ?_
  simp
  refine aa k3 (.inl rfl) ?_
  simp[pX,h1,h3]
 ·simp[pX,h1,h3]
theorem HU(x:Int×List UInt8):C 1006 [.agg (fdD x)] (.bool (decide (4<x.1))) []:=by
 refine start hC (nf:=N1006) rfl rfl ?_
 simp[N1006,fdD]
end Go.Gv

set_option maxRecDepth 4000
namespace Go.Gv
theorem xo(ns:List Nod)(es:List Edg)(ls:List Lnk)(ss:List Sec)(q:List Int)(cover:Int)(V:List Nat):dX (bL ns es ls ss q cover V)=[.sl (cH (V.map (iC es V))),.sl (cH (V.map (lnF ls))),.sl (cH (V.map (qvF q))),.sl (cH (V.map (pFa ls))),.sl (cH (V.map (pRm ns es ls cover))),.sl (ss.map aQ)]:=by
 unfold bL dX slI
 simp only[dc];rfl
variable{C:CC}(hC:al prog C)
include hC
end Go.Gv

set_option maxRecDepth 4000
namespace Go.Gv
def lz(f:Sp->Int)(fl:List Sp)(i:Nat):List (List D):=cH (cz f (fl.take i))
theorem rJ{f:Sp->Int}{fl:List Sp}{i:Nat}(h:i<fl.length):lz f fl (i+1)=lz f fl i++[[.int .i64 (f fl[i])]]:=by
 unfold lz cH cz
 rw[x0m h]
 simp only[x1d,x0F,x02]
theorem iO{f:Sp->Int}{fl:List Sp}{i:Nat}(h:i<=fl.length):(lz f fl i).length=i:=by
 simp[lz,cH,cz];omega
theorem iP{f:Sp->Int}{fl:List Sp}{i:Nat}(h:i<=fl.length):List.take i (lz f fl i)=lz f fl i:=x0i (by rw[iO h];omega)
theorem wz(f:Sp->Int)(fl:List Sp)(i:Nat):(lz f fl i).map (fun e=>e.map bq)=lz f fl i:=by
 unfold lz cH
 rw[x1K]
 apply x0j
 intro v _
 simp[bq]
theorem Cr(f:Sp->Int)(fl:List Sp):lz f fl fl.length=(cz f fl).map fun n=>[.int .i64 n]:=by
 unfold lz cH
 rw[x0L]
variable{C:CC}(hC:al prog C)
include hC
set_option maxHeartbeats 4000000 in
theorem wg(hD:kC prog da C)(hS:SlC C)(hL:uj C)(hP:EE C)(hK:ug C)(hpl:C 1007 [.agg sg] (.tup [.int .i64 2,.sl [[.int .i64 0]],.int .i64 0]) [])(b1 b2:Bool)(ns:List Nod)(ls:List Lnk)(hn:ns.length<2^62)(hl:ls.length<2^62)(hcv:∀l∈ls,l.curve.length<2^62)(b3:Bool)(ss:List Sec)(hs:ss.length<2^62)(b4:Bool)(w:List Sp)(hw:w.length<2^62)(cover:Int) :
  C 1002 [.agg [slx b1 (ns.map bz),slx b2 (ls.map aJ)],slx b3 (ss.map aQ),slx b4 (w.map knD),.int .i64 cover] (.bool true) []:=by
 have k0:=vx hC hD hpl
 have k1:=vy hC b1 b2 ns ls hn hl
 have k2:=xh hC hD b3 ss hs
 have k3:=EB hC hS b1 b2 b4 ns ls w hl hw hcv
 refine start hC (nf:=N1002) rfl rfl ?_
 simp[N1002]
 refine aa k0 (.inl rfl) ?_
 simp
 refine aa k1 (.inl rfl) ?_
 by_cases w1:ni ns ls=true
 ·rw[w1];simp
 rw[x0U]at w1
 rw[w1]
 simp
 refine aa k2 (.inl rfl) ?_
 by_cases w2:pX ss=true
 ·rw[w2];simp
 rw[x0U]at w2
 rw[w2]
 simp
 by_cases w4:(20:Int)<(w.length:Int)
 ·simp[w4]
 simp[w4]
 obtain⟨sh1,sh2⟩:=GQ w1
 obtain⟨tb1,tb2⟩:=Db w2
 have hl12:ls.length<=12:=by
  simp only[ni,x0N,x0x]at w1;omega
 refine aa k3 (.inr rfl) ?_
 unfold wc
 by_cases hE:jC ns ls w=0
 rotate_left
 ·rw[if_neg hE]
  simp[hE]
 rw[if_pos hE,hE]
 have hrg:=rM hE
 have hfl:(aV ns.length (ah ns ls) w).length=ls.length:=by rw[lC,bT]
 have hov:=fun(cover:Int) (T:List Lnk) (f:Nat->Nat) h hp=>Fit.ov (ss:=ss) (cover:=cover) (T:=T) (f:=f) hE h hp
 simp
 generalize aV ns.length (ah ns ls) w=fl at *
 refine ay Nat (fun i=>[(1,slx b3 (ss.map aQ)),(2,slx b4 (w.map knD)),(3,.int .i64 cover),(4,.ptr [slx b1 (ns.map bz),slx b2 (ls.map aJ)]),(11,.ref (.r 10176) 0 i),(10176,.blk 1 (lz (·.1) fl i)),(12,.ref (.r 10192) 0 i),(10192,.blk 1 (lz (·.2) fl i)),(59,.sl (fl.map knD)),(60,.int .i64 fl.length),(61,.int .i64 i)]) (fun i=>i<=fl.length) (fun i=>fl.length-i) 0 (by simp) (by simp[lz,cH,cz]) ?_
 rintro i hi
 simp
 refine ab (fun h=>?_) (fun h=>?_)<;>simp[h]<;>simp at h
 ·have hwi:IntKind.wrap .i64 ((i:Int)+1)=((i+1:Nat):Int):=wrap_i64 (by omega) (by omega)
  have s1:=rJ (f:=(·.1)) h
  have s2:=rJ (f:=(·.2)) h
  have n1:=iO (f:=(·.1)) hi
  have n2:=iO (f:=(·.2)) hi
  have t1:=iP (f:=(·.1)) hi
  have t2:=iP (f:=(·.2)) hi
  simp[h,knD]
  refine⟨by omega,by omega,by omega,by omega,aw (by decide +kernel),i+1,by omega,by omega,rfl,?_,rfl,?_,hwi⟩
  ·rw[s1,t1]
  ·rw[s2,t2]
 have ek:i=fl.length:=by omega
 subst ek
 have hq:∀f:Sp->Int,(cz f fl).length<2^62:=fun f=>by simp[cz];omega
 have hq2:∀f:Sp->Int,(cz f fl).length=fl.length:=fun f=>by simp[cz]
 have p1:=rk hC hS hL b1 b2 b3 false ns ls ss (cz (·.2) fl) cover hcv (fun s h=>by have:=tb2 s h;omega) (hq _)
 have p2:=rk hC hS hL b1 b2 b3 false ns ls ss (cz (·.1) fl) cover hcv (fun s h=>by have:=tb2 s h;omega) (hq _)
 have eE:=Dw (ns:=ns) (ss:=ss) (cover:=cover) hfl hrg
 rw[<- Cr,dc]at p1 p2
 rw[<- eE]at p2
 rw[wz,iP (x0k _)]
 refine⟨by rw[iO (x0k _)];exact x0k _,?_⟩
 refine aa p1 (.inr rfl) ?_
 by_cases hPE:prE ns ls ss (cz (·.2) fl) cover=0
 rotate_left
 ·have hPE':¬prE ns ls ss (cz (·.1) fl) cover=0:=by rw[<- eE];exact hPE
  have e1:dX (prJ ns ls ss (cz (·.2) fl) cover)=[.nils,.nils,.nils,.nils,.nils,.nils]:=by unfold prJ;rw[if_neg hPE];exact wV
  have e2:dX (prJ ns ls ss (cz (·.1) fl) cover)=[.nils,.nils,.nils,.nils,.nils,.nils]:=by unfold prJ;rw[if_neg hPE'];exact wV
  rw[e1]
  rw[e2]at p2
  simp[wz]
  refine⟨by rw[iO (x0k _)];exact x0k _,?_⟩
  rw[iP (x0k _)]
  refine aa p2 (.inr rfl) ?_
  simp[hPE]
 have hok:=yx hPE
 have hPE':prE ns ls ss (cz (·.1) fl) cover=0:=by rw[<- eE];exact hPE
 have hok':=yx hPE'
 have eJ:prJ ns ls ss (cz (·.2) fl) cover=bL ns (ah ns ls) ls ss (cz (·.2) fl) cover (ppL ns.length (ah ns ls)):=by unfold prJ;rw[if_pos hPE]
 have eJ':prJ ns ls ss (cz (·.1) fl) cover=bL ns (ah ns ls) ls ss (cz (·.1) fl) cover (ppL ns.length (ah ns ls)):=by unfold prJ;rw[if_pos hPE']
 have hjv:=kW hok
 have hjv':=kW hok'
 have hcost:=z8 hfl hrg hok
 have hfit:=Im hok
 have halone:=fun hc p s hp hs h=>zz hjv hc (p:=p) (s:=s) hp hs h
 have p3:=xL hC (bL ns (ah ns ls) ls ss (cz (·.2) fl) cover (ppL ns.length (ah ns ls)))
 have p4:=xL hC (bL ns (ah ns ls) ls ss (cz (·.1) fl) cover (ppL ns.length (ah ns ls)))
 have e3:iI (bL ns (ah ns ls) ls ss (cz (·.2) fl) cover (ppL ns.length (ah ns ls)))=if b9 (bL ns (ah ns ls) ls ss (cz (·.2) fl) cover (ppL ns.length (ah ns ls)))=-1 then(0,(true,[]),28) else(b9 (bL ns (ah ns ls) ls ss (cz (·.2) fl) cover (ppL ns.length (ah ns ls))),(false,bF (bL ns (ah ns ls) ls ss (cz (·.2) fl) cover (ppL ns.length (ah ns ls)))),0):=by unfold iI;rw[if_pos hjv]
 have e4:iI (bL ns (ah ns ls) ls ss (cz (·.1) fl) cover (ppL ns.length (ah ns ls)))=if b9 (bL ns (ah ns ls) ls ss (cz (·.1) fl) cover (ppL ns.length (ah ns ls)))=-1 then(0,(true,[]),28) else(b9 (bL ns (ah ns ls) ls ss (cz (·.1) fl) cover (ppL ns.length (ah ns ls))),(false,bF (bL ns (ah ns ls) ls ss (cz (·.1) fl) cover (ppL ns.length (ah ns ls)))),0):=by unfold iI;rw[if_pos hjv']
 rw[hPE,eJ]at p1 ⊢
 rw[hPE,eJ']at p2
 rw[xo]at p1 p2 p3 p4 ⊢
 rw[e3]at p3
 rw[e4]at p4
 have hal:=fun ch h=>yY hC (bL ns (ah ns ls) ls ss (cz (·.2) fl) cover (ppL ns.length (ah ns ls))) false ch h
 rw[xo]at hal
 obtain⟨JH,hJH⟩:∃J,J=bL ns (ah ns ls) ls ss (cz (·.2) fl) cover (ppL ns.length (ah ns ls)):=⟨_,rfl⟩
 obtain⟨JL,hJL⟩:∃J,J=bL ns (ah ns ls) ls ss (cz (·.1) fl) cover (ppL ns.length (ah ns ls)):=⟨_,rfl⟩
 rw[<- hJH]at p3 hal hfit halone hcost hjv
 rw[<- hJL]at p4 hcost
 simp[wz]
 refine⟨by rw[iO (x0k _)];exact x0k _,?_⟩
 rw[iP (x0k _)]
 refine aa p2 (.inr rfl) ?_
 simp
 refine aa p3 (.inr rfl) ?_
 by_cases hc1:b9 JH=-1
 ·rw[if_pos hc1]
  simp
  simp[mz]
  refine aa p4 (.inr rfl) ?_
  by_cases hc2:b9 JL=-1
  ·rw[if_pos hc2]
   simp[mz]
  ·rw[if_neg hc2]
   simp[mz]
 rw[if_neg hc1]at p3 ⊢
 obtain⟨hc2,hc3⟩:=hcost hc1
 rw[if_neg hc2]at p4
 obtain⟨hPutE,T,f,hPutR,hF⟩:=hfit hc1
 obtain⟨ov1,ov2,ov3⟩:=hov cover T f hF hok
 have hTl:=hF.len
 have hfind:=hF.noFind hok
 have hnet:=hF.net
 have huse:=xD hok.hc
 have halone2:=halone hc1
 obtain⟨bo1,_⟩:=lW hjv hc1
 obtain⟨h0,_⟩:=jJ bo1
 obtain⟨_,hchl,hsec⟩:=fL h0
 have hJs:JH.secs=ss:=by rw[hJH];rfl
 have hVl:(ppL ns.length (ah ns ls)).length<=300:=x09 (kV _ _) (x09 (iW _ _) (cC hok.hv).1)
 have hbl:JH.below.l.length=(ppL ns.length (ah ns ls)).length:=by rw[hJH];simp[bL]
 have p5:=Lj hC hS hL hP b1 b2 b3 false ns ls ss JH (bF JH) (fun l h=>by have:=sh2 l h;omega) (fun n h=>by have:=sh1 n h;omega) (fun s h=>by have:=tb2 s h;omega) (fun s h=>by rw[hJs]at h;have:=tb2 s h;omega) (by omega)
 have e5:AM ns ls ss JH (bF JH)=.agg [.sl (ns.map bz),.sl (T.map aJ)]:=by
  unfold AM
  rw[if_pos hPutE,hPutR]
 rw[e5,hPutE]at p5
 rw[hJH,xo,<- hJH]at p5
 generalize cH (List.map (iC (ah ns ls) (ppL ns.length (ah ns ls))) (ppL ns.length (ah ns ls)))=A1 at *
 generalize cH (List.map (lnF ls) (ppL ns.length (ah ns ls)))=A2 at *
 generalize cH (List.map (qvF (cz (fun x=>x.2) fl)) (ppL ns.length (ah ns ls)))=A3 at *
 generalize cH (List.map (pFa ls) (ppL ns.length (ah ns ls)))=A4 at *
 generalize cH (List.map (pRm ns (ah ns ls) ls cover) (ppL ns.length (ah ns ls)))=A5 at *
 have hcvT:∀l∈T,l.curve.length<2^62:=fun l hl=>by
  obtain⟨i,hi,rfl⟩:=x0P hl
  have e:=hF.eq i (by omega)
  rw[x0c T i hi,x0c ls i (by omega)]at e
  rw[e]
  exact hcv ls[i] (x0h (show i<ls.length by omega))
 have p6:=sE hC hS false false b3 b4 ns T ss w (by omega) hw hcvT
 unfold OvV at p6
 rw[if_pos ov1,if_pos ov1,ov1,ov2,ov3]at p6
 have p7:=Bt hC hK false false b3 ns T ss hcvT
 rw[hnet,huse]at p7
 simp only[dc]at p5 p6 p7
 simp[mz]
 refine aa p4 (.inr rfl) ?_
 have hle:¬b9 JH<b9 JL:=by omega
 have hlen:(T.length:Int)=(ls.length:Int):=by omega
 simp[mz,hle]
 refine aa p5 (.inr rfl) ?_
 simp[hle,hlen]
 refine aa p6 (.inr rfl) ?_
 simp[kw]
 refine aa p7 (.inr rfl) ?_
 simp
 have hll:(pW ns T ss).length<2^62:=by
  have h1:(pW ns T ss).length<=(vh ns T ss).length:=by
   unfold pW BP
   exact x09 (EV _) (by rw[kr];exact x0k _)
  have h2:=vi ns T ss
  rw[hTl]at h2
  have h3:(3+ls.length)*ls.length<=15*12:=x1B (by omega) hl12
  omega
 have p8:=Fo hC (b:=false) (xs:=pW ns T ss) (g:=1006) (cs:=[]) (fun x=>decide (4<x.1)) hll (fun x _=>HU hC x)
 have e8:(pW ns T ss).any (fun x=>decide (4<x.1))=false:=by
  rw[x0E]
  intro x hx
  have:=hfind x hx
  simp;omega
 rw[e8,dc]at p8
 have e9:cK (pW ns T ss)=(pW ns T ss).map fun x=>fdD x:=rfl
 rw[<- e9]at p8
 refine aa p8 (.inl rfl) ?_
 simp
 have ss40:ss.length<=40:=by
  have:=hok.hc
  simp only[aH,x0a,x0b]at this
  exact this.1.1
 have k8:=EA hC false (bF JH) (by omega)
 simp only[dc]at k8
 have hal2:=fun(p s:Nat)=>hal ((bF JH).set p (s:Int)) (by simp;omega)
 rw[hJs]at hsec halone2
 clear k0 k1 k2 k3 p1 p2 p3 p4 p5 p6 p7 p8 hal
 generalize bF JH=ch at *
 refine ay Nat (fun p=>[(1,slx b3 (ss.map aQ)),(15,.adr (.r 10240) 0 0),(19,.sl (ch.map fun n=>[.int .i64 n])),(182,.int .i64 ch.length),(183,.int .i64 p),(10240,.blk 6 [[.sl A1,.sl A2,.sl A3,.sl A4,.sl A5,.sl (ss.map aQ)]])]) (fun p=>p<=ch.length) (fun p=>ch.length-p) 0 (by simp) (by simp) ?_
 rintro p hp
 simp
 refine ab (fun g1=>?_) (fun g1=>?_)<;>simp at g1<;>simp[g1]
 have hwp:IntKind.wrap .i64 ((p:Int)+1)=((p+1:Nat):Int):=wrap_i64 (by omega) (by omega)
 obtain⟨t,e1,e2,e3⟩:=hsec p (by omega)
 rw[x0c ch p g1]at e1
 refine ay Nat (fun s=>[(1,slx b3 (ss.map aQ)),(15,.adr (.r 10240) 0 0),(19,.sl (ch.map fun n=>[.int .i64 n])),(29,.int .i64 p),(182,.int .i64 ch.length),(183,.int .i64 p),(187,.int .i64 ss.length),(188,.int .i64 s),(10240,.blk 6 [[.sl A1,.sl A2,.sl A3,.sl A4,.sl A5,.sl (ss.map aQ)]])]) (fun s=>s<=ss.length) (fun s=>ss.length-s) 0 (by simp) (by simp) ?_
 rintro s hs
 simp
 refine ab (fun g2=>?_) (fun g2=>?_)<;>simp at g2<;>simp[g2]
 ·have hws:IntKind.wrap .i64 ((s:Int)+1)=((s+1:Nat):Int):=wrap_i64 (by omega) (by omega)
  simp[g1,g2,e1,e2,aQ]
  refine⟨aw (by decide +kernel),?_⟩
  by_cases hpr:ss[t].price<=ss[s].price
  ·simp[hpr]
   exact⟨s+1,by omega,by omega,hws⟩
  have hpr2:¬ss[t].price<=ss[s].price:=hpr
  simp[hpr]
  have ht2:List.take ch.length ((List.map ((fun e=>List.map bq e)∘fun n=>[D.int .i64 n]) ch).set p [D.int .i64 s])=(List.map (fun n=>[D.int .i64 n]) ch).set p [D.int .i64 s]:=by
   rw[x0i (by simp)]
   simp[Function.comp_def]
  obtain⟨a1,a2⟩:=halone2 p s (by omega) g2 (by rw[e3,x0c ss t e2,x0c ss s g2];omega)
  have k9:=hal2 p s
  rw[a1,a2]at k9
  simp at k9
  refine nu k8 ?_
  simp[g1]
  rw[ht2]
  refine aa k9 (.inl rfl) ?_
  simp
  exact⟨s+1,by omega,by omega,hws⟩
 ·exact⟨p+1,by omega,by omega,hwp⟩
end Go.Gv

namespace Go.Proofs
open Go.Shelf
def Tryz.keysA_ren : Go.Shelf.Ren := ⟨fun | 7 => 116 | 10 => 160 | n => n, fun | 23 => 197 | 26 => 3 | 3 => 4 | 28 => 200 | 0 => 0 | 27 => 199 | 33 => 107 | 4 => 4 | n => n, fun | n => n⟩
theorem Tryz.keysA : Go.Proofs.SlLaysZI.n7 Tryz.prog Tryz.keysA_ren := {
 mixed := by kernel_rfl
 f7 := ⟨Tryz.f116.name, by decide, Tryz.func116.trans (congrArg some (by kernel_rfl))⟩
 f10 := ⟨Tryz.f160.name, by decide, Tryz.func160.trans (congrArg some (by kernel_rfl))⟩
 t0 := Tryz.underlying0
 a0 := Tryz.isAgg0
 z0 := Tryz.sizeOf0
 v0 := Tryz.zeroValue0
 t4 := Tryz.underlying4
 a4 := Tryz.isAgg4
 z4 := Tryz.sizeOf4
 v4 := Tryz.zeroValue4
 t23 := Tryz.underlying197
 a23 := Tryz.isAgg197
 z23 := Tryz.sizeOf197
 v23 := Tryz.zeroValue197
 t26 := Tryz.underlying3
 a26 := Tryz.isAgg3
 z26 := Tryz.sizeOf3
 v26 := Tryz.zeroValue3
 t27 := Tryz.underlying199
 a27 := Tryz.isAgg199
 z27 := Tryz.sizeOf199
 v27 := Tryz.zeroValue199
 t28 := Tryz.underlying200
 a28 := Tryz.isAgg200
 z28 := Tryz.sizeOf200
 v28 := Tryz.zeroValue200
 t33 := Tryz.underlying107
 a33 := Tryz.isAgg107
 z33 := Tryz.sizeOf107
 v33 := Tryz.zeroValue107 }
def Tryz.sortedA_ren : Go.Shelf.Ren := ⟨fun | 6 => 115 | 8 => 158 | 9 => 159 | 11 => 211 | 13 => 153 | 12 => 212 | 23 => 202 | 24 => 203 | 14 => 246 | 15 => 247 | 16 => 248 | 17 => 249 | 18 => 250 | 19 => 251 | 20 => 225 | 21 => 252 | 22 => 253 | 25 => 270 | 26 => 234 | 27 => 235 | 28 => 271 | 29 => 272 | 30 => 154 | 31 => 283 | n => n, fun | 26 => 3 | 28 => 200 | 24 => 34 | 0 => 0 | 3 => 3 | 37 => 223 | 48 => 260 | 50 => 263 | 4 => 4 | 40 => 268 | 39 => 267 | 45 => 143 | 5 => 5 | 9 => 9 | 51 => 303 | 55 => 307 | 57 => 332 | 58 => 119 | 33 => 107 | n => n, fun | n => n⟩
theorem Tryz.sortedA : Go.Proofs.SlLaysZI.n6 Tryz.prog Tryz.sortedA_ren := {
 mixed := by kernel_rfl
 f6 := ⟨Tryz.f115.name, by decide, Tryz.func115.trans (congrArg some (by kernel_rfl))⟩
 f8 := ⟨Tryz.f158.name, by decide, Tryz.func158.trans (congrArg some (by kernel_rfl))⟩
 f11 := ⟨Tryz.f211.name, by decide, Tryz.func211.trans (congrArg some (by kernel_rfl))⟩
 t0 := Tryz.underlying0
 a0 := Tryz.isAgg0
 z0 := Tryz.sizeOf0
 v0 := Tryz.zeroValue0
 t24 := Tryz.underlying34
 a24 := Tryz.isAgg34
 z24 := Tryz.sizeOf34
 v24 := Tryz.zeroValue34
 t26 := Tryz.underlying3
 a26 := Tryz.isAgg3
 z26 := Tryz.sizeOf3
 v26 := Tryz.zeroValue3
 t28 := Tryz.underlying200
 a28 := Tryz.isAgg200
 z28 := Tryz.sizeOf200
 v28 := Tryz.zeroValue200
 i26 := by kernel_rfl }
def Tryz.sortA_ren : Go.Shelf.Ren := ⟨fun | 5 => 159 | 8 => 153 | 7 => 212 | 19 => 202 | 20 => 203 | 10 => 246 | 11 => 247 | 12 => 248 | 13 => 249 | 14 => 250 | 15 => 251 | 16 => 225 | 17 => 252 | 18 => 253 | 30 => 270 | 31 => 234 | 32 => 235 | 33 => 271 | 34 => 272 | 35 => 154 | 40 => 283 | n => n, fun | 23 => 34 | 25 => 3 | 3 => 3 | 32 => 223 | 22 => 34 | 0 => 0 | 44 => 260 | 46 => 263 | 4 => 4 | 36 => 268 | 35 => 267 | 41 => 143 | 5 => 5 | 9 => 9 | 53 => 303 | 57 => 307 | 63 => 332 | 64 => 119 | n => n, fun | n => n⟩
theorem Tryz.sortA : Go.Proofs.SlLaysM.n5 Tryz.prog Tryz.sortA_ren := {
 mixed := by kernel_rfl
 f5 := ⟨Tryz.f159.name, by decide, Tryz.func159.trans (congrArg some (by kernel_rfl))⟩
 f7 := ⟨Tryz.f212.name, by decide, Tryz.func212.trans (congrArg some (by kernel_rfl))⟩
 f8 := Tryz.func153.trans (congrArg some (by kernel_rfl))
 f10 := ⟨Tryz.f246.name, by decide, Tryz.func246.trans (congrArg some (by kernel_rfl))⟩
 f11 := ⟨Tryz.f247.name, by decide, Tryz.func247.trans (congrArg some (by kernel_rfl))⟩
 f12 := ⟨Tryz.f248.name, by decide, Tryz.func248.trans (congrArg some (by kernel_rfl))⟩
 f13 := ⟨Tryz.f249.name, by decide, Tryz.func249.trans (congrArg some (by kernel_rfl))⟩
 f14 := ⟨Tryz.f250.name, by decide, Tryz.func250.trans (congrArg some (by kernel_rfl))⟩
 f15 := ⟨Tryz.f251.name, by decide, Tryz.func251.trans (congrArg some (by kernel_rfl))⟩
 f16 := ⟨Tryz.f225.name, by decide, Tryz.func225.trans (congrArg some (by kernel_rfl))⟩
 f17 := ⟨Tryz.f252.name, by decide, Tryz.func252.trans (congrArg some (by kernel_rfl))⟩
 f18 := ⟨Tryz.f253.name, by decide, Tryz.func253.trans (congrArg some (by kernel_rfl))⟩
 f19 := Tryz.func202.trans (congrArg some (by kernel_rfl))
 f20 := Tryz.func203.trans (congrArg some (by kernel_rfl))
 f30 := ⟨Tryz.f270.name, by decide, Tryz.func270.trans (congrArg some (by kernel_rfl))⟩
 f31 := Tryz.func234.trans (congrArg some (by kernel_rfl))
 f32 := Tryz.func235.trans (congrArg some (by kernel_rfl))
 f33 := ⟨Tryz.f271.name, by decide, Tryz.func271.trans (congrArg some (by kernel_rfl))⟩
 f34 := ⟨Tryz.f272.name, by decide, Tryz.func272.trans (congrArg some (by kernel_rfl))⟩
 f35 := ⟨Tryz.f154.name, by decide, Tryz.func154.trans (congrArg some (by kernel_rfl))⟩
 f40 := ⟨Tryz.f283.name, by decide, Tryz.func283.trans (congrArg some (by kernel_rfl))⟩
 t0 := Tryz.underlying0
 a0 := Tryz.isAgg0
 z0 := Tryz.sizeOf0
 v0 := Tryz.zeroValue0
 t3 := Tryz.underlying3
 a3 := Tryz.isAgg3
 z3 := Tryz.sizeOf3
 v3 := Tryz.zeroValue3
 t4 := Tryz.underlying4
 a4 := Tryz.isAgg4
 z4 := Tryz.sizeOf4
 v4 := Tryz.zeroValue4
 t5 := Tryz.underlying5
 a5 := Tryz.isAgg5
 z5 := Tryz.sizeOf5
 v5 := Tryz.zeroValue5
 t9 := Tryz.underlying9
 a9 := Tryz.isAgg9
 z9 := Tryz.sizeOf9
 v9 := Tryz.zeroValue9
 t22 := Tryz.underlying34
 a22 := Tryz.isAgg34
 z22 := Tryz.sizeOf34
 v22 := Tryz.zeroValue34
 t23 := Tryz.underlying34
 a23 := Tryz.isAgg34
 z23 := Tryz.sizeOf34
 v23 := Tryz.zeroValue34
 t25 := Tryz.underlying3
 a25 := Tryz.isAgg3
 z25 := Tryz.sizeOf3
 v25 := Tryz.zeroValue3
 t32 := Tryz.underlying223
 a32 := Tryz.isAgg223
 z32 := Tryz.sizeOf223
 v32 := Tryz.zeroValue223
 t35 := Tryz.underlying267
 a35 := Tryz.isAgg267
 z35 := Tryz.sizeOf267
 v35 := Tryz.zeroValue267
 t36 := Tryz.underlying268
 a36 := Tryz.isAgg268
 z36 := Tryz.sizeOf268
 v36 := Tryz.zeroValue268
 t41 := Tryz.underlying143
 a41 := Tryz.isAgg143
 z41 := Tryz.sizeOf143
 v41 := Tryz.zeroValue143
 t44 := Tryz.underlying260
 a44 := Tryz.isAgg260
 z44 := Tryz.sizeOf260
 v44 := Tryz.zeroValue260
 t46 := Tryz.underlying263
 a46 := Tryz.isAgg263
 z46 := Tryz.sizeOf263
 v46 := Tryz.zeroValue263
 t53 := Tryz.underlying303
 a53 := Tryz.isAgg303
 z53 := Tryz.sizeOf303
 v53 := Tryz.zeroValue303
 t57 := Tryz.underlying307
 a57 := Tryz.isAgg307
 z57 := Tryz.sizeOf307
 v57 := Tryz.zeroValue307
 t63 := Tryz.underlying332
 a63 := Tryz.isAgg332
 z63 := Tryz.sizeOf332
 v63 := Tryz.zeroValue332
 t64 := Tryz.underlying119
 a64 := Tryz.isAgg119
 z64 := Tryz.sizeOf119
 v64 := Tryz.zeroValue119 }
end Go.Proofs

namespace Go.Gv
open Go.RowKit
end Go.Gv
namespace Go.Proofs
open Go.RowKit Go.Maps Go.Gv
theorem Tryz.law3:Keyed Tryz.prog 3:=int_keyed Tryz.underlying3
theorem Tryz.zero3(w:World):(zeroValue 3).run Tryz.prog w=.ok (.int .i64 0) w:=by kernel_rfl
theorem Tryz.fa0(p:Addr)(w:World):(Instr.fieldAt 195 (.pointer (some p)) 0).run Tryz.prog w=.ok (.pointer (some p)) w:=dU (off:=0) (by kernel_rfl) p w
theorem Tryz.fa4(p:Addr)(w:World):(Instr.fieldAt 67 (.pointer (some p)) 4).run Tryz.prog w=.ok (.pointer (some (p.add 4))) w:=dU (by kernel_rfl) p w
theorem dY{H:Type}{P:Program}{k:TypeId}{R:Value->Option (DataW H×List MemPlace)}{b n:Nat}{D:DataW H}{w w':World}(h:w.ownsMap P k R b n D)(hb:Below w.heap.size w w'):w'.ownsMap P k R b n D:=by
 have hl:=h.lt
 obtain⟨es,clock,h1,h2⟩:=h
 exact⟨es,clock,(hb.block b hl).trans h1,h2⟩
theorem kB{H:Type}{P:Program}(w:World){ops:Array Oper}{rest:List Oper}{o:Oper}{a:Act}{Q:Exit->Act->World->Prop}
  (hg:o.guard=none) (m x:Operand) (t:TypeId) (hop:o.op=Op.lookup t m x true)
  (k e:TypeId) (K:Keyed P k) (ht:P.underlying t=some (.map k e)) (he:P.underlying e=some (.int .i64)) (hz:(zeroValue e).run P w=.ok (.int .i64 0) w) (b n:Nat) (D:DataW H)
  (hm:a.eval m=.map (some b)) (hown:w.ownsMap P k (plainElem P e) b n D) (key:Value) (kl:Lit) (hx:a.eval x=key) (hkey:keyOf P k key=some kl) (c0:Int) (hh:Maps.has D kl=true) (hat:D.atKey kl (.lit (.int .i64 0))=.lit (.int .i64 c0))
  (hK:wpList P ops Q rest (a.put o.dst (.tuple #[.int .i64 c0,.bool true])) w) :
  wpList P ops Q (o::rest) a w :=
 wpList_lookup_own_ok_int w hg m x t hop k e .i64 K ht he hz b n D hm hown key kl hx hkey (fun c h1 _=>by
  rw[hat]at h1
  cases h1
  rw[hh]
  exact hK)
structure sG (T:World->Prop) (ta:Addr):Prop where
 keep:∀W W',T W->Below W.heap.size W W'->T W'
 s0:∀W,T W->Calls Tryz.prog 63 #[.pointer (some ta),.int .i64 5,.int .i64 0,.int .i64 0] W fun e W'=>e=.returned (.tuple #[.int .i64 8,.int .i64 2,.bool true])/\Below W.heap.size W W'
 s1:∀W,T W->Calls Tryz.prog 63 #[.pointer (some ta),.int .i64 5,.int .i64 0,.int .i64 1] W fun e W'=>e=.returned (.tuple #[.int .i64 4,.int .i64 2,.bool true])/\Below W.heap.size W W'
structure GU (D:DataW Unit):Prop where
 h8:Maps.has D (.int .i64 8)=true
 a8:D.atKey (.int .i64 8) (.lit (.int .i64 0))=.lit (.int .i64 0)
 h4:Maps.has D (.int .i64 4)=true
 a4:D.atKey (.int .i64 4) (.lit (.int .i64 0))=.lit (.int .i64 0)
set_option maxRecDepth 100000 in
set_option maxHeartbeats 4000000 in
theorem Tryz.best_walk(T:World->Prop)(ta:Addr)(S:sG T ta)(A:Addr)(c4:Nat)(b n:Nat)(D:DataW Unit)(w:World)(M:GU D)
  (hown:w.ownsMap Tryz.prog 3 (plainElem Tryz.prog 3) b n D) (hw:T w)
  (h4:w.cell? ⟨ta.block,ta.off+4,none⟩=some (.slice (some A) 2 c4)) :
  Calls Tryz.prog 62 #[.pointer (some ta),.int .i64 0,.int .i64 5,.map (some b)] w fun e w'=>e=.returned (.tuple #[.int .i64 0,.int .i64 2,.bool true])/\Below w.heap.size w w':=by
 have f0:=Tryz.fa0
 have f4:=Tryz.fa4
 go_enter Tryz.func62,Tryz.ntmps62
 go_wp2
 refine wp_loop_rounds 3 ?_
 rw[rounds_succ]
 go_wp2_with (first
  | (go_at_call 63;refine(S.s0 _ hw).mono ?_;rintro e w1 ⟨rfl,hb1⟩;have hown1:=dY hown hb1;have hw1:=S.keep _ _ hw hb1)
  | (at_lookup;refine kB _ rfl _ _ 144 rfl 3 3 Tryz.law3 Tryz.underlying144 Tryz.underlying3 (Tryz.zero3 _) b n D rfl hown1 _ _ rfl (keyOf_int_mk Tryz.underlying3 (by decide)) 0 M.h8 M.a8 ?_))
 rw[rounds_succ]
 go_wp2_with (first
  | (go_at_call 63;refine(S.s1 _ hw1).mono ?_;rintro e w2 ⟨rfl,hb2⟩;have hown2:=dY hown1 hb2;have hw2:=S.keep _ _ hw1 hb2)
  | (at_lookup;refine kB _ rfl _ _ 144 rfl 3 3 Tryz.law3 Tryz.underlying144 Tryz.underlying3 (Tryz.zero3 _) b n D rfl hown2 _ _ rfl (keyOf_int_mk Tryz.underlying3 (by decide)) 0 M.h4 M.a4 ?_))
 rw[rounds_succ]
 go_wp2
 go_ret3
 exact⟨rfl,hb1.trans (hb2.mono hb1.size)⟩
end Go.Proofs

namespace Go.Proofs
open Go.RowKit Go.Maps Go.Gv
theorem Tryz.inf144:(Tryz.prog.info? 144).map (fun i=>(i.zero,i.size,i.bytes))=some (some (.map none),1,8):=by kernel_rfl
theorem Tryz.mk141(W:World):(Instr.makeSlice 141 (.int .i64 2) (.int .i64 2)).run Tryz.prog W=.ok (.slice (some ⟨W.heap.size,0,none⟩) 2 2) (W.alloc (.cells #[.map none,.map none] 144)):=by
 obtain⟨i,hi,hz0,hz1,hz2⟩:=info_parts Tryz.inf144
 have h:=run_make (P:=Tryz.prog) W 141 144 i (.map none) Tryz.underlying141 hi hz0 .i64 .i64 2 2 (by decide) (by decide) (by rw[hz2];decide) (by decide)
 rw[hz1]at h
 have e:madeCells (Value.map none).cells (Int.toNat 2*1)=#[.map none,.map none]:=by
  refine Array.ext (by simp[size_madeCells]) fun i h1 h2=>?_
  simp at h2
  have h3:i=0\/i=1:=by omega
  rcases h3 with rfl|rfl<;>simp[madeCells,Value.cells]
 rw[e]at h
 exact h
theorem AJ{H:Type}{P:Program}{k:TypeId}{R:Value->Option (DataW H×List MemPlace)}{b c n:Nat}{D:DataW H}{w w':World}(h:w.ownsMap P k R b n D)(hg:w.grownBy w' (some c))(hne:b≠c):w'.ownsMap P k R b n D:=by
 have hl:=h.lt
 obtain⟨es,clock,h1,h2⟩:=h
 exact⟨es,clock,(hg.block b hl (by simp;exact hne)).trans h1,h2⟩
theorem Hi:GU (((DataW.map []:DataW Unit).put (.int .i64 4) (.lit (.int .i64 0))).put (.int .i64 8) (.lit (.int .i64 0))):=⟨by rfl,by rfl,by rfl,by rfl⟩
theorem M6:Maps.has ((DataW.map []:DataW Unit).put (.int .i64 5) (.lit (.int .i64 2))) (.int .i64 5)=true/\((DataW.map []:DataW Unit).put (.int .i64 5) (.lit (.int .i64 2))).atKey (.int .i64 5) (.lit (.int .i64 0))=.lit (.int .i64 2):=⟨by rfl,by rfl⟩
set_option maxRecDepth 100000 in
set_option maxHeartbeats 4000000 in
theorem Tryz.values_walk(T:World->Prop)(ta:Addr)(S:sG T ta)(A4 A B0 B1:Addr)(c4 cA c0 c1:Nat)(w:World)(hw:T w)
  (h4:w.cell? ⟨ta.block,ta.off+4,none⟩=some (.slice (some A4) 2 c4))
  (hr0:w.cell? A=some (.slice (some B0) 1 c0)) (hr1:w.cell? ⟨A.block,A.off+1,none⟩=some (.slice (some B1) 2 c1))
  (h5:w.cell? B0=some (.int .i64 5)) (hv4:w.cell? B1=some (.int .i64 4)) (hv8:w.cell? ⟨B1.block,B1.off+1,none⟩=some (.int .i64 8)) :
  Calls Tryz.prog 61 #[.pointer (some ta),.int .i64 0,.slice (some A) 2 cA] w fun e w'=>∃(R b0 b1:Nat),e=.returned (.slice (some ⟨R,0,none⟩) 2 2)/\Below w.heap.size w w'/\w'.cell? ⟨R,0,none⟩=some (.map (some b0))/\w'.cell? ⟨R,1,none⟩=some (.map (some b1)) /\
   w'.ownsMap Tryz.prog 3 (plainElem (H:=Unit) Tryz.prog 3) b0 1 ((DataW.map []).put (.int .i64 5) (.lit (.int .i64 2)))/\w'.ownsMap Tryz.prog 3 (plainElem (H:=Unit) Tryz.prog 3) b1 2 (((DataW.map []).put (.int .i64 4) (.lit (.int .i64 0))).put (.int .i64 8) (.lit (.int .i64 0))):=by
 have f0:=Tryz.fa0
 have f4:=Tryz.fa4
 have hmm:=@run_makeMap Tryz.prog
 have hms:=Tryz.mk141
 have lt:∀{p:Addr} {v:Value},w.cell? p=some v->p.block<w.heap.size:=fun h=>World.block_lt_of_cell? w _ h
 have B1':Below w.heap.size w ((w.alloc (.cells #[.map none,.map (some (w.heap.size+1))] 144)).alloc (.map #[] 0)):=((Below.refl _ w).alloc (x0k _) _).alloc (by simp) _
 have q0:=(B1'.cell (lt hr1)).trans hr1
 have q1:=(B1'.cell (lt hv4)).trans hv4
 have q2:=(B1'.cell (lt hv8)).trans hv8
 have x1:((w.alloc (.cells #[.map none,.map (some (w.heap.size+1))] 144)).alloc (.map #[] 0)).cell? ⟨w.heap.size,1,none⟩=some (.map (some (w.heap.size+1))):=by simp
 have z1:((w.alloc (.cells #[.map none,.map (some (w.heap.size+1))] 144)).alloc (.map #[] 0)).frozen? ⟨w.heap.size,0,none⟩=false:=by simp
 have y1:((w.alloc (.cells #[.map none,.map (some (w.heap.size+1))] 144)).alloc (.map #[] 0)).cell? ⟨w.heap.size,0,none⟩=some (.map none):=by simp
 have s1:((w.alloc (.cells #[.map none,.map (some (w.heap.size+1))] 144)).alloc (.map #[] 0)).heap.size=w.heap.size+2:=by simp
 have own1:((w.alloc (.cells #[.map none,.map (some (w.heap.size+1))] 144)).alloc (.map #[] 0)).ownsMap Tryz.prog 3 (plainElem (H:=Unit) Tryz.prog 3) (w.heap.size+1) 0 (.map []):=by
  have h:=World.ownsMap_made (w.alloc (.cells #[.map none,.map (some (w.heap.size+1))] 144)) Tryz.prog 3 (plainElem (H:=Unit) Tryz.prog 3)
  simpa using h
 go_enter Tryz.func61,Tryz.ntmps61
 go_wp2
 generalize ((w.alloc (.cells #[.map none,.map (some (w.heap.size+1))] 144)).alloc (.map #[] 0))=W1 at *
 refine wp_loop_rounds 3 ?_
 rw[rounds_succ]
 go_wp2_with (first
  | (at_mapUpdate;refine wpList_mapUpdate_own _ rfl _ _ _ 144 rfl 3 3 Tryz.law3 Tryz.underlying144 _ (w.heap.size+1) 0 _ rfl own1 (by unfold maxLen;omega) _ _ _ rfl rfl (keyOf_int_mk Tryz.underlying3 (by decide)) _ [] (plainElem_int Tryz.underlying3 (by decide)) ?_;intro W2 own2 g2))
 have B2:=B1'.grown g2 B1'.size (fun j hj=>by cases hj;omega)
 have p1:=(B2.cell (lt hr1)).trans hr1
 have p2:=(B2.cell (lt hv8)).trans hv8
 have x2:=g2.cell x1 (by simp)
 have y2:=g2.cell y1 (by simp)
 have s2:=g2.size
 rw[rounds_succ]
 go_wp2_with (first
  | (at_mapUpdate;refine wpList_mapUpdate_own _ rfl _ _ _ 144 rfl 3 3 Tryz.law3 Tryz.underlying144 _ (w.heap.size+1) 1 _ rfl own2 (by unfold maxLen;omega) _ _ _ rfl rfl (keyOf_int_mk Tryz.underlying3 (by decide)) _ [] (plainElem_int Tryz.underlying3 (by decide)) ?_;intro W3 own3 g3))
 have B3:=B2.grown g3 B2.size (fun j hj=>by cases hj;omega)
 have o0:=(B3.cell (lt hr0)).trans hr0
 have o1:=(B3.cell (lt hr1)).trans hr1
 have o5:=(B3.cell (lt h5)).trans h5
 have x3:=g3.cell x2 (by simp)
 have y3:=g3.cell y2 (by simp)
 have s3:=g3.size
 have z2:W2.frozen? ⟨w.heap.size,0,none⟩=false:=(World.frozen?_of_block (g2.block w.heap.size (by omega) (by simp))).trans z1
 have z3:W3.frozen? ⟨w.heap.size,0,none⟩=false:=(World.frozen?_of_block (g3.block w.heap.size (by omega) (by simp))).trans z2
 rw[rounds_succ]
 go_wp2
 have l3:w.heap.size<W3.heap.size:=World.block_lt_of_cell? _ _ y3
 have sV:(W3.setCell ⟨w.heap.size,0,none⟩ (.map (some W3.heap.size))).heap.size=W3.heap.size:=by simp
 have AV:Below W3.heap.size (W3.setCell ⟨w.heap.size,0,none⟩ (.map (some W3.heap.size))) ((W3.setCell ⟨w.heap.size,0,none⟩ (.map (some W3.heap.size))).alloc (.map #[] 0)):=(Below.refl _ _).alloc (by omega) _
 have B4:Below w.heap.size w ((W3.setCell ⟨w.heap.size,0,none⟩ (.map (some W3.heap.size))).alloc (.map #[] 0)):=(B3.setCell (x0k _) _).alloc (by omega) _
 have u0:=(B4.cell (lt hr0)).trans hr0
 have u5:=(B4.cell (lt h5)).trans h5
 have x4:((W3.setCell ⟨w.heap.size,0,none⟩ (.map (some W3.heap.size))).alloc (.map #[] 0)).cell? ⟨w.heap.size,1,none⟩=some (.map (some (w.heap.size+1))):=(AV.cell l3).trans ((World.cell?_setCell_other _ _ _ _ (by simp)).trans x3)
 have y4:((W3.setCell ⟨w.heap.size,0,none⟩ (.map (some W3.heap.size))).alloc (.map #[] 0)).cell? ⟨w.heap.size,0,none⟩=some (.map (some W3.heap.size)):=(AV.cell l3).trans (World.cell?_setCell_same _ _ _ y3)
 have own4:((W3.setCell ⟨w.heap.size,0,none⟩ (.map (some W3.heap.size))).alloc (.map #[] 0)).ownsMap Tryz.prog 3 (plainElem (H:=Unit) Tryz.prog 3) W3.heap.size 0 (.map []):=by
  have h:=World.ownsMap_made (W3.setCell ⟨w.heap.size,0,none⟩ (.map (some W3.heap.size))) Tryz.prog 3 (plainElem (H:=Unit) Tryz.prog 3)
  rw[sV]at h
  exact h
 have own5:=dY (own3.setCell (a:=⟨w.heap.size,0,none⟩) (by simp) (.map (some W3.heap.size))) (by rw[sV];exact AV)
 refine wp_loop_rounds 2 ?_
 rw[rounds_succ]
 go_wp2_with fail
 generalize ((W3.setCell ⟨w.heap.size,0,none⟩ (.map (some W3.heap.size))).alloc (.map #[] 0))=W4 at *
 refine wp_loop_rounds 2 ?_
 rw[rounds_succ]
 have w4:=S.keep _ _ hw B4
 have h44:=(B4.cell (lt h4)).trans h4
 go_wp2_with (first
  | (go_at_call 62;refine(Tryz.best_walk T ta S A4 c4 _ _ _ W4 Hi own5 w4 h44).mono ?_;rintro e W5 ⟨rfl,C5⟩;have B5:=B4.trans (C5.mono B4.size);have x5:=(C5.cell (World.block_lt_of_cell? _ _ x4)).trans x4;have y5:=(C5.cell (World.block_lt_of_cell? _ _ y4)).trans y4;have own6:=dY own4 C5;have own7:=dY own5 C5)
  | (at_mapUpdate;refine wpList_mapUpdate_own _ rfl _ _ _ 144 rfl 3 3 Tryz.law3 Tryz.underlying144 _ W3.heap.size 0 _ rfl own6 (by unfold maxLen;omega) _ _ _ rfl rfl (keyOf_int_mk Tryz.underlying3 (by decide)) _ [] (plainElem_int Tryz.underlying3 (by decide)) ?_;intro W6 own8 g6))
 have s4:=g2.size
 have s5:=g3.size
 have B6:=B5.grown g6 B5.size (fun j hj=>by cases hj;omega)
 have x6:=g6.cell x5 (by simp;omega)
 have y6:=g6.cell y5 (by simp;omega)
 have own9:=AJ own7 g6 (by omega)
 rw[rounds_succ]
 go_wp2
 rw[rounds_succ]
 go_wp2
 go_ret
 exact⟨_,_,_,rfl,B6,y6,x6,own8,own9⟩
end Go.Proofs

namespace Go.Proofs
open Go.RowKit Go.Maps Go.Gv Go.Shelf Go.Sort
theorem Tryz.sortsP(m:Nat):AnyZI.SortsIn Tryz.prog Tryz.sortedA_ren Fence.wide m :=
 ⟨fun blk off cap ss W hH hblk hsz=>callsIn_wide.2 (AnyM.slices_Sort_int Tryz.sortA blk off cap ss W hH hblk hsz),
  fun p cap W=>callsIn_wide.2 (AnyM.slices_Sort_int_none Tryz.sortA p cap W)⟩
theorem Tryz.keys_c(mb:Option Nat)(W:World):Calls Tryz.prog 116 #[.map mb] W fun e w'=>e=.returned (.func (.func 160) #[] #[.pointer (some ⟨W.heap.size,0,none⟩)])/\w'=W.alloc (.cells #[.map mb] 197) :=
 callsIn_wide.1 (AnyZI.keys_in Tryz.keysA Fence.wide 5 trivial rfl mb W)
theorem Jm{ss:List Int}(h:ss.Perm [4,8]):ss.mergeSort (fun x y=>decide (x<=y))=[4,8]/\ss.length=2:=by
 refine⟨?_,by simpa using h.length_eq⟩
 have h1:=(List.mergeSort_perm ss (fun x y=>decide (x<=y))).trans h
 have h2:(ss.mergeSort (fun x y=>decide (x<=y))).Pairwise (fun x y=>decide (x<=y)=true):=List.pairwise_mergeSort (fun a b c h1 h2=>by simp at h1 h2 ⊢;omega) (fun a b=>by simp;omega) ss
 exact List.Perm.eq_of_pairwise (fun a b _ _ h1 h2=>by simp at h1 h2;omega) h2 (by simp) h1
def D84:DataW Unit:=((DataW.map []:DataW Unit).put (.int .i64 8) (.lit (.bool true))).put (.int .i64 4) (.lit (.bool true))
theorem pA:Maps.size D84=2:=rfl
theorem Ci:(intKeys D84).Perm [4,8]:=by
 have:intKeys D84=[4,8]\/intKeys D84=[8,4]:=by first|exact .inl rfl|exact .inr rfl
 rcases this with h|h<;>rw[h]
 exact List.Perm.swap _ _ _
theorem Tryz.sorted_c(b n:Nat)(w:World)(hown:w.ownsMap Tryz.prog 3 (plainElem Tryz.prog 4) b n D84) :
  Calls Tryz.prog 115 #[.func (.func 160) #[] #[.pointer (some ⟨w.heap.size,0,none⟩)]] (w.alloc (.cells #[.map (some b)] 197)) fun e w'=>∃v,e=.returned v /\
   w'.ownsRow (w.heap.size+1) 3 1 v 2 [.int .i64 4,.int .i64 8]/\Below (w.heap.size+1) (w.alloc (.cells #[.map (some b)] 197)) w':=by
 have hbl:=hown.lt
 have hseq:SeqGives Fence.wide 2 Tryz.prog 160 #[.pointer (some ⟨w.heap.size,0,none⟩)] encZ (fun ss=>ss.Perm (intKeys D84)) (Maps.size D84) (w.alloc (.cells #[.map (some b)] 197)) :=
  AnyZI.keys_gives (ρ:=Tryz.keysA_ren) { Tryz.keysA with } Fence.wide _ trivial rfl (by omega) w.heap.size b n D84 _ (by simp) (by simp) (by
   obtain⟨es,clock,hb,Ft,hs,hD⟩:=hown
   exact⟨es,clock,(Below.heap_alloc _ _ b hbl).trans hb,Ft,hs,hD⟩)
 have cS:=AnyZI.sorted_in Tryz.sortedA Fence.wide 5 trivial trivial trivial trivial rfl (by omega) (Tryz.sortsP _) (enters_of Tryz.func159 (by kernel_rfl) rfl) 160 #[.pointer (some ⟨w.heap.size,0,none⟩)] trivial (enters_of Tryz.func160 (by kernel_rfl) rfl) _ _ (by rw[pA];decide) (by rw[pA];decide) _ hseq
 have cS':=callsIn_wide.1 cS
 refine cS'.mono ?_
 rintro e w' ⟨v,ss,rfl,hS,hrow,hnil,hb⟩
 obtain⟨h1,h2⟩:=Jm (hS.trans Ci)
 rw[h1,h2]at hrow
 refine⟨v,rfl,?_,?_⟩
 ·have h3:(w.alloc (.cells #[.map (some b)] 197)).heap.size=w.heap.size+1:=by simp
  rw[h3]at hrow
  exact hrow
 ·have h3:(w.alloc (.cells #[.map (some b)] 197)).heap.size=w.heap.size+1:=by simp
  rw[h3]at hb
  exact hb
theorem Tryz.inf34:(Tryz.prog.info? 34).map (fun i=>(i.zero,i.size,i.bytes))=some (some (.slice none 0 0),1,24):=by kernel_rfl
theorem Tryz.fa3(p:Addr)(w:World):(Instr.fieldAt 67 (.pointer (some p)) 3).run Tryz.prog w=.ok (.pointer (some (p.add 3))) w:=dU (by kernel_rfl) p w
set_option maxRecDepth 100000 in
set_option maxHeartbeats 4000000 in
theorem Tryz.reach_walk(T:World->Prop)(ta:Addr)(S:sG T ta)(A3:Option Addr)(A4:Addr)(c3 c4:Nat)(w:World)(hw:T w)
  (h3:w.cell? ⟨ta.block,ta.off+3,none⟩=some (.slice A3 1 c3))
  (h4:w.cell? ⟨ta.block,ta.off+4,none⟩=some (.slice (some A4) 2 c4)) :
  Calls Tryz.prog 60 #[.pointer (some ta),.int .i64 0,.int .i64 5] w fun e w'=>∃(A B0 B1:Addr) (cA k0 k1:Nat),e=.returned (.tuple #[.slice (some A) 2 cA,.bool true])/\Below w.heap.size w w' /\
   w'.cell? A=some (.slice (some B0) 1 k0)/\w'.cell? ⟨A.block,A.off+1,none⟩=some (.slice (some B1) 2 k1)/\w'.cell? B0=some (.int .i64 5)/\w'.cell? B1=some (.int .i64 4)/\w'.cell? ⟨B1.block,B1.off+1,none⟩=some (.int .i64 8):=by
 have f0:=Tryz.fa0
 have f3:=Tryz.fa3
 have f4:=Tryz.fa4
 have hmm:=@run_makeMap Tryz.prog
 have lt:∀{p:Addr} {v:Value},w.cell? p=some v->p.block<w.heap.size:=fun h=>World.block_lt_of_cell? w _ h
 have B1:Below w.heap.size w ((w.alloc (.cells #[.int .i64 5] 3)).alloc (.cells #[.slice (some ⟨w.heap.size,0,none⟩) 1 1] 34)):=((Below.refl _ w).alloc (x0k _) _).alloc (by simp) _
 have q3:=(B1.cell (lt h3)).trans h3
 have BX:Below w.heap.size w (((w.alloc (.cells #[.int .i64 5] 3)).alloc (.cells #[.slice (some ⟨w.heap.size,0,none⟩) 1 1] 34)).alloc (.map #[] 0)):=B1.alloc (by simp;omega) _
 have s2:((w.alloc (.cells #[.int .i64 5] 3)).alloc (.cells #[.slice (some ⟨w.heap.size,0,none⟩) 1 1] 34)).heap.size=w.heap.size+1+1:=by simp
 have hb5:(((w.alloc (.cells #[.int .i64 5] 3)).alloc (.cells #[.slice (some ⟨w.heap.size,0,none⟩) 1 1] 34)).alloc (.map #[] 0)).heap[w.heap.size]? = some (.cells #[.int .i64 5] 3 (0,0)):=(Below.heap_alloc _ _ _ (by rw[s2];omega)).trans (heap_alloc2_old w _ _)
 have hr:(((w.alloc (.cells #[.int .i64 5] 3)).alloc (.cells #[.slice (some ⟨w.heap.size,0,none⟩) 1 1] 34)).alloc (.map #[] 0)).heap[w.heap.size+1]? = some (.cells #[.slice (some ⟨w.heap.size,0,none⟩) 1 1] 34 (0,0)):=(Below.heap_alloc _ _ _ (by rw[s2];omega)).trans (heap_alloc2_new w _ _)
 have r5:(((w.alloc (.cells #[.int .i64 5] 3)).alloc (.cells #[.slice (some ⟨w.heap.size,0,none⟩) 1 1] 34)).alloc (.map #[] 0)).cell? ⟨w.heap.size,0,none⟩=some (.int .i64 5):=by simp[World.cell?,hb5]
 have sX:(((w.alloc (.cells #[.int .i64 5] 3)).alloc (.cells #[.slice (some ⟨w.heap.size,0,none⟩) 1 1] 34)).alloc (.map #[] 0)).heap.size=w.heap.size+3:=by simp
 have ownX:(((w.alloc (.cells #[.int .i64 5] 3)).alloc (.cells #[.slice (some ⟨w.heap.size,0,none⟩) 1 1] 34)).alloc (.map #[] 0)).ownsMap Tryz.prog 3 (plainElem (H:=Unit) Tryz.prog 4) (w.heap.size+1+1) 0 (.map []):=by
  have h:=World.ownsMap_made ((w.alloc (.cells #[.int .i64 5] 3)).alloc (.cells #[.slice (some ⟨w.heap.size,0,none⟩) 1 1] 34)) Tryz.prog 3 (plainElem (H:=Unit) Tryz.prog 4)
  have e:((w.alloc (.cells #[.int .i64 5] 3)).alloc (.cells #[.slice (some ⟨w.heap.size,0,none⟩) 1 1] 34)).heap.size=w.heap.size+1+1:=by simp
  rw[e]at h
  exact h
 go_enter Tryz.func60,Tryz.ntmps60
 go_wp2
 refine wp_loop_rounds 2 ?_
 rw[rounds_succ]
 go_wp2_with fail
 generalize (((w.alloc (.cells #[.int .i64 5] 3)).alloc (.cells #[.slice (some ⟨w.heap.size,0,none⟩) 1 1] 34)).alloc (.map #[] 0))=X at *
 have hX:=S.keep _ _ hw BX
 have h4X:=(BX.cell (lt h4)).trans h4
 refine wp_loop_rounds 2 ?_
 rw[rounds_succ]
 go_wp2_with fail
 refine wp_loop_rounds 3 ?_
 rw[rounds_succ]
 go_wp2_with (first
  | (go_at_call 63;refine(S.s0 _ hX).mono ?_;rintro e W2 ⟨rfl,b2⟩;have B2:=BX.trans (b2.mono BX.size);have own2:=dY ownX b2)
  | (at_mapUpdate;refine wpList_mapUpdate_own _ rfl _ _ _ 197 rfl 3 4 Tryz.law3 Tryz.underlying197 _ (w.heap.size+1+1) 0 _ rfl own2 (by unfold maxLen;omega) _ _ _ rfl rfl (keyOf_int_mk Tryz.underlying3 (by decide)) _ [] (plainElem_bool Tryz.underlying4 true) ?_;intro W3 own3 g3))
 have B3:=B2.grown g3 B2.size (fun j hj=>by cases hj;omega)
 have hW3:=S.keep _ _ hw B3
 rw[rounds_succ]
 go_wp2_with (first
  | (go_at_call 63;refine(S.s1 _ hW3).mono ?_;rintro e W4 ⟨rfl,b4⟩;have B4:=B3.trans (b4.mono B3.size);have own4:=dY own3 b4)
  | (at_mapUpdate;refine wpList_mapUpdate_own _ rfl _ _ _ 197 rfl 3 4 Tryz.law3 Tryz.underlying197 _ (w.heap.size+1+1) 1 _ rfl own4 (by unfold maxLen;omega) _ _ _ rfl rfl (keyOf_int_mk Tryz.underlying3 (by decide)) _ [] (plainElem_bool Tryz.underlying4 true) ?_;intro W5 own5 g5))
 have B5:=B4.grown g5 B4.size (fun j hj=>by cases hj;omega)
 have own6:W5.ownsMap Tryz.prog 3 (plainElem Tryz.prog 4) (w.heap.size+1+1) 2 D84:=own5
 have z2:=b2.size
 have z3:=g3.size
 have z4:=b4.size
 have z5:=g5.size
 have hr5:W5.heap[w.heap.size+1]? = some (.cells #[.slice (some ⟨w.heap.size,0,none⟩) 1 1] 34 (0,0)) :=
  (g5.block _ (by omega) (by simp)).trans ((b4.block _ (by omega)).trans ((g3.block _ (by omega) (by simp)).trans ((b2.block _ (by omega)).trans hr)))
 have hb55:W5.heap[w.heap.size]? = some (.cells #[.int .i64 5] 3 (0,0)) :=
  (g5.block _ (by omega) (by simp;omega)).trans ((b4.block _ (by omega)).trans ((g3.block _ (by omega) (by simp;omega)).trans ((b2.block _ (by omega)).trans hb5)))
 obtain⟨i0,hi,hz0,hz1,hz2⟩:=info_parts Tryz.inf34
 rw[rounds_succ]
 go_wp2_with fail
 rw[rounds_succ]
 go_wp2_with (first
  | (at_len;refine wpList_len_own _ rfl _ 197 rfl 3 4 Tryz.underlying197 _ (w.heap.size+1+1) 2 _ rfl own6 ?_;rw[pA])
  | (go_at_call 116;refine(Tryz.keys_c _ _).mono ?_;rintro e w' ⟨rfl,rfl⟩)
  | (go_at_call 115;refine(Tryz.sorted_c (w.heap.size+1+1) 2 W5 own6).mono ?_;rintro e W6 ⟨v,rfl,hrow,b6⟩;obtain⟨g,cap,rfl,hg1,hg2⟩:=hrow.form (by decide)
     have z6:=b6.size
     have za:(W5.alloc (.cells #[.map (some (w.heap.size+1+1))] 197)).heap.size=W5.heap.size+1:=by simp
     have hr6:W6.heap[w.heap.size+1]? = some (.cells #[.slice (some ⟨w.heap.size,0,none⟩) 1 1] 34 (0,0)):=(b6.block _ (by omega)).trans ((Below.heap_alloc _ _ _ (by omega)).trans hr5)
     have hb6:W6.heap[w.heap.size]? = some (.cells #[.int .i64 5] 3 (0,0)):=(b6.block _ (by omega)).trans ((Below.heap_alloc _ _ _ (by omega)).trans hb55)
     have B6:Below w.heap.size w W6:=(B5.alloc (by omega) _).trans (b6.mono (by omega))
     have hown:(W6.alloc (.cells #[.slice (some ⟨g,0,none⟩) 2 cap] 34)).ownsRow w.heap.size 34 1 (.slice (some ⟨w.heap.size+1,0,none⟩) 1 1) 1 [.slice (some ⟨w.heap.size,0,none⟩) 1 1] :=
      ⟨rfl,.inr ⟨w.heap.size+1,1,#[.slice (some ⟨w.heap.size,0,none⟩) 1 1],rfl,by omega,(Below.heap_alloc _ _ _ (by omega)).trans hr6,x0k _,by decide,rfl,rfl⟩⟩
     have hnew:=cell_one_new W6 (.slice (some ⟨g,0,none⟩) 2 cap) 34)
  | (at_builtin;refine wpList_append_own _ rfl (.tmp 69) (.tmp 73) 116 rfl w.heap.size 34 i0 (.slice none 0 0) 1 24 Tryz.underlying116 hi hz0 hz1 hz2 rfl (by decide) (.slice (some ⟨w.heap.size+1,0,none⟩) 1 1) 1 _ rfl hown ⟨W6.heap.size,0,none⟩ 1 1 [.slice (some ⟨g,0,none⟩) 2 cap] rfl rfl hnew (by simp[Value.oneCell']) (by unfold maxLen;omega) (by omega) (by simp;omega) ?_;intro v' W7 hown7 g70 hnil;have g7:World.grownBy _ W7 (some (w.heap.size+1)):=g70))
 obtain⟨_,hcs⟩:=hown7
 have hl7:=g7.size
 have B7:=(B6.alloc (by omega) _).grown g7 (by simp;omega) (fun k hk=>by cases hk;omega)
 have q7:=(B7.cell (lt h3)).trans h3
 rcases hcs with ⟨_,h0⟩|⟨G,cG,cur,rfl,hG1,hG2,_,_,hG4,hG5⟩
 ·simp at h0
 rw[rounds_succ]
 go_wp2
 go_ret2
 have l6:(W6.alloc (.cells #[.slice (some ⟨g,0,none⟩) 2 cap] 34)).heap.size=W6.heap.size+1:=by simp
 have hbn:W7.heap[w.heap.size]? = some (.cells #[.int .i64 5] 3 (0,0)):=(g7.block _ (by omega) (by simp)).trans ((Below.heap_alloc _ _ _ (by omega)).trans hb6)
 obtain⟨_,hrc⟩:=hrow
 rcases hrc with ⟨_,h0⟩|⟨g',c',cur',e',_,hg4,_,_,_,hg5⟩
 ·simp at h0
 simp only[Value.slice.injEq,x0s,Addr.mk.injEq]at e'
 obtain⟨⟨rfl,_⟩,_,rfl⟩:=e'
 have hbg:W7.heap[g]? = some (.cells cur' 3 (0,0)):=(g7.block _ (by omega) (by simp;omega)).trans ((Below.heap_alloc _ _ _ (by omega)).trans hg4)
 have e0:cur[0]? = some (.slice (some ⟨w.heap.size,0,none⟩) 1 1):=by
  have:=congrArg (fun l=>l[0]?) hG5
  simpa using this
 have e1:cur[1]? = some (.slice (some ⟨g,0,none⟩) 2 cap):=by
  have:=congrArg (fun l=>l[1]?) hG5
  simpa using this
 have e2:cur'[0]? = some (.int .i64 4):=by
  have:=congrArg (fun l=>l[0]?) hg5
  simpa using this
 have e3:cur'[1]? = some (.int .i64 8):=by
  have:=congrArg (fun l=>l[1]?) hg5
  simpa using this
 exact⟨⟨G,0,none⟩,⟨w.heap.size,0,none⟩,⟨g,0,none⟩,cG,1,cap,rfl,B7,by simp[World.cell?,hG2,e0],by simp[World.cell?,hG2,e1],by simp[World.cell?,hbn],by simp[World.cell?,hbg,e2],by simp[World.cell?,hbg,e3]⟩
end Go.Proofs

namespace Go.Proofs
open Go.RowKit Go.Maps Go.Gv Go.Shelf Go.Sort
theorem Tryz.fb0(p:Addr)(w:World):(Instr.fieldAt 67 (.pointer (some p)) 0).run Tryz.prog w=.ok (.pointer (some p)) w:=dU (off:=0) (by kernel_rfl) p w
theorem Tryz.inf3:(Tryz.prog.info? 3).map (fun i=>(i.zero,i.size,i.bytes))=some (some (.int .i64 0),1,8):=by kernel_rfl
theorem FI{H:Type}{P:Program}{w:World}{t k e:TypeId}{b n:Nat}{D:DataW H}(hown:w.ownsMap P k (plainElem P e) b n D)(K:Keyed P k)(ht:P.underlying t=some (.map k e))(he:P.underlying e=some (.int .i64))(hz:∀w:World,(zeroValue e).run P w=.ok (.int .i64 0) w){key:Value}{kl:Lit}(hkey:keyOf P k key=some kl){c0:Int}(hh:Maps.has D kl=true)(hat:D.atKey kl (.lit (.int .i64 0))=.lit (.int .i64 c0)) :
  (Instr.lookup t (.map (some b)) key true).run P w=.ok (.tuple #[.int .i64 c0,.bool true]) w:=by
 obtain⟨v,ps,hrun,hv⟩:=hown.look_ok K ht (hz w) (plainElem_int (H:=H) he (a:=0) (by decide)) hkey
 obtain⟨c,rfl,hc,_⟩:=plainElem_int_inv he hv
 have h1:=congrArg Prod.fst hc
 simp only at h1
 rw[hat]at h1
 cases h1
 rw[hrun,hh]
structure Pg (P:Prop):Prop where
 get:P
structure HM (p:Value) (w:World) (W:World) (T:World->Prop) (ta:Addr) (A3:Option Addr) (A4:Addr) (c3 c4:Nat):Prop where
 b:Below w.heap.size w W
 t:T W
 S:sG T ta
 h3:∀W',T W'->W'.cell? ⟨ta.block,ta.off+3,none⟩=some (.slice A3 1 c3)
 h4:∀W',T W'->W'.cell? ⟨ta.block,ta.off+4,none⟩=some (.slice (some A4) 2 c4)
set_option maxRecDepth 100000 in
set_option maxHeartbeats 4000000 in
theorem Tryz.solve_walk(Ai Ar Ap:Option Addr)(ci cr cp:Nat)(w:World)(p:Value)(hp:p=.agg #[.int .i64 5,.int .i64 10,.int .i64 0,.slice Ai 1 ci,.slice Ar 2 cr,.slice Ap 1 cp,.int .i64 1])
  (hr0:∃R,Ar=some R/\w.cell? R=some (.int .i64 0))
  (hT:Pg (∀W,Below w.heap.size w W->Calls Tryz.prog 59 #[p] W fun e W'=>∃T ta A3 A4 c3 c4,e=.returned (.tuple #[.pointer (some ta),.bool true])/\HM p W W' T ta A3 A4 c3 c4)) :
  Calls Tryz.prog 17 #[p] w fun e w'=>∃G cG,e=.returned (.tuple #[.int .i64 2,.slice (some ⟨G,0,none⟩) 1 cG,.int .i64 0])/\Below w.heap.size w w'/\w.heap.size<=G/\w'.cell? ⟨G,0,none⟩=some (.int .i64 0)/\1<=cG:=by
 subst hp
 have f0:=Tryz.fa0
 have f3:=Tryz.fa3
 have f4:=Tryz.fa4
 have fb:=Tryz.fb0
 obtain⟨R,rfl,hr0⟩:=hr0
 have lt:∀{W:World} {p:Addr} {v:Value},W.cell? p=some v->p.block<W.heap.size:=fun h=>World.block_lt_of_cell? _ _ h
 have sA:(w.alloc (.cells #[.int .i64 5,.int .i64 10,.int .i64 0,.slice Ai 1 ci,.slice (some R) 2 cr,.slice Ap 1 cp,.int .i64 1] 67)).heap.size=w.heap.size+1:=by simp
 have BA:Below w.heap.size w (w.alloc (.cells #[.int .i64 5,.int .i64 10,.int .i64 0,.slice Ai 1 ci,.slice (some R) 2 cr,.slice Ap 1 cp,.int .i64 1] 67)):=(Below.refl _ w).alloc (x0k _) _
 have a0:(w.alloc (.cells #[.int .i64 5,.int .i64 10,.int .i64 0,.slice Ai 1 ci,.slice (some R) 2 cr,.slice Ap 1 cp,.int .i64 1] 67)).cell? ⟨w.heap.size,0,none⟩=some (.int .i64 5):=by simp
 have a3:(w.alloc (.cells #[.int .i64 5,.int .i64 10,.int .i64 0,.slice Ai 1 ci,.slice (some R) 2 cr,.slice Ap 1 cp,.int .i64 1] 67)).cell? ⟨w.heap.size,3,none⟩=some (.slice Ai 1 ci):=by simp
 have a4:(w.alloc (.cells #[.int .i64 5,.int .i64 10,.int .i64 0,.slice Ai 1 ci,.slice (some R) 2 cr,.slice Ap 1 cp,.int .i64 1] 67)).cell? ⟨w.heap.size,4,none⟩=some (.slice (some R) 2 cr):=by simp
 go_enter Tryz.func17,Tryz.ntmps17
 go_wp2_with (first
  | (go_at_call 59;refine(hT.get _ BA).mono ?_;rintro e W2 ⟨T,ta,A3,A4,c3,c4,rfl,K⟩
     have t2:=K.t
     have B2:=BA.trans (K.b.mono (by omega))
     have p0:=(K.b.cell (lt a0)).trans a0
     have p3:=(K.b.cell (lt a3)).trans a3
     have p4:=(K.b.cell (lt a4)).trans a4)
  | (go_at_call 60;refine(Tryz.reach_walk T ta K.S A3 A4 c3 c4 W2 t2 (K.h3 _ t2) (K.h4 _ t2)).mono ?_;rintro e W3 ⟨A,B0,B1,cA,k0,k1,rfl,b3,r0,r1,r5,r4,r8⟩
     have t3:=K.S.keep _ _ t2 b3
     have B3:=B2.trans (b3.mono B2.size)
     have q0:=(b3.cell (lt p0)).trans p0
     have q3:=(b3.cell (lt p3)).trans p3
     have q4:=(b3.cell (lt p4)).trans p4)
  | (go_at_call 61;refine(Tryz.values_walk T ta K.S A4 A B0 B1 c4 cA k0 k1 W3 t3 (K.h4 _ t3) r0 r1 r5 r4 r8).mono ?_;rintro e W4 ⟨R4,m0,m1,rfl,b4,y0,y1,ow0,ow1⟩
     have t4:=K.S.keep _ _ t3 b4
     have B4:=B3.trans (b4.mono B3.size)
     have s0:=(b4.cell (lt q0)).trans q0
     have s3:=(b4.cell (lt q3)).trans q3
     have s4:=(b4.cell (lt q4)).trans q4))
 have hl:(Instr.lookup 144 (.map (some m0)) (.int .i64 5) true).run Tryz.prog W4.drew=.ok (.tuple #[.int .i64 2,.bool true]) W4.drew:=FI (dY ow0 ((Below.refl _ W4).drew)) Tryz.law3 Tryz.underlying144 Tryz.underlying3 Tryz.zero3 (keyOf_int_mk Tryz.underlying3 (by decide)) M6.1 M6.2
 go_region
 have bd:Below W4.heap.size W4 W4.drew:=(Below.refl _ W4).drew
 have B5:=B4.trans (bd.mono B4.size)
 have t5:=K.S.keep _ _ t4 bd
 have v0:=(bd.cell (lt s0)).trans s0
 have v3:=(bd.cell (lt s3)).trans s3
 have v4:=(bd.cell (lt s4)).trans s4
 have y5:=(bd.cell (lt y1)).trans y1
 have ow5:=dY ow1 bd
 generalize W4.drew=W5 at *
 obtain⟨i0,hi,hz0,hz1,hz2⟩:=info_parts Tryz.inf3
 go_wp2_with fail
 refine wp_loop_rounds 2 ?_
 rw[rounds_succ]
 go_wp2_with (first
  | (go_at_call 62;refine(Tryz.best_walk T ta K.S A4 c4 m1 2 _ W5 Hi ow5 t5 (K.h4 _ t5)).mono ?_;rintro e W6 ⟨rfl,b6⟩
     have t6:=K.S.keep _ _ t5 b6
     have B6:=B5.trans (b6.mono B5.size)
     have x3:=(b6.cell (lt v3)).trans v3
     have x4:=(b6.cell (lt v4)).trans v4
     have xr:=(B6.cell (lt hr0)).trans hr0
     have hown:(W6.alloc (.cells #[.int .i64 0] 3)).ownsRow w.heap.size 3 1 (.slice none 0 0) 0 []:=⟨rfl,.inl ⟨rfl,rfl⟩⟩
     have hnew:=cell_one_new W6 (.int .i64 0) 3
     have z6:=B6.size)
  | (at_builtin;refine wpList_append_own _ rfl (.tmp 65) (.tmp 71) 34 rfl w.heap.size 3 i0 (.int .i64 0) 1 8 Tryz.underlying34 hi hz0 hz1 hz2 rfl (by decide) (.slice none 0 0) 0 _ rfl hown ⟨W6.heap.size,0,none⟩ 1 1 [.int .i64 0] rfl rfl hnew (by simp[Value.oneCell']) (by unfold maxLen;omega) (by omega) (by simp;omega) ?_;intro v' W7 hown7 g70 hnil
     have g7:World.grownBy (W6.alloc (.cells #[.int .i64 0] 3)) W7 none:=g70
     have b7:Below W6.heap.size W6 W7:=((Below.refl _ W6).alloc (x0k _) _).grown g7 (by simp) (fun k hk=>by cases hk)
     have t7:=K.S.keep _ _ t6 b7
     have B7:=B6.trans (b7.mono B6.size)
     have w3:=(b7.cell (lt x3)).trans x3)
  | (go_at_call 63;refine(K.S.s0 _ t7).mono ?_;rintro e W8 ⟨rfl,b8⟩
     have w83:=(b8.cell (lt w3)).trans w3))
 obtain⟨_,hcs⟩:=hown7
 rcases hcs with ⟨_,h0⟩|⟨G,cG,cur,rfl,hG1,hG2,hG6,hG7,hG4,hG5⟩
 ·simp at h0
 have e0:cur[0]? = some (.int .i64 0):=by
  have:=congrArg (fun l=>l[0]?) hG5
  simpa using this
 have hc7:W7.cell? ⟨G,0,none⟩=some (.int .i64 0):=by simp[World.cell?,hG2,e0]
 have hc8:=(b8.cell (lt hc7)).trans hc7
 rw[rounds_succ]
 go_wp2
 go_ret3
 exact⟨G,cG,rfl,B7.trans (b8.mono B7.size),hG1,hc8,by omega⟩
end Go.Proofs

namespace Go.Proofs
open Go.RowKit Go.Gv
abbrev sU:Drw:=⟨False⟩
attribute [local instance 10000] sU
def Ds:List D:=[.int .i64 5,.int .i64 10,.int .i64 0,.sl [[.int .i64 3]],.sl [[.int .i64 0],[.int .i64 4]],.sl [[.int .i64 0,.int .i64 2]],.int .i64 1]
def yQ:List D:=[.int .i64 5,.int .i64 10,.int .i64 0,.sl [[.int .i64 3]],.sl [[.int .i64 0],[.int .i64 4]],.sl [[.int .i64 0,.int .i64 2]],.int .i64 1,.sl [[.int .i64 2],[.int .i64 2]]]
theorem yA{F:Fid}{M:Mem}{x:D}{es:List (List D)}{v:Value}(h:ae F M (.sl ([x]::es)) v):∃(a:Addr) (cap:Nat) (u:Value),v=.slice (some a) (es.length+1) cap/\M a=some u/\ae F M x u:=by
 simp only[ae]at h
 obtain⟨A,cap,vs,sz,rfl,_,r,_,ha⟩:=h
 obtain⟨a,rfl,hc⟩:=ha (by simp)
 simp only[aZ,av]at r
 obtain⟨p,q,rfl,⟨u,_,rfl,hu,rfl⟩,_⟩:=r
 refine⟨a,cap,u,rfl,?_,hu⟩
 have:=hc 0 u (by simp)
 simpa[Addr.add]using this
theorem tM{F:Fid}{M:Mem}{es:List (List D)}{v:Value}(h:ae F M (.sl es) v):∃(A:Option Addr) (cap:Nat),v=.slice A es.length cap:=by
 simp only[ae]at h
 obtain⟨A,cap,vs,sz,rfl,_⟩:=h
 exact⟨A,cap,rfl⟩
set_option maxHeartbeats 1000000 in
theorem Tryz.plan_solve{F:Fid}(h17:∀f,F 1007=some f->f=17)(h59:F 1016=some 59)(h63:F 1020=some 63)(ht:cj Tryz.prog F 1016 [.agg Ds] (.tup [.ptr yQ,.bool true]) [])
  (hs0:cj Tryz.prog F 1020 [.ptr yQ,.int .i64 5,.int .i64 0,.int .i64 0] (.tup [.int .i64 8,.int .i64 2,.bool true]) [])
  (hs1:cj Tryz.prog F 1020 [.ptr yQ,.int .i64 5,.int .i64 0,.int .i64 1] (.tup [.int .i64 4,.int .i64 2,.bool true]) []) :
  cj Tryz.prog F 1007 [.agg Ds] (.tup [.int .i64 2,.sl [[.int .i64 0]],.int .i64 0]) []:=by
 refine⟨trivial,fun f hf=>?_⟩
 obtain rfl:=h17 f hf
 intro M w vs hh r
 have r0:=r
 simp only[av,Ds]at r
 obtain⟨p,_,rfl,hp,rfl⟩:=r
 unfold ae at hp
 obtain⟨us,rfl,hu⟩:=hp
 simp only[av]at hu
 obtain⟨_,_,rfl,e1,_,_,rfl,e2,_,_,rfl,e3,v4,_,rfl,e4,v5,_,rfl,e5,v6,_,rfl,e6,_,_,rfl,e7,rfl⟩:=hu
 simp only[ae]at e1 e2 e3 e7
 subst e1 e2 e3 e7
 obtain⟨A4,c4,rfl⟩:=tM e4
 obtain⟨R,c5,u5,rfl,m5,g5⟩:=yA e5
 obtain⟨A6,c6,rfl⟩:=tM e6
 simp only[ae]at g5
 subst g5
 have hr:=hh _ _ m5
 have hlt:∀p v,M p=some v->p.block<w.heap.size:=fun p v h=>World.block_lt_of_cell? _ _ (hh p v h)
 have key:=Tryz.solve_walk A4 (some R) A6 c4 c5 c6 w _ rfl ⟨R,rfl,hr⟩ ⟨fun W hW=>?_⟩
 ·refine key.mono ?_
  rintro e w' ⟨G,cG,rfl,hB,hG,hc,hcap⟩
  refine⟨_,M.put G [.int .i64 0],rfl,Bel.of hB (fun h=>h.elim),fun p v h=>?_,fun p h1 h2=>?_,fun p v h=>?_,?_⟩
  ·have:=hlt p v h
   unfold Mem.put
   rw[if_neg (by omega)]
   exact h
  ·unfold Mem.put at h2
   split at h2
   ·omega
   ·exact absurd h1 h2
  ·unfold Mem.put at h
   split at h
   ·rename_i hb
    split at h
    ·rename_i hs
     obtain⟨pb,po,ps⟩:=p
     simp only at hb hs h
     subst hb;subst hs
     cases po with
     | zero =>
      simp at h
      rw[<- h]
      exact hc
     | succ n=>simp at h
    ·cases h
   ·exact(hB.cell (hlt p v h)).trans (hh p v h)
  ·simp only[ae,av,aZ]
   exact⟨[.int .i64 2,.slice (some ⟨G,0,none⟩) 1 cG,.int .i64 0],rfl,_,_,rfl,rfl,_,_,rfl,⟨some ⟨G,0,none⟩,cG,[.int .i64 0],1,rfl,hcap,⟨[.int .i64 0],[],rfl,⟨_,_,rfl,rfl,rfl⟩,rfl⟩,by simp,fun _=>⟨_,rfl,by simpa using Mem.put_at M G 0 [.int .i64 0]⟩⟩,_,_,rfl,rfl,rfl⟩
 ·have k:=ht.2 59 h59 M W _ (fun p v h=>(hW.cell (hlt p v h)).trans (hh p v h)) r0
  refine k.mono ?_
  rintro e W' ⟨v,M',rfl,b,le,nw,hold,rp⟩
  simp only[ae,av]at rp
  obtain⟨vs,rfl,v1,r1,rfl,⟨ta,us,rfl,hus,hcl⟩,v2,r2,rfl,rfl,rfl⟩:=rp
  have hus0:=hus
  simp only[yQ,av]at hus
  obtain⟨_,_,rfl,q1,_,_,rfl,q2,_,_,rfl,q3,u3,_,rfl,q4,u4,_,rfl,q5,u5,_,rfl,q6,_,_,rfl,q7,u7,_,rfl,q8,rfl⟩:=hus
  obtain⟨A3,c3,rfl⟩:=tM q4
  obtain⟨AR,cR,uR,rfl,mR,gR⟩:=yA q5
  have hM3:M' ⟨ta.block,ta.off+3,none⟩=some (.slice A3 1 c3):=hcl 3 _ rfl
  have hM4:M' ⟨ta.block,ta.off+4,none⟩=some (.slice (some AR) 2 cR):=hcl 4 _ rfl
  refine⟨fun W=>∀p v,M' p=some v->W.cell? p=some v,ta,A3,AR,c3,cR,rfl,b.below,hold,⟨fun V V' hV hb p v h=>(hb.cell (World.block_lt_of_cell? _ _ (hV p v h))).trans (hV p v h),fun V hV=>?_,fun V hV=>?_⟩,fun V hV=>hV _ _ hM3,fun V hV=>hV _ _ hM4⟩
  ·have k0:=hs0.2 63 h63 M' V [.pointer (some ta),.int .i64 5,.int .i64 0,.int .i64 0] hV (by
    simp only[av,ae]
    exact⟨_,_,rfl,⟨ta,_,rfl,hus0,hcl⟩,_,_,rfl,rfl,_,_,rfl,rfl,_,_,rfl,rfl,rfl⟩)
   refine k0.mono ?_
   rintro e V' ⟨v,N,rfl,b',_,_,_,rp⟩
   simp only[ae,av]at rp
   obtain⟨vs,rfl,_,_,rfl,rfl,_,_,rfl,rfl,_,_,rfl,rfl,rfl⟩:=rp
   exact⟨rfl,b'.below⟩
  ·have k0:=hs1.2 63 h63 M' V [.pointer (some ta),.int .i64 5,.int .i64 0,.int .i64 1] hV (by
    simp only[av,ae]
    exact⟨_,_,rfl,⟨ta,_,rfl,hus0,hcl⟩,_,_,rfl,rfl,_,_,rfl,rfl,_,_,rfl,rfl,rfl⟩)
   refine k0.mono ?_
   rintro e V' ⟨v,N,rfl,b',_,_,_,rp⟩
   simp only[ae,av]at rp
   obtain⟨vs,rfl,_,_,rfl,rfl,_,_,rfl,rfl,_,_,rfl,rfl,rfl⟩:=rp
   exact⟨rfl,b'.below⟩
end Go.Proofs

namespace Go.Gv
open Go.RowKit Go.Proofs
abbrev z7:Drw:=⟨True⟩
theorem Bel.weak{w w':World}(h:@Bel z7 w w'):@Bel sU w w' :=
 @Bel.mk sU _ _ h.os h.tape h.output h.size h.block (fun k=>k.elim)
theorem Ch.weak{S:Nat->Prop}{w w':World}(h:@Ch z7 S w w'):@Ch sU S w w' :=
 @Ch.mk sU _ _ _ h.os h.tape h.output h.size h.block (fun k=>k.elim)
theorem NM{P:Program}{F:Fid}{g:Nat}{ds:List D}{d:D}(h:@cj z7 P F g ds d []):@cj sU P F g ds d []:=by
 refine⟨trivial,fun f hf M w vs hh r=>?_⟩
 refine(h.2 f hf M w vs hh r).mono ?_
 rintro e w' ⟨v,M',he,hb,k⟩
 exact⟨v,M',he,hb.weak,k⟩
theorem NN{P:Program}{F:Fid}{g sz sz0:Nat}{es es':List (List D)}{ds:List D}{d:D}(h:@cj z7 P F g (.own sz0 es::ds) d [.own sz es',.nilp]):@cj sU P F g (.own sz0 es::ds) d [.own sz es',.nilp]:=by
 refine⟨trivial,fun f hf=>⟨(h.2 f hf).1,fun M w vs hh r=>?_⟩⟩
 obtain⟨h1,h2⟩:=(h.2 f hf).2 M w vs hh r
 refine⟨fun e A=>(h1 e A).mono ?_,fun b o T us cap a1 a2 a3 a4 a5 a6 a7=>(h2 b o T us cap a1 a2 a3 a4 a5 a6 a7).mono ?_⟩
 ·rintro e w' ⟨he,hb⟩
  exact⟨he,hb.weak⟩
 ·rintro e w' ⟨he,us',b1,b2,b3,b4⟩
  exact⟨he,us',b1,b2,b3,b4.weak⟩
theorem BU{P:Program}{F:Fid}(h:ug (@cj z7 P F))(hc:al prog (@cj z7 P F)):ug (@cj sU P F) where
 scmp a b:=NM (h.scmp a b)
 sort L hl _:=NN (h.sort L hl (CG hc h))
end Go.Gv

namespace Go.Gv
theorem vO{d:D}(h:il (.sl [.int .i64,.int .i64]) d):∃(b:Bool) (l:List (Int×Int)),d=slx b (l.map knD)/\l.length<2^62:=by
 simp only[il]at h
 obtain⟨es,h1,h2,h3⟩:=h
 obtain⟨xs,rfl⟩:=vG (f:=knD) (fun e he=>by
  have:=h3 e he
  simp only[cD,il]at this
  obtain⟨d,r,rfl,⟨n,rfl,_⟩,d',r',rfl,⟨n',rfl,_⟩,rfl⟩:=this
  exact⟨(n,n'),rfl⟩)
 have hl:xs.length<2^62:=by rw[x0S]at h2;omega
 rcases h1 with rfl|⟨rfl,h1⟩
 ·exact⟨false,xs,by simp,hl⟩
 ·simp at h1
  subst h1
  exact⟨true,[],rfl,by simp⟩
def DX:List Sh:=[.str,.int .i64,.int .i64,.int .i64,.int .i64,.int .i64,.sl [.int .i64,.int .i64],.bool,.int .i64]
def DV:List Sh:=[.str,.str,.str,.int .i64,.int .i64,.int .i64,.int .i64,.str,.int .i64,.int .i64,.sl [.int .i64,.int .i64]]
theorem Je{d:D}(h:il (.sl DX) d):∃(b:Bool) (l:List Nod),d=slx b (l.map bz)/\l.length<2^62/\∀x∈l,x.shape.length<2^62:=by
 simp only[il]at h
 obtain⟨es,h1,h2,h3⟩:=h
 obtain⟨xs,hx,rfl⟩:∃xs:List Nod,(∀x∈xs,x.shape.length<2^62)/\es=xs.map bz:=by
  clear h1 h2
  induction es with
  | nil=>exact⟨[],by simp,rfl⟩
  | cons e es ih =>
   obtain⟨xs,hx,rfl⟩:=ih (fun e he=>h3 e (by simp[he]))
   have:=h3 e (by simp)
   simp only[DX,cD]at this
   obtain⟨d1,r1,rfl,g1,d2,r2,rfl,g2,d3,r3,rfl,g3,d4,r4,rfl,g4,d5,r5,rfl,g5,d6,r6,rfl,g6,d7,r7,rfl,g7,d8,r8,rfl,g8,d9,r9,rfl,g9,rfl⟩:=this
   obtain⟨b7,l7,rfl,hl7⟩:=vO g7
   simp only[il]at g1 g2 g3 g4 g5 g6 g8 g9
   obtain⟨s,rfl,_⟩:=g1
   obtain⟨n2,rfl,_⟩:=g2
   obtain⟨n3,rfl,_⟩:=g3
   obtain⟨n4,rfl,_⟩:=g4
   obtain⟨n5,rfl,_⟩:=g5
   obtain⟨n6,rfl,_⟩:=g6
   obtain⟨n8,rfl⟩:=g8
   obtain⟨n9,rfl,_⟩:=g9
   exact⟨⟨s,n2,n3,n4,n5,n6,b7,l7,n8,n9⟩::xs,by simpa using ⟨hl7,hx⟩,rfl⟩
 have hl:xs.length<2^62:=by rw[x0S]at h2;omega
 rcases h1 with rfl|⟨rfl,h1⟩
 ·exact⟨false,xs,by simp,hl,hx⟩
 ·simp at h1
  subst h1
  exact⟨true,[],rfl,by simp,by simp⟩
theorem Jd{d:D}(h:il (.sl DV) d):∃(b:Bool) (l:List Lnk),d=slx b (l.map aJ)/\l.length<2^62/\∀x∈l,x.curve.length<2^62:=by
 simp only[il]at h
 obtain⟨es,h1,h2,h3⟩:=h
 obtain⟨xs,hx,rfl⟩:∃xs:List Lnk,(∀x∈xs,x.curve.length<2^62)/\es=xs.map aJ:=by
  clear h1 h2
  induction es with
  | nil=>exact⟨[],by simp,rfl⟩
  | cons e es ih =>
   obtain⟨xs,hx,rfl⟩:=ih (fun e he=>h3 e (by simp[he]))
   have:=h3 e (by simp)
   simp only[DV,cD]at this
   obtain⟨d1,r1,rfl,g1,d2,r2,rfl,g2,d3,r3,rfl,g3,d4,r4,rfl,g4,d5,r5,rfl,g5,d6,r6,rfl,g6,d7,r7,rfl,g7,d8,r8,rfl,g8,d9,r9,rfl,g9,d10,r10,rfl,g10,d11,r11,rfl,g11,rfl⟩:=this
   obtain⟨b11,l11,rfl,hl11⟩:=vO g11
   simp only[il]at g1 g2 g3 g4 g5 g6 g7 g8 g9 g10
   obtain⟨s1,rfl,_⟩:=g1
   obtain⟨s2,rfl,_⟩:=g2
   obtain⟨s3,rfl,_⟩:=g3
   obtain⟨n4,rfl,_⟩:=g4
   obtain⟨n5,rfl,_⟩:=g5
   obtain⟨n6,rfl,_⟩:=g6
   obtain⟨n7,rfl,_⟩:=g7
   obtain⟨s8,rfl,_⟩:=g8
   obtain⟨n9,rfl,_⟩:=g9
   obtain⟨n10,rfl,_⟩:=g10
   exact⟨⟨s1,s2,s3,n4,n5,n6,n7,s8,n9,n10,b11,l11⟩::xs,by simpa using ⟨hl11,hx⟩,rfl⟩
 have hl:xs.length<2^62:=by rw[x0S]at h2;omega
 rcases h1 with rfl|⟨rfl,h1⟩
 ·exact⟨false,xs,by simp,hl,hx⟩
 ·simp at h1
  subst h1
  exact⟨true,[],rfl,by simp,by simp⟩
def DY:List Sh:=[.str,.int .i64,.int .i64,.sl [.int .i64,.int .i64],.sl [.int .i64,.int .i64]]
theorem Jf{d:D}(h:il (.sl DY) d):∃(b:Bool) (l:List Sec),d=slx b (l.map aQ)/\l.length<2^62:=by
 simp only[il]at h
 obtain⟨es,h1,h2,h3⟩:=h
 obtain⟨xs,rfl⟩:=vG (f:=aQ) (fun e he=>by
  have:=h3 e he
  simp only[DY,cD]at this
  obtain⟨d1,r1,rfl,g1,d2,r2,rfl,g2,d3,r3,rfl,g3,d4,r4,rfl,g4,d5,r5,rfl,g5,rfl⟩:=this
  obtain⟨b4,l4,rfl,_⟩:=vO g4
  obtain⟨b5,l5,rfl,_⟩:=vO g5
  simp only[il]at g1 g2 g3
  obtain⟨s,rfl,_⟩:=g1
  obtain⟨n2,rfl,_⟩:=g2
  obtain⟨n3,rfl,_⟩:=g3
  exact⟨⟨s,n2,n3,b4,l4,b5,l5⟩,rfl⟩)
 have hl:xs.length<2^62:=by rw[x0S]at h2;omega
 rcases h1 with rfl|⟨rfl,h1⟩
 ·exact⟨false,xs,by simp,hl⟩
 ·simp at h1
  subst h1
  exact⟨true,[],rfl,by simp⟩
def DW:List Sh:=[.sl DX,.sl DV]
theorem Fq{ds:List D}(h:cD DW ds):∃(b1 b2:Bool) (ns:List Nod) (ls:List Lnk),ds=[slx b1 (ns.map bz),slx b2 (ls.map aJ)]/\ns.length<2^62/\ls.length<2^62/\(∀x∈ls,x.curve.length<2^62):=by
 simp only[DW,cD]at h
 obtain⟨d1,r1,rfl,g1,d2,r2,rfl,g2,rfl⟩:=h
 obtain⟨b1,l1,rfl,h1,h2⟩:=Je g1
 obtain⟨b2,l2,rfl,h3,h4⟩:=Jd g2
 exact⟨b1,b2,l1,l2,rfl,h1,h3,h4⟩
section
open Go.ChangeShapes
variable{H:Type}{enc:TypeId×Value->H}{P:Program}{w:World}{base:Nat}{spare:Nat->Bool}{held:Bool}
theorem tZ{t0 t1 t2 t3:TypeId}{args:Array Value}{ds:List (DataW H)}{ps:List MemPlace}(h:DataW.TrodAll enc P w base spare held [t0,t1,t2,t3] args.toList ds ps) :
  ∃v0 v1 v2 v3 d0 d1 d2 d3 p0 p1 p2 p3,args=#[v0,v1,v2,v3]/\ds=[d0,d1,d2,d3]/\ps=p0++(p1++(p2++(p3)))/\DataW.Trod enc P w base spare held t0 v0 d0 p0/\DataW.Trod enc P w base spare held t1 v1 d1 p1/\DataW.Trod enc P w base spare held t2 v2 d2 p2/\DataW.Trod enc P w base spare held t3 v3 d3 p3:=by
 obtain⟨v0,vs0,d0,ds0,p0,q0,hargs,rfl,rfl,h0,h⟩:=trodAll_cons h
 obtain⟨v1,vs1,d1,ds1,p1,q1,rfl,rfl,rfl,h1,h⟩:=trodAll_cons h
 obtain⟨v2,vs2,d2,ds2,p2,q2,rfl,rfl,rfl,h2,h⟩:=trodAll_cons h
 obtain⟨v3,vs3,d3,ds3,p3,q3,rfl,rfl,rfl,h3,h⟩:=trodAll_cons h
 obtain⟨rfl,rfl,rfl⟩:=trodAll_nil h
 exact⟨v0,v1,v2,v3,d0,d1,d2,d3,p0,p1,p2,p3,by cases args;simp_all,rfl,by simp,h0,h1,h2,h3⟩
end
end Go.Gv
namespace Go.Proofs.YtlipihhhgpnjmaaGreat
open Go.ChangeShapes Go.WideShapes Go.ChangeAt Go.RowKit Go.Gv
theorem Tryz.own:ownKnob Tryz.prog.godebug=none:=by kernel_rfl
theorem Tryz.laidOut:laidOutB Tryz.prog=true:=by kernel_rfl
theorem Tryz.seatT:bQ Tryz.prog ⟨Tryz.prog,fun g=>TryzTbl.lookup g,fun t=>(TryzTys.lookup t).getD 0,fun _=>.nilIface⟩ (cj Tryz.prog ⟨Tryz.prog,fun g=>TryzTbl.lookup g,fun t=>(TryzTys.lookup t).getD 0,fun _=>.nilIface⟩)/\al prog (cj Tryz.prog ⟨Tryz.prog,fun g=>TryzTbl.lookup g,fun t=>(TryzTys.lookup t).getD 0,fun _=>.nilIface⟩) :=
 Go.Gv.seat (by kernel_rfl) Tryz.laidOut Tryz_all
def Tryz.encF(x:Fnd):List Value:=[.int .i64 x.1,.string ⟨x.2.toArray⟩]
set_option maxRecDepth 100000 in
theorem Tryz.chkT:ug (cj Tryz.prog ⟨Tryz.prog,fun g=>TryzTbl.lookup g,fun t=>(TryzTys.lookup t).getD 0,fun _=>.nilIface⟩) where
 scmp a b:=xy Tryz.lays106 (fun f hf=>Option.some.inj (hf.symm.trans (show TryzTbl.lookup 632=some (Tryz.lays106_ren.f 106) by kernel_rfl))) a b
 sort L hl hcl:=oU (f1:=107) 2 (by omega) Tryz.encF jR (fun _=>rfl) (fun _=>rfl) (fun x v hv=>by
   simp only[Tryz.encF,x0H,x07,or_false]at hv
   rcases hv with rfl|rfl<;>rfl) (fun M x i d u h1 h2=>by
   match i,h1 with
   | 0,h1=>simp[jR]at h1;subst h1;simp only[ae]at h2;subst h2;rfl
   | 1,h1=>simp[jR]at h1;subst h1;simp only[ae]at h2;subst h2;rfl
   | i+2,h1=>simp[jR]at h1) (fun M x=>by simp only[jR,Tryz.encF,av,ae];exact⟨_,_,rfl,rfl,_,_,rfl,rfl,rfl⟩) lA td.swo td.tot
   (fun f hf=>Option.some.inj (hf.symm.trans (show TryzTbl.lookup 630=some 107 by kernel_rfl))) Tryz.sortN_none
   (fun g cb blk off cap d w eg hcmp hH hb hs=>Tryz.sortN_eq 2 Tryz.isAgg53 Tryz.sizeOf53 Tryz.encF (fun _=>rfl) (fun x v hv=>by
    simp only[Tryz.encF,x0H,x07,or_false]at hv
    rcases hv with rfl|rfl<;>rfl) lA td.swo g cb blk off cap d w eg hcmp hH hb hs)
   (fun f hf=>by
    obtain rfl:f=108:=Option.some.inj (hf.symm.trans (show TryzTbl.lookup 631=some 108 by kernel_rfl))
    kernel_rfl) hcl L hl
attribute [local instance 10000] sU
theorem Tryz.seat:bQ Tryz.prog ⟨Tryz.prog,fun g=>TryzTbl.lookup g,fun t=>(TryzTys.lookup t).getD 0,fun _=>.nilIface⟩ (cj Tryz.prog ⟨Tryz.prog,fun g=>TryzTbl.lookup g,fun t=>(TryzTys.lookup t).getD 0,fun _=>.nilIface⟩)/\al prog (cj Tryz.prog ⟨Tryz.prog,fun g=>TryzTbl.lookup g,fun t=>(TryzTys.lookup t).getD 0,fun _=>.nilIface⟩) :=
 Go.Gv.seat (by kernel_rfl) Tryz.laidOut Tryz_all
theorem Tryz.seatD:kC prog da (cj Tryz.prog ⟨Tryz.prog,fun g=>TryzTbl.lookup g,fun t=>(TryzTys.lookup t).getD 0,fun _=>.nilIface⟩) :=
 fun g nd gf ds x d hp _ _ _=>by unfold da at hp;cases hp
theorem Tryz.chk:ug (cj Tryz.prog ⟨Tryz.prog,fun g=>TryzTbl.lookup g,fun t=>(TryzTys.lookup t).getD 0,fun _=>.nilIface⟩):=BU Tryz.chkT Tryz.seatT.2
theorem Tryz.pl:cj Tryz.prog ⟨Tryz.prog,fun g=>TryzTbl.lookup g,fun t=>(TryzTys.lookup t).getD 0,fun _=>.nilIface⟩ 1007 [.agg sg] (.tup [.int .i64 2,.sl [[.int .i64 0]],.int .i64 0]) [] :=
 Tryz.plan_solve (fun f hf=>Option.some.inj (hf.symm.trans (show TryzTbl.lookup 1007=some 17 by kernel_rfl))) (show TryzTbl.lookup 1016=some 59 by kernel_rfl) (show TryzTbl.lookup 1020=some 63 by kernel_rfl)
  (Jt Tryz.seat.2 Tryz.seatD) (GL Tryz.seat.2 Tryz.seatD) (GM Tryz.seat.2 Tryz.seatD)
set_option maxRecDepth 100000 in
theorem Tryz.slc:SlC (cj Tryz.prog ⟨Tryz.prog,fun g=>TryzTbl.lookup g,fun t=>(TryzTys.lookup t).getD 0,fun _=>.nilIface⟩) where
 sort zs h:=qH Tryz.lays189 (fun f hf=>Option.some.inj (hf.symm.trans (show TryzTbl.lookup 366=some (Tryz.lays189_ren.f 189) by kernel_rfl))) zs h
 compact zs h:=re Tryz.laysNm220 (fun f hf=>Option.some.inj (hf.symm.trans (show TryzTbl.lookup 523=some (Tryz.laysNm220_ren.f 20) by kernel_rfl))) zs h
 insert zs i x h1 h2:=tR Tryz.laysNm221 (fun f hf=>Option.some.inj (hf.symm.trans (show TryzTbl.lookup 519=some (Tryz.laysNm221_ren.f 21) by kernel_rfl))) zs i x h1 h2
theorem Tryz.lss:uj (cj Tryz.prog ⟨Tryz.prog,fun g=>TryzTbl.lookup g,fun t=>(TryzTys.lookup t).getD 0,fun _=>.nilIface⟩) where
 nil _ h:=lq h
theorem Tryz.put:EE (cj Tryz.prog ⟨Tryz.prog,fun g=>TryzTbl.lookup g,fun t=>(TryzTys.lookup t).getD 0,fun _=>.nilIface⟩) where
 nil _ h:=lq h
theorem Tryz.sh25:qQ Tryz.prog 10 25=some DW:=by kernel_rfl
theorem Tryz.sh26:qQ Tryz.prog 10 26=some [.sl DY]:=by kernel_rfl
theorem Tryz.sh27:qQ Tryz.prog 10 27=some [.sl [.int .i64,.int .i64]]:=by kernel_rfl
set_option maxRecDepth 100000 in
theorem oV(os:Os)(started:os.Started)(H:Type)(enc:TypeId×Value->H) :
  ReturnsInHanded {} Tryz.checked os 3 .any (Rows.topSizedSpec.pre6 enc Tryz.prog Tryz.f3 Rows.topSizedRow.domain false) (Rows.topSizedSpec.post enc Tryz.prog Tryz.f3 false true false false):=by
 refine returnsInHanded_of_change_sized (C:=Tryz.checked) Tryz.own started (by kernel_rfl) Tryz.func3
  (ChangeSpec.witness6 (enc:=enc) (C:=Tryz.checked) false ⟨#[],#[.agg #[.slice none 0 0,.slice none 0 0],.slice none 0 0,.slice none 0 0,.int .i64 0],[]⟩ 8 (by kernel_rfl) (by kernel_rfl) (by kernel_rfl) (by kernel_rfl)) ?_
 intro W base args ds gs before hval0 hW _ hsz0 _
 have hsz:(DataW.weightsEach Tryz.prog (Tryz.f3.params.toList++Rows.topSizedSpec.plain.varTypes Tryz.prog) (ds++gs)).all (·<=reachBytes)=true:=hsz0
 clear hsz0
 have hval:∀(j:Nat) t v,Tryz.f3.params[j]? = some t->args[j]? = some v->Value.okWide Tryz.prog W .any base t v:=hval0
 have hW':=hW
 obtain⟨p,q,hA0,hV,rfl,hfz,hnd⟩:=hW
 have hA:DataW.TrodAll enc Tryz.prog W 0 (fun _=>true) true Tryz.f3.params.toList args.toList ds p:=hA0
 rw[Tryz.params3]at hA hval hsz
 obtain⟨v0,v1,v2,v3,d0,d1,d2,d3,p0,p1,p2,p3,rfl,rfl,rfl,h0,h1,h2,h3⟩:=tZ hA
 obtain⟨rfl,rfl⟩:=trodVars_none hV
 clear hA0 hval0
 simp only[x1M]at hW'
 simp only[DataW.weightsEach,x1o,x1v,List.all_append,x0a]at hsz
 have hlt:∀x∈p0++(p1++(p2++(p3))),x.block<W.heap.size:=fun x hx=>by simpa using hW'.lt x (by simpa using hx)
 obtain⟨c0,s0,r0⟩:=wk (F:=⟨Tryz.prog,fun g=>TryzTbl.lookup g,fun t=>(TryzTys.lookup t).getD 0,fun _=>.nilIface⟩) Tryz.underlying25 Tryz.sh25 (hval 0 25 v0 rfl rfl) h0 hsz.1
 obtain⟨b0,b0',ns0,ls0,rfl,g0,g0',g0''⟩:=Fq s0
 obtain⟨c1,s1,r1⟩:=ry (F:=⟨Tryz.prog,fun g=>TryzTbl.lookup g,fun t=>(TryzTys.lookup t).getD 0,fun _=>.nilIface⟩) Tryz.underlying26 Tryz.sh26 (hval 1 26 v1 rfl rfl) h1 hsz.2.1
 obtain⟨b1,l1,rfl,g1⟩:=Jf s1
 obtain⟨c2,s2,r2⟩:=ry (F:=⟨Tryz.prog,fun g=>TryzTbl.lookup g,fun t=>(TryzTys.lookup t).getD 0,fun _=>.nilIface⟩) Tryz.underlying27 Tryz.sh27 (hval 2 27 v2 rfl rfl) h2 hsz.2.2.1
 obtain⟨b2,l2,rfl,g2⟩:=vO s2
 obtain⟨n3,w3,r3⟩:=EI (F:=⟨Tryz.prog,fun g=>TryzTbl.lookup g,fun t=>(TryzTys.lookup t).getD 0,fun _=>.nilIface⟩) Tryz.underlying3 (hval 3 3 v3 rfl rfl) h3
 have hrun:=(wg Tryz.seat.2 Tryz.seatD Tryz.slc Tryz.lss Tryz.put Tryz.chk Tryz.pl b0 b0' ns0 ls0 g0 g0' g0'' b1 l1 g1 b2 l2 g2 n3).2 3 rfl
 have hargs0:∀(W':World),Below W.heap.size W W'->DataW.Trod enc Tryz.prog W' 0 (fun b=>decide (b<W.heap.size)) true 25 v0 d0 p0 :=
  fun W' hn=>Below.trod Tryz.laidOut (by kernel_rfl) (of_decide_eq_true (by kernel_rfl)) h0 hn (fun x hx=>hlt x (by simp[hx]))
 have hargs1:∀(W':World),Below W.heap.size W W'->DataW.Trod enc Tryz.prog W' 0 (fun b=>decide (b<W.heap.size)) true 26 v1 d1 p1 :=
  fun W' hn=>Below.trod Tryz.laidOut (by kernel_rfl) (of_decide_eq_true (by kernel_rfl)) h1 hn (fun x hx=>hlt x (by simp[hx]))
 have hargs2:∀(W':World),Below W.heap.size W W'->DataW.Trod enc Tryz.prog W' 0 (fun b=>decide (b<W.heap.size)) true 27 v2 d2 p2 :=
  fun W' hn=>Below.trod Tryz.laidOut (by kernel_rfl) (of_decide_eq_true (by kernel_rfl)) h2 hn (fun x hx=>hlt x (by simp[hx]))
 have hargs3:∀(W':World),Below W.heap.size W W'->DataW.Trod enc Tryz.prog W' 0 (fun b=>decide (b<W.heap.size)) true 3 v3 d3 p3 :=
  fun W' hn=>Below.trod Tryz.laidOut (by kernel_rfl) (of_decide_eq_true (by kernel_rfl)) h3 hn (fun x hx=>hlt x (by simp[hx]))
 have hcall:=hrun (pz W) W [v0,v1,v2,v3] (fun p v h=>h) (by simp only[av];exact⟨v0,_,rfl,r0,v1,_,rfl,r1,v2,_,rfl,r2,v3,_,rfl,r3,rfl⟩)
 refine hcall.mono fun e W' ⟨v,M',he,hn0,_,_,_,hv⟩=>?_
 have hn:=hn0.below
 simp only[ae]at hv
 subst hv
 refine⟨_,he,_,_,_,[],p0++(p1++(p2++(p3))),[],hW',trodAll_mk1 (shut_bool Tryz.underlying4 _),⟨p0,_,hargs0 _ hn,⟨p1,_,hargs1 _ hn,⟨p2,_,hargs2 _ hn,trodAll_mk1 (hargs3 _ hn),rfl⟩,rfl⟩,rfl⟩,rfl,hn.frame _,fun h=>by cases h⟩
end Go.Proofs.YtlipihhhgpnjmaaGreat
