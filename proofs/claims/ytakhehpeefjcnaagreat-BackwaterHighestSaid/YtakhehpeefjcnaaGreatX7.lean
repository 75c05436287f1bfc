/-
  Texts of the proof: B2, K9, K10, B3, B4, B5, K11, K12, B6, W1, W2, W3, W4, W5, B7, P5, M1, P4, M5, P1, M2a, P2, B8, P6, B9, P4b, P7, Q0, Q1, GvX, GvX2, Q2, Q3, Q4, Q5, Q6, Q7, Q12, Q22, BL1.
-/
import Derived.Test.YtakhehpeefjcnaaGreatX6
import Derived.Lib.SlicesCompact
set_option linter.all false
namespace Go.Gv
def bi(nm:List UInt8)(n:Nod):Bool:=n.name==nm
def mU(nm:List UInt8)(l:Lnk):Bool:=l.name==nm
variable{C:CC}(hC:al prog C)
include hC
theorem mQ{b:Bool}{xs:List Nod}{g:Nat}{cs:List D}(p:Nod->Bool)(hs:xs.length<2^62)(hp:∀x∈xs,C g (.agg (a8 x)::cs) (.bool (p x)) []):C 175 [slx b (xs.map fun x=>a8 x),.fn g cs] (.int .i64 (bk p xs)) []:=by
 refine aj hC (nf:=N175) rfl rfl ?_
 simp[N175]
 refine aF Nat (fun i=>[(0,slx b (xs.map fun x=>a8 x)),(1,.fn g cs),(7,.int .i64 xs.length),(8,.int .i64 i)]) (fun i=>i<=xs.length/\∀(j:Nat) (h:j<xs.length),j<i->p xs[j]=false) (fun i=>xs.length-i) 0 (by simp) (by simp) ?_
 rintro i ⟨hi,hj⟩
 simp
 refine ae (fun h=>?_) (fun h=>?_)<;>simp[h]<;>simp at h
 ·have hw:IntKind.wrap .i64 ((i:Int)+1)=((i+1:Nat):Int):=wrap_i64 (by omega) (by omega)
  have hc:=hp _ (x0p h)
  simp[h,a8]at hc ⊢
  refine aa hc (.inl rfl) ?_
  simp
  refine ae (fun h1=>?_) (fun h1=>?_)<;>simp[h1,hw]
  ·rw[cQ hj h h1]
  ·refine⟨i+1,⟨by omega,fun j hl hjj=>?_⟩,by omega,rfl⟩
   rcases x0D.1 hjj with h2|rfl
   ·exact hj j hl h2
   ·exact h1
 ·rw[dA (fun j hl=>hj j hl (by omega))]
theorem qr{b:Bool}{xs:List Lnk}{g:Nat}{cs:List D}(p:Lnk->Bool)(hs:xs.length<2^62)(hp:∀x∈xs,C g (.agg (aJ x)::cs) (.bool (p x)) []):C 181 [slx b (xs.map fun x=>aJ x),.fn g cs] (.int .i64 (bk p xs)) []:=by
 refine aj hC (nf:=N181) rfl rfl ?_
 simp[N181]
 refine aF Nat (fun i=>[(0,slx b (xs.map fun x=>aJ x)),(1,.fn g cs),(7,.int .i64 xs.length),(8,.int .i64 i)]) (fun i=>i<=xs.length/\∀(j:Nat) (h:j<xs.length),j<i->p xs[j]=false) (fun i=>xs.length-i) 0 (by simp) (by simp) ?_
 rintro i ⟨hi,hj⟩
 simp
 refine ae (fun h=>?_) (fun h=>?_)<;>simp[h]<;>simp at h
 ·have hw:IntKind.wrap .i64 ((i:Int)+1)=((i+1:Nat):Int):=wrap_i64 (by omega) (by omega)
  have hc:=hp _ (x0p h)
  simp[h,aJ]at hc ⊢
  refine aa hc (.inl rfl) ?_
  simp
  refine ae (fun h1=>?_) (fun h1=>?_)<;>simp[h1,hw]
  ·rw[cQ hj h h1]
  ·refine⟨i+1,⟨by omega,fun j hl hjj=>?_⟩,by omega,rfl⟩
   rcases x0D.1 hjj with h2|rfl
   ·exact hj j hl h2
   ·exact h1
 ·rw[dA (fun j hl=>hj j hl (by omega))]
theorem y9{b:Bool}{xs:List (Int×Int)}{g:Nat}{cs:List D}(p:(Int×Int)->Bool)(hs:xs.length<2^62)(hp:∀x∈xs,C g (.agg (knD x)::cs) (.bool (p x)) []):C 185 [slx b (xs.map fun x=>knD x),.fn g cs] (.int .i64 (bk p xs)) []:=by
 refine aj hC (nf:=N185) rfl rfl ?_
 simp[N185]
 refine aF Nat (fun i=>[(0,slx b (xs.map fun x=>knD x)),(1,.fn g cs),(7,.int .i64 xs.length),(8,.int .i64 i)]) (fun i=>i<=xs.length/\∀(j:Nat) (h:j<xs.length),j<i->p xs[j]=false) (fun i=>xs.length-i) 0 (by simp) (by simp) ?_
 rintro i ⟨hi,hj⟩
 simp
 refine ae (fun h=>?_) (fun h=>?_)<;>simp[h]<;>simp at h
 ·have hw:IntKind.wrap .i64 ((i:Int)+1)=((i+1:Nat):Int):=wrap_i64 (by omega) (by omega)
  have hc:=hp _ (x0p h)
  simp[h,knD]at hc ⊢
  refine aa hc (.inl rfl) ?_
  simp
  refine ae (fun h1=>?_) (fun h1=>?_)<;>simp[h1,hw]
  ·rw[cQ hj h h1]
  ·refine⟨i+1,⟨by omega,fun j hl hjj=>?_⟩,by omega,rfl⟩
   rcases x0D.1 hjj with h2|rfl
   ·exact hj j hl h2
   ·exact h1
 ·rw[dA (fun j hl=>hj j hl (by omega))]
theorem y7{b:Bool}{xs:List (Int×Int)}{g:Nat}{cs:List D}(p:(Int×Int)->Bool)(hs:xs.length<2^62)(hp:∀x∈xs,C g (.agg (knD x)::cs) (.bool (p x)) []):C 179 [slx b (xs.map fun x=>knD x),.fn g cs] (.bool (xs.any p)) []:=by
 refine aj hC (nf:=N179) rfl rfl ?_
 simp[N179]
 refine aa (y9 hC p hs hp) (.inl rfl) ?_
 simp[eu]
theorem kZ(b1 b2:Bool)(ns:List Nod)(ls:List Lnk)(nm:List UInt8)(hn:ns.length<2^62):C 169 [.agg [slx b1 (ns.map a8),slx b2 (ls.map aJ)],.str nm] (.int .i64 (bk (bi nm) ns)) []:=by
 have h1:∀x∈ns,C 176 (.agg (a8 x)::[.ptr [.str nm]]) (.bool (bi nm x)) []:=fun x _=>by
  refine aj hC (nf:=N176) rfl rfl ?_
  simp[N176,a8,bi]
  rw[x0z];simp
 refine aj hC (nf:=N169) rfl rfl ?_
 simp[N169]
 refine aa (mQ hC (b:=b1) _ hn h1) (.inl rfl) ?_
 simp
theorem C4(b1 b2:Bool)(ns:List Nod)(ls:List Lnk)(nm:List UInt8)(hn:ls.length<2^62):C 171 [.agg [slx b1 (ns.map a8),slx b2 (ls.map aJ)],.str nm] (.int .i64 (bk (mU nm) ls)) []:=by
 have h1:∀x∈ls,C 182 (.agg (aJ x)::[.ptr [.str nm]]) (.bool (mU nm x)) []:=fun x _=>by
  refine aj hC (nf:=N182) rfl rfl ?_
  simp[N182,aJ,mU]
  rw[x0z];simp
 refine aj hC (nf:=N171) rfl rfl ?_
 simp[N171]
 refine aa (qr hC (b:=b2) _ hn h1) (.inl rfl) ?_
 simp
theorem CH(b b':Bool)(xs ys:List (Int×Int))(hx:xs.length<2^62)(hy:ys.length<2^62):C 184 [slx b (xs.map knD),slx b' (ys.map knD)] (.bool (decide (xs=ys))) []:=by
 obtain⟨r,hr⟩:∃r,r=decide (xs=ys):=⟨_,rfl⟩
 rw[<- hr]
 refine aj hC (nf:=N184) rfl rfl ?_
 simp[N184]
 refine ae (fun h=>?_) (fun h=>?_)<;>simp at h<;>simp[h]
 ·rw[hr,decide_eq_false]
  intro e
  exact h (by rw[e])
 have h':xs.length=ys.length:=by omega
 refine aF Nat (fun i=>[(0,slx b (xs.map knD)),(1,slx b' (ys.map knD)),(12,.int .i64 xs.length),(13,.int .i64 i)])
  (fun i=>i<=xs.length/\∀(k:Nat) (h1:k<xs.length) (h2:k<ys.length),k<i->xs[k]=ys[k]) (fun i=>xs.length-i) 0 (by simp) (by simp[h']) ?_
 rintro i ⟨hi,hok⟩
 simp
 refine ae (fun h1=>?_) (fun h1=>?_)<;>simp at h1<;>simp[h1]
 ·have hw:IntKind.wrap .i64 ((i:Int)+1)=((i+1:Nat):Int):=wrap_i64 (by omega) (by omega)
  have hy1:i<ys.length:=by omega
  simp[h1,hy1,knD]
  refine⟨aw (by decide +kernel),?_⟩
  by_cases h2:xs[i]=ys[i]
  ·simp[h2,hw]
   refine⟨i+1,⟨by omega,fun k k1 k2 hk=>?_⟩,by omega,rfl⟩
   rcases x0D.1 hk with h5|rfl
   ·exact hok k k1 k2 h5
   ·exact h2
  ·have h3:¬(xs[i].1=ys[i].1/\xs[i].2=ys[i].2):=fun e=>h2 (Prod.ext e.1 e.2)
   refine ae (fun h4=>?_) (fun h4=>?_)<;>simp at h4<;>simp[h4]
   ·rw[hr,decide_eq_false]
    intro e
    exact h2 (by simp[e])
   ·exact absurd h4 h3
 ·rw[hr,decide_eq_true]
  exact List.ext_getElem h' fun k k1 k2=>hok k k1 k2 (by omega)
end Go.Gv

namespace Go.Gv
theorem ca{t:List (Int×Int)}(h:ay t=true):1<=t.length/\t.length<=100:=by
 simp only[ay,x0a,x0d]at h
 exact h.1
theorem iO{t:List (Int×Int)}(h:ay t=true){i:Nat}(hi:i<t.length):fX t[i].1=true/\fX t[i].2=true/\∀j,(hj:j+1=i)->t[j].1<t[i].1/\t[j].2<=t[i].2:=by
 simp only[ay,x0a,x0f,x1k]at h
 have:=h.2 i hi
 simp only[qK,x0g t i hi,x0a,x0H,x0o,x0d]at this
 refine⟨this.1.1,this.1.2,fun j hj=>?_⟩
 subst hj
 have h2:=this.2
 rw[Nat.add_sub_cancel,x0g t j (by omega)]at h2
 rcases h2 with h2|h2
 ·omega
 ·exact h2
theorem i9{t:List (Int×Int)}(h:ay t=true):∀(j i:Nat) (hi:i<t.length) (hj:j<i),t[j].1<t[i].1:=by
 intro j i
 induction i with
 | zero=>intro _ hj;omega
 | succ i ih =>
  intro hi hj
  have h1:=((iO h hi).2.2 i rfl).1
  by_cases e:j=i
  ·subst e;exact h1
  ·have:=ih (by omega) (by omega)
   omega
variable{C:CC}(hC:al prog C)
include hC
theorem iR(k:Int×Int)(x:Int):C 97 [.agg (knD k),.int .i64 x] (.int .i64 (if k.1<x then -1 else if x<k.1 then 1 else 0)) []:=by
 refine aj hC (nf:=N97) rfl rfl ?_
 simp[N97,knD]
 refine ae (fun c=>?_) (fun c=>?_)
 ·simp at c
  simp[c]
 ·simp at c
  have c1:¬k.1<x:=by omega
  simp[c1]
  refine ae (fun c2=>?_) (fun c2=>?_)
  ·simp at c2
   simp[c2,c]
  ·simp at c2
   have c3:¬x<k.1:=by omega
   simp[c3,c]
theorem xy(b:Bool)(t:List (Int×Int))(x:Int)(h:ay t=true)(n:Nat)(hn:n+1=t.length)(hx:t[n].1=x):C 96 [slx b (t.map knD),.int .i64 x,.fn 97 []] (.tup [.int .i64 n,.bool true]) []:=by
 obtain⟨l1,l2⟩:=ca h
 refine aj hC (nf:=N96) rfl rfl ?_
 simp[N96]
 refine aF (Nat×Nat) (fun s=>[(0,slx b (t.map knD)),(1,.int .i64 x),(2,.fn 97 []),(8,.int .i64 t.length),(9,.int .i64 s.1),(10,.int .i64 s.2)]) (fun s=>s.1<=n/\n<=s.2/\s.2<=n+1) (fun s=>s.2-s.1) (0,t.length) (by simp;omega) (by simp) ?_
 rintro⟨i,j⟩ ⟨h1,h2,h3⟩
 simp only at h1 h2 h3
 simp
 refine ae (fun c=>?_) (fun c=>?_)<;>simp[c]<;>simp at c
 ·obtain⟨m,hm⟩:∃m,m=(i+j)/2:=⟨_,rfl⟩
  have e1:IntKind.wrap .i64 ((i:Int)+(j:Int))=((i+j:Nat):Int):=wrap_i64 (by omega) (by omega)
  obtain⟨s,hs⟩:∃s,s=i+j:=⟨_,rfl⟩
  rw[<- hs]at e1 hm
  have e2:Int.fdiv (s:Int) (2^min 1 IntKind.u64.bits)=(m:Int):=by rw[hm];exact nE s 1
  have e3:IntKind.wrap .i64 (m:Int)=(m:Int):=wrap_i64 rfl (by omega)
  have e4:IntKind.wrap .i64 ((m:Int)+1)=((m+1:Nat):Int):=wrap_i64 (by omega) (by omega)
  have hml:m<t.length:=by omega
  simp[e1,bV s (by omega),e2,e3,hml]
  have hc:=iR hC t[m] x
  simp[knD]at hc ⊢
  refine aa hc (.inl rfl) ?_
  by_cases hmn:m<n
  ·have:=i9 h m n (by omega) hmn
   have hlt:t[m].1<x:=by omega
   simp[hlt,e4]
   exact⟨m+1,j,⟨by omega,h2,h3⟩,by omega,by omega,by omega⟩
  ·have:m=n:=by omega
   subst this
   simp[hx]
   exact⟨i,m,⟨by omega,by omega,by omega⟩,by omega,by omega,by omega⟩
 ·have:i=n:=by omega
  subst this
  have hil:i<t.length:=by omega
  simp[hil]
  have hc:=iR hC t[i] x
  simp[knD,hil]at hc ⊢
  refine aa hc (.inl rfl) ?_
  simp[hx]
theorem zT(b:Bool)(t:List (Int×Int))(x:Int)(h:ay t=true)(n:Nat)(hn:n+1=t.length)(hx:t[n].1=x):C 90 [slx b (t.map knD),.int .i64 x] (.tup [.int .i64 t[n].2,.int .i64 0,.int .i64 1]) []:=by
 refine aj hC (nf:=N90) rfl rfl ?_
 have hnl:n<t.length:=by omega
 simp[N90]
 refine aa (xy hC b t x h n hn hx) (.inl rfl) ?_
 simp[knD,hnl]
theorem vw(b:Bool)(t:List (Int×Int))(x:Int)(h:ay t=true)(n:Nat)(hn:n+1=t.length)(hx:t[n].1=x):C 73 [slx b (t.map knD),.int .i64 x] (.tup [.int .i64 t[n].2,.int .i64 0]) []:=by
 refine aj hC (nf:=N73) rfl rfl ?_
 simp[N73]
 refine aa (dM hC b t) (.inl rfl) ?_
 simp[h]
 refine aa (zT hC b t x h n hn hx) (.inl rfl) ?_
 simp
end Go.Gv

namespace Go.Gv
def dR(t:List (Int×Int)):Int×Int:=t[t.length-1]!
def cu(t:List (Int×Int))(hgt most:Int):Bool:=ay t&&(t[0]!.1==0&&t[0]!.2==0)&&(dR t).1==hgt&&(dR t).2<=most
def av(s:Sec):Bool:=co s.name&&1<=s.height&&s.height<=32768&&0<=s.price&&s.price<=1073741824&&cu s.area s.height 1073741824&&cu s.conv s.height 1099511627776
def bT(n l:Int):Bool:=0<=n&&n<=4194304&&1<=l&&l<=16777216
def my(s:Sec)(fall len:Int):Nat:=eO ((dR s.conv).2.toNat*(dR s.conv).2.toNat*fall.toNat/len.toNat)
def fI(s:Sec)(fall len:Int):Int×Int:=if av s then(if bT fall len then(if 1099511627776<my s fall len then(0,5) else(my s fall len,0)) else(0,2)) else(0,1)
theorem cR{t:List (Int×Int)}{n:Nat}(hn:n+1=t.length):dR t=t[n]:=by
 unfold dR
 rw[show t.length-1=n by omega,x0g t n (by omega)]
variable{C:CC}(hC:al prog C)
include hC
theorem s9(b:Bool)(t:List (Int×Int))(hgt most:Int):C 59 [slx b (t.map knD),.int .i64 hgt,.int .i64 most] (.bool (cu t hgt most)) []:=by
 refine aj hC (nf:=N59) rfl rfl ?_
 simp[N59]
 refine aa (dM hC b t) (.inl rfl) ?_
 cases hv:ay t
 ·simp[cu,hv]
 obtain⟨l1,l2⟩:=ca hv
 obtain⟨n,hn⟩:∃n,n+1=t.length:=⟨t.length-1,by omega⟩
 have e1:IntKind.wrap .i64 ((t.length:Int)-1)=(n:Int):=wrap_i64 (by omega) (by omega)
 have hnl:n<t.length:=by omega
 have h0:0<t.length:=by omega
 have e0:t[0]! = t[0]:=x0g t 0 h0
 simp[e1,hnl,h0,knD]
 rw[cu,cR hn,e0,hv]
 have ez:(decide (t[0].fst=0)&&decide (t[0].snd=0))=(t[0].1==0&&t[0].2==0):=by rw[x0z];simp
 rw[<- ez]
 cases hz:(decide (t[0].fst=0)&&decide (t[0].snd=0))
 ·simp
 simp
 refine ae (fun c=>?_) (fun c=>?_)
 ·simp at c
  simp[c]
 ·simp at c
  simp[c]
theorem pU(s:Sec):C 51 [.agg (bf s)] (.bool (av s)) []:=by
 refine aj hC (nf:=N51) rfl rfl ?_
 simp[N51,bf]
 refine aa (f9 hC s.name) (.inl rfl) ?_
 cases h1:co s.name
 ·simp[av,h1]
 simp
 refine ae (fun c1=>?_) (fun c1=>?_)<;>simp[c1]<;>simp at c1
 ·refine ae (fun c2=>?_) (fun c2=>?_)<;>simp[c2]<;>simp at c2
  ·refine ae (fun c3=>?_) (fun c3=>?_)<;>simp[c3]<;>simp at c3
   ·refine ae (fun c4=>?_) (fun c4=>?_)<;>simp[c4]<;>simp at c4
    ·refine aa (s9 hC _ _ _ _) (.inl rfl) ?_
     cases h5:cu s.area s.height 1073741824
     ·simp[av,h5]
     simp
     refine aa (s9 hC _ _ _ _) (.inl rfl) ?_
     simp[av,h1,c1,c2,c3,c4,h5]
    ·simp[av];omega
   ·simp[av];omega
  ·simp[av];omega
 ·simp[av];omega
end Go.Gv

namespace Go.Gv
def aS(n a b:Int):Bool:=decide (a<=n)&&decide (n<=b)
def jA(l:Lnk):Lnk where
 name:=l.name
 src:=l.src
 dst:=l.dst
 kind:=l.kind
 len:=if l.kind=1 then l.len else 0
 up:=l.up
 down:=if l.kind=1\/l.kind=4 then l.down else 0
 sect:=if l.kind=1 then l.sect else []
 width:=if l.kind=2\/l.kind=3 then l.width else 0
 height:=if l.kind=3 then l.height else 0
 curveN:=if l.kind=4 then l.curveN else true
 curve:=if l.kind=4 then l.curve else []
def fU(a b:Lnk):Bool:=decide (a.name=b.name)&&decide (a.src=b.src)&&decide (a.dst=b.dst)&&decide (a.kind=b.kind)&&decide (a.len=b.len)&&decide (a.up=b.up)&&decide (a.down=b.down)&&decide (a.sect=b.sect)&&decide (a.width=b.width)&&decide (a.height=b.height)&&decide (a.curve=b.curve)
def na(k:Int×Int):Bool:=aS k.1 0 4194304&&aS k.2 0 1099511627776
def jt(l:Lnk):Bool :=
 if l.kind=1 then aS l.len 1 16777216&&bP l.down&&co l.sect
 else if l.kind=2 then aS l.width 1 1048576
 else if l.kind=3 then aS l.width 1 32768&&aS l.height 1 32768
 else if l.kind=4 then bP l.down&&decide (l.down<l.up)&&ay l.curve&&!(l.curve.any fun k=>!na k)
 else false
def cj(l:Lnk):Bool:=co l.name&&co l.src&&co l.dst&&!decide (l.src=l.dst)&&bP l.up&&fU l (jA l)&&jt l
variable{C:CC}(hC:al prog C)
include hC
theorem zU(l:Lnk):C 178 [.agg (aJ l)] (.agg (aJ (jA l))) []:=by
 have hs:slx l.curveN (l.curve.map knD)=.nils\/slx l.curveN (l.curve.map knD)=.sl (l.curve.map knD):=by
  unfold slx;split
  ·exact .inl rfl
  ·exact .inr rfl
 have e0:D.nils=slx true []:=rfl
 refine aj hC (nf:=N178) rfl rfl ?_
 simp[N178,aJ,jA]
 refine ae (fun h=>?_) (fun h=>?_)<;>simp at h<;>simp[h]
 ·exact⟨aw (by decide +kernel),e0⟩
 refine ae (fun h2=>?_) (fun h2=>?_)<;>simp at h2<;>simp[h,h2]
 ·exact e0
 refine ae (fun h3=>?_) (fun h3=>?_)<;>simp at h3<;>simp[h,h2,h3]
 ·exact⟨aw (by decide +kernel),e0⟩
 refine ae (fun h4=>?_) (fun h4=>?_)<;>simp at h4<;>simp[h,h2,h3,h4]
 ·rcases hs with hs|hs<;>rw[hs]<;>simp
  ·refine⟨aw (by decide +kernel),?_⟩
   simp[h4,hs]
  ·refine⟨aw (by decide +kernel),?_⟩
   simp[h4,hs]
 ·exact e0
set_option maxRecDepth 8000 in
set_option maxHeartbeats 2000000 in
theorem Ad(a b:Lnk)(ha:a.curve.length<2^62)(hb:b.curve.length<2^62):C 177 [.agg (aJ a),.agg (aJ b)] (.bool (fU a b)) []:=by
 have he:=CH hC a.curveN b.curveN a.curve b.curve ha hb
 refine aj hC (nf:=N177) rfl rfl ?_
 simp[N177,aJ]
 refine ae (fun h0=>?_) (fun h0=>?_)<;>simp at h0<;>simp[h0]
 rotate_left
 ·simp[fU,h0]
 refine ae (fun h1=>?_) (fun h1=>?_)<;>simp at h1<;>simp[h1]
 rotate_left
 ·simp[fU,h1]
 refine ae (fun h2=>?_) (fun h2=>?_)<;>simp at h2<;>simp[h2]
 rotate_left
 ·simp[fU,h2]
 refine ae (fun h3=>?_) (fun h3=>?_)<;>simp at h3<;>simp[h3]
 rotate_left
 ·simp[fU,h3]
 refine ae (fun h4=>?_) (fun h4=>?_)<;>simp at h4<;>simp[h4]
 rotate_left
 ·simp[fU,h4]
 refine ae (fun h5=>?_) (fun h5=>?_)<;>simp at h5<;>simp[h5]
 rotate_left
 ·simp[fU,h5]
 refine ae (fun h6=>?_) (fun h6=>?_)<;>simp at h6<;>simp[h6]
 rotate_left
 ·simp[fU,h6]
 refine ae (fun h7=>?_) (fun h7=>?_)<;>simp at h7<;>simp[h7]
 rotate_left
 ·simp[fU,h7]
 refine ae (fun h8=>?_) (fun h8=>?_)<;>simp at h8<;>simp[h8]
 rotate_left
 ·simp[fU,h8]
 refine ae (fun h9=>?_) (fun h9=>?_)<;>simp at h9<;>simp[h9]
 rotate_left
 ·simp[fU,h9]
 refine aa he (.inl rfl) ?_
 simp[fU,h0,h1,h2,h3,h4,h5,h6,h7,h8,h9]
theorem uZ(k:Int×Int):C 180 [.agg (knD k)] (.bool (!na k)) []:=by
 refine aj hC (nf:=N180) rfl rfl ?_
 simp[N180,knD]
 refine aa (cP hC k.1 0 4194304) (.inl rfl) ?_
 have e1:(decide (0<=k.1)&&decide (k.1<=4194304))=aS k.1 0 4194304:=rfl
 rw[e1]
 cases h:aS k.1 0 4194304
 ·simp[na,h]
 simp
 refine aa (cP hC k.2 0 1099511627776) (.inl rfl) ?_
 have e2:(decide (0<=k.2)&&decide (k.2<=1099511627776))=aS k.2 0 1099511627776:=rfl
 rw[e2]
 simp[na,h]
theorem wL(l:Lnk)(hc:l.curve.length<2^62):C 170 [.agg (aJ l)] (.bool (cj l)) []:=by
 have hp:(jA l).curve.length<2^62:=by
  simp only[jA];split
  ·exact hc
  ·simp
 have k1:=f9 hC l.name
 have k2:=f9 hC l.src
 have k3:=f9 hC l.dst
 have k4:=pA hC [l.up] (by simp)
 have k5:=zU hC l
 have k6:=Ad hC l (jA l) hc hp
 obtain⟨q,hq⟩:∃q,q=fU l (jA l):=⟨_,rfl⟩
 rw[<- hq]at k6
 simp only[aJ]at k5 k6
 have kf:∀b,jt l=b->(b=false\/(co l.name=true/\co l.src=true/\co l.dst=true/\¬l.src=l.dst/\bP l.up=true/\q=true))->cj l=b:=fun b h1 h2=>by
  rcases h2 with rfl|⟨a1,a2,a3,a4,a5,a6⟩
  ·simp[cj,h1]
  ·simp[cj,h1,a1,a2,a3,a4,a5,<- hq,a6]
 refine aj hC (nf:=N170) rfl rfl ?_
 simp[N170,aJ]
 refine aa k1 (.inl rfl) ?_
 cases h1:co l.name
 ·simp
  refine⟨aw (by decide +kernel),?_⟩
  simp[cj,h1]
 simp
 refine aa k2 (.inl rfl) ?_
 cases h2:co l.src
 ·simp
  refine⟨aw (by decide +kernel),?_⟩
  simp[cj,h2]
 simp
 refine aa k3 (.inl rfl) ?_
 cases h3:co l.dst
 ·simp
  refine⟨aw (by decide +kernel),?_⟩
  simp[cj,h3]
 simp
 refine ae (fun h4=>?_) (fun h4=>?_)<;>simp at h4<;>simp[h4]
 ·refine⟨aw (by decide +kernel),?_⟩
  simp[cj,h4]
 refine aa k4 (.inl rfl) ?_
 cases h5:bP l.up
 ·simp[h5]
  refine⟨aw (by decide +kernel),?_⟩
  simp[cj,h5]
 simp[h5]
 refine aa k5 (.inr rfl) ?_
 simp
 refine aa k6 (.inl rfl) ?_
 cases h6:q
 ·simp
  refine⟨aw (by decide +kernel),?_⟩
  simp[cj,<- hq,h6]
 simp
 refine⟨aw (by decide +kernel),?_⟩
 have hk:cj l=jt l:=kf _ rfl (.inr ⟨h1,h2,h3,h4,h5,h6⟩)
 rw[hk]
 obtain⟨r,hr⟩:∃r,r=jt l:=⟨_,rfl⟩
 rw[<- hr]
 unfold jt at hr
 clear k1 k2 k3 k4 k5 k6 hk kf
 have lh:∀n a b:Int,(decide (a<=n)&&decide (n<=b))=aS n a b:=fun _ _ _=>rfl
 have kd:=pA hC [l.down] (by simp)
 refine ae (fun h7=>?_) (fun h7=>?_)<;>simp at h7<;>simp[h7]
 ·rw[if_pos h7]at hr
  refine aa (cP hC l.len 1 16777216) (.inl rfl) ?_
  rw[lh]
  cases a1:aS l.len 1 16777216
  ·simp[hr,a1]
  simp
  refine aa kd (.inl rfl) ?_
  cases a2:bP l.down
  ·simp[a2,hr]
  simp[a2]
  refine aa (f9 hC l.sect) (.inl rfl) ?_
  simp[hr,a1,a2]
 rw[if_neg h7]at hr
 refine ae (fun h8=>?_) (fun h8=>?_)<;>simp at h8<;>simp[h8]
 ·rw[if_pos h8]at hr
  refine aa (cP hC l.width 1 1048576) (.inl rfl) ?_
  rw[lh]
  simp[hr]
 rw[if_neg h8]at hr
 refine ae (fun h9=>?_) (fun h9=>?_)<;>simp at h9<;>simp[h9]
 ·rw[if_pos h9]at hr
  refine aa (cP hC l.width 1 32768) (.inl rfl) ?_
  rw[lh]
  cases a1:aS l.width 1 32768
  ·simp[hr,a1]
  simp
  refine aa (cP hC l.height 1 32768) (.inl rfl) ?_
  rw[lh]
  simp[hr,a1]
 rw[if_neg h9]at hr
 refine ae (fun h10=>?_) (fun h10=>?_)<;>simp at h10<;>simp[h10]
 ·rw[if_pos h10]at hr
  refine aa kd (.inl rfl) ?_
  cases a2:bP l.down
  ·simp[a2,hr]
  simp[a2]
  refine ae (fun h11=>?_) (fun h11=>?_)<;>simp at h11<;>simp[h11]
  ·refine aa (dM hC l.curveN l.curve) (.inl rfl) ?_
   cases a3:ay l.curve
   ·simp[hr,a3]
   simp
   refine aa (y7 hC (b:=l.curveN) (xs:=l.curve) (g:=180) (cs:=[]) (fun k=>!na k) hc (fun k _=>uZ hC k)) (.inl rfl) ?_
   simp[hr,a2,h11,a3]
  ·have:¬l.down<l.up:=by omega
   simp[hr,this]
 ·rw[if_neg h10]at hr
  simp[hr]
end Go.Gv

namespace Go.Gv
def mh(n:Nod):Bool:=!(decide (n.ground<=n.invert))&&cu n.shape (n.ground-n.invert) 1125899906842624&&!(decide (n.kind=1)&&n.prot)&&(if n.prot then aS n.reserve 0 (dR n.shape).2 else decide (n.reserve=0))
def xb(n:Nod):Bool:=decide (n.invert<=n.ground)&&decide (n.shape.length=0)&&!n.prot&&decide (n.reserve=0)
def gn(n:Nod):Bool:=co n.name&&aS n.x (-16777216) 16777216&&aS n.y (-16777216) 16777216&&bP n.invert&&bP n.ground&&(if n.kind=1\/n.kind=2 then mh n else if n.kind=3 then xb n else false)
variable{C:CC}(hC:al prog C)
include hC
theorem qZ(b:Bool)(t:List (Int×Int))(hgt:Int):C 174 [slx b (t.map knD),.int .i64 hgt] (.bool (cu t hgt 1125899906842624)) []:=by
 refine aj hC (nf:=N174) rfl rfl ?_
 simp[N174]
 refine aa (dM hC b t) (.inl rfl) ?_
 cases hv:ay t
 ·simp[cu,hv]
 obtain⟨l1,l2⟩:=ca hv
 obtain⟨n,hn⟩:∃n,n+1=t.length:=⟨t.length-1,by omega⟩
 have e1:IntKind.wrap .i64 ((t.length:Int)-1)=(n:Int):=wrap_i64 (by omega) (by omega)
 have hnl:n<t.length:=by omega
 have h0:0<t.length:=by omega
 have e0:t[0]! = t[0]:=x0g t 0 h0
 simp[e1,hnl,h0,knD]
 rw[cu,cR hn,e0,hv]
 have ez:(decide (t[0].fst=0)&&decide (t[0].snd=0))=(t[0].1==0&&t[0].2==0):=by rw[x0z];simp
 rw[<- ez]
 cases hz:(decide (t[0].fst=0)&&decide (t[0].snd=0))
 ·simp
 simp
 refine ae (fun c=>?_) (fun c=>?_)
 ·simp at c
  simp[c]
 ·simp at c
  simp[c]
theorem zN(n:Nod):C 168 [.agg (a8 n)] (.bool (gn n)) []:=by
 have lh:∀n a b:Int,(decide (a<=n)&&decide (n<=b))=aS n a b:=fun _ _ _=>rfl
 have k1:=f9 hC n.name
 have k2:=cP hC n.x (-16777216) 16777216
 have k3:=cP hC n.y (-16777216) 16777216
 have k4:=pA hC [n.invert,n.ground] (by simp)
 rw[lh]at k2 k3
 obtain⟨q,hq⟩:∃q,q=gn n:=⟨_,rfl⟩
 rw[<- hq]
 unfold gn at hq
 refine aj hC (nf:=N168) rfl rfl ?_
 simp[N168,a8]
 refine aa k1 (.inl rfl) ?_
 cases h1:co n.name
 ·simp[hq,h1]
 simp
 refine aa k2 (.inl rfl) ?_
 cases h2:aS n.x (-16777216) 16777216
 ·simp[hq,h2]
 simp
 refine aa k3 (.inl rfl) ?_
 cases h3:aS n.y (-16777216) 16777216
 ·simp[hq,h3]
 simp
 refine aa k4 (.inl rfl) ?_
 cases h4:bP n.invert
 ·simp[hq,h4]
 cases h5:bP n.ground
 ·simp[hq,h4,h5]
 simp[h4,h5]
 rw[h1,h2,h3,h4,h5]at hq
 simp only[Bool.true_and]at hq
 have b1:-4194304<=n.invert/\n.invert<=4194304:=by simpa[bP]using h4
 have b2:-4194304<=n.ground/\n.ground<=4194304:=by simpa[bP]using h5
 have e1:IntKind.wrap .i64 (n.ground-n.invert)=n.ground-n.invert:=wrap_i64 rfl (by omega)
 refine ae (fun hk1=>?_) (fun hk1=>?_)<;>simp at hk1<;>simp[hk1]
 ·rw[if_pos (by omega),mh]at hq
  refine ae (fun c1=>?_) (fun c1=>?_)<;>simp at c1<;>simp[c1]
  ·simp[hq,c1]
  have c1':¬n.ground<=n.invert:=by omega
  simp[e1]
  refine aa (qZ hC n.shapeN n.shape (n.ground-n.invert)) (.inl rfl) ?_
  cases c2:cu n.shape (n.ground-n.invert) 1125899906842624
  ·simp[hq,c2]
  simp[hk1]
  cases c3:n.prot
  ·simp[hq,c1',c2,c3]
  ·simp[hq,c3,hk1]
 refine ae (fun hk2=>?_) (fun hk2=>?_)<;>simp at hk2<;>simp[hk2,hk1]
 ·rw[if_pos (by omega),mh]at hq
  refine ae (fun c1=>?_) (fun c1=>?_)<;>simp at c1<;>simp[c1]
  ·simp[hq,c1]
  have c1':¬n.ground<=n.invert:=by omega
  simp[e1]
  refine aa (qZ hC n.shapeN n.shape (n.ground-n.invert)) (.inl rfl) ?_
  cases c2:cu n.shape (n.ground-n.invert) 1125899906842624
  ·simp[hq,c2]
  simp[hk2]
  cases c3:n.prot
  ·simp[hq,c1',c2,c3]
  have hv:ay n.shape=true:=by
   simp only[cu,x0a]at c2
   exact c2.1.1.1
  obtain⟨l1,l2⟩:=ca hv
  obtain⟨m,hm⟩:∃m,m+1=n.shape.length:=⟨n.shape.length-1,by omega⟩
  have e2:IntKind.wrap .i64 ((n.shape.length:Int)-1)=(m:Int):=wrap_i64 (by omega) (by omega)
  have hml:m<n.shape.length:=by omega
  simp[e2,hml,knD]
  have kb:=cP hC n.reserve 0 n.shape[m].2
  rw[lh]at kb
  refine aa kb (.inl rfl) ?_
  simp
  refine⟨aw (by decide +kernel),?_⟩
  simp[hq,c1',c2,c3,hk2,cR hm]
 rw[if_neg (by omega)]at hq
 refine ae (fun hk3=>?_) (fun hk3=>?_)<;>simp at hk3<;>simp[hk3]
 ·rw[if_pos hk3,xb]at hq
  refine ae (fun c1=>?_) (fun c1=>?_)<;>simp at c1<;>simp[c1]
  ·refine ae (fun c2=>?_) (fun c2=>?_)<;>simp at c2<;>simp[c2]
   ·cases c3:n.prot
    ·simp[hq,c1,c2,c3]
    ·simp[hq,c3]
   ·simp[hq,c2]
  ·have:¬n.invert<=n.ground:=by omega
   simp[hq,this]
 ·rw[if_neg hk3]at hq
  simp[hq]
end Go.Gv

namespace Go.Gv
def j9(ns:List Nod)(i:Nat):Bool:=gn ns[i]!&&decide (bk (bi ns[i]!.name) ns=(i:Int))
def jq(ns:List Nod)(nm:List UInt8):Bool:=decide (0<=bk (bi nm) ns)&&!decide (ns[(bk (bi nm) ns).toNat]!.kind=3)
def fy(ns:List Nod)(ls:List Lnk)(i:Nat):Bool:=cj ls[i]!&&decide (bk (mU ls[i]!.name) ls=(i:Int))&&jq ns ls[i]!.src&&decide (0<=bk (bi ls[i]!.dst) ns)
def b9(ns:List Nod)(ls:List Lnk):Bool:=decide (ns.length<=300)&&decide (ls.length<=400)&&(List.range ns.length).all (j9 ns)&&(List.range ls.length).all (fy ns ls)
theorem j0{α:Type}{p:α->Bool}{xs:List α}(h:0<=bk p xs):(bk p xs).toNat<xs.length:=by
 unfold bk at h ⊢
 cases e:xs.findIdx? p with
 | none=>rw[e]at h;simp at h
 | some i =>
  simp
  obtain⟨h1,_⟩:=x0W.1 e
  exact h1
variable{C:CC}(hC:al prog C)
include hC
theorem j7(b1 b2:Bool)(ns:List Nod)(ls:List Lnk)(hcv:∀l∈ls,l.curve.length<2^62):C 164 [.agg [slx b1 (ns.map a8),slx b2 (ls.map aJ)]] (.bool (b9 ns ls)) []:=by
 obtain⟨r,hr⟩:∃r,r=b9 ns ls:=⟨_,rfl⟩
 rw[<- hr]
 unfold b9 at hr
 refine aj hC (nf:=N164) rfl rfl ?_
 simp[N164]
 refine ae (fun c=>?_) (fun c=>?_)<;>simp at c<;>simp[c]
 ·simp[hr,show ¬ns.length<=300 by omega]
 refine ae (fun c2=>?_) (fun c2=>?_)<;>simp at c2<;>simp[c2]
 ·simp[hr,show ¬ls.length<=400 by omega]
 rw[decide_eq_true (show ns.length<=300 by omega),decide_eq_true (show ls.length<=400 by omega)]at hr
 simp only[Bool.true_and]at hr
 have badN:∀i,i<ns.length->j9 ns i=false->r=false:=fun i hi h=>by
  rw[hr,x1F]
  exact .inl (List.all_eq_false.2 ⟨i,by simpa using hi,by simp[h]⟩)
 have badL:∀i,i<ls.length->fy ns ls i=false->r=false:=fun i hi h=>by
  rw[hr,x1F]
  exact .inr (List.all_eq_false.2 ⟨i,by simpa using hi,by simp[h]⟩)
 refine aF Nat (fun i=>[(1,.ptr [slx b1 (ns.map a8),slx b2 (ls.map aJ)]),(19,slx b1 (ns.map a8)),(20,.int .i64 ns.length),(21,.int .i64 i)]) (fun i=>i<=ns.length/\∀j<i,j9 ns j=true) (fun i=>ns.length-i) 0 (by simp) (by simp) ?_
 rintro i ⟨hi,hj⟩
 simp
 refine ae (fun h=>?_) (fun h=>?_)<;>simp at h<;>simp[h]
 ·have hw:IntKind.wrap .i64 ((i:Int)+1)=((i+1:Nat):Int):=wrap_i64 (by omega) (by omega)
  have bad:=badN i h
  have e1:ns[i]! = ns[i]:=x0g ns i h
  simp only[j9,e1]at bad
  have k1:=zN hC ns[i]
  have k2:=kZ hC b1 b2 ns ls ns[i].name (by omega)
  simp only[a8]at k1
  simp[a8,h]
  refine aa k1 (.inl rfl) ?_
  cases g1:gn ns[i]
  ·simp
   exact bad (by simp[g1])
  simp
  refine aa k2 (.inl rfl) ?_
  simp
  refine ae (fun g2=>?_) (fun g2=>?_)<;>simp at g2<;>simp[g2]
  ·exact bad (by simp[g2])
  ·simp[hw]
   refine⟨i+1,⟨by omega,fun k hk=>?_⟩,by omega,by simp⟩
   rcases x0D.1 hk with h5|rfl
   ·exact hj k h5
   ·simp[j9,e1,g1,g2]
 have hall:(List.range ns.length).all (j9 ns)=true:=by
  rw[x0f]
  intro k hk
  exact hj k (by simp at hk;omega)
 rw[hall,Bool.true_and]at hr
 clear badN hall hj
 refine aF Nat (fun i=>[(1,.ptr [slx b1 (ns.map a8),slx b2 (ls.map aJ)]),(39,slx b2 (ls.map aJ)),(40,.int .i64 ls.length),(41,.int .i64 i)]) (fun i=>i<=ls.length/\∀j<i,fy ns ls j=true) (fun i=>ls.length-i) 0 (by simp) (by simp) ?_
 clear h hi i
 rintro i ⟨hi,hj⟩
 simp
 refine ae (fun h=>?_) (fun h=>?_)<;>simp at h<;>simp[h]
 ·have hw:IntKind.wrap .i64 ((i:Int)+1)=((i+1:Nat):Int):=wrap_i64 (by omega) (by omega)
  have bad:=badL i h
  have e1:ls[i]! = ls[i]:=x0g ls i h
  simp only[fy,e1]at bad
  have k1:=wL hC ls[i] (hcv _ (x0p h))
  have k2:=C4 hC b1 b2 ns ls ls[i].name (by omega)
  have k3:=kZ hC b1 b2 ns ls ls[i].src (by omega)
  have k4:=kZ hC b1 b2 ns ls ls[i].dst (by omega)
  have next:fy ns ls i=true->∃s':Nat,(s'<=ls.length/\∀j<s',fy ns ls j=true)/\ls.length-s'<ls.length-i/\(i:Int)+1=s':=fun hl=>by
   refine⟨i+1,⟨by omega,fun k hk=>?_⟩,by omega,by simp⟩
   rcases x0D.1 hk with h5|rfl
   ·exact hj k h5
   ·exact hl
  simp only[fy,e1]at next
  simp only[aJ]at k1
  simp[aJ,h]
  refine aa k1 (.inl rfl) ?_
  cases g1:cj ls[i]
  ·simp
   exact bad (by simp[g1])
  simp
  refine aa k2 (.inl rfl) ?_
  simp
  refine ae (fun g2=>?_) (fun g2=>?_)<;>simp at g2<;>simp[g2]
  ·exact bad (by simp[g2])
  refine aa k3 (.inl rfl) ?_
  simp
  refine ae (fun g3=>?_) (fun g3=>?_)<;>simp at g3<;>simp[g3]
  ·exact bad (by simp[jq,show ¬0<=bk (bi ls[i].src) ns by omega])
  have g3':¬bk (bi ls[i].src) ns<0:=by omega
  refine aa k4 (.inl rfl) ?_
  simp
  refine ae (fun g4=>?_) (fun g4=>?_)<;>simp at g4<;>simp[g4]
  ·exact bad (by simp[show ¬0<=bk (bi ls[i].dst) ns by omega])
  have g4':¬bk (bi ls[i].dst) ns<0:=by omega
  have hf:=j0 g3
  obtain⟨f,hfe⟩:=Int.eq_ofNat_of_zero_le g3
  rw[hfe]at hf ⊢
  simp at hf
  have e2:ns[f]! = ns[f]:=x0g ns f hf
  have hfo:jq ns ls[i].src=!decide (ns[f].kind=3):=by
   simp[jq,hfe,e2]
  simp[hf,a8]
  refine ae (fun g5=>?_) (fun g5=>?_)<;>simp at g5<;>simp[g5]
  ·exact bad (by simp[hfo,g5])
  ·simp[hw]
   exact next (by simp[hfo,g5,g1,g2,g4])
 ·have hall:(List.range ls.length).all (fy ns ls)=true:=by
   rw[x0f]
   intro k hk
   exact hj k (by simp at hk;omega)
  rw[hr,hall]
end Go.Gv

namespace Go.Gv
theorem ff{s:Sec}(h:av s=true):ay s.conv=true/\(dR s.conv).1=s.height/\0<=(dR s.conv).2/\(dR s.conv).2<=1099511627776:=by
 simp only[av,cu,x0a,x0d,x0o]at h
 obtain⟨_,⟨⟨hv,h0⟩,h1⟩,h2⟩:=h
 obtain⟨l1,l2⟩:=ca hv
 have hp:∀i (hi:i<s.conv.length),0<=s.conv[i].2:=by
  intro i
  induction i with
  | zero=>intro hi;have:=h0.2;rw[x0g s.conv 0 hi]at this;omega
  | succ i ih =>
   intro hi
   have h3:=((iO hv hi).2.2 i rfl).2
   have:=ih (by omega)
   omega
 obtain⟨n,hn⟩:∃n,n+1=s.conv.length:=⟨s.conv.length-1,by omega⟩
 refine⟨hv,h1,?_,h2⟩
 rw[cR hn]
 exact hp n (by omega)
theorem rI{k f:Nat}(hk:k<=1099511627776)(hf:f<=4194304):k*k*f<=5070602400912917605986812821504:=by
 have h1:=x06 hk hk
 have h2:=x06 h1 hf
 exact h2
variable{C:CC}(hC:al prog C)
include hC
theorem um(s:Sec)(fall len:Int)(hv:av s=true)(hs:bT fall len=true):C 61 [.agg (bf s),.int .i64 s.height,.int .i64 fall,.int .i64 len] (.tup [.int .i64 (my s fall len),.int .i64 0]) []:=by
 obtain⟨c1,c2,c3,c4⟩:=ff hv
 simp only[bT,x0a,x0d]at hs
 obtain⟨l1,l2⟩:=ca c1
 obtain⟨n,hn⟩:∃n,n+1=s.conv.length:=⟨s.conv.length-1,by omega⟩
 rw[cR hn]at c2 c3 c4
 have hF:=vw hC s.convN s.conv s.height c1 n hn c2
 obtain⟨k,hk⟩:∃k:Nat,s.conv[n].2=k:=⟨s.conv[n].2.toNat,by omega⟩
 obtain⟨f,rfl⟩:∃f:Nat,fall=f:=⟨fall.toNat,by omega⟩
 obtain⟨l,rfl⟩:∃l:Nat,len=l:=⟨len.toNat,by omega⟩
 have hcap:my s f l=eO (k*k*f/l):=by simp[my,cR hn,hk]
 rw[hk]at hF
 rw[hcap]
 have hb:=rI (k:=k) (f:=f) (by omega) (by omega)
 have hb0:k*k<=1208925819614629174706176:=x06 (show k<=1099511627776 by omega) (show k<=1099511627776 by omega)
 have hb2:=Nat.div_le_self (k*k*f) l
 refine aj hC (nf:=N61) rfl rfl ?_
 simp[N61,bf]
 refine aa hF (.inl rfl) ?_
 simp
 refine aa (oP hC k k (by omega) (by omega)) (.inl rfl) ?_
 have v:∀x,isV (cf x)=true/\(∀f:Nat->D,bE f (cf x))/\(∀f:Nat->D,dp f (cf x)=cf x)/\∀ks,aH ks (cf x)=cf x:=fun x=>⟨rfl,fun _=>trivial,fun _=>rfl,fun _=>by simp[cf]⟩
 simp[v]
 refine aa (tU hC (k*k) f (by omega) (by omega) (by omega)) (.inl rfl) ?_
 simp[v]
 refine aa (xc hC (k*k*f) l (by omega) (by omega) (by omega)) (.inl rfl) ?_
 simp[v]
 refine aa (xm hC (k*k*f/l)) (.inl rfl) ?_
 simp
theorem BX(s:Sec)(fall len:Int):C 47 [.agg (bf s),.int .i64 fall,.int .i64 len] (.tup [.int .i64 (fI s fall len).1,.int .i64 (fI s fall len).2]) []:=by
 have cap:C 53 [.agg (bf s),.int .i64 s.height,.int .i64 fall,.int .i64 len] (.tup [.int .i64 (fI s fall len).1,.int .i64 (fI s fall len).2]) []:=by
  refine aj hC (nf:=N53) rfl rfl ?_
  simp[N53,bf]
  have hvc:=pU hC s
  rw[bf]at hvc
  refine aa hvc (.inl rfl) ?_
  cases hv:av s
  ·simp[fI,hv]
  have hh:¬s.height<0:=by
   simp only[av,x0a,x0d]at hv
   omega
  simp[hh]
  refine aa (tL hC fall len) (.inl rfl) ?_
  have es:(decide (0<=fall)&&decide (fall<=4194304)&&decide (1<=len)&&decide (len<=16777216))=bT fall len:=rfl
  rw[es]
  cases hs:bT fall len
  ·simp[fI,hv,hs]
  simp
  have hcc:=um hC s fall len hv hs
  rw[bf]at hcc
  refine aa hcc (.inl rfl) ?_
  simp
  refine ae (fun c=>?_) (fun c=>?_)<;>simp[c]<;>simp at c
  ·have c':1099511627776<my s fall len:=by omega
   simp[fI,hv,hs,c']
  ·have c':¬1099511627776<my s fall len:=by omega
   simp[fI,hv,hs,c']
 refine aj hC (nf:=N47) rfl rfl ?_
 simp[N47,bf]
 rw[bf]at cap
 refine aa cap (.inl rfl) ?_
 simp
end Go.Gv

namespace Go.Gv
def bg(l:List Sec):Bool:=decide (l.length<=40)&&l.all av&&decide ((l.map (·.name)).Nodup)
def f8(l:List Sec):List D:=((l.map (·.name)).reverse).map D.str
theorem oG:∀(xs:List (List UInt8)) (n:Nat),n=xs.length->∀s,(dK (xs.map D.str) (List.replicate n (.bool true)) (.str s)).getD (.bool false)=.bool (decide (s∈xs))
 | [],n,h,s=>by simp[dK]
 | x::xs,n,h,s=>by
  obtain⟨m,rfl⟩:∃m,n=m+1:=⟨n-1,by simp at h;omega⟩
  have ih:=oG xs m (by simpa using h) s
  simp only[x0I,List.replicate_succ,dK,eqD,qk,x0d]
  by_cases e:s=x
  ·subst e;simp
  ·rw[if_neg e,ih];simp[e]
variable{C:CC}(hC:al prog C)
include hC
theorem mz(b:Bool)(l:List Sec):C 44 [slx b (l.map bf)] (.bool (bg l)) []:=by
 refine aj hC (nf:=N44) rfl rfl ?_
 simp[N44]
 refine ae (fun h=>?_) (fun h=>?_)<;>simp at h
 ·simp[bg];omega
 simp
 refine aF Nat (fun i=>[(3,.mrf 10144),(10144,.mp 0 1 (f8 (l.take i)) (List.replicate i (.bool true))),(10,slx b (l.map bf)),(11,.int .i64 l.length),(12,.int .i64 i)])
  (fun i=>i<=l.length/\(∀x∈l.take i,av x=true)/\((l.map (·.name)).take i).Nodup) (fun i=>l.length-i) 0 (by simp) (by simp[f8]) ?_
 rintro i ⟨hi,hv,hn⟩
 simp
 refine ae (fun h3=>?_) (fun h3=>?_)<;>simp at h3
 ·have ht:l.take (i+1)=l.take i++[l[i]]:=x0w h3
  have hg:=oG ((l.take i).map (·.name)).reverse i (by simp;omega) l[i].name
  rw[show((l.take i).map (·.name)).reverse.map D.str=f8 (l.take i)from rfl]at hg
  have hk:D.str l[i].name::f8 (l.take i)=f8 (l.take (i+1)):=by
   rw[f8,f8,ht]
   simp only[x1p,x0I,x0Y,List.reverse_append,List.reverse_cons,List.reverse_nil,List.nil_append,x1A]
  have hlen:(f8 (l.take i)).length<maxLen:=by
   have:(f8 (l.take i)).length<=40:=by simp[f8];omega
   unfold maxLen;omega
  have hw:IntKind.wrap .i64 ((i:Int)+1)=((i+1:Nat):Int):=wrap_i64 (by omega) (by omega)
  have bad1:av l[i]=false->bg l=false:=fun e=>by
   simp only[bg,x1F,List.all_eq_false]
   exact .inl (.inr ⟨l[i],x0p h3,by simp[e]⟩)
  have h5:(l.map (·.name)).take (i+1)=(l.map (·.name)).take i++[l[i].name]:=by
   rw[x0w (by simpa using h3)];simp
  have bad2:l[i].name∈(l.map (·.name)).take i->bg l=false:=fun e=>by
   simp only[bg,x1F,x0J]
   right
   intro hnd
   have h6:=(List.take_sublist (i+1) _).nodup hnd
   rw[h5,x1u]at h6
   exact h6.2.2 _ e _ (by simp) rfl
  simp[h3,bf]
  have hvc:=pU hC l[i]
  rw[bf]at hvc
  refine aa hvc (.inl rfl) ?_
  cases hvi:av l[i]
  ·simp[bad1 hvi]
  ·have hnm:l[i].name.length<=maxLen:=by
    simp only[av,co,x0a,x0d]at hvi
    unfold maxLen;omega
   simp[hg,hnm]
   refine ae (fun h4=>?_) (fun h4=>?_)<;>simp[h4]<;>simp at h4
   ·exact bad2 h4
   ·simp[hlen,hnm,hw]
    refine⟨i+1,⟨by omega,?_,?_⟩,by omega,⟨hk,?_⟩,rfl⟩
    ·intro x hx
     rw[ht]at hx
     rcases x0l.1 hx with hx|hx
     ·exact hv x hx
     ·simp at hx;subst hx;exact hvi
    ·rw[h5,x1u]
     refine⟨hn,by simp,fun a ha b hb=>?_⟩
     simp at hb
     subst hb
     rintro rfl
     exact h4 ha
    ·rw[List.replicate_succ]
 ·have hil:i=l.length:=by omega
  subst hil
  rw[x0y (by simp)]at hn
  simp at hv
  simp[bg,hn]
  exact⟨by omega,hv⟩
end Go.Gv

namespace Go.Gv
def jf(nm:List UInt8):Nod:={ name:=nm,kind:=1,x:=0,y:=0,invert:=0,ground:=1,shapeN:=false,shape:=[(0,0),(1,1)],prot:=false,reserve:=0 }
def kY(nm:List UInt8):Nod:={ name:=nm,kind:=3,x:=0,y:=0,invert:=0,ground:=0,shapeN:=true,shape:=[],prot:=false,reserve:=0 }
theorem ji{α:Type}{p:α->Bool}{x:α}{l:List α}(h:p x=true):bk p (x::l)=0:=by
 unfold bk
 rw[List.findIdx?_cons,h]
 rfl
theorem wJ{α:Type}{p:α->Bool}{x y:α}(h:p x=false)(h2:p y=true):bk p [x,y]=1:=by
 unfold bk
 rw[List.findIdx?_cons,h,List.findIdx?_cons,h2]
 rfl
theorem sC(l:Lnk):b9 [jf l.src,kY l.dst] [l]=cj l:=by
 cases h:cj l
 ·simp[b9,fy,h]
 have h':=h
 simp only[cj,x0a,x0q,x0J]at h
 obtain⟨⟨⟨⟨⟨⟨h1,h2⟩,h3⟩,h4⟩,h5⟩,h6⟩,h7⟩:=h
 have a1:gn (jf l.src)=true:=by
  have:cu [(0,0),(1,1)] 1 1125899906842624=true:=by decide +kernel
  simp[gn,jf,h2,mh,aS,bP,this]
 have a2:gn (kY l.dst)=true:=by
  simp[gn,kY,h3,xb,aS,bP]
 have b1:bi l.src (jf l.src)=true:=by simp[bi,jf]
 have b2:bi l.dst (kY l.dst)=true:=by simp[bi,kY]
 have b3:bi l.dst (jf l.src)=false:=by simp[bi,jf,h4]
 have c1:bk (bi l.src) [jf l.src,kY l.dst]=0:=ji b1
 have c2:bk (bi l.dst) [jf l.src,kY l.dst]=1:=wJ b3 b2
 have c3:bk (mU l.name) [l]=0:=ji (by simp[mU])
 have d1:(jf l.src).name=l.src:=rfl
 have d2:(kY l.dst).name=l.dst:=rfl
 have d3:(jf l.src).kind=1:=rfl
 have e1:(List.range 2).all (j9 [jf l.src,kY l.dst])=true:=by
  simp[List.range_succ,j9,a1,a2,c1,c2,d1,d2]
 have e2:(List.range 1).all (fy [jf l.src,kY l.dst] [l])=true:=by
  simp[List.range_succ,fy,h',c1,c2,c3,jq,d3]
 have e3:fy [jf l.src,kY l.dst] [l] 0=true:=by simpa using e2
 simp[b9,e1,e3]
theorem pi(s:Sec):bg [s]=av s:=by
 simp[bg]
def iF(l:Lnk)(s:Sec):Int:=if cj l&&av s then(if l.kind=1 then(if l.sect=s.name then 0 else 25) else 11) else 1
variable{C:CC}(hC:al prog C)
include hC
theorem lw(n a b:Int):C 161 [.int .i64 n,.int .i64 a,.int .i64 b] (.bool (aS n a b)) []:=by
 refine aj hC (nf:=N161) rfl rfl ?_
 simp[N161,aS]
 refine ae (fun h=>?_) (fun h=>?_)<;>simp at h<;>simp[h]<;>omega
theorem xf(l:Lnk)(s:Sec)(hl:l.curve.length<2^62):C 160 [.agg (aJ l),.agg (bf s)] (.int .i64 (iF l s)) []:=by
 have k1:=j7 hC false false [jf l.src,kY l.dst] [l] (by simpa using hl)
 rw[sC]at k1
 have k2:=mz hC false [s]
 rw[pi]at k2
 simp only[iZ,List.map,jf,kY,a8,aJ,bf,knD]at k1 k2
 obtain⟨r,hr⟩:∃r,r=iF l s:=⟨_,rfl⟩
 rw[<- hr]
 unfold iF at hr
 refine aj hC (nf:=N160) rfl rfl ?_
 have e0:slx true []=D.nils:=rfl
 rw[e0]at k1
 simp[N160,aJ,bf]
 refine aa k1 (.inl rfl) ?_
 cases h1:cj l
 ·simp[hr,h1]
 simp
 refine aa k2 (.inl rfl) ?_
 cases h2:av s
 ·simp[hr,h2]
 simp
 refine ae (fun c=>?_) (fun c=>?_)<;>simp at c<;>simp[c]
 ·simp[hr,h1,h2,c]
 refine ae (fun c3=>?_) (fun c3=>?_)<;>simp at c3<;>simp[c3]
 ·simp[hr,h1,h2,c,c3]
 ·simp[hr,h1,h2,c,c3]
end Go.Gv

namespace Go.Gv
open Go.Lib
theorem RR(a m:Nat)(hm:m=a*16%18446744073709551616):IntKind.u64.wrap ((a:Int)*2^min 4 IntKind.u64.bits)=(m:Int):=LV a 4 m hm
theorem LU(a m:Nat)(hm:m=a*1152921504606846976%18446744073709551616):IntKind.u64.wrap ((a:Int)*2^min 60 IntKind.u64.bits)=(m:Int):=LV a 60 m hm
theorem LW(a:Nat):Int.fdiv (a:Int) (2^min 60 IntKind.u64.bits)=((a/1152921504606846976:Nat):Int):=nE a 60
theorem RS(a:Nat):Int.fdiv (a:Int) (2^min 4 IntKind.u64.bits)=((a/16:Nat):Int):=nE a 4
theorem C8(a:Nat)(ha:a<18446744073709551616):bits .and .u64 (a:Int) 1152921504606846975=((a%1152921504606846976:Nat):Int):=by
 have h:=bits_and_u64_nat a 1152921504606846975 ha (by omega)
 have e:a &&& 1152921504606846975=a%1152921504606846976:=Nat.and_two_pow_sub_one_eq_mod a 60
 rw[e]at h
 exact h
theorem RO(a b:Nat)(hb:b<16)(h:a*16+b<18446744073709551616):bits .or .u64 ((a*16:Nat):Int) (b:Int)=((a*16+b:Nat):Int):=orN a b 4 hb h
theorem RP(a b:Nat)(hb:b<1152921504606846976)(h:a*1152921504606846976+b<18446744073709551616):bits .or .u64 ((a*1152921504606846976:Nat):Int) (b:Int)=((a*1152921504606846976+b:Nat):Int):=orN a b 60 hb h
def eD(p:Nat)(neg:Bool):D:=.agg [.int .u64 ((p/18446744073709551616:Nat):Int),.int .u64 ((p%18446744073709551616:Nat):Int),.bool neg]
def wiD(p:Nat):D:=.agg [.int .i64 ((p/1152921504606846976:Nat):Int),.int .i64 ((p%1152921504606846976:Nat):Int)]
variable{C:CC}(hC:al prog C)
include hC
theorem ml(n:Nat)(h:n<9223372036854775808):C 112 [.int .i64 n] (.int .u64 (n:Int)) []:=by
 refine aj hC (nf:=N112) rfl rfl ?_
 have h0:¬(n:Int)<0:=by omega
 simp[N112,h0,bV n (by omega)]
theorem iL(a b:Int)(n:Bool):C 113 [.int .u64 a,.int .u64 b,.bool n] (.agg [.int .u64 a,.int .u64 b,.bool (n&&(!decide (a=0)||!decide (b=0)))]) []:=by
 refine aj hC (nf:=N113) rfl rfl ?_
 simp[N113]
 cases n<;>simp
 by_cases h:a=0<;>simp[h]
theorem ry(x y:Nat)(hx:x<9223372036854775808)(hy:y<9223372036854775808):C 103 [.int .i64 x,.int .i64 y] (eD (x*y) false) []:=by
 refine aj hC (nf:=N103) rfl rfl ?_
 have h0:¬(x:Int)<0:=by omega
 have h1:¬(y:Int)<0:=by omega
 have hm:=gJ hC x y (by omega) (by omega)
 rw[eD]
 obtain⟨zh,hzh⟩:∃zh,zh=x*y/18446744073709551616:=⟨_,rfl⟩
 obtain⟨zl,hzl⟩:∃zl,zl=x*y%18446744073709551616:=⟨_,rfl⟩
 rw[<- hzh,<- hzl]at hm ⊢
 simp[N103]
 refine aa (ml hC x hx) (.inl rfl) ?_
 simp
 refine aa (ml hC y hy) (.inl rfl) ?_
 simp
 refine aa hm (.inl rfl) ?_
 simp[h0,h1]
 refine aa (iL hC zh zl false) (.inl rfl) ?_
 simp
theorem ky(n:Nat)(h:n<9223372036854775808):C 110 [.int .u64 n,.bool false] (.tup [.int .i64 n,.int .i64 0]) []:=by
 refine aj hC (nf:=N110) rfl rfl ?_
 have h1:(n:Int)<=9223372036854775807:=by omega
 have h2:IntKind.i64.wrap (n:Int)=(n:Int):=wrap_i64 rfl (by omega)
 simp[N110,h1,h2]
theorem ne(p d:Nat)(up:Bool)(q:Nat)(hd:d<9223372036854775808)(hp:p/18446744073709551616<d)(hq:q<9223372036854775808)(hv:q=if up then(p+d-1)/d else p/d)(hqd:p/d+1<9223372036854775808):C 104 [eD p false,.int .i64 d,.bool up] (.tup [.int .i64 q,.int .i64 0]) []:=by
 obtain⟨ph,hph⟩:∃z,z=p/18446744073709551616:=⟨_,rfl⟩
 obtain⟨pl,hpl⟩:∃z,z=p%18446744073709551616:=⟨_,rfl⟩
 have hpp:ph*18446744073709551616+pl=p:=by omega
 obtain⟨q0,hq0⟩:∃z,z=p/d:=⟨_,rfl⟩
 obtain⟨r0,hr0⟩:∃z,z=p%d:=⟨_,rfl⟩
 have hdiv:=sV hC ph pl d (by omega) (by omega) (by omega)
 rw[hpp,<- hq0,<- hr0]at hdiv
 have hd0:0<d:=by omega
 have hdp:d*q0+r0=p:=by rw[hq0,hr0];exact x1c p d
 have hrd:r0<d:=by rw[hr0];exact x1y _ hd0
 have hup:up=true->q=if 0<r0 then q0+1 else q0:=by
  rintro rfl
  simp only[if_true]at hv
  rw[hv,<- hdp]
  by_cases h:0<r0
  ·rw[if_pos h,show d*q0+r0+d-1=d*q0+(d+(r0-1)) by omega,Nat.mul_add_div hd0,Nat.add_div_left _ hd0,Nat.div_eq_of_lt (by omega)]
  ·rw[if_neg h,show d*q0+r0+d-1=d*q0+(d-1) by omega,Nat.mul_add_div hd0,Nat.div_eq_of_lt (by omega)]
   rfl
 rw[eD,<- hph,<- hpl]
 have h1:¬(d:Int)<=(ph:Int):=by omega
 have h2:¬(d:Int)<0:=by omega
 have h3:IntKind.u64.wrap ((q0:Int)+1)=((q0+1:Nat):Int):=uw (by omega) (by omega)
 refine aj hC (nf:=N104) rfl rfl ?_
 simp[N104]
 refine aa (ml hC d hd) (.inl rfl) ?_
 simp[h1]
 refine aa hdiv (.inl rfl) ?_
 simp[h2]
 cases up
 ·have e:q=q0:=by rw[hv,hq0];rfl
  subst e
  refine ae (fun h=>?_) (fun h=>?_)<;>simp at h<;>simp[h]
  ·refine aa (ky hC q hq) (.inl rfl) ?_
   simp
  ·refine aa (ky hC q hq) (.inl rfl) ?_
   simp
 ·have hv:=hup rfl
  by_cases h:0<r0
  ·have hi:(0:Int)<r0:=by omega
   rw[if_pos h]at hv
   subst hv
   have h4:¬((q0:Int)+1=0):=by omega
   simp[hi,h3,h4,h]
   refine aa (ky hC (q0+1) hq) (.inl rfl) ?_
   simp
  ·have hi:¬(0:Int)<r0:=by omega
   rw[if_neg h]at hv
   subst hv
   simp[hi,h]
   refine aa (ky hC q hq) (.inl rfl) ?_
   simp
end Go.Gv

namespace Go.Gv
open Go.Lib
variable{C:CC}(hC:al prog C)
include hC
theorem nP(p:Nat)(h:p<1329227995784915872903807060280344576):C 106 [wiD p] (.bool true) []:=by
 obtain⟨ph,hph⟩:∃z,z=p/1152921504606846976:=⟨_,rfl⟩
 obtain⟨pl,hpl⟩:∃z,z=p%1152921504606846976:=⟨_,rfl⟩
 rw[wiD,<- hph,<- hpl]
 have h1:(-1152921504606846976:Int)<=ph:=by omega
 have h2:(ph:Int)<1152921504606846976:=by omega
 have h3:(0:Int)<=pl:=by omega
 have h4:(pl:Int)<1152921504606846976:=by omega
 refine aj hC (nf:=N106) rfl rfl ?_
 simp[N106,h1,h2,h3,h4]
theorem qO(p:Nat)(h:p<1329227995784915872903807060280344576):C 105 [eD p false] (.tup [wiD p,.int .i64 0]) []:=by
 obtain⟨ph,hph⟩:∃z,z=p/1152921504606846976:=⟨_,rfl⟩
 obtain⟨pl,hpl⟩:∃z,z=p%1152921504606846976:=⟨_,rfl⟩
 obtain⟨zh,hzh⟩:∃z,z=p/18446744073709551616:=⟨_,rfl⟩
 obtain⟨zl,hzl⟩:∃z,z=p%18446744073709551616:=⟨_,rfl⟩
 rw[wiD,eD,<- hph,<- hpl,<- hzh,<- hzl]
 obtain⟨zt,hzt⟩:∃z,z=zl/1152921504606846976:=⟨_,rfl⟩
 have h1:¬(72057594037927936:Int)<zh:=by omega
 have h2:¬(zh:Int)=72057594037927936:=by omega
 have e1:=RR zh (zh*16) (by omega)
 have e2:=LW zl
 rw[<- hzt]at e2
 have e3:=RO zh zt (by omega) (by omega)
 have e4:IntKind.i64.wrap ((zh*16+zt:Nat):Int)=(ph:Int):=wrap_i64 (by omega) (by omega)
 have e5:=C8 zl (by omega)
 have e6:IntKind.i64.wrap ((zl%1152921504606846976:Nat):Int)=(pl:Int):=wrap_i64 (by omega) (by omega)
 refine aj hC (nf:=N105) rfl rfl ?_
 simp[N105,h1,h2,e2,-Int.natCast_mul,-Int.natCast_emod]
 refine⟨aw (by decide +kernel),?_⟩
 rw[e1,e3,e4,e5,e6]
 simp
theorem pV(p:Nat)(h:p<1329227995784915872903807060280344576):C 108 [wiD p] (eD p false) []:=by
 obtain⟨ph,hph⟩:∃z,z=p/1152921504606846976:=⟨_,rfl⟩
 obtain⟨pl,hpl⟩:∃z,z=p%1152921504606846976:=⟨_,rfl⟩
 obtain⟨zh,hzh⟩:∃z,z=p/18446744073709551616:=⟨_,rfl⟩
 obtain⟨zl,hzl⟩:∃z,z=p%18446744073709551616:=⟨_,rfl⟩
 rw[wiD,eD,<- hph,<- hpl,<- hzh,<- hzl]
 have h1:(0:Int)<=ph:=by omega
 obtain⟨w,hw⟩:∃z,z=ph%16:=⟨_,rfl⟩
 have e1:Int.fdiv (ph:Int) (2^min 4 IntKind.u64.bits)=(zh:Int):=by rw[RS];omega
 have e2:IntKind.u64.wrap ((ph:Int)*2^min 60 IntKind.u64.bits)=((w*1152921504606846976:Nat):Int):=LU ph _ (by omega)
 have e3:IntKind.u64.wrap (pl:Int)=(pl:Int):=bV pl (by omega)
 have e4:bits .or .u64 ((w*1152921504606846976:Nat):Int) (pl:Int)=(zl:Int):=by
  rw[RP w pl (by omega) (by omega)];omega
 refine aj hC (nf:=N108) rfl rfl ?_
 simp[N108]
 refine aa (ml hC ph (by omega)) (.inl rfl) ?_
 simp[h1]
 rw[e1,e2,e3,e4]
 simp
theorem zF(p:Nat):C 109 [eD p false] (eD p (decide (p≠0))) []:=by
 obtain⟨zh,hzh⟩:∃z,z=p/18446744073709551616:=⟨_,rfl⟩
 obtain⟨zl,hzl⟩:∃z,z=p%18446744073709551616:=⟨_,rfl⟩
 have e:decide (p≠0)=(true&&(!decide ((zh:Int)=0)||!decide ((zl:Int)=0))):=by
  rw[x0z];simp;omega
 rw[eD,eD,<- hzh,<- hzl,e]
 refine aj hC (nf:=N109) rfl rfl ?_
 simp[N109]
 refine aa (iL hC zh zl true) (.inl rfl) ?_
 simp
set_option maxHeartbeats 4000000 in
theorem LZ(p r:Nat)(hr:r<=p)(hp:p<1329227995784915872903807060280344576):C 107 [eD p false,eD r (decide (r≠0))] (eD (p-r) false) []:=by
 obtain⟨ph,hph⟩:∃z,z=p/18446744073709551616:=⟨_,rfl⟩
 obtain⟨pl,hpl⟩:∃z,z=p%18446744073709551616:=⟨_,rfl⟩
 obtain⟨rh,hrh⟩:∃z,z=r/18446744073709551616:=⟨_,rfl⟩
 obtain⟨rl,hrl⟩:∃z,z=r%18446744073709551616:=⟨_,rfl⟩
 obtain⟨dh,hdh⟩:∃z,z=(p-r)/18446744073709551616:=⟨_,rfl⟩
 obtain⟨dl,hdl⟩:∃z,z=(p-r)%18446744073709551616:=⟨_,rfl⟩
 have k0:(0:Int)<=ph:=by omega
 have k1:(0:Int)<=pl:=by omega
 have k2:(0:Int)<=rl:=by omega
 have k3:(pl:Int)<18446744073709551616:=by omega
 have k4:(rl:Int)<18446744073709551616:=by omega
 by_cases h0:r=0
 ·subst h0
  have hrh0:rh=0:=by omega
  have hrl0:rl=0:=by omega
  subst hrh0 hrl0
  rw[eD,eD,eD,<- hph,<- hpl,<- hrh,<- hrl,<- hdh,<- hdl]
  have e1:(pl:Int)%18446744073709551616=(pl:Int):=by omega
  have e2:(pl:Int)/18446744073709551616=0:=by omega
  have e3:IntKind.u64.wrap (ph:Int)=(ph:Int):=bV ph (by omega)
  have e4:dh=ph:=by omega
  have e5:dl=pl:=by omega
  refine aj hC (nf:=N107) rfl rfl ?_
  simp[N107,k3,e1,e2,e3]
  refine aa (iL hC ph pl false) (.inl rfl) ?_
  simp[e4,e5]
 ·have hne:decide (r≠0)=true:=by simp[h0]
  rw[hne,eD,eD,eD,<- hph,<- hpl,<- hrh,<- hrl,<- hdh,<- hdl]
  have c1:¬(ph:Int)<rh:=by omega
  have c2:(ph:Int)=rh->¬(pl:Int)<rl:=by omega
  have e1:((pl:Int)-rl)%18446744073709551616=(dl:Int):=by omega
  have e2:IntKind.u64.wrap ((ph:Int)-rh)=((ph-rh:Nat):Int):=uw (by omega) (by omega)
  have e3:IntKind.u64.wrap (((ph-rh:Nat):Int)-(if pl<rl then 1 else 0))=(dh:Int):=by
   split<;>exact uw (by omega) (by omega)
  refine aj hC (nf:=N107) rfl rfl ?_
  simp[N107,c1,k3,k4,e1,e2]
  refine ae (fun c=>?_) (fun c=>?_)<;>simp at c<;>simp[c]
  ·have c3:=c2 (by omega)
   refine ae (fun c4=>?_) (fun c4=>?_)<;>simp at c4<;>simp[c4]
   ·omega
   have hd0:dh=0:=by omega
   have c5:¬pl<rl:=by omega
   have hz:IntKind.u64.wrap 0=0:=bV 0 (by omega)
   simp[k3,k4,e1,hz,c5]
   refine aa (iL hC 0 dl false) (.inl rfl) ?_
   simp[hd0]
  ·simp[k3,k4,e1,e2]
   rw[e3]
   refine aa (iL hC dh dl false) (.inl rfl) ?_
   simp
end Go.Gv

namespace Go.Gv
theorem ke(p:Nat):∃a b:Int,eD p false=.agg [.int .u64 a,.int .u64 b,.bool false]:=⟨_,_,rfl⟩
theorem wY(p:Nat)(n:Bool):∃a b:Int,eD p n=.agg [.int .u64 a,.int .u64 b,.bool n]:=⟨_,_,rfl⟩
theorem iP(p:Nat):∃a b:Int,wiD p=.agg [.int .i64 a,.int .i64 b]:=⟨_,_,rfl⟩
variable{C:CC}(hC:al prog C)
include hC
theorem oa(x y:Nat)(hx:x<9223372036854775808)(hy:y<9223372036854775808)(h:x*y<1329227995784915872903807060280344576):C 99 [.int .i64 x,.int .i64 y] (.tup [wiD (x*y),.int .i64 0]) []:=by
 have k1:=ry hC x y hx hy
 have k2:=qO hC (x*y) h
 obtain⟨a,b,e1⟩:=ke (x*y)
 obtain⟨c,d,e2⟩:=iP (x*y)
 rw[e1]at k1 k2
 rw[e2]at k2 ⊢
 refine aj hC (nf:=N99) rfl rfl ?_
 simp[N99]
 refine aa k1 (.inl rfl) ?_
 simp
 refine aa k2 (.inr rfl) ?_
 simp
theorem Hy(p:Nat)(h:p<9223372036854775808):C 101 [wiD p] (.tup [.int .i64 p,.int .i64 0]) []:=by
 have k1:=nP hC p (by omega)
 have k2:=pV hC p (by omega)
 have e1:eD p false=.agg [.int .u64 0,.int .u64 p,.bool false]:=by
  rw[eD,show p/18446744073709551616=0 by omega,show p%18446744073709551616=p by omega];rfl
 obtain⟨c,d,e2⟩:=iP p
 rw[e1]at k2
 rw[e2]at k1 k2 ⊢
 refine aj hC (nf:=N101) rfl rfl ?_
 simp[N101]
 refine aa k1 (.inl rfl) ?_
 simp
 refine aa k2 (.inl rfl) ?_
 simp
 refine aa (ky hC p h) (.inl rfl) ?_
 simp
theorem HA(p r:Nat)(hr:r<=p)(h:p<1329227995784915872903807060280344576):C 100 [wiD p,wiD r] (.tup [wiD (p-r),.int .i64 0]) []:=by
 have k1:=nP hC p h
 have k2:=nP hC r (by omega)
 have k3:=pV hC p h
 have k4:=pV hC r (by omega)
 have k5:=zF hC r
 have k6:=LZ hC p r hr h
 have k7:=qO hC (p-r) (by omega)
 obtain⟨a1,a2,e1⟩:=iP p
 obtain⟨b1,b2,e2⟩:=iP r
 obtain⟨c1,c2,e3⟩:=iP (p-r)
 obtain⟨d1,d2,e4⟩:=ke p
 obtain⟨f1,f2,e5⟩:=ke r
 obtain⟨g1,g2,e6⟩:=wY r (decide (r≠0))
 obtain⟨i1,i2,e7⟩:=ke (p-r)
 obtain⟨z,hz⟩:∃z,z=decide (r≠0):=⟨_,rfl⟩
 rw[<- hz]at k5 k6 e6
 rw[e1]at k1 k3 ⊢
 rw[e2]at k2 k4 ⊢
 rw[e3]at k7 ⊢
 rw[e4]at k3 k6
 rw[e5]at k4 k5
 rw[e6]at k5 k6
 rw[e7]at k6 k7
 refine aj hC (nf:=N100) rfl rfl ?_
 simp[N100]
 refine aa k1 (.inl rfl) ?_
 simp
 refine aa k2 (.inl rfl) ?_
 simp
 refine aa k3 (.inl rfl) ?_
 simp
 refine aa k4 (.inl rfl) ?_
 simp
 refine aa k5 (.inl rfl) ?_
 simp
 refine aa k6 (.inl rfl) ?_
 simp
 refine aa k7 (.inr rfl) ?_
 simp
 exact aw (by decide +kernel)
theorem yn(u a d:Nat)(hu:u<4503599627370496)(ha:a<d)(hd:d<4503599627370496):C 98 [.int .i64 u,.int .i64 a,.int .i64 d] (.tup [.int .i64 (u*a/d:Nat),.int .i64 ((u*a+d-1)/d:Nat),.int .i64 0]) []:=by
 have h1:u*a<=u*d:=x1I _ (by omega)
 have h1':u*d=d*u:=x0S _ _
 have h2:u*a/d<=u:=Nat.le_of_lt_succ (Nat.div_lt_of_lt_mul (by rw[Nat.succ_eq_add_one,Nat.mul_add];omega))
 have h3:(u*a+d-1)/d<=u:=Nat.le_of_lt_succ (Nat.div_lt_of_lt_mul (by rw[Nat.succ_eq_add_one,Nat.mul_add];omega))
 have h4:u*a/18446744073709551616<d:=by
  have h5:u*d<=4503599627370496*d:=x0h _ (by omega)
  omega
 have k1:=ry hC u a (by omega) (by omega)
 have k2:=ne hC (u*a) d false (u*a/d) (by omega) h4 (by omega) rfl (by omega)
 have k3:=ne hC (u*a) d true ((u*a+d-1)/d) (by omega) h4 (by omega) rfl (by omega)
 obtain⟨q1,e1⟩:∃q,q=u*a/d:=⟨_,rfl⟩
 obtain⟨q2,e2⟩:∃q,q=(u*a+d-1)/d:=⟨_,rfl⟩
 obtain⟨a1,a2,e3⟩:=ke (u*a)
 rw[e3]at k1 k2 k3
 rw[<- e1]at k2 ⊢
 rw[<- e2]at k3 ⊢
 have hd0:¬(d:Int)=0:=by omega
 clear h1 h1' h2 h3 h4 e1 e2 e3
 refine aj hC (nf:=N98) rfl rfl ?_
 simp[N98]
 refine ae (fun c=>?_) (fun c=>?_)<;>simp at c<;>simp[c]
 ·omega
 refine aa k1 (.inr rfl) ?_
 simp
 refine aa k2 (.inl rfl) ?_
 simp
 refine aa k3 (.inl rfl) ?_
 simp
end Go.Gv

namespace Go.Gv
def bv(t:List (Int×Int))(x:Int):Nat:=t.findIdx fun k=>decide (x<=k.1)
def atK(t:List (Int×Int))(x:Int):Bool:=decide (bv t x<t.length)&&decide (t[bv t x]!.1=x)
def yt(a b:Int×Int)(x:Int):Int×Int×Int:=(a.2+(b.2-a.2)*(x-a.1)/(b.1-a.1),(b.2-a.2)*(x-a.1)%(b.1-a.1),b.1-a.1)
def aY(t:List (Int×Int))(x:Int):Int×Int×Int :=
 if atK t x||decide (bv t x=0) then(t[bv t x]!.2,0,1)
 else if bv t x=t.length then(t[bv t x-1]!.2,0,1)
 else yt t[bv t x-1]! t[bv t x]! x
theorem gP(t:List (Int×Int))(x:Int):bv t x<=t.length:=List.findIdx_le_length
theorem pI{t:List (Int×Int)}{x:Int}{j:Nat}(h:j<bv t x)(hl:j<t.length):t[j].1<x:=by
 have:=List.not_of_lt_findIdx h
 simp at this
 exact this
theorem kj{t:List (Int×Int)}{x:Int}(h:bv t x<t.length):x<=t[bv t x].1:=by
 have h2:=List.findIdx_getElem (w:=h)
 exact of_decide_eq_true h2
theorem jB{t:List (Int×Int)}{x:Int}{j:Nat}(hl:j<t.length)(h:x<=t[j].1):bv t x<=j:=by
 apply Nat.le_of_not_lt
 intro hj
 have:=pI hj hl
 omega
theorem ro{t:List (Int×Int)}(h:ay t=true){j i:Nat}(hi:i<t.length)(hj:j<=i):t[j].1<=t[i].1:=by
 rcases Nat.lt_or_eq_of_le hj with h1|rfl
 ·have:=i9 h j i hi h1;omega
 ·exact x0F _
theorem sG{t:List (Int×Int)}(hv:ay t=true){x:Int}{j:Nat}(hl:j<t.length)(h:t[j].1<x):j<bv t x:=by
 apply Nat.lt_of_not_le
 intro hj
 have h1:=kj (t:=t) (x:=x) (by omega)
 have h2:=ro hv hl hj
 omega
theorem dZ{t:List (Int×Int)}{x:Int}(h:ay t=true)(h0:bv t x≠0)(h1:bv t x<t.length)(h2:atK t x=false) :
  ∃k u a d:Nat,bv t x=k+1/\k+1<t.length/\∃(g0:k<t.length) (g1:k+1<t.length),t[k+1].2-t[k].2=u/\x-t[k].1=a/\t[k+1].1-t[k].1=d/\u<4503599627370496/\0<a/\a<d/\d<4503599627370496/\-1125899906842624<=t[k].2/\t[k].2<=1125899906842624/\t[k].2+u<=1125899906842624/\t[bv t x-1]! = t[k]/\t[bv t x]! = t[k+1]/\-1125899906842624<=t[k].1/\t[k].1<=1125899906842624/\t[k+1].1<=1125899906842624:=by
 obtain⟨k,hk⟩:∃k,bv t x=k+1:=⟨bv t x-1,by omega⟩
 have hlt:t[k].1<x:=pI (by omega) (by omega)
 have hge:=kj h1
 have e1:t[bv t x]! = t[bv t x]:=x0g t _ h1
 simp only[atK,h1,decide_true,Bool.true_and,x0J,e1]at h2
 rw[hk]at h1
 simp only[hk]at hge h2 e1
 obtain⟨f1,f2,f3⟩:=iO h (show k<t.length by omega)
 obtain⟨f4,f5,f6⟩:=iO h h1
 have f7:=f6 k rfl
 simp only[fX,x0a,x0d]at f1 f2 f4 f5
 refine⟨k,(t[k+1].2-t[k].2).toNat,(x-t[k].1).toNat,(t[k+1].1-t[k].1).toNat,hk,h1,by omega,h1,by omega,by omega,by omega,by omega,by omega,by omega,by omega,by omega,by omega,by omega,?_,?_,by omega,by omega,by omega⟩
 ·rw[hk];exact x0g t k (by omega)
 ·rw[hk];exact e1
theorem vM{p q:Int×Int}{u a d:Nat}{x:Int}(h1:q.2-p.2=u)(h2:x-p.1=a)(h3:q.1-p.1=d):yt p q x=(p.2+((u*a/d:Nat):Int),((u*a%d:Nat):Int),(d:Int)):=by
 simp only[yt,h1,h2,h3]
 push_cast
 rfl
variable{C:CC}(hC:al prog C)
include hC
theorem CK(b:Bool)(t:List (Int×Int))(x:Int)(h:ay t=true):C 96 [slx b (t.map knD),.int .i64 x,.fn 97 []] (.tup [.int .i64 (bv t x),.bool (atK t x)]) []:=by
 obtain⟨l1,l2⟩:=ca h
 have hpl:=gP t x
 obtain⟨n,hn⟩:∃n,n=bv t x:=⟨_,rfl⟩
 obtain⟨r,hr⟩:∃r,r=atK t x:=⟨_,rfl⟩
 have hlt:∀j,(hj:j<t.length)->t[j].1<x->j<n:=fun j hj h1=>hn▸sG h hj h1
 have hle:∀j,(hj:j<t.length)->x<=t[j].1->n<=j:=fun j hj h1=>hn▸jB hj h1
 rw[<- hn]at hpl ⊢
 rw[<- hr]
 rw[atK,<- hn]at hr
 refine aj hC (nf:=N96) rfl rfl ?_
 simp[N96]
 refine aF (Nat×Nat) (fun s=>[(0,slx b (t.map knD)),(1,.int .i64 x),(2,.fn 97 []),(8,.int .i64 t.length),(9,.int .i64 s.1),(10,.int .i64 s.2)]) (fun s=>s.1<=n/\n<=s.2/\s.2<=t.length) (fun s=>s.2-s.1) (0,t.length) (by simp;omega) (by simp) ?_
 rintro⟨i,j⟩ ⟨h1,h2,h3⟩
 simp only at h1 h2 h3
 simp
 refine ae (fun c=>?_) (fun c=>?_)<;>simp[c]<;>simp at c
 ·obtain⟨m,hm⟩:∃m,m=(i+j)/2:=⟨_,rfl⟩
  have e1:IntKind.wrap .i64 ((i:Int)+(j:Int))=((i+j:Nat):Int):=wrap_i64 (by omega) (by omega)
  obtain⟨s,hs⟩:∃s,s=i+j:=⟨_,rfl⟩
  rw[<- hs]at e1 hm
  have e2:Int.fdiv (s:Int) (2^min 1 IntKind.u64.bits)=(m:Int):=by rw[hm];exact nE s 1
  have e3:IntKind.wrap .i64 (m:Int)=(m:Int):=wrap_i64 rfl (by omega)
  have e4:IntKind.wrap .i64 ((m:Int)+1)=((m+1:Nat):Int):=wrap_i64 (by omega) (by omega)
  have hml:m<t.length:=by omega
  simp[e1,bV s (by omega),e2,e3,hml]
  have hc:=iR hC t[m] x
  simp[knD]at hc ⊢
  refine aa hc (.inl rfl) ?_
  by_cases hmn:t[m].1<x
  ·have:=hlt m hml hmn
   simp[hmn,e4]
   exact⟨m+1,j,⟨by omega,h2,h3⟩,by omega,by omega,by omega⟩
  ·have:=hle m hml (by omega)
   have hz:¬(if x<t[m].1 then(1:Int) else 0)<0:=by split<;>omega
   simp[hmn,hz]
   exact⟨i,m,⟨by omega,by omega,by omega⟩,by omega,by omega,by omega⟩
 ·have:i=n:=by omega
  subst this
  refine ae (fun c2=>?_) (fun c2=>?_)<;>simp at c2<;>simp[c2]
  ·have hc:=iR hC t[i] x
   have hge:¬t[i].1<x:=fun e=>by have:=hlt i c2 e;omega
   have e1:t[i]! = t[i]:=x0g t i c2
   simp[knD]at hc ⊢
   refine aa hc (.inl rfl) ?_
   simp[hge,hr,c2,e1]
   omega
  ·have:¬i<t.length:=by omega
   simp[hr,this]
set_option maxHeartbeats 4000000 in
theorem xd(b:Bool)(t:List (Int×Int))(x:Int)(h:ay t=true):C 90 [slx b (t.map knD),.int .i64 x] (.tup [.int .i64 (aY t x).1,.int .i64 (aY t x).2.1,.int .i64 (aY t x).2.2]) []:=by
 obtain⟨l1,l2⟩:=ca h
 have hpl:=gP t x
 have hk:=CK hC b t x h
 obtain⟨p1,hp1⟩:∃z,z=(aY t x).1:=⟨_,rfl⟩
 obtain⟨p2,hp2⟩:∃z,z=(aY t x).2.1:=⟨_,rfl⟩
 obtain⟨p3,hp3⟩:∃z,z=(aY t x).2.2:=⟨_,rfl⟩
 rw[<- hp1,<- hp2,<- hp3]
 unfold aY at hp1 hp2 hp3
 refine aj hC (nf:=N90) rfl rfl ?_
 simp[N90]
 refine aa hk (.inl rfl) ?_
 cases ha:atK t x
 ·simp
  refine ae (fun c=>?_) (fun c=>?_)<;>simp at c<;>simp[c]
  ·have h0:0<t.length:=by omega
   have e0:t[0]! = t[0]:=x0g t 0 h0
   rw[if_pos (by simp[c]),c,e0]at hp1 hp2 hp3
   simp[h0,knD,hp1,hp2,hp3]
  refine ae (fun c2=>?_) (fun c2=>?_)<;>simp at c2<;>simp[c2]
  ·obtain⟨n,hn⟩:∃n,n+1=t.length:=⟨t.length-1,by omega⟩
   have e1:IntKind.wrap .i64 ((t.length:Int)-1)=(n:Int):=wrap_i64 (by omega) (by omega)
   have hnl:n<t.length:=by omega
   have e0:t[bv t x-1]! = t[n]:=by rw[show bv t x-1=n by omega];exact x0g t n hnl
   rw[if_neg (by simp[ha,c]),if_pos (by omega),e0]at hp1 hp2 hp3
   simp[e1,hnl,knD,hp1,hp2,hp3]
  ·obtain⟨k,u,a,d,q1,q2,g0,g1,r1,r2,r3,r4,r5,r6,r7,r8,r9,r10,s1,s2,r11,r12,r13⟩:=dZ h c (by omega) ha
   rw[if_neg (by simp[ha,c]),if_neg (by omega),s1,s2,vM r1 r2 r3]at hp1 hp2 hp3
   simp only at hp1 hp2 hp3
   have ew1:IntKind.wrap .i64 (k:Int)=(k:Int):=wrap_i64 rfl (by omega)
   have ew2:IntKind.wrap .i64 (t[k+1].2-t[k].2)=(u:Int):=wrap_i64 r1 (by omega)
   have ew3:IntKind.wrap .i64 (x-t[k].1)=(a:Int):=wrap_i64 r2 (by omega)
   have ew4:IntKind.wrap .i64 (t[k+1].1-t[k].1)=(d:Int):=wrap_i64 r3 (by omega)
   have b1:u*a<1329227995784915872903807060280344576:=by
    have:=x06 (show u<=4503599627370496 by omega) (show a<=4503599627370496 by omega)
    omega
   have b2:u*a/d*d<=u*a:=Nat.div_mul_le_self _ _
   have b3:u*a-u*a/d*d=u*a%d:=by
    have:=Nat.div_add_mod' (u*a) d
    omega
   have b4:u*a%d<d:=x1y _ (by omega)
   have b5:u*a/d<=u:=by
    have h1:u*a<=u*d:=x1I _ (by omega)
    have h1':u*d=d*u:=x0S _ _
    exact Nat.le_of_lt_succ (Nat.div_lt_of_lt_mul (by rw[Nat.succ_eq_add_one,Nat.mul_add];omega))
   have k1:=yn hC u a d r4 r6 r7
   have k2:=oa hC u a (by omega) (by omega) b1
   have k3:=oa hC (u*a/d) d (by omega) (by omega) (by omega)
   have k4:=HA hC (u*a) (u*a/d*d) b2 b1
   have k5:=Hy hC (u*a%d) (by omega)
   rw[b3]at k4
   obtain⟨v1,v2,f1⟩:=iP (u*a)
   obtain⟨v3,v4,f2⟩:=iP (u*a/d*d)
   obtain⟨v5,v6,f3⟩:=iP (u*a%d)
   rw[f1]at k2 k4
   rw[f2]at k3 k4
   rw[f3]at k4 k5
   clear b1 b2 b3 f1 f2 f3
   obtain⟨q,eq⟩:∃q,q=u*a/d:=⟨_,rfl⟩
   obtain⟨q',eq'⟩:∃q,q=(u*a+d-1)/d:=⟨_,rfl⟩
   obtain⟨m,em⟩:∃q,q=u*a%d:=⟨_,rfl⟩
   rw[<- eq]at k1 k3 b5 hp1
   rw[<- eq']at k1
   rw[<- em]at k5 hp2
   have ew5:IntKind.wrap .i64 (t[k].2+(q:Int))=t[k].2+(q:Int):=wrap_i64 rfl (by omega)
   simp[ew1,q1,g0,g1,knD]
   refine⟨aw (by decide +kernel),?_⟩
   simp[ew2,ew3,ew4]
   refine⟨aw (by decide +kernel),?_⟩
   refine aa k1 (.inl rfl) ?_
   simp
   refine aa k2 (.inr rfl) ?_
   simp
   refine aa k3 (.inr rfl) ?_
   simp
   refine aa k4 (.inr rfl) ?_
   simp
   refine aa k5 (.inl rfl) ?_
   simp[ew5,hp1,hp2,hp3]
 ·have hlt:bv t x<t.length:=by simp[atK]at ha;exact ha.1
  have e0:t[bv t x]! = t[bv t x]:=x0g t _ hlt
  rw[if_pos (by simp[ha]),e0]at hp1 hp2 hp3
  simp[hlt,knD,hp1,hp2,hp3]
theorem vu(b:Bool)(t:List (Int×Int))(x:Int)(h:ay t=true):C 73 [slx b (t.map knD),.int .i64 x] (.tup [.int .i64 (aY t x).1,.int .i64 0]) []:=by
 refine aj hC (nf:=N73) rfl rfl ?_
 simp[N73]
 refine aa (dM hC b t) (.inl rfl) ?_
 simp[h]
 refine aa (xd hC b t x h) (.inl rfl) ?_
 simp
end Go.Gv

namespace Go.Gv
def bis(p:Nat->Bool):Nat->Nat->Nat->Nat
 | 0,lo,_=>lo
 | f+1,lo,hi=>if lo<hi then(if p ((lo+hi)/2) then bis p f lo ((lo+hi)/2) else bis p f ((lo+hi)/2+1) hi) else lo
theorem pe(p:Nat->Bool)(f lo hi:Nat)(h:hi<=lo):bis p f lo hi=lo:=by
 cases f with
 | zero=>rfl
 | succ f=>simp only[bis];rw[if_neg (by omega)]
theorem p9{p:Nat->Bool}{f lo hi:Nat}(h:lo<hi)(hf:hi-lo<2^f):∃f',hi-(lo+hi)/2<2^f/\((lo+hi)/2-lo<2^f')/\(hi-((lo+hi)/2+1)<2^f')/\bis p f lo hi=if p ((lo+hi)/2) then bis p f' lo ((lo+hi)/2) else bis p f' ((lo+hi)/2+1) hi:=by
 cases f with
 | zero=>simp at hf;omega
 | succ f =>
  rw[Nat.pow_succ]at hf
  refine⟨f,by rw[Nat.pow_succ];omega,by omega,by omega,?_⟩
  simp only[bis]
  rw[if_pos h]
theorem dx(p:Nat->Bool):∀(f lo hi:Nat),lo<=hi->lo<=bis p f lo hi/\bis p f lo hi<=hi
 | 0,lo,hi,h=>⟨x0r _,h⟩
 | f+1,lo,hi,h=>by
  simp only[bis]
  split
  ·split
   ·have:=dx p f lo ((lo+hi)/2) (by omega);omega
   ·have:=dx p f ((lo+hi)/2+1) hi (by omega);omega
  ·omega
theorem jN{p q:Nat->Bool}(h:∀n,q n=true->p n=true):∀(f lo hi:Nat),lo<=hi->bis p f lo hi<=bis q f lo hi
 | 0,lo,hi,_=>x0r _
 | f+1,lo,hi,hlh=>by
  simp only[bis]
  split
  ·cases hp:p ((lo+hi)/2)
   ·have hq:q ((lo+hi)/2)=false:=by
     cases hq:q ((lo+hi)/2)
     ·rfl
     ·rw[h _ hq]at hp;cases hp
    rw[hq]
    simp only[x0n,if_false]
    exact jN h f _ _ (by omega)
   ·cases hq:q ((lo+hi)/2)
    ·simp only[x0n,if_false,if_true]
     have h1:=dx p f lo ((lo+hi)/2) (by omega)
     have h2:=dx q f ((lo+hi)/2+1) hi (by omega)
     omega
    ·simp only[if_true]
     exact jN h f _ _ (by omega)
  ·exact x0r _
theorem dF{t:List (Int×Int)}(h:ay t=true):∀{i j:Nat} (hi:i<t.length) (hj:j<=i),t[j].2<=t[i].2:=by
 intro i
 induction i with
 | zero=>intro j hi hj;have:j=0:=(by omega);subst this;exact x0F _
 | succ i ih =>
  intro j hi hj
  rcases Nat.lt_or_eq_of_le hj with h1|rfl
  ·have h2:=((iO h hi).2.2 i rfl).2
   have:=ih (by omega) (show j<=i by omega)
   omega
  ·exact x0F _
theorem pG{t:List (Int×Int)}(h:ay t=true)(x:Int):∃i j:Nat,∃(hi:i<t.length) (hj:j<t.length),t[i].2<=(aY t x).1/\(aY t x).1<=t[j].2:=by
 obtain⟨l1,l2⟩:=ca h
 have hpl:=gP t x
 unfold aY
 cases ha:atK t x
 ·by_cases c:bv t x=0
  ·have h0:0<t.length:=by omega
   rw[if_pos (by simp[c]),c,x0g t 0 h0]
   exact⟨0,0,h0,h0,x0F _,x0F _⟩
  rw[if_neg (by simp[c])]
  by_cases c2:bv t x=t.length
  ·obtain⟨n,hn⟩:∃n,n+1=t.length:=⟨t.length-1,by omega⟩
   have hnl:n<t.length:=by omega
   rw[if_pos c2,show bv t x-1=n by omega,x0g t n hnl]
   exact⟨n,n,hnl,hnl,x0F _,x0F _⟩
  ·obtain⟨k,u,a,d,q1,q2,g0,g1,r1,r2,r3,r4,r5,r6,r7,r8,r9,r10,s1,s2,r11,r12,r13⟩:=dZ h c (by omega) ha
   rw[if_neg c2,s1,s2,vM r1 r2 r3]
   have b5:u*a/d<=u:=by
    have h1:u*a<=u*d:=x1I _ (by omega)
    have h1':u*d=d*u:=x0S _ _
    exact Nat.le_of_lt_succ (Nat.div_lt_of_lt_mul (by rw[Nat.succ_eq_add_one,Nat.mul_add];omega))
   generalize u*a/d=q at b5
   exact⟨k,k+1,g0,g1,by simp only;omega,by simp only;omega⟩
 ·have hlt:bv t x<t.length:=by simp[atK]at ha;exact ha.1
  rw[if_pos (by simp),x0g t _ hlt]
  exact⟨_,_,hlt,hlt,x0F _,x0F _⟩
theorem pH{t:List (Int×Int)}(h:ay t=true)(x:Int):t[0]!.2<=(aY t x).1/\(aY t x).1<=(dR t).2:=by
 obtain⟨l1,l2⟩:=ca h
 obtain⟨i,j,hi,hj,h1,h2⟩:=pG h x
 obtain⟨n,hn⟩:∃n,n+1=t.length:=⟨t.length-1,by omega⟩
 have h0:0<t.length:=by omega
 rw[cR hn,x0g t 0 h0]
 have k1:=dF h hi (show 0<=i by omega)
 have k2:=dF h (show n<t.length by omega) (show j<=n by omega)
 omega
def jn(s:Sec)(depth fall len:Int):Nat:=eO ((aY s.conv depth).1.toNat*(aY s.conv depth).1.toNat*fall.toNat/len.toNat)
def cv(s:Sec)(flow fall len:Int)(m:Nat):Bool:=decide (flow<=(jn s m fall len:Int))
def fY(s:Sec)(flow fall len:Int):Nat:=bis (cv s flow fall len) 40 0 (s.height.toNat+1)
def cn(s:Sec)(flow fall len:Int):Int×Int :=
 if av s then(if 0<=flow/\flow<=1099511627776/\bT fall len=true then(if s.height.toNat<fY s flow fall len then(0,28) else(fY s flow fall len,0)) else(0,2)) else(0,1)
theorem mB{s:Sec}(h:av s=true)(x:Int):0<=(aY s.conv x).1/\(aY s.conv x).1<=1099511627776:=by
 obtain⟨h1,h2,h3,h4⟩:=ff h
 have hr:=pH h1 x
 simp only[av,cu,x0a,x0d,x0o]at h
 have h0:=h.2.1.1.2.2
 omega
variable{C:CC}(hC:al prog C)
include hC
theorem rJ(s:Sec)(depth fall len:Int)(hv:av s=true)(hs:bT fall len=true):C 61 [.agg (bf s),.int .i64 depth,.int .i64 fall,.int .i64 len] (.tup [.int .i64 (jn s depth fall len),.int .i64 0]) []:=by
 obtain⟨c1,_,_,_⟩:=ff hv
 obtain⟨c3,c4⟩:=mB hv depth
 simp only[bT,x0a,x0d]at hs
 have hF:=vu hC s.convN s.conv depth c1
 obtain⟨k,hk⟩:∃k:Nat,(aY s.conv depth).1=k:=⟨(aY s.conv depth).1.toNat,by omega⟩
 obtain⟨f,rfl⟩:∃f:Nat,fall=f:=⟨fall.toNat,by omega⟩
 obtain⟨l,rfl⟩:∃l:Nat,len=l:=⟨len.toNat,by omega⟩
 have hcap:jn s depth f l=eO (k*k*f/l):=by simp[jn,hk]
 rw[hk]at hF
 rw[hcap]
 have hb:=rI (k:=k) (f:=f) (by omega) (by omega)
 have hb0:k*k<=1208925819614629174706176:=x06 (show k<=1099511627776 by omega) (show k<=1099511627776 by omega)
 have hb2:=Nat.div_le_self (k*k*f) l
 refine aj hC (nf:=N61) rfl rfl ?_
 simp[N61,bf]
 refine aa hF (.inl rfl) ?_
 simp
 refine aa (oP hC k k (by omega) (by omega)) (.inl rfl) ?_
 have v:∀x,isV (cf x)=true/\(∀f:Nat->D,bE f (cf x))/\(∀f:Nat->D,dp f (cf x)=cf x)/\∀ks,aH ks (cf x)=cf x:=fun x=>⟨rfl,fun _=>trivial,fun _=>rfl,fun _=>by simp[cf]⟩
 simp[v]
 refine aa (tU hC (k*k) f (by omega) (by omega) (by omega)) (.inl rfl) ?_
 simp[v]
 refine aa (xc hC (k*k*f) l (by omega) (by omega) (by omega)) (.inl rfl) ?_
 simp[v]
 refine aa (xm hC (k*k*f/l)) (.inl rfl) ?_
 simp
theorem yj(s:Sec)(flow fall len:Int):C 165 [.agg (bf s),.int .i64 flow,.int .i64 fall,.int .i64 len] (.tup [.int .i64 (cn s flow fall len).1,.int .i64 (cn s flow fall len).2]) []:=by
 obtain⟨r,hr⟩:∃r,r=cn s flow fall len:=⟨_,rfl⟩
 rw[<- hr]
 unfold cn at hr
 have hvc:=pU hC s
 have hsl:=tL hC fall len
 have es:(decide (0<=fall)&&decide (fall<=4194304)&&decide (1<=len)&&decide (len<=16777216))=bT fall len:=rfl
 rw[es]at hsl
 rw[bf]at hvc
 refine aj hC (nf:=N165) rfl rfl ?_
 simp[N165,bf]
 refine aa hvc (.inl rfl) ?_
 cases hv:av s
 ·rw[if_neg (by simp[hv])]at hr
  simp[hr]
 rw[if_pos hv]at hr
 have hh:1<=s.height/\s.height<=32768:=by
  simp only[av,x0a,x0d]at hv
  omega
 obtain⟨H,hH⟩:∃H:Nat,s.height=H:=⟨s.height.toNat,by omega⟩
 simp
 refine ae (fun c1=>?_) (fun c1=>?_)<;>simp at c1<;>simp[c1]
 ·rw[if_neg (by omega)]at hr
  simp[hr]
 refine ae (fun c2=>?_) (fun c2=>?_)<;>simp at c2<;>simp[c2]
 ·rw[if_neg (by omega)]at hr
  simp[hr]
 refine aa hsl (.inl rfl) ?_
 cases hs:bT fall len
 ·rw[if_neg (by simp[hs])]at hr
  simp[hr]
 rw[if_pos ⟨by omega,by omega,hs⟩]at hr
 have e1:IntKind.wrap .i64 (s.height+1)=((H+1:Nat):Int):=wrap_i64 (by omega) (by omega)
 simp[e1]
 refine⟨aw (by decide +kernel),?_⟩
 have hl:fY s flow fall len=bis (cv s flow fall len) 40 0 (H+1):=by rw[fY,hH];rfl
 obtain⟨L,hL⟩:∃L,L=fY s flow fall len:=⟨_,rfl⟩
 rw[<- hL]at hl hr
 rw[hH]at hr
 have hcc:=fun m:Nat=>rJ hC s m fall len hv hs
 simp only[bf,hH]at hcc
 simp only[hH]
 refine aF (Nat×Nat×Nat) (fun z=>[(1,.int .i64 flow),(2,.int .i64 fall),(3,.int .i64 len),(4,.ptr [.str s.name,.int .i64 H,.int .i64 s.price,slx s.areaN (s.area.map knD),slx s.convN (s.conv.map knD)]),(10,.int .i64 z.2.1),(11,.int .i64 z.2.2)])
  (fun z=>z.2.1<=z.2.2/\z.2.2<=H+1/\z.2.2-z.2.1<2^z.1/\bis (cv s flow fall len) z.1 z.2.1 z.2.2=L) (fun z=>z.2.2-z.2.1) (40,0,H+1) ⟨by simp,by simp,by simp;omega,by rw[hl]⟩ (by simp) ?_
 rintro⟨f,lo,hi⟩ ⟨i1,i2,i3,i4⟩
 simp only at i1 i2 i3 i4
 simp
 refine ae (fun c=>?_) (fun c=>?_)<;>simp at c<;>simp[c]
 ·obtain⟨f',_,j2,j3,j4⟩:=p9 (p:=cv s flow fall len) c i3
  obtain⟨sm,hsm⟩:∃sm,sm=lo+hi:=⟨_,rfl⟩
  rw[<- hsm]at j2 j3 j4
  obtain⟨m,hm⟩:∃m,m=sm/2:=⟨_,rfl⟩
  rw[<- hm]at j2 j3 j4
  have e2:IntKind.wrap .i64 ((lo:Int)+(hi:Int))=(sm:Int):=wrap_i64 (by omega) (by omega)
  have e3:Int.tdiv (sm:Int) 2=(m:Int):=by rw[hm];exact oY sm 2
  have e4:IntKind.wrap .i64 (m:Int)=(m:Int):=wrap_i64 rfl (by omega)
  have e5:IntKind.wrap .i64 ((m:Int)+1)=((m+1:Nat):Int):=wrap_i64 (by omega) (by omega)
  rw[i4]at j4
  simp[e2,e3,e4]
  refine aa (hcc m) (.inl rfl) ?_
  simp
  refine ae (fun c3=>?_) (fun c3=>?_)<;>simp at c3<;>simp[c3]
  ·rw[if_pos (by simp[cv,c3])]at j4
   exact⟨f',lo,m,⟨by omega,by omega,j2,j4.symm⟩,by omega,by omega,by omega⟩
  ·rw[if_neg (by simp[cv];omega)]at j4
   simp[e5]
   exact⟨f',m+1,hi,⟨by omega,by omega,j3,j4.symm⟩,by omega,by omega,by omega⟩
 ·rw[pe _ _ _ _ c]at i4
  subst i4
  refine ae (fun c3=>?_) (fun c3=>?_)<;>simp at c3<;>simp[c3]
  ·rw[if_pos (by simp;omega)]at hr
   simp[hr]
  ·rw[if_neg (by simp;omega)]at hr
   simp[hr]
end Go.Gv

namespace Go.Gv
def cg(k flow len n:Nat):Bool:=decide (flow*flow*len<=k*k*n)
def fN(k flow len:Nat):Int×Int:=if flow=0 then(0,0) else if k=0 then(0,16) else if cg k flow len 1073741824 then(bis (cg k flow len) 40 0 1073741824,0) else(0,5)
def b8(l:Lnk)(s:Sec)(flow:Int):Int×Int:=fN (dR s.conv).2.toNat flow.toNat l.len.toNat
theorem BR{q n:Nat}(hq:q<=1099511627776)(hn:n<=1073741824):q*q*n<=1298074214633706907132624082305024:=x06 (x06 hq hq) hn
variable{C:CC}(hC:al prog C)
include hC
theorem rg(q n:Nat)(hq:q<9223372036854775808)(hn:n<9223372036854775808)(hx:q*q<340282366920938463463374607431768211456)(hxk:q*q*n<340282366920938463463374607431768211456):C 166 [.int .i64 q,.int .i64 n] (.tup [.int .u64 ((q*q*n/18446744073709551616:Nat):Int),.int .u64 ((q*q*n%18446744073709551616:Nat):Int)]) []:=by
 have k1:=gJ hC q q (by omega) (by omega)
 obtain⟨x,hxx⟩:∃x,x=q*q:=⟨_,rfl⟩
 rw[<- hxx]at hx hxk k1 ⊢
 have e:=tx (x:=x) (k:=n)
 obtain⟨h,hh⟩:∃h,h=x/18446744073709551616:=⟨_,rfl⟩
 obtain⟨l,hl⟩:∃l,l=x%18446744073709551616:=⟨_,rfl⟩
 have hh':h<18446744073709551616:=by omega
 have hl':l<18446744073709551616:=by omega
 rw[<- hh,<- hl]at e k1
 have k2:=gJ hC l n hl' (by omega)
 obtain⟨p,hp⟩:∃p,p=l*n/18446744073709551616:=⟨_,rfl⟩
 obtain⟨r,hr⟩:∃r,r=l*n%18446744073709551616:=⟨_,rfl⟩
 rw[<- hp,<- hr]at e k2
 have hq':r<18446744073709551616:=by omega
 obtain⟨z,hz⟩:∃z,z=h*n:=⟨_,rfl⟩
 obtain⟨y,hy⟩:∃y,y=x*n:=⟨_,rfl⟩
 rw[<- hz,<- hy]at e
 rw[<- hy]at hxk ⊢
 obtain⟨t,ht⟩:∃t,t=z+p:=⟨_,rfl⟩
 rw[<- ht]at e
 have e1:y/18446744073709551616=t:=by omega
 have e2:y%18446744073709551616=r:=by omega
 have ht':t<18446744073709551616:=by omega
 have et:IntKind.u64.wrap ((p:Int)+IntKind.u64.wrap ((h:Int)*(n:Int)))=(t:Int):=by
  rw[sB h n,<- hz,fC,fC]
  clear hxk hx e e1 e2 hr hp hl hh hy hz
  omega
 rw[e1,e2]
 clear e1 e2 e hh hl hx hxk hxx hp hr hz hy ht
 refine aj hC (nf:=N166) rfl rfl ?_
 simp[N166,bV q (by omega),bV n (by omega)]
 refine aa k1 (.inl rfl) ?_
 simp[bV n (by omega)]
 refine aa k2 (.inl rfl) ?_
 simp[et,bV n (by omega)]
theorem wo(k n a b:Nat)(hk:k<=1099511627776)(hn:n<=1073741824)(hb:b<18446744073709551616):C 167 [.int .i64 n,.ptr [.int .i64 k],.ptr [.int .u64 a],.ptr [.int .u64 b]] (.bool (decide (a*18446744073709551616+b<=k*k*n))) []:=by
 have h1:=BR hk hn
 have h2:k*k<=1208925819614629174706176:=x06 hk hk
 have k1:=rg hC k n (by omega) (by omega) (by omega) (by omega)
 obtain⟨z,hz⟩:∃z,z=k*k*n:=⟨_,rfl⟩
 rw[<- hz]at k1 ⊢
 obtain⟨h,hh⟩:∃h,h=z/18446744073709551616:=⟨_,rfl⟩
 obtain⟨l,hl⟩:∃l,l=z%18446744073709551616:=⟨_,rfl⟩
 rw[<- hh,<- hl]at k1
 have e:decide (a*18446744073709551616+b<=z)=(decide (a<h)||(decide (h=a)&&decide (b<=l))):=by
  rw[x0z];simp;omega
 rw[e]
 clear hz h1 h2
 refine aj hC (nf:=N167) rfl rfl ?_
 simp[N167]
 refine aa k1 (.inl rfl) ?_
 simp
 refine ae (fun c=>?_) (fun c=>?_)<;>simp at c<;>simp[c]
 refine ae (fun c2=>?_) (fun c2=>?_)<;>simp at c2<;>simp[c2]
 ·simp[show ¬a<h by omega,show h=a by omega]
 ·omega
theorem sx(l:Lnk)(s:Sec)(flow:Int)(hv:av s=true)(hl:1<=l.len/\l.len<=16777216)(hf:0<=flow/\flow<=1099511627776):C 163 [.agg (aJ l),.agg (bf s),.int .i64 flow] (.tup [.int .i64 (b8 l s flow).1,.int .i64 (b8 l s flow).2]) []:=by
 obtain⟨c1,c2,c3,c4⟩:=ff hv
 obtain⟨l1,l2⟩:=ca c1
 obtain⟨m,hm⟩:∃m,m+1=s.conv.length:=⟨s.conv.length-1,by omega⟩
 have hml:m<s.conv.length:=by omega
 have e1:IntKind.wrap .i64 ((s.conv.length:Int)-1)=(m:Int):=wrap_i64 (by omega) (by omega)
 obtain⟨k,hk⟩:∃k:Nat,(dR s.conv).2=k:=⟨(dR s.conv).2.toNat,by omega⟩
 obtain⟨f,rfl⟩:∃f:Nat,flow=f:=⟨flow.toNat,by omega⟩
 obtain⟨n,hn⟩:∃n:Nat,l.len=n:=⟨l.len.toNat,by omega⟩
 have hk':s.conv[m].2=k:=by rw[<- hk,cR hm]
 obtain⟨r,hr⟩:∃r,r=b8 l s f:=⟨_,rfl⟩
 rw[<- hr]
 rw[b8,hk,hn]at hr
 simp only[Int.toNat_natCast]at hr
 unfold fN at hr
 have g1:f*f*n<=1298074214633706907132624082305024:=BR (by omega) (by omega)
 have g2:f*f<=1208925819614629174706176:=x06 (show f<=1099511627776 by omega) (show f<=1099511627776 by omega)
 have k1:=rg hC f n (by omega) (by omega) (by omega) (by omega)
 obtain⟨F,hF⟩:∃F,F=f*f*n:=⟨_,rfl⟩
 obtain⟨a,ha⟩:∃a,a=F/18446744073709551616:=⟨_,rfl⟩
 obtain⟨b,hb⟩:∃b,b=F%18446744073709551616:=⟨_,rfl⟩
 rw[<- hF,<- ha,<- hb]at k1
 have hab:a*18446744073709551616+b=F:=by omega
 have k2:=fun(i:Nat) (hi:i<=1073741824)=>wo hC k i a b (by omega) hi (by omega)
 have hen:∀i,decide (a*18446744073709551616+b<=k*k*i)=cg k f n i:=fun i=>by rw[cg,hab,hF]
 simp only[hen]at k2
 clear g1 g2 hF ha hb hab hen
 refine aj hC (nf:=N163) rfl rfl ?_
 simp[N163,aJ,bf]
 refine ae (fun c=>?_) (fun c=>?_)<;>simp at c<;>simp[c]
 ·rw[if_pos (by omega)]at hr
  simp[hr]
 rw[if_neg (by omega)]at hr
 simp[e1,hml,knD,hk']
 refine ae (fun c5=>?_) (fun c5=>?_)<;>simp at c5<;>simp[c5]
 ·rw[if_pos (by omega)]at hr
  simp[hr]
 rw[if_neg (by omega)]at hr
 simp[hn]
 refine aa k1 (.inl rfl) ?_
 simp
 have k3:=k2 1073741824 (by omega)
 rw[show((1073741824:Nat):Int)=1073741824 from rfl]at k3
 refine aa k3 (.inl rfl) ?_
 cases h3:cg k f n 1073741824
 ·rw[if_neg (by simp[h3])]at hr
  simp[hr]
 rw[if_pos h3]at hr
 simp
 obtain⟨L,hL⟩:∃L,L=bis (cg k f n) 40 0 1073741824:=⟨_,rfl⟩
 rw[<- hL]at hr
 refine aF (Nat×Nat×Nat) (fun z=>[(11,.fnx 167 [.adr (.r 10128) 0 0,.adr (.r 10144) 0 0,.adr (.r 10160) 0 0]),(12,.int .i64 z.2.1),(13,.int .i64 z.2.2),(10128,.blk 1 [[.int .i64 k]]),(10144,.blk 1 [[.int .u64 a]]),(10160,.blk 1 [[.int .u64 b]])])
  (fun z=>z.2.1<=z.2.2/\z.2.2<=1073741824/\z.2.2-z.2.1<2^z.1/\bis (cg k f n) z.1 z.2.1 z.2.2=L) (fun z=>z.2.2-z.2.1) (40,0,1073741824) ⟨by simp,by simp,by simp,by rw[hL]⟩ (by simp) ?_
 rintro⟨fu,lo,hi⟩ ⟨i1,i2,i3,i4⟩
 simp only at i1 i2 i3 i4
 simp
 refine ae (fun c=>?_) (fun c=>?_)<;>simp at c<;>simp[c]
 ·obtain⟨f',_,j2,j3,j4⟩:=p9 (p:=cg k f n) c i3
  obtain⟨sm,hsm⟩:∃sm,sm=lo+hi:=⟨_,rfl⟩
  rw[<- hsm]at j2 j3 j4
  obtain⟨m,hm⟩:∃m,m=sm/2:=⟨_,rfl⟩
  rw[<- hm]at j2 j3 j4
  have e2:IntKind.wrap .i64 ((lo:Int)+(hi:Int))=(sm:Int):=wrap_i64 (by omega) (by omega)
  have e3:Int.tdiv (sm:Int) 2=(m:Int):=by rw[hm];exact oY sm 2
  have e4:IntKind.wrap .i64 (m:Int)=(m:Int):=wrap_i64 rfl (by omega)
  have e5:IntKind.wrap .i64 ((m:Int)+1)=((m+1:Nat):Int):=wrap_i64 (by omega) (by omega)
  rw[i4]at j4
  simp[e2,e3,e4]
  refine aa (k2 m (by omega)) (.inl rfl) ?_
  cases h4:cg k f n m
  ·rw[if_neg (by simp[h4])]at j4
   simp[e5]
   exact⟨f',m+1,hi,⟨by omega,by omega,j3,j4.symm⟩,by omega,by omega,by omega⟩
  ·rw[if_pos h4]at j4
   simp
   exact⟨f',lo,m,⟨by omega,by omega,j2,j4.symm⟩,by omega,by omega,by omega⟩
 ·rw[pe _ _ _ _ c]at i4
  subst i4
  simp[hr]
end Go.Gv

namespace Go.Gv
variable{C:CC}(hC:al prog C)
include hC
end Go.Gv

namespace Go.Gv
variable{C:CC}(hC:al prog C)
include hC
end Go.Gv

namespace Go.Gv
variable{C:CC}(hC:al prog C)
include hC
end Go.Gv

namespace Go.Gv
variable{C:CC}(hC:al prog C)
include hC
end Go.Gv

namespace Go.Gv
theorem gr{t:List (Int×Int)}{x:Int}(h:atK t x=true\/bv t x=0):(aY t x).1=t[bv t x]!.2:=by
 unfold aY;rw[if_pos (by rcases h with h|h<;>simp[h])]
theorem jy{t:List (Int×Int)}{x:Int}(h:¬atK t x=true)(h0:¬bv t x=0)(h1:bv t x=t.length):(aY t x).1=t[bv t x-1]!.2:=by
 unfold aY;rw[if_neg (by simp[h,h0]),if_pos h1]
theorem jx{t:List (Int×Int)}{x:Int}(h:¬atK t x=true)(h0:¬bv t x=0)(h1:¬bv t x=t.length):(aY t x).1=(yt t[bv t x-1]! t[bv t x]! x).1:=by
 unfold aY;rw[if_neg (by simp[h,h0]),if_neg h1]
variable{C:CC}(hC:al prog C)
include hC
end Go.Gv

namespace Go.Gv
variable{C:CC}(hC:al prog C)
include hC
end Go.Gv

namespace Go.Gv
def rM(s:Sec)(flow fall len:Int):Int×Int :=
 if av s then(if 0<=flow/\flow<=1099511627776/\bT fall len=true then(if (jn s s.height fall len:Int)<flow then(0,28) else(bis (cv s flow fall len) 40 0 s.height.toNat,0)) else(0,2)) else(0,1)
variable{C:CC}(hC:al prog C)
include hC
end Go.Gv

namespace Go.Gv
def mxI(a b:Int):Int:=if a<b then b else a
def cr(l:Lnk):Int:=if 4194304<l.up-l.down then 4194304 else l.up-l.down
def je(l:Lnk)(s:Sec)(flow level:Int):Bool:=decide (level<l.down+s.height)&&(decide ((fI s (cr l) l.len).2=5)||(decide ((fI s (cr l) l.len).2=0)&&decide (flow<=(fI s (cr l) l.len).1)))
def jZ(l:Lnk)(s:Sec)(flow level:Int):Int×Int :=
 if (b8 l s flow).2=0 then(if 1099511627776<mxI (l.up+s.height) (level+(b8 l s flow).1) then(0,5) else(mxI (l.up+s.height) (level+(b8 l s flow).1),0)) else(0,(b8 l s flow).2)
def pC(l:Lnk)(s:Sec)(flow level:Int):Int×Int :=
 if (cn s flow (cr l) l.len).2=0 then(mxI (l.up+(cn s flow (cr l) l.len).1) level,0) else(0,(cn s flow (cr l) l.len).2)
def bH(l:Lnk)(s:Sec)(flow level:Int):Int×Int:=if je l s flow level then pC l s flow level else jZ l s flow level
def xX(l:Lnk)(s:Sec)(flow level:Int):Int×Int :=
 if iF l s=0 then(if l.up<l.down then(0,23) else if aS flow 0 1099511627776&&aS level (-4194304) 1099511627776 then bH l s flow level else(0,2)) else(0,iF l s)
def qE(l:Lnk)(s:Sec)(flow:Int):Int×Int :=
 if iF l s=0 then(if aS flow 0 1099511627776 then b8 l s flow else(0,2)) else(0,iF l s)
theorem fO(k f n:Nat):0<=(fN k f n).1/\(fN k f n).1<=1073741824:=by
 unfold fN
 have:=dx (cg k f n) 40 0 1073741824 (by omega)
 split
 ·simp
 split
 ·simp
 split
 ·simp only;omega
 ·simp
theorem jR{s:Sec}(hv:av s=true)(flow fall len:Int):0<=(cn s flow fall len).1/\(cn s flow fall len).1<=s.height:=by
 have hh:1<=s.height/\s.height<=32768:=by
  simp only[av,x0a,x0d]at hv
  omega
 unfold cn
 rw[if_pos hv]
 split
 ·split
  ·simp only;omega
  ·simp only;omega
 ·simp only;omega
theorem m7{l:Lnk}{s:Sec}(h:iF l s=0):av s=true/\1<=l.len/\l.len<=16777216/\bP l.up=true/\bP l.down=true:=by
 unfold iF at h
 split at h
 ·rename_i h1
  rw[x0a]at h1
  obtain⟨h1,h2⟩:=h1
  split at h
  ·rename_i hk
   simp only[cj,jt,hk,if_true,x0a,aS,x0d]at h1
   obtain⟨⟨⟨_,h5⟩,_⟩,⟨h6,h7⟩,_⟩:=h1
   exact⟨h2,h6.1,h6.2,h5,h7⟩
  ·omega
 ·omega
variable{C:CC}(hC:al prog C)
include hC
theorem o9(l:Lnk)(s:Sec)(flow level:Int)(hv:av s=true)(hl:1<=l.len/\l.len<=16777216)(hu:bP l.up=true)(hd:bP l.down=true)(hf:0<=flow/\flow<=1099511627776)(hlv:-4194304<=level/\level<=1099511627776) :
  C 162 [.agg (aJ l),.agg (bf s),.int .i64 flow,.int .i64 level] (.tup [.int .i64 (bH l s flow level).1,.int .i64 (bH l s flow level).2]) []:=by
 have b1:-4194304<=l.up/\l.up<=4194304:=by simpa[bP]using hu
 have b2:-4194304<=l.down/\l.down<=4194304:=by simpa[bP]using hd
 have hh:1<=s.height/\s.height<=32768:=by
  simp only[av,x0a,x0d]at hv
  omega
 have r1:=jR hv flow (cr l) l.len
 have r2:0<=(b8 l s flow).1/\(b8 l s flow).1<=1073741824:=fO _ _ _
 have k1:=BX hC s (cr l) l.len
 have k2:=yj hC s flow (cr l) l.len
 have k3:=sx hC l s flow hv hl hf
 have efall:(if 4194304<l.up-l.down then 4194304 else l.up-l.down)=cr l:=rfl
 obtain⟨r,hr⟩:∃r,r=bH l s flow level:=⟨_,rfl⟩
 rw[<- hr]
 unfold bH je jZ pC at hr
 obtain⟨f1,hf1⟩:∃z,z=(fI s (cr l) l.len).1:=⟨_,rfl⟩
 obtain⟨f2,hf2⟩:∃z,z=(fI s (cr l) l.len).2:=⟨_,rfl⟩
 obtain⟨d1,hd1⟩:∃z,z=(cn s flow (cr l) l.len).1:=⟨_,rfl⟩
 obtain⟨d2,hd2⟩:∃z,z=(cn s flow (cr l) l.len).2:=⟨_,rfl⟩
 obtain⟨x1,hx1⟩:∃z,z=(b8 l s flow).1:=⟨_,rfl⟩
 obtain⟨x2,hx2⟩:∃z,z=(b8 l s flow).2:=⟨_,rfl⟩
 rw[<- hf1,<- hf2]at k1 hr
 rw[<- hd1,<- hd2]at k2 hr
 rw[<- hx1,<- hx2]at k3 hr
 rw[<- hd1]at r1
 rw[<- hx1]at r2
 obtain⟨fa,hfa⟩:∃z,z=cr l:=⟨_,rfl⟩
 rw[<- hfa]at k1 k2 efall
 clear hf1 hf2 hd1 hd2 hx1 hx2 hfa
 simp only[bf,aJ]at k1 k2 k3
 have w1:IntKind.wrap .i64 (l.up-l.down)=l.up-l.down:=wrap_i64 rfl (by omega)
 have w2:IntKind.wrap .i64 (l.down+s.height)=l.down+s.height:=wrap_i64 rfl (by omega)
 have w3:IntKind.wrap .i64 (l.up+s.height)=l.up+s.height:=wrap_i64 rfl (by omega)
 have w4:IntKind.wrap .i64 (level+x1)=level+x1:=wrap_i64 rfl (by omega)
 have w5:IntKind.wrap .i64 (l.up+d1)=l.up+d1:=wrap_i64 rfl (by omega)
 have m1:∀a b:Int,(if a<b then b else a)=mxI a b:=fun _ _=>rfl
 refine aj hC (nf:=N162) rfl rfl ?_
 simp[N162,bf,aJ,w1,efall]
 refine aa k1 (.inl rfl) ?_
 simp[w2]
 refine ae (fun c1=>?_) (fun c1=>?_)<;>simp at c1<;>simp[c1]
 ·refine ae (fun c2=>?_) (fun c2=>?_)<;>simp at c2<;>simp[c2]
  ·rw[if_pos (by simp[c1,c2])]at hr
   refine aa k2 (.inl rfl) ?_
   simp
   refine ae (fun g=>?_) (fun g=>?_)<;>simp at g<;>simp[g]
   ·rw[if_neg g]at hr
    simp[hr]
   ·rw[if_pos g]at hr
    simp[w5,m1,hr]
  refine ae (fun c3=>?_) (fun c3=>?_)<;>simp at c3<;>simp[c3]
  ·refine ae (fun c4=>?_) (fun c4=>?_)<;>simp at c4<;>simp[c4]
   ·rw[if_pos (by simp[c1,c3,c4])]at hr
    refine aa k2 (.inl rfl) ?_
    simp
    refine ae (fun g=>?_) (fun g=>?_)<;>simp at g<;>simp[g]
    ·rw[if_neg g]at hr
     simp[hr]
    ·rw[if_pos g]at hr
     simp[w5,m1,hr]
   ·rw[if_neg (by simp[c3,show ¬flow<=f1 by omega])]at hr
    refine aa k3 (.inl rfl) ?_
    simp
    refine ae (fun g=>?_) (fun g=>?_)<;>simp at g<;>simp[g]
    ·rw[if_neg g]at hr
     simp[hr]
    rw[if_pos g]at hr
    simp[w3,w4,m1]
    refine ae (fun g2=>?_) (fun g2=>?_)<;>simp at g2<;>simp[g2]
    ·rw[if_pos g2]at hr
     simp[hr]
    ·rw[if_neg (by omega)]at hr
     simp[hr,w3,w4,m1]
  ·rw[if_neg (by simp[c2,c3])]at hr
   refine aa k3 (.inl rfl) ?_
   simp
   refine ae (fun g=>?_) (fun g=>?_)<;>simp at g<;>simp[g]
   ·rw[if_neg g]at hr
    simp[hr]
   rw[if_pos g]at hr
   simp[w3,w4,m1]
   refine ae (fun g2=>?_) (fun g2=>?_)<;>simp at g2<;>simp[g2]
   ·rw[if_pos g2]at hr
    simp[hr]
   ·rw[if_neg (by omega)]at hr
    simp[hr,w3,w4,m1]
 ·rw[if_neg (by simp[show ¬level<l.down+s.height by omega])]at hr
  refine aa k3 (.inl rfl) ?_
  simp
  refine ae (fun g=>?_) (fun g=>?_)<;>simp at g<;>simp[g]
  ·rw[if_neg g]at hr
   simp[hr]
  rw[if_pos g]at hr
  simp[w3,w4,m1]
  refine ae (fun g2=>?_) (fun g2=>?_)<;>simp at g2<;>simp[g2]
  ·rw[if_pos g2]at hr
   simp[hr]
  ·rw[if_neg (by omega)]at hr
   simp[hr,w3,w4,m1]
theorem Qs(l:Lnk)(s:Sec)(flow level:Int)(hc:l.curve.length<2^62):C 156 [.agg (aJ l),.agg (bf s),.int .i64 flow,.int .i64 level] (.tup [.int .i64 (xX l s flow level).1,.int .i64 (xX l s flow level).2]) []:=by
 have k1:=xf hC l s hc
 obtain⟨r,hr⟩:∃r,r=xX l s flow level:=⟨_,rfl⟩
 rw[<- hr]
 unfold xX at hr
 have ka:=fun h1 h2 h3 h4 h5=>o9 hC l s flow level h1 h2 h3 h4 h5
 have hz:=@m7 l s
 obtain⟨e,he⟩:∃e,e=iF l s:=⟨_,rfl⟩
 rw[<- he]at k1 hr hz
 simp only[bf,aJ]at k1 ka
 refine aj hC (nf:=N156) rfl rfl ?_
 simp[N156,bf,aJ]
 refine aa k1 (.inl rfl) ?_
 simp
 refine ae (fun g=>?_) (fun g=>?_)<;>simp at g<;>simp[g]
 ·rw[if_neg g]at hr
  simp[hr]
 rw[if_pos g]at hr
 obtain⟨z1,z2,z3,z4,z5⟩:=hz g
 refine ae (fun g1=>?_) (fun g1=>?_)<;>simp at g1<;>simp[g1]
 ·rw[if_pos g1]at hr
  simp[hr]
 rw[if_neg (by omega)]at hr
 refine aa (lw hC flow 0 1099511627776) (.inl rfl) ?_
 cases g2:aS flow 0 1099511627776
 ·rw[if_neg (by simp[g2])]at hr
  simp[hr]
 simp
 refine aa (lw hC level (-4194304) 1099511627776) (.inl rfl) ?_
 cases g3:aS level (-4194304) 1099511627776
 ·rw[if_neg (by simp[g3])]at hr
  simp[hr]
 rw[if_pos (by simp[g2,g3])]at hr
 simp
 simp only[aS,x0a,x0d]at g2 g3
 refine aa (ka z1 ⟨z2,z3⟩ z4 z5 g2 g3) (.inl rfl) ?_
 simp[hr]
theorem ym(l:Lnk)(s:Sec)(flow:Int)(hc:l.curve.length<2^62):C 157 [.agg (aJ l),.agg (bf s),.int .i64 flow] (.tup [.int .i64 (qE l s flow).1,.int .i64 (qE l s flow).2]) []:=by
 have k1:=xf hC l s hc
 obtain⟨r,hr⟩:∃r,r=qE l s flow:=⟨_,rfl⟩
 rw[<- hr]
 unfold qE at hr
 have ka:=fun h1 h2 h3=>sx hC l s flow h1 h2 h3
 have hz:=@m7 l s
 obtain⟨e,he⟩:∃e,e=iF l s:=⟨_,rfl⟩
 rw[<- he]at k1 hr hz
 simp only[bf,aJ]at k1 ka
 refine aj hC (nf:=N157) rfl rfl ?_
 simp[N157,bf,aJ]
 refine aa k1 (.inl rfl) ?_
 simp
 refine ae (fun g=>?_) (fun g=>?_)<;>simp at g<;>simp[g]
 ·rw[if_neg g]at hr
  simp[hr]
 rw[if_pos g]at hr
 obtain⟨z1,z2,z3,z4,z5⟩:=hz g
 refine aa (lw hC flow 0 1099511627776) (.inl rfl) ?_
 cases g2:aS flow 0 1099511627776
 ·rw[if_neg (by simp[g2])]at hr
  simp[hr]
 rw[if_pos g2]at hr
 simp
 simp only[aS,x0a,x0d]at g2
 refine aa (ka z1 ⟨z2,z3⟩ g2) (.inl rfl) ?_
 simp[hr]
end Go.Gv

namespace Go.Gv
variable{C:CC}(hC:al prog C)
include hC
end Go.Gv

namespace Go.Gv
theorem wW(a b:Int):a<=mxI a b/\b<=mxI a b:=by unfold mxI;split<;>omega
theorem dL{a b c d:Int}(h1:a<=c)(h2:b<=d):mxI a b<=mxI c d:=by
 unfold mxI;split<;>split<;>omega
theorem jX{k f g n i:Nat}(h:f<=g)(he:cg k g n i=true):cg k f n i=true:=by
 simp only[cg,x0d]at he ⊢
 exact x1h (x0h _ (x06 h h)) he
theorem sw{k f g n:Nat}(h:f<=g)(h1:(fN k f n).2=0)(h2:(fN k g n).2=0):(fN k f n).1<=(fN k g n).1:=by
 have hr:=fO k g n
 by_cases f0:f=0
 ·have:fN k f n=(0,0):=by simp[fN,f0]
  rw[this];exact hr.1
 ·have g0:¬g=0:=by omega
  unfold fN at h1 h2 ⊢
  rw[if_neg f0]at h1 ⊢
  rw[if_neg g0]at h2 ⊢
  by_cases k0:k=0
  ·rw[if_pos k0]at h1;simp at h1
  ·rw[if_neg k0]at h1 h2 ⊢
   rw[if_neg k0]
   by_cases e1:cg k f n 1073741824=true
   ·rw[if_pos e1]
    by_cases e2:cg k g n 1073741824=true
    ·rw[if_pos e2]
     have:=jN (p:=cg k f n) (q:=cg k g n) (fun i hi=>jX h hi) 40 0 1073741824 (by omega)
     simp only
     omega
    ·rw[if_neg e2]at h2;simp at h2
   ·rw[if_neg e1]at h1;simp at h1
theorem qy{s:Sec}{f g fall len:Int}(h:f<=g):fY s f fall len<=fY s g fall len:=by
 refine jN (fun n hn=>?_) _ _ _ (by omega)
 simp only[cv,x0d]at hn ⊢
 omega
theorem kH{s:Sec}{f fall len:Int}(h:(cn s f fall len).2=0):av s=true/\0<=f/\(cn s f fall len).1=fY s f fall len/\fY s f fall len<=s.height.toNat:=by
 unfold cn at h ⊢
 split at h
 ·rename_i hv
  rw[if_pos hv]
  split at h
  ·rename_i hc
   rw[if_pos hc]
   split at h
   ·simp at h
   ·rename_i hl
    rw[if_neg hl]
    exact⟨hv,hc.1,rfl,by omega⟩
  ·simp at h
 ·simp at h
theorem uN{l:Lnk}{s:Sec}{f g level:Int}(h:f<=g)(hb:je l s g level=true):je l s f level=true:=by
 simp only[je,x0a,x0H,x0d]at hb ⊢
 refine⟨hb.1,?_⟩
 rcases hb.2 with h1|⟨h1,h2⟩
 ·exact .inl h1
 ·exact .inr ⟨h1,by omega⟩
theorem sy{l:Lnk}{s:Sec}{f a b:Int}(h:a<=b)(hb:je l s f b=true):je l s f a=true:=by
 simp only[je,x0a,x0d]at hb ⊢
 exact⟨by omega,hb.2⟩
theorem iv{l:Lnk}{s:Sec}{f v:Int}(h:(jZ l s f v).2=0):(b8 l s f).2=0/\(jZ l s f v).1=mxI (l.up+s.height) (v+(b8 l s f).1):=by
 unfold jZ at h ⊢
 split at h
 ·rename_i h1
  rw[if_pos h1]
  split at h
  ·simp at h
  ·rename_i h2
   rw[if_neg h2]
   exact⟨h1,rfl⟩
 ·rename_i h1;exact absurd h h1
theorem j6{l:Lnk}{s:Sec}{f v:Int}(h:(pC l s f v).2=0):(cn s f (cr l) l.len).2=0/\(pC l s f v).1=mxI (l.up+(cn s f (cr l) l.len).1) v:=by
 unfold pC at h ⊢
 split at h
 ·rename_i h1
  rw[if_pos h1]
  exact⟨h1,rfl⟩
 ·rename_i h1;exact absurd h h1
theorem lG{l:Lnk}{s:Sec}{f g v w:Int}(hv:v<=w)(h1:(pC l s f v).2=0)(h2:(jZ l s g w).2=0):(pC l s f v).1<=(jZ l s g w).1:=by
 obtain⟨a1,a2⟩:=j6 h1
 obtain⟨b1,b2⟩:=iv h2
 obtain⟨c1,c2,c3,c4⟩:=kH a1
 have hh:1<=s.height:=by
  simp only[av,x0a,x0d]at c1
  omega
 have hr:0<=(b8 l s g).1:=(fO _ _ _).1
 rw[a2,b2,c3]
 exact dL (by omega) (by omega)
theorem dT{l:Lnk}{s:Sec}{f v:Int}(b:je l s f v=true):bH l s f v=pC l s f v:=by unfold bH;rw[if_pos b]
theorem fv{l:Lnk}{s:Sec}{f v:Int}(b:¬je l s f v=true):bH l s f v=jZ l s f v:=by unfold bH;rw[if_neg b]
theorem p5{l:Lnk}{s:Sec}{f g v:Int}(h:f<=g)(h1:(bH l s f v).2=0)(h2:(bH l s g v).2=0):(bH l s f v).1<=(bH l s g v).1:=by
 by_cases b2:je l s g v=true
 ·have b1:=uN h b2
  rw[dT b2]at h2 ⊢
  rw[dT b1]at h1 ⊢
  obtain⟨a1,a2⟩:=j6 h1
  obtain⟨c1,c2⟩:=j6 h2
  obtain⟨_,_,d3,_⟩:=kH a1
  obtain⟨_,_,e3,_⟩:=kH c1
  rw[a2,c2,d3,e3]
  have:=qy (s:=s) (fall:=cr l) (len:=l.len) h
  exact dL (by omega) (x0F _)
 ·rw[fv b2]at h2 ⊢
  by_cases b1:je l s f v=true
  ·rw[dT b1]at h1 ⊢
   exact lG (x0F _) h1 h2
  ·rw[fv b1]at h1 ⊢
   obtain⟨a1,a2⟩:=iv h1
   obtain⟨c1,c2⟩:=iv h2
   rw[a2,c2]
   have hl:(b8 l s f).1<=(b8 l s g).1:=sw (by omega) a1 c1
   exact dL (x0F _) (by omega)
theorem o8{l:Lnk}{s:Sec}{f v w:Int}(h:v<=w)(h1:(bH l s f v).2=0)(h2:(bH l s f w).2=0):(bH l s f v).1<=(bH l s f w).1:=by
 by_cases b2:je l s f w=true
 ·have b1:=sy h b2
  rw[dT b2]at h2 ⊢
  rw[dT b1]at h1 ⊢
  obtain⟨a1,a2⟩:=j6 h1
  obtain⟨c1,c2⟩:=j6 h2
  rw[a2,c2]
  exact dL (x0F _) h
 ·rw[fv b2]at h2 ⊢
  by_cases b1:je l s f v=true
  ·rw[dT b1]at h1 ⊢
   exact lG h h1 h2
  ·rw[fv b1]at h1 ⊢
   obtain⟨a1,a2⟩:=iv h1
   obtain⟨c1,c2⟩:=iv h2
   rw[a2,c2]
   exact dL (x0F _) (by omega)
end Go.Gv

namespace Go.Gv
end Go.Gv

namespace Go.Gv
theorem iQ{p:Nat->Bool}(hm:∀a b,a<=b->p a=true->p b=true):∀(f lo hi:Nat),lo<=hi->hi-lo<2^f->(∀m,lo<=m->m<bis p f lo hi->p m=false)/\(bis p f lo hi<hi->p (bis p f lo hi)=true)
 | 0,lo,hi,h1,h2=>by
  simp at h2
  have:lo=hi:=by omega
  subst this
  exact⟨fun m h3 h4=>absurd h4 (by simp only[bis];omega),fun h3=>absurd h3 (by simp only[bis];omega)⟩
 | f+1,lo,hi,h1,h2=>by
  rw[Nat.pow_succ]at h2
  by_cases h:lo<hi
  ·by_cases hp:p ((lo+hi)/2)=true
   ·have e:bis p (f+1) lo hi=bis p f lo ((lo+hi)/2):=by simp only[bis];rw[if_pos h,if_pos hp]
    have ih:=iQ hm f lo ((lo+hi)/2) (by omega) (by omega)
    have hr:=dx p f lo ((lo+hi)/2) (by omega)
    rw[e]
    refine⟨ih.1,fun _=>?_⟩
    by_cases h5:bis p f lo ((lo+hi)/2)<(lo+hi)/2
    ·exact ih.2 h5
    ·have:bis p f lo ((lo+hi)/2)=(lo+hi)/2:=by omega
     rw[this];exact hp
   ·have e:bis p (f+1) lo hi=bis p f ((lo+hi)/2+1) hi:=by simp only[bis];rw[if_pos h,if_neg hp]
    have ih:=iQ hm f ((lo+hi)/2+1) hi (by omega) (by omega)
    rw[e]
    refine⟨fun m h3 h4=>?_,ih.2⟩
    by_cases h5:(lo+hi)/2+1<=m
    ·exact ih.1 m h5 h4
    ·cases hpm:p m
     ·rfl
     ·exact absurd (hm m ((lo+hi)/2) (by omega) hpm) hp
  ·have e:bis p (f+1) lo hi=lo:=pe p _ _ _ (by omega)
   rw[e]
   exact⟨fun m h3 h4=>absurd h4 (by omega),fun h3=>absurd h3 h⟩
theorem Cj{p:Nat->Bool}(hm:∀a b,a<=b->p a=true->p b=true){f lo hi r:Nat}(h1:lo<=r)(h2:r<=hi)(hf:hi-lo<2^f)(h3:∀m,lo<=m->m<r->p m=false)(h4:r<hi->p r=true):bis p f lo hi=r:=by
 obtain⟨a,b⟩:=iQ hm f lo hi (by omega) hf
 obtain⟨c,d⟩:=dx p f lo hi (by omega)
 rcases Nat.lt_trichotomy (bis p f lo hi) r with h|h|h
 ·have e1:=h3 _ c h
  rw[b (by omega)]at e1;cases e1
 ·exact h
 ·have e1:=a r h1 h
  rw[h4 (by omega)]at e1;cases e1
theorem jG:∀(i x r:Nat),r*r<=x->x<(r+2^i)*(r+2^i)->gW x i r*gW x i r<=x/\x<(gW x i r+1)*(gW x i r+1)
 | 0,x,r,h1,h2=>⟨h1,h2⟩
 | i+1,x,r,h1,h2=>by
  rw[nu]
  have e:(2:Nat)^(i+1)=2^i+2^i:=by rw[Nat.pow_succ];omega
  rw[e,<- x0N]at h2
  by_cases h:(r+2^i)*(r+2^i)<=x
  ·rw[if_pos h];exact jG i x _ h h2
  ·rw[if_neg h];exact jG i x _ h1 (by omega)
theorem nv{x:Nat}(h:x<85070591730234615865843651857942052864):eO x*eO x<=x/\x<(eO x+1)*(eO x+1):=by
 refine jG 63 x 0 (by omega) ?_
 have e:(0+2^63)*(0+2^63)=85070591730234615865843651857942052864:=by decide +kernel
 rw[e];exact h
theorem sL{x y:Nat}(h:x<=y)(hy:y<85070591730234615865843651857942052864):eO x<=eO y:=by
 obtain⟨a,_⟩:=nv (x:=x) (by omega)
 obtain⟨_,d⟩:=nv hy
 apply Nat.le_of_not_lt
 intro hlt
 have:=x06 (show eO y+1<=eO x from hlt) (show eO y+1<=eO x from hlt)
 omega
theorem oe{t:List (Int×Int)}{x:Int}(hv:ay t=true)(ha:¬atK t x=true)(h0:¬bv t x=0)(h1:¬bv t x=t.length) :
  ∃k,∃(g0:k<t.length) (g1:k+1<t.length),bv t x=k+1/\t[k].1<x/\x<t[k+1].1/\t[k].2<=(aY t x).1/\(aY t x).1<=t[k+1].2:=by
 have hpl:=gP t x
 obtain⟨k,u,a,d,q1,q2,g0,g1,r1,r2,r3,r4,r5,r6,r7,r8,r9,r10,s1,s2,r11,r12,r13⟩:=dZ hv h0 (by omega) (by simpa using ha)
 rw[jx ha h0 h1,s1,s2,vM r1 r2 r3]
 have b5:u*a/d<=u:=by
  have h1:u*a<=u*d:=x1I _ (by omega)
  have h1':u*d=d*u:=x0S _ _
  exact Nat.le_of_lt_succ (Nat.div_lt_of_lt_mul (by rw[Nat.succ_eq_add_one,Nat.mul_add];omega))
 generalize u*a/d=q at b5
 exact⟨k,g0,g1,q1,by omega,by omega,by simp only;omega,by simp only;omega⟩
theorem l3{t:List (Int×Int)}{x:Int}(ha:atK t x=true):∃(hl:bv t x<t.length),t[bv t x].1=x/\(aY t x).1=t[bv t x].2:=by
 have hl:bv t x<t.length:=by simp[atK]at ha;exact ha.1
 have e:t[bv t x]! = t[bv t x]:=x0g t _ hl
 have h1:=gr (.inl ha)
 simp only[atK,hl,decide_true,Bool.true_and,x0d,e]at ha
 exact⟨hl,ha,by rw[h1,e]⟩
theorem qN{t:List (Int×Int)}(hv:ay t=true){x:Int}{j:Nat}(hj:j<t.length)(h:x<=t[j].1):(aY t x).1<=t[j].2:=by
 have hp:=jB hj h
 by_cases ha:atK t x=true
 ·obtain⟨hl,_,e⟩:=l3 ha
  rw[e];exact dF hv hj hp
 by_cases h0:bv t x=0
 ·rw[gr (.inr h0),h0,x0g t 0 (by omega)]
  exact dF hv hj (by omega)
 obtain⟨k,g0,g1,q1,_,_,_,q2⟩:=oe hv ha h0 (by omega)
 have:=dF hv hj (show k+1<=j by omega)
 omega
theorem oO{t:List (Int×Int)}(hv:ay t=true){x:Int}{i:Nat}(hi:i<t.length)(h:t[i].1<=x):t[i].2<=(aY t x).1:=by
 have hpl:=gP t x
 by_cases ha:atK t x=true
 ·obtain⟨hl,e1,e⟩:=l3 ha
  rw[e]
  by_cases hip:i<=bv t x
  ·exact dF hv hl hip
  ·have:=i9 hv (bv t x) i hi (by omega)
   omega
 by_cases h0:bv t x=0
 ·rw[gr (.inr h0),h0,x0g t 0 (by omega)]
  have h1:=kj (t:=t) (x:=x) (by omega)
  simp only[h0]at h1
  have hi0:i=0:=by
   apply Classical.byContradiction
   intro hne
   have:=i9 hv 0 i hi (by omega)
   omega
  subst hi0
  exact x0F _
 by_cases h1:bv t x=t.length
 ·obtain⟨n,hn⟩:∃n,n+1=t.length:=⟨t.length-1,by omega⟩
  rw[jy ha h0 h1,show bv t x-1=n by omega,x0g t n (by omega)]
  exact dF hv (by omega) (by omega)
 obtain⟨k,g0,g1,q1,_,q3,q4,_⟩:=oe hv ha h0 h1
 have hik:i<=k:=by
  apply Nat.le_of_not_lt
  intro hne
  have:=ro hv hi (show k+1<=i by omega)
  omega
 have:=dF hv g0 hik
 omega
theorem sF{t:List (Int×Int)}(hv:ay t=true){x y:Int}(h:x<=y):(aY t x).1<=(aY t y).1:=by
 obtain⟨l1,l2⟩:=ca hv
 have hpx:=gP t x
 have hpy:=gP t y
 by_cases hk:∃j,∃(hj:j<t.length),x<=t[j].1/\t[j].1<=y
 ·obtain⟨j,hj,h1,h2⟩:=hk
  have:=qN hv hj h1
  have:=oO hv hj h2
  omega
 have nk:∀j,(hj:j<t.length)->x<=t[j].1->y<t[j].1:=fun j hj h1=>by
  apply Classical.byContradiction
  intro hn
  exact hk ⟨j,hj,h1,by omega⟩
 have hax:¬atK t x=true:=fun ha=>by
  obtain⟨hl,e1,_⟩:=l3 ha
  have:=nk _ hl (by omega)
  omega
 have hay:¬atK t y=true:=fun ha=>by
  obtain⟨hl,e1,_⟩:=l3 ha
  exact hk ⟨_,hl,by omega,by omega⟩
 have hpp:bv t y=bv t x:=by
  apply Nat.le_antisymm
  ·by_cases hl:bv t x<t.length
   ·have h1:=kj hl
    have:=nk _ hl h1
    exact jB hl (by omega)
   ·omega
  ·apply Nat.le_of_not_lt
   intro hlt
   have h1:=kj (t:=t) (x:=y) (by omega)
   have h2:=pI (t:=t) (x:=x) hlt (by omega)
   omega
 by_cases h0:bv t x=0
 ·rw[gr (.inr h0),gr (.inr (by omega)),hpp];exact x0F _
 by_cases h1:bv t x=t.length
 ·rw[jy hax h0 h1,jy hay (by omega) (by omega),hpp];exact x0F _
 obtain⟨k,u,a,d,q1,q2,g0,g1,r1,r2,r3,r4,r5,r6,r7,r8,r9,r10,s1,s2,r11,r12,r13⟩:=dZ hv h0 (by omega) (by simpa using hax)
 rw[jx hax h0 h1,jx hay (by omega) (by omega),hpp,s1,s2,vM r1 r2 r3]
 have r2':y-t[k].1=((a+(y-x).toNat:Nat):Int):=by omega
 rw[vM r1 r2' r3]
 have:=Nat.div_le_div_right (c:=d) (x1I u (show a<=a+(y-x).toNat by omega))
 simp only
 omega
theorem ul{s:Sec}(hv:av s=true){fall len x y:Int}(hs:bT fall len=true)(h:x<=y):jn s x fall len<=jn s y fall len:=by
 obtain⟨h1,_,_,_⟩:=ff hv
 have c1:=mB hv x
 have c2:=mB hv y
 have hm:=sF h1 h
 simp only[bT,x0a,x0d]at hs
 unfold jn
 have hk:(aY s.conv x).1.toNat<=(aY s.conv y).1.toNat:=by omega
 have hb:=rI (k:=(aY s.conv y).1.toNat) (f:=fall.toNat) (by omega) (by omega)
 have hb2:=Nat.div_le_self ((aY s.conv y).1.toNat*(aY s.conv y).1.toNat*fall.toNat) len.toNat
 refine sL (Nat.div_le_div_right (x0h _ (x06 hk hk))) (by omega)
theorem uy(s:Sec)(flow fall len:Int):rM s flow fall len=cn s flow fall len:=by
 unfold rM cn
 by_cases hv:av s=true
 ·rw[if_pos hv,if_pos hv]
  by_cases hc:0<=flow/\flow<=1099511627776/\bT fall len=true
  ·rw[if_pos hc,if_pos hc]
   have hh:1<=s.height/\s.height<=32768:=by
    simp only[av,x0a,x0d]at hv
    omega
   have h40:(2:Nat)^40=1099511627776:=by decide +kernel
   obtain⟨H,hH⟩:∃H:Nat,s.height=H:=⟨s.height.toNat,by omega⟩
   have hm:∀a b,a<=b->cv s flow fall len a=true->cv s flow fall len b=true:=fun a b hab ha=>by
    simp only[cv,x0d]at ha ⊢
    have:=ul hv hc.2.2 (show(a:Int)<=(b:Int) by omega)
    omega
   rw[hH,Int.toNat_natCast]
   unfold fY
   rw[hH,Int.toNat_natCast]
   have hp:((jn s H fall len:Int)<flow)↔¬cv s flow fall len H=true:=by
    simp only[cv,x0d];omega
   obtain⟨a,b⟩:=iQ hm 40 0 (H+1) (by omega) (by rw[h40];omega)
   have hr:=dx (cv s flow fall len) 40 0 (H+1) (by omega)
   obtain⟨L,hL⟩:∃L,L=bis (cv s flow fall len) 40 0 (H+1):=⟨_,rfl⟩
   rw[<- hL]at a b hr ⊢
   by_cases he:cv s flow fall len H=true
   ·have hLH:L<=H:=by
     apply Nat.le_of_not_lt
     intro hlt
     have:=a H (by omega) hlt
     rw[he]at this;cases this
    rw[if_neg (by rw[hp];simp[he]),if_neg (by omega)]
    rw[Cj hm (r:=L) (by omega) hLH (by rw[h40];omega) a (fun _=>b (by omega))]
   ·have hLH:H<L:=by
     apply Nat.lt_of_not_le
     intro hle
     exact he (hm L H hle (b (by omega)))
    rw[if_pos (hp.2 he),if_pos hLH]
  ·rw[if_neg hc,if_neg hc]
 ·rw[if_neg hv,if_neg hv]
theorem Cm{s:Sec}(hv:av s=true)(fall len:Int):jn s s.height fall len=my s fall len:=by
 obtain⟨h1,h2,_,_⟩:=ff hv
 obtain⟨l1,l2⟩:=ca h1
 obtain⟨n,hn⟩:∃n,n+1=s.conv.length:=⟨s.conv.length-1,by omega⟩
 have hnl:n<s.conv.length:=by omega
 have e:(aY s.conv s.height).1=(dR s.conv).2:=by
  rw[cR hn]at h2 ⊢
  have a:=qN h1 hnl (x:=s.height) (by omega)
  have b:=oO h1 hnl (x:=s.height) (by omega)
  omega
 unfold jn my
 rw[e]
end Go.Gv

namespace Go.Gv
abbrev Edg:=Nat×Nat
def edK(e:Edg):List D:=knD ((e.1:Int),(e.2:Int))
def edI(e:Edg):Int×Int:=((e.1:Int),(e.2:Int))
theorem tb(es:List Edg):es.map edK=(es.map edI).map knD:=by simp[edK,edI]
def bG(l:List Nat):List (List D):=l.map fun k:Nat=>[.int .i64 (k:Int)]
def inG(n:Nat)(es:List Edg):Prop:=∀e∈es,e.1<n/\e.2<n
def nxt(n:Nat)(es:List Edg)(i:Nat):List Nat:=(List.range n).filter fun k=>es.contains (i,k)
theorem fP{n:Nat}{es:List Edg}{i k:Nat}:k∈nxt n es i↔k<n/\(i,k)∈es:=by simp[nxt]
theorem oK(n:Nat)(es:List Edg)(i:Nat):(nxt n es i).Nodup:=List.Pairwise.filter _ List.nodup_range
theorem tA(n:Nat)(es:List Edg)(i:Nat):(nxt n es i).length<=n:=by
 have:=x05 (fun k=>es.contains (i,k)) (List.range n)
 simpa[nxt]using this
theorem lm{α:Type}{n k:Nat}{f:Nat->α}(x:α):((List.range n).map f).set k x=(List.range n).map fun v=>if v=k then x else f v:=by
 apply List.ext_getElem
 ·simp
 ·intro i h1 h2
  simp only[List.getElem_set,List.getElem_map,List.getElem_range]
  by_cases e:k=i
  ·rw[if_pos e,if_pos e.symm]
  ·rw[if_neg e,if_neg (Ne.symm e)]
def tgs(es:List Edg)(i:Nat):List Nat:=(es.filter fun e=>e.1==i).map (·.2)
theorem zE{es:List Edg}{i k:Nat}:k∈tgs es i↔(i,k)∈es:=by
 unfold tgs
 simp only[x0s,List.mem_filter,x0o]
 constructor
 ·rintro⟨⟨a,b⟩,⟨h1,h2⟩,h3⟩
  simp only at h2 h3
  subst h2 h3
  exact h1
 ·intro h
  exact⟨(i,k),⟨h,rfl⟩,rfl⟩
theorem xS{es:List Edg}{j:Nat}(hj:j<es.length)(v:Nat):tgs (es.take (j+1)) v=tgs (es.take j) v++(if es[j].1=v then [es[j].2] else []):=by
 unfold tgs
 rw[x0w hj,List.filter_append,x1p]
 congr 1
 by_cases h:es[j].1=v<;>simp[h]
theorem tT(es:List Edg)(i:Nat):(tgs es i).length<=es.length:=by
 unfold tgs
 rw[x08]
 exact x05 _ _
def km(es:List Edg)(out:List Nat)(v:Nat):Bool:=es.all fun e=>!(e.2==v)||out.contains e.1
theorem ko{es:List Edg}{out:List Nat}{v:Nat}:km es out v=true↔∀u,(u,v)∈es->u∈out:=by
 unfold km
 simp only[x0f,x0H,x0q,beq_eq_false_iff_ne,x0G]
 constructor
 ·intro h u hu
  rcases h _ hu with h|h
  ·exact absurd rfl h
  ·exact h
 ·rintro h ⟨a,b⟩ he
  by_cases e:b=v
  ·subst e;exact .inr (h a he)
  ·exact .inl e
def cO(n:Nat)(es:List Edg)(out:List Nat):List Nat:=(List.range n).filter fun v=>!out.contains v&&km es out v
theorem gl{n:Nat}{es:List Edg}{out:List Nat}{v:Nat}:v∈cO n es out↔v<n/\v∉out/\∀u,(u,v)∈es->u∈out:=by
 simp only[cO,List.mem_filter,x1k,x0a,x0q,<- ko]
 simp
def iM(n:Nat)(es:List Edg)(out:List Nat):List Nat:=match cO n es out with
 | []=>out
 | v::_=>out++[v]
def aO(n:Nat)(es:List Edg):Nat->List Nat
 | 0=>[]
 | m+1=>iM n es (aO n es m)
def aX(n:Nat)(es:List Edg):List Nat:=aO n es n
def eb(n:Nat)(es:List Edg)(out:List Nat)(k:Nat):Nat:=((List.range n).filter fun u=>es.contains (u,k)&&!out.contains u).length
def kG(es:List Edg)(i k:Nat):Nat:=((List.range i).filter fun u=>es.contains (u,k)).length
theorem vU(n:Nat)(es:List Edg)(k:Nat):kG es n k=eb n es [] k:=by
 unfold kG eb
 congr 1
 apply List.filter_congr
 simp
theorem ur(es:List Edg)(i k:Nat):kG es (i+1) k=kG es i k+(if (i,k)∈es then 1 else 0):=by
 unfold kG
 rw[List.range_succ,List.filter_append,x0L]
 by_cases h:(i,k)∈es<;>simp[h]
theorem yB(es:List Edg)(i k:Nat):kG es i k<=i:=by
 have:=x05 (fun u=>es.contains (u,k)) (List.range i)
 simpa[kG]using this
theorem oq{n:Nat}{es:List Edg}(hg:inG n es){out:List Nat}{k:Nat}:eb n es out k=0↔km es out k=true:=by
 rw[ko]
 unfold eb
 rw[List.length_eq_zero_iff,List.filter_eq_nil_iff]
 constructor
 ·intro h u hu
  have:=h u (by simpa using (hg _ hu).1)
  simp at this
  exact this hu
 ·intro h u hu
  simp
  exact fun he=>h u he
theorem kK{α:Type}(l:List α)(p q:α->Bool):(l.filter p).length=(l.filter fun a=>p a&&q a).length+(l.filter fun a=>p a&&!q a).length:=by
 induction l with
 | nil=>rfl
 | cons a l ih =>
  simp only[List.filter_cons]
  cases p a<;>cases q a<;>simp<;>omega
theorem oo{n:Nat}{es:List Edg}{out:List Nat}{i:Nat}(hi:i<n)(ho:i∉out)(k:Nat):eb n es out k=eb n es (out++[i]) k+(if (i,k)∈es then 1 else 0):=by
 unfold eb
 rw[kK (List.range n) (fun u=>es.contains (u,k)&&!out.contains u) (fun u=>!(u==i))]
 congr 1
 ·congr 1
  apply List.filter_congr
  intro u _
  rw[x0z]
  simp[and_assoc]
 ·have e:(List.range n).filter (fun a=>(es.contains (a,k)&&!out.contains a)&&!!(a==i))=if (i,k)∈es then [i] else []:=by
   have h1:(List.range n).filter (fun a=>(es.contains (a,k)&&!out.contains a)&&!!(a==i))=((List.range n).filter (fun a=>a==i)).filter fun a=>es.contains (a,k)&&!out.contains a:=by
    rw[List.filter_filter]
    apply List.filter_congr
    intro u _
    simp
   have h2:(List.range n).filter (fun a=>a==i)=[i]:=by
    have:(List.range n).filter (fun a=>a==i)=List.replicate ((List.range n).count i) i:=List.filter_beq i
    rw[this,List.nodup_range.count,if_pos (by simpa using hi)]
    rfl
   rw[h1,h2]
   by_cases h:(i,k)∈es<;>simp[h,ho]
  rw[e]
  split<;>rfl
end Go.Gv

namespace Go.Gv
structure SlC (C:CC):Prop where
 sort:∀zs:List Int,zs.length<2^40->C 366 [.own 1 (zs.map fun n=>[.int .i64 n])] .any [.own 1 ((zs.mergeSort fun x y=>decide (x<=y)).map fun n=>[.int .i64 n]),.nilp]
 compact:∀zs:List Int,zs.length<2^40->C 523 [.own 1 (zs.map fun n=>[.int .i64 n])] .any [.own 1 ((Lib.compact zs).map fun n=>[.int .i64 n]),.nils,.nils]
 insert:∀(zs:List Int) (i:Nat) (x:Int),i<=zs.length->zs.length<2^40->C 519 [.own 1 (zs.map fun n=>[.int .i64 n]),.int .i64 i,.own 1 [[.int .i64 x]]] .any [.own 1 ((zs.take i++x::zs.drop i).map fun n=>[.int .i64 n]),.nils,.nils]
theorem jJ:∀{l l':List Int},l.Pairwise (·<·)->l'.Pairwise (·<·)->(∀x,x∈l↔x∈l')->l=l'
 | [],[],_,_,_=>rfl
 | [],b::_,_,_,h=>by simpa using (h b).2 (by simp)
 | a::_,[],_,_,h=>by simpa using (h a).1 (by simp)
 | a::l,b::l',h1,h2,h=>by
  rw[List.pairwise_cons]at h1 h2
  have e:a=b:=by
   have x1:=(h a).1 (by simp)
   have x2:=(h b).2 (by simp)
   simp only[x0M]at x1 x2
   rcases x1 with x1|x1
   ·exact x1
   ·rcases x2 with x2|x2
    ·exact x2.symm
    ·have:=h2.1 a x1;have:=h1.1 b x2;omega
  subst e
  congr 1
  refine jJ h1.2 h2.2 fun x=>?_
  have:=h x
  simp only[x0M]at this
  constructor
  ·intro hx
   have h3:=h1.1 x hx
   rcases this.1 (.inr hx)with h4|h4
   ·omega
   ·exact h4
  ·intro hx
   have h3:=h2.1 x hx
   rcases this.2 (.inr hx)with h4|h4
   ·omega
   ·exact h4
theorem jQ{d:Array Int}(hs:∀j,0<j->j<d.size->d[j-1]!<=d[j]!):∀m,m<=d.size->(Lib.compactUpTo d m).Pairwise (·<·)/\(∀x,x∈Lib.compactUpTo d m↔∃j,j<m/\d[j]! = x)/\∀x∈Lib.compactUpTo d m,x<=d[m-1]!
 | 0,_=>by simp[Lib.compactUpTo]
 | m+1,hm=>by
  obtain⟨h1,h2,h3⟩:=jQ hs m (by omega)
  rw[Lib.compactUpTo_succ]
  by_cases hk:Lib.keeps d m=true
  ·rw[if_pos hk]
   have hlt:∀x∈Lib.compactUpTo d m,x<d[m]!:=fun x hx=>by
    have h4:=h3 x hx
    simp only[Lib.keeps,x0d]at hk
    rcases hk with rfl|hk
    ·obtain⟨j,hj,_⟩:=(h2 x).1 hx;omega
    ·rcases x0R m with h0|h0
     ·subst h0;obtain⟨j,hj,_⟩:=(h2 x).1 hx;omega
     ·have:=hs m h0 (by omega);omega
   refine⟨List.pairwise_append.2 ⟨h1,by simp,fun a ha b hb=>by simp at hb;subst hb;exact hlt a ha⟩,fun x=>?_,fun x hx=>?_⟩
   ·simp only[x0l,x1d,h2]
    constructor
    ·rintro(⟨j,hj,rfl⟩|rfl)
     ·exact⟨j,by omega,rfl⟩
     ·exact⟨m,by omega,rfl⟩
    ·rintro⟨j,hj,rfl⟩
     by_cases e:j=m
     ·exact .inr (by rw[e])
     ·exact .inl ⟨j,by omega,rfl⟩
   ·simp only[x0l,x1d]at hx
    rcases hx with hx|hx
    ·exact Int.le_of_lt (hlt x hx)
    ·rw[hx];exact x0F _
  ·rw[if_neg hk,x1v]
   have hm0:0<m:=by
    rcases x0R m with h|h
    ·subst h;exact absurd (Lib.keeps_lt_one d 0 (by omega)) hk
    ·exact h
   have he:d[m]! = d[m-1]!:=by
    apply Classical.byContradiction
    intro h
    exact hk (Lib.keeps_pos h)
   refine⟨h1,fun x=>?_,fun x hx=>?_⟩
   ·rw[h2]
    constructor
    ·rintro⟨j,hj,rfl⟩;exact⟨j,by omega,rfl⟩
    ·rintro⟨j,hj,rfl⟩
     by_cases e:j=m
     ·subst e;exact⟨j-1,by omega,he.symm⟩
     ·exact⟨j,by omega,rfl⟩
   ·have:=h3 x hx
    simp only[Nat.add_sub_cancel,he]
    exact this
theorem pn{n:Nat}{es:List Edg}(hg:inG n es)(i:Nat):Lib.compact (((tgs es i).map fun k:Nat=>(k:Int)).mergeSort fun x y=>decide (x<=y))=(nxt n es i).map fun k:Nat=>(k:Int):=by
 obtain⟨zs,hz⟩:∃zs,zs=((tgs es i).map fun k:Nat=>(k:Int)).mergeSort fun x y=>decide (x<=y):=⟨_,rfl⟩
 rw[<- hz]
 have hp:zs.Pairwise (·<=·):=by
  have h:=List.pairwise_mergeSort (le:=fun x y:Int=>decide (x<=y)) (fun a b c h1 h2=>by simp at *;omega) (fun a b=>by simp;omega) ((tgs es i).map fun k:Nat=>(k:Int))
  rw[<- hz]at h
  exact h.imp fun h=>by simpa using h
 have hm:∀x,x∈zs↔∃k:Nat,(i,k)∈es/\(k:Int)=x:=fun x=>by
  rw[hz,List.mem_mergeSort,x0s]
  simp only[zE]
 have hs:∀j,0<j->j<zs.toArray.size->zs.toArray[j-1]!<=zs.toArray[j]!:=fun j h1 h2=>by
  have h3:j<zs.length:=by simpa using h2
  rw[x0g zs.toArray (j-1) (by simpa using (by omega:j-1<zs.length)),x0g zs.toArray j h2]
  exact List.pairwise_iff_getElem.1 hp (j-1) j (by omega) h3 (by omega)
 obtain⟨h1,h2,_⟩:=jQ hs zs.length (by simp)
 refine jJ h1 ?_ fun x=>?_
 ·rw[List.pairwise_map]
  have:(nxt n es i).Pairwise (·<·):=List.Pairwise.filter _ x1x
  exact this.imp fun h=>by omega
 ·unfold Lib.compact
  rw[h2,x0s]
  constructor
  ·rintro⟨j,hj,rfl⟩
   rw[x0g zs.toArray j (by simpa using hj)]
   obtain⟨k,k1,k2⟩:=(hm _).1 (x0p (l:=zs) hj)
   exact⟨k,fP.2 ⟨(hg _ k1).2,k1⟩,by simpa using k2⟩
  ·rintro⟨k,hk,rfl⟩
   obtain⟨j,hj,e⟩:=x0C.1 ((hm k).2 ⟨k,(fP.1 hk).2,rfl⟩)
   exact⟨j,hj,by rw[x0g zs.toArray j (by simpa using hj)];simpa using e⟩
variable{C:CC}(hC:al prog C)
include hC
theorem KB(n i:Int):C 516 [.int .i64 n,.int .i64 i] (.bool (decide (0<=i)&&decide (i<n))) []:=by
 refine aj hC (nf:=N516) rfl rfl ?_
 simp[N516]
 refine ae (fun h=>?_) (fun h=>?_)<;>simp at h<;>simp[h]<;>omega
theorem y8{b:Bool}{xs:List (Int×Int)}{g:Nat}{cs:List D}(p:(Int×Int)->Bool)(hs:xs.length<2^62)(hp:∀x∈xs,C g (.agg (knD x)::cs) (.bool (p x)) []):C 522 [slx b (xs.map fun x=>knD x),.fn g cs] (.int .i64 (bk p xs)) []:=by
 refine aj hC (nf:=N522) rfl rfl ?_
 simp[N522]
 refine aF Nat (fun i=>[(0,slx b (xs.map fun x=>knD x)),(1,.fn g cs),(7,.int .i64 xs.length),(8,.int .i64 i)]) (fun i=>i<=xs.length/\∀(j:Nat) (h:j<xs.length),j<i->p xs[j]=false) (fun i=>xs.length-i) 0 (by simp) (by simp) ?_
 rintro i ⟨hi,hj⟩
 simp
 refine ae (fun h=>?_) (fun h=>?_)<;>simp[h]<;>simp at h
 ·have hw:IntKind.wrap .i64 ((i:Int)+1)=((i+1:Nat):Int):=wrap_i64 (by omega) (by omega)
  have hc:=hp _ (x0p h)
  simp[h,knD]at hc ⊢
  refine aa hc (.inl rfl) ?_
  simp
  refine ae (fun h1=>?_) (fun h1=>?_)<;>simp[h1,hw]
  ·rw[cQ hj h h1]
  ·refine⟨i+1,⟨by omega,fun j hl hjj=>?_⟩,by omega,rfl⟩
   rcases x0D.1 hjj with h2|rfl
   ·exact hj j hl h2
   ·exact h1
 ·rw[dA (fun j hl=>hj j hl (by omega))]
theorem y6{b:Bool}{xs:List (Int×Int)}{g:Nat}{cs:List D}(p:(Int×Int)->Bool)(hs:xs.length<2^62)(hp:∀x∈xs,C g (.agg (knD x)::cs) (.bool (p x)) []):C 514 [slx b (xs.map fun x=>knD x),.fn g cs] (.bool (xs.any p)) []:=by
 refine aj hC (nf:=N514) rfl rfl ?_
 simp[N514]
 refine aa (y8 hC p hs hp) (.inl rfl) ?_
 simp[eu]
def qi(n:Int)(e:Int×Int):Bool:=!((decide (0<=e.1)&&decide (e.1<n))&&(decide (0<=e.2)&&decide (e.2<n)))
theorem yG(n:Int)(e:Int×Int):C 515 [.agg (knD e),.ptr [.int .i64 n]] (.bool (qi n e)) []:=by
 refine aj hC (nf:=N515) rfl rfl ?_
 simp[N515,knD]
 refine aa (KB hC n e.1) (.inl rfl) ?_
 unfold qi
 cases h:(decide (0<=e.1)&&decide (e.1<n))
 ·simp
 ·simp
  refine aa (KB hC n e.2) (.inl rfl) ?_
  simp
def gOk(n:Int)(es:List (Int×Int)):Bool:=decide (0<=n)&&decide (n<=300)&&decide (es.length<=1000)&&!es.any (qi n)
theorem qp(b:Bool)(n:Int)(es:List (Int×Int))(hl:es.length<2^62):C 503 [.int .i64 n,slx b (es.map knD)] (.bool (gOk n es)) []:=by
 have k1:=y6 hC (b:=b) (xs:=es) (g:=515) (cs:=[.ptr [.int .i64 n]]) (qi n) hl (fun x _=>yG hC n x)
 refine aj hC (nf:=N503) rfl rfl ?_
 simp[N503]
 by_cases h1:n<0
 ·simp[h1,gOk,show ¬0<=n by omega]
 by_cases h2:300<n
 ·simp[h1,h2,gOk,show ¬n<=300 by omega]
 by_cases h3:(1000:Int)<es.length
 ·simp[h1,h2,h3,gOk,show ¬es.length<=1000 by omega]
 simp[h1,h2,h3]
 refine aa k1 (.inl rfl) ?_
 simp[gOk,show 0<=n by omega,show n<=300 by omega,show es.length<=1000 by omega]
theorem wB{n:Nat}{es:List Edg}(hn:n<=300)(he:es.length<=1000)(hg:inG n es):gOk n (es.map edI)=true:=by
 unfold gOk
 simp only[x0a,x0d,x08,x0q,x02,x0s]
 refine⟨⟨⟨by omega,by omega⟩,he⟩,?_⟩
 rintro x ⟨e,h1,rfl⟩
 obtain⟨h2,h3⟩:=hg e h1
 simp only[qi,edI,x0q,Bool.not_eq_false',x0a,x0d]
 simp
 omega
end Go.Gv

namespace Go.Gv
section
variable{C:CC}{hs:Option (List Nat)}{K:Env->Prop}{ns:List ao}{dst:Option Nat}{u:Tag (hs,K,ns)}{e:Env}{R:List Nat}{acc:List (List Nat×List Nat)}
theorem bq{sz:Nat}{es:List (List D)}{i:Nat}{c:List D}(h:es[i]? = some c):hJ C hs K ns dst u e R acc sz es i=(c.length=sz/\dW C hs K ns dst ⟨⟩ e R acc (.ptr c)):=by
 apply propext
 unfold hJ dW
 rw[h]
 exact⟨fun⟨_,h1,h2⟩=>by cases h1;exact h2,fun h2=>⟨c,rfl,h2⟩⟩
theorem aG{n:Nat}{ag:Bool}{p:Pa}{es:List (List D)}{i off:Nat}{r:List D}(hr:es[i]? = some r):li C hs K ns dst u e R acc n ag p es i off=(off+n<=r.length/\match ag with
    | true=>(((r.drop off).take n).all isV=true->dW C hs K ns dst ⟨⟩ e R acc (.agg ((r.drop off).take n))) /\
      (((r.drop off).take n).all isV=false->dW C hs K ns dst ⟨⟩ e R acc (.agx (((r.drop off).take n).mapIdx fun j c=>ldc p i (off+j) c)))
    | false=>dW C hs K ns dst ⟨⟩ e R acc (ldc p i off ((r.drop off).headD .any))):=by
 apply propext
 constructor
 ·rintro⟨r',h,h1,h2⟩
  rw[hr]at h
  cases h
  refine⟨h1,?_⟩
  cases ag<;>exact h2
 ·rintro⟨h1,h2⟩
  refine tH hr h1 ?_
  cases ag<;>exact h2
@[simp] theorem I1{sz:Nat}{c0:List D}{es:List (List D)}:hJ C hs K ns dst u e R acc sz (c0::es) 0=(c0.length=sz/\dW C hs K ns dst ⟨⟩ e R acc (.ptr c0)):=bq rfl
theorem xn{n:Nat}{ag:Bool}{p:Pa}{off:Nat}{c0:List D}{es:List (List D)}:li C hs K ns dst u e R acc n ag p (c0::es) 0 off=(off+n<=c0.length/\match ag with
    | true=>(((c0.drop off).take n).all isV=true->dW C hs K ns dst ⟨⟩ e R acc (.agg ((c0.drop off).take n))) /\
      (((c0.drop off).take n).all isV=false->dW C hs K ns dst ⟨⟩ e R acc (.agx (((c0.drop off).take n).mapIdx fun j c=>ldc p 0 (off+j) c)))
    | false=>dW C hs K ns dst ⟨⟩ e R acc (ldc p 0 off ((c0.drop off).headD .any))):=aG rfl
@[simp] theorem I2{sz:Nat}{c0 c1:List D}{es:List (List D)}:hJ C hs K ns dst u e R acc sz (c0::c1::es) 1=(c1.length=sz/\dW C hs K ns dst ⟨⟩ e R acc (.ptr c1)):=bq rfl
theorem xo{n:Nat}{ag:Bool}{p:Pa}{off:Nat}{c0 c1:List D}{es:List (List D)}:li C hs K ns dst u e R acc n ag p (c0::c1::es) 1 off=(off+n<=c1.length/\match ag with
    | true=>(((c1.drop off).take n).all isV=true->dW C hs K ns dst ⟨⟩ e R acc (.agg ((c1.drop off).take n))) /\
      (((c1.drop off).take n).all isV=false->dW C hs K ns dst ⟨⟩ e R acc (.agx (((c1.drop off).take n).mapIdx fun j c=>ldc p 1 (off+j) c)))
    | false=>dW C hs K ns dst ⟨⟩ e R acc (ldc p 1 off ((c1.drop off).headD .any))):=aG rfl
@[simp] theorem I3{sz:Nat}{c0 c1 c2:List D}{es:List (List D)}:hJ C hs K ns dst u e R acc sz (c0::c1::c2::es) 2=(c2.length=sz/\dW C hs K ns dst ⟨⟩ e R acc (.ptr c2)):=bq rfl
theorem xp{n:Nat}{ag:Bool}{p:Pa}{off:Nat}{c0 c1 c2:List D}{es:List (List D)}:li C hs K ns dst u e R acc n ag p (c0::c1::c2::es) 2 off=(off+n<=c2.length/\match ag with
    | true=>(((c2.drop off).take n).all isV=true->dW C hs K ns dst ⟨⟩ e R acc (.agg ((c2.drop off).take n))) /\
      (((c2.drop off).take n).all isV=false->dW C hs K ns dst ⟨⟩ e R acc (.agx (((c2.drop off).take n).mapIdx fun j c=>ldc p 2 (off+j) c)))
    | false=>dW C hs K ns dst ⟨⟩ e R acc (ldc p 2 off ((c2.drop off).headD .any))):=aG rfl
@[simp] theorem I4{sz:Nat}{c0 c1 c2 c3:List D}{es:List (List D)}:hJ C hs K ns dst u e R acc sz (c0::c1::c2::c3::es) 3=(c3.length=sz/\dW C hs K ns dst ⟨⟩ e R acc (.ptr c3)):=bq rfl
theorem xq{n:Nat}{ag:Bool}{p:Pa}{off:Nat}{c0 c1 c2 c3:List D}{es:List (List D)}:li C hs K ns dst u e R acc n ag p (c0::c1::c2::c3::es) 3 off=(off+n<=c3.length/\match ag with
    | true=>(((c3.drop off).take n).all isV=true->dW C hs K ns dst ⟨⟩ e R acc (.agg ((c3.drop off).take n))) /\
      (((c3.drop off).take n).all isV=false->dW C hs K ns dst ⟨⟩ e R acc (.agx (((c3.drop off).take n).mapIdx fun j c=>ldc p 3 (off+j) c)))
    | false=>dW C hs K ns dst ⟨⟩ e R acc (ldc p 3 off ((c3.drop off).headD .any))):=aG rfl
@[simp] theorem I5{sz:Nat}{c0 c1 c2 c3 c4:List D}{es:List (List D)}:hJ C hs K ns dst u e R acc sz (c0::c1::c2::c3::c4::es) 4=(c4.length=sz/\dW C hs K ns dst ⟨⟩ e R acc (.ptr c4)):=bq rfl
theorem xr{n:Nat}{ag:Bool}{p:Pa}{off:Nat}{c0 c1 c2 c3 c4:List D}{es:List (List D)}:li C hs K ns dst u e R acc n ag p (c0::c1::c2::c3::c4::es) 4 off=(off+n<=c4.length/\match ag with
    | true=>(((c4.drop off).take n).all isV=true->dW C hs K ns dst ⟨⟩ e R acc (.agg ((c4.drop off).take n))) /\
      (((c4.drop off).take n).all isV=false->dW C hs K ns dst ⟨⟩ e R acc (.agx (((c4.drop off).take n).mapIdx fun j c=>ldc p 4 (off+j) c)))
    | false=>dW C hs K ns dst ⟨⟩ e R acc (ldc p 4 off ((c4.drop off).headD .any))):=aG rfl
attribute [simp] xn xo xp xq xr
end
end Go.Gv

namespace Go.Gv
section
variable{C:CC}{hs:Option (List Nat)}{K:Env->Prop}{ns:List ao}{dst:Option Nat}{u:Tag (hs,K,ns)}{e:Env}{R:List Nat}{acc:List (List Nat×List Nat)}
@[simp] theorem I6{sz:Nat}{c0 c1 c2 c3 c4 c5:List D}{es:List (List D)}:hJ C hs K ns dst u e R acc sz (c0::c1::c2::c3::c4::c5::es) 5=(c5.length=sz/\dW C hs K ns dst ⟨⟩ e R acc (.ptr c5)):=bq rfl
@[simp] theorem LN{n:Nat}{ag:Bool}{p:Pa}{off:Nat}{c0 c1 c2 c3 c4 c5:List D}{es:List (List D)}:li C hs K ns dst u e R acc n ag p (c0::c1::c2::c3::c4::c5::es) 5 off=(off+n<=c5.length/\match ag with
    | true=>(((c5.drop off).take n).all isV=true->dW C hs K ns dst ⟨⟩ e R acc (.agg ((c5.drop off).take n))) /\
      (((c5.drop off).take n).all isV=false->dW C hs K ns dst ⟨⟩ e R acc (.agx (((c5.drop off).take n).mapIdx fun j c=>ldc p 5 (off+j) c)))
    | false=>dW C hs K ns dst ⟨⟩ e R acc (ldc p 5 off ((c5.drop off).headD .any))):=aG rfl
@[simp] theorem I7{sz:Nat}{c0 c1 c2 c3 c4 c5 c6:List D}{es:List (List D)}:hJ C hs K ns dst u e R acc sz (c0::c1::c2::c3::c4::c5::c6::es) 6=(c6.length=sz/\dW C hs K ns dst ⟨⟩ e R acc (.ptr c6)):=bq rfl
@[simp] theorem LO{n:Nat}{ag:Bool}{p:Pa}{off:Nat}{c0 c1 c2 c3 c4 c5 c6:List D}{es:List (List D)}:li C hs K ns dst u e R acc n ag p (c0::c1::c2::c3::c4::c5::c6::es) 6 off=(off+n<=c6.length/\match ag with
    | true=>(((c6.drop off).take n).all isV=true->dW C hs K ns dst ⟨⟩ e R acc (.agg ((c6.drop off).take n))) /\
      (((c6.drop off).take n).all isV=false->dW C hs K ns dst ⟨⟩ e R acc (.agx (((c6.drop off).take n).mapIdx fun j c=>ldc p 6 (off+j) c)))
    | false=>dW C hs K ns dst ⟨⟩ e R acc (ldc p 6 off ((c6.drop off).headD .any))):=aG rfl
@[simp] theorem I8{sz:Nat}{c0 c1 c2 c3 c4 c5 c6 c7:List D}{es:List (List D)}:hJ C hs K ns dst u e R acc sz (c0::c1::c2::c3::c4::c5::c6::c7::es) 7=(c7.length=sz/\dW C hs K ns dst ⟨⟩ e R acc (.ptr c7)):=bq rfl
@[simp] theorem LP{n:Nat}{ag:Bool}{p:Pa}{off:Nat}{c0 c1 c2 c3 c4 c5 c6 c7:List D}{es:List (List D)}:li C hs K ns dst u e R acc n ag p (c0::c1::c2::c3::c4::c5::c6::c7::es) 7 off=(off+n<=c7.length/\match ag with
    | true=>(((c7.drop off).take n).all isV=true->dW C hs K ns dst ⟨⟩ e R acc (.agg ((c7.drop off).take n))) /\
      (((c7.drop off).take n).all isV=false->dW C hs K ns dst ⟨⟩ e R acc (.agx (((c7.drop off).take n).mapIdx fun j c=>ldc p 7 (off+j) c)))
    | false=>dW C hs K ns dst ⟨⟩ e R acc (ldc p 7 off ((c7.drop off).headD .any))):=aG rfl
end
end Go.Gv

namespace Go.Gv
theorem md{α:Type}(n:Nat)(x:α):List.replicate n x=(List.range n).map fun _=>x:=by simp[List.map_const']
theorem kP(l:List Nat):bG l=(l.map fun k:Nat=>(k:Int)).map fun n=>[.int .i64 n]:=by simp[bG]
theorem zj{l:List Int}:∀e∈(l.map fun n=>[D.int .i64 n]),e.length=1/\∀c∈e,az c=true:=by
 intro e he
 simp only[x0s]at he
 obtain⟨k,_,rfl⟩:=he
 simp[az]
theorem zu{l:List Int}:∀e∈(l.map fun n=>[D.int .i64 n]),e.length=1/\∀c∈e,bl c=true:=by
 intro e he
 simp only[x0s]at he
 obtain⟨k,_,rfl⟩:=he
 simp[bl]
def ndD(l:List Nat):D:=.sl (bG l)
def DK(n:Nat)(es:List Edg):D:=.sl ((List.range n).map fun v=>[ndD (nxt n es v)])
def lV(n:Nat)(es:List Edg)(j:Nat):List (List D):=(List.range n).map fun v=>[.own 1 (bG (tgs (es.take j) v))]
def lW(n:Nat)(es:List Edg)(j:Nat):List (List D):=(List.range n).map fun v=>[.own 1 (bG (if v<j then nxt n es v else tgs es v))]
theorem bQ(l:List Nat):(bG l).length=l.length:=by simp[bG]
theorem gk(l:List Nat):(bG l).take l.length=bG l:=by rw[<- bQ l];exact x1n
theorem j5(l:List Nat)(k:Nat):bG l++[[.int .i64 (k:Int)]]=bG (l++[k]):=by simp[bG]
theorem tn{l:List Nat}:∀e∈bG l,e.length=1/\∀c∈e,az c=true:=by
 intro e he
 simp only[bG,x0s]at he
 obtain⟨k,_,rfl⟩:=he
 simp[az]
theorem pz{l:List Nat}:∀e∈bG l,e.length=1/\∀c∈e,bl c=true:=by
 intro e he
 simp only[bG,x0s]at he
 obtain⟨k,_,rfl⟩:=he
 simp[bl]
variable{C:CC}(hC:al prog C)
include hC
theorem DG(hS:SlC C){b:Bool}{n:Nat}{es:List Edg}(hn:n<=300)(he:es.length<=1000)(hg:inG n es):C 517 [.int .i64 n,slx b (es.map edK)] (DK n es) []:=by
 refine aj hC (nf:=N517) rfl rfl ?_
 simp[N517]
 refine⟨by omega,?_⟩
 refine aF Nat (fun j=>[(5,.ref (.r 10080) 0 n),(10080,.blk 1 (lV n es j)),(11,slx b (es.map edK)),(12,.int .i64 es.length),(13,.int .i64 j)]) (fun j=>j<=es.length) (fun j=>es.length-j) 0 (by simp) (by simp[lV,tgs,bG,md]) ?_
 rintro j hj
 simp
 refine ae (fun h=>?_) (fun h=>?_)<;>simp[h]<;>simp at h
 ·have hw:IntKind.wrap .i64 ((j:Int)+1)=((j+1:Nat):Int):=wrap_i64 (by omega) (by omega)
  have hin:=hg _ (x0p h)
  have hr:(lV n es j)[es[j].1]? = some [.own 1 (bG (tgs (es.take j) es[j].1))]:=by simp[lV,hin.1]
  have hlt:=tT (es.take j) es[j].1
  have hb:(tgs (es.take j) es[j].1).length<=1000:=by simp at hlt;omega
  have hrl:(lV n es j).length=n:=by simp[lV]
  have hr2:es[j].1<(lV n es j).length:=by omega
  simp[h,edK,knD,aG hr,hin,hr,bQ]
  refine⟨by omega,?_⟩
  simp only[gk,j5]
  have e1:∀e,e∈bG (tgs (es.take j) es[j].1)\/e=[.int .i64 (es[j].2:Int)]->∀c∈e,az c=true:=by
   rintro e (h1|rfl)
   ·exact(tn e h1).2
   ·simp[az]
  have e2:(((lV n es j).set es[j].1 [.any]).set es[j].1 [.own 1 (bG (tgs (es.take j) es[j].1++[es[j].2]))])=lV n es (j+1):=by
   rw[List.set_set]
   unfold lV
   rw[lm]
   apply x0m
   intro v _
   rw[xS h]
   by_cases e:v=es[j].1
   ·subst e;simp
   ·rw[if_neg e,if_neg (Ne.symm e),x1v]
  refine⟨e1,?_⟩
  simp[hr2,e2]
  refine⟨aw (by decide +kernel),?_⟩
  simp[hw]
  refine⟨j+1,by omega,by omega,?_,by simp⟩
  simp only[gk,j5]
  rw[<- e2,List.set_set]
 ·have e0:lV n es j=lW n es 0:=by
   unfold lV lW
   rw[x0y h]
   simp
  rw[e0]
  refine aF Nat (fun j=>[(5,.ref (.r 10080) 0 n),(10080,.blk 1 (lW n es j)),(32,.int .i64 n),(33,.int .i64 j)]) (fun j=>j<=n) (fun j=>n-j) 0 (by simp) (by simp) ?_
  clear e0 h hj j
  rintro j hj
  simp
  refine ae (fun h=>?_) (fun h=>?_)<;>simp[h]<;>simp at h
  ·have hw:IntKind.wrap .i64 ((j:Int)+1)=((j+1:Nat):Int):=wrap_i64 (by omega) (by omega)
   have hr:(lW n es j)[j]? = some [.own 1 (bG (tgs es j))]:=by simp[lW,h]
   have hl:=tT es j
   simp[h,aG hr,hr,bQ]
   have ks:=hS.sort ((tgs es j).map fun k:Nat=>(k:Int)) (by simp;omega)
   have kc:=hS.compact (((tgs es j).map fun k:Nat=>(k:Int)).mergeSort fun x y=>decide (x<=y)) (by simp[List.length_mergeSort];omega)
   rw[pn hg,<- kP]at kc
   rw[<- kP]at ks
   have hsl:(((tgs es j).map fun k:Nat=>(k:Int)).mergeSort fun x y=>decide (x<=y)).length=(tgs es j).length:=by simp[List.length_mergeSort]
   obtain⟨zs,hz⟩:∃zs,zs=((tgs es j).map fun k:Nat=>(k:Int)).mergeSort fun x y=>decide (x<=y):=⟨_,rfl⟩
   rw[<- hz]at ks kc hsl
   have hjl:j<(lW n es j).length:=by simp[lW,h]
   have e1:(((lW n es j).set j [.own 1 (zs.map fun n=>[.int .i64 n])]).set j [.any]).set j [.own 1 (bG (nxt n es j))]=lW n es (j+1):=by
    rw[List.set_set,List.set_set]
    unfold lW
    rw[lm]
    apply x0m
    intro v _
    by_cases e:v=j
    ·subst e;simp
    ·rw[if_neg e]
     by_cases e2:v<j
     ·rw[if_pos e2,if_pos (by omega)]
     ·rw[if_neg e2,if_neg (by omega)]
   refine vT ks (by rw[x08,hsl,bQ]) zj ?_
   have hset:∀x,((lW n es j).set j x)[j]? = some x:=fun x=>by simp[hjl]
   simp[hr,h,aG (hset _),hset]
   refine⟨fun e he=>(zu e (x0E he)).2,?_⟩
   have e3:(zs.map fun n=>[D.int .i64 n]).take zs.length=zs.map fun n=>[D.int .i64 n]:=x0y (by simp)
   rw[e3]
   refine ta kc pz ?_
   simp[hr,h,aG (hset _),hset]
   rw[List.set_set,List.set_set]at e1
   exact⟨fun e he=>(tn e he).2,j+1,by omega,by omega,e1,hw⟩
  ·have e:j=n:=by omega
   subst e
   simp[lW]
   unfold DK
   rw[x0y (by simp)]
   congr 1
   apply x0m
   intro v hv
   have:v<j:=by simpa using hv
   simp[this,aU,ndD]
end Go.Gv

namespace Go.Gv
theorem lQ{l l':List Nat}(h1:l.Pairwise (·<·))(h2:l'.Pairwise (·<·))(h:∀x,x∈l↔x∈l'):l=l':=by
 have e:=jJ (l:=l.map fun k:Nat=>(k:Int)) (l':=l'.map fun k:Nat=>(k:Int)) (by rw[List.pairwise_map];exact h1.imp fun h=>by omega) (by rw[List.pairwise_map];exact h2.imp fun h=>by omega) (fun x=>by
  simp only[x0s]
  exact⟨fun⟨a,b,c⟩=>⟨a,(h a).1 b,c⟩,fun⟨a,b,c⟩=>⟨a,(h a).2 b,c⟩⟩)
 have e2:=congrArg (List.map Int.toNat) e
 rw[List.map_map,List.map_map]at e2
 have f:(Int.toNat∘fun k:Nat=>(k:Int))=id:=by funext k;simp
 rw[f,List.map_id,List.map_id]at e2
 exact e2
def dg(l:List Nat)(x:Nat):Nat:=l.findIdx fun k=>decide (x<=k)
theorem tE(l:List Nat)(x:Nat):dg l x<=l.length:=List.findIdx_le_length
theorem tF{l:List Nat}{x j:Nat}(h:j<dg l x)(hl:j<l.length):l[j]<x:=by
 have:=List.not_of_lt_findIdx h
 simp at this
 exact this
theorem zV{l:List Nat}{x:Nat}(h:dg l x<l.length):x<=l[dg l x]:=by
 have h2:=List.findIdx_getElem (w:=h)
 exact of_decide_eq_true h2
theorem sH{l:List Nat}{x j:Nat}(hl:j<l.length)(h:x<=l[j]):dg l x<=j:=by
 apply Nat.le_of_not_lt
 intro hj
 have:=tF hj hl
 omega
theorem m8{l:List Nat}(hs:l.Pairwise (·<·)){x j:Nat}(hl:j<l.length)(h:l[j]<x):j<dg l x:=by
 apply Nat.lt_of_not_le
 intro hj
 have h1:=zV (l:=l) (x:=x) (by omega)
 rcases Nat.lt_or_eq_of_le hj with h2|h2
 ·have:=List.pairwise_iff_getElem.1 hs (dg l x) j (by omega) hl h2
  omega
 ·simp only[h2]at h1;omega
theorem sk{l:List Nat}{x:Nat}(hs:l.Pairwise (·<·))(hx:x∉l):(l.take (dg l x)++x::l.drop (dg l x)).Pairwise (·<·):=by
 have hp:=hs
 rw[<- List.take_append_drop (dg l x) l,List.pairwise_append]at hp
 obtain⟨h1,h2,h3⟩:=hp
 have lo:∀a∈l.take (dg l x),a<x:=fun a ha=>by
  obtain⟨i,hi,rfl⟩:=x0C.1 ha
  have h4:i<dg l x/\i<l.length:=by simp at hi;omega
  rw[List.getElem_take]
  exact tF h4.1 h4.2
 have hi:∀a∈l.drop (dg l x),x<a:=fun a ha=>by
  obtain⟨i,hi,rfl⟩:=x0C.1 ha
  have hlt:dg l x+i<l.length:=by simp at hi;omega
  rw[List.getElem_drop]
  have hne:l[dg l x+i]≠x:=fun e=>hx (e▸x0p hlt)
  have:¬l[dg l x+i]<x:=fun h=>by have:=m8 hs hlt h;omega
  omega
 rw[List.pairwise_append,List.pairwise_cons]
 refine⟨h1,⟨hi,h2⟩,fun a ha b hb=>?_⟩
 rcases x0M.1 hb with rfl|hb
 ·exact lo a ha
 ·exact h3 a ha b hb
theorem sj{n:Nat}{p q:Nat->Bool}{x:Nat}(hx:x<n)(hp:p x=false)(hq:∀v,v<n->q v=(p v||v==x)):((List.range n).filter p).take (dg ((List.range n).filter p) x)++x::((List.range n).filter p).drop (dg ((List.range n).filter p) x)=(List.range n).filter q:=by
 have hs:((List.range n).filter p).Pairwise (·<·):=List.Pairwise.filter _ x1x
 refine lQ (sk hs (by simp[hp])) (List.Pairwise.filter _ x1x) fun v=>?_
 have:v∈(List.range n).filter p↔v∈((List.range n).filter p).take (dg ((List.range n).filter p) x)\/v∈((List.range n).filter p).drop (dg ((List.range n).filter p) x):=by
  rw[<- x0l,List.take_append_drop]
 simp only[x0l,x0M]
 rw[or_left_comm,<- this]
 simp only[List.mem_filter,x1k]
 constructor
 ·rintro(rfl|⟨h1,h2⟩)
  ·exact⟨hx,by rw[hq _ hx];simp⟩
  ·exact⟨h1,by rw[hq _ h1,h2];rfl⟩
 ·rintro⟨h1,h2⟩
  rw[hq _ h1,x0H,x0o]at h2
  rcases h2 with h2|h2
  ·exact .inr ⟨h1,h2⟩
  ·exact .inl h2
structure lS (n:Nat) (es:List Edg) (out:List Nat):Prop where
 lt:∀v∈out,v<n
 nd:out.Nodup
 pre:∀v∈out,∀u,(u,v)∈es->u∈out
theorem lS.nil(n:Nat)(es:List Edg):lS n es []:=⟨by simp,by simp,by simp⟩
theorem lS.len{n:Nat}{es:List Edg}{out:List Nat}(h:lS n es out):out.length<=n:=by
 have:=(List.nodup_range (n:=n)).sublist (List.Sublist.refl _)
 have hsub:out ⊆ List.range n:=fun v hv=>by simpa using h.lt v hv
 have:=List.Nodup.length_le_of_subset h.nd hsub
 simpa using this
theorem lS.step{n:Nat}{es:List Edg}{out:List Nat}(h:lS n es out){i:Nat}(hi:i∈cO n es out):lS n es (out++[i]):=by
 obtain⟨h1,h2,h3⟩:=gl.1 hi
 refine⟨fun v hv=>?_,?_,fun v hv u hu=>?_⟩
 ·rcases x0l.1 hv with hv|hv
  ·exact h.lt v hv
  ·simp at hv;omega
 ·rw[x1u]
  refine⟨h.nd,by simp,fun a ha b hb=>?_⟩
  simp at hb
  subst hb
  rintro rfl
  exact h2 ha
 ·rcases x0l.1 hv with hv|hv
  ·exact x0l.2 (.inl (h.pre v hv u hu))
  ·simp at hv
   subst hv
   exact x0l.2 (.inl (h3 u hu))
theorem gO(n:Nat)(es:List Edg):∀m,lS n es (aO n es m)
 | 0=>.nil n es
 | m+1=>by
  have ih:=gO n es m
  show lS n es (iM n es (aO n es m))
  unfold iM
  split
  ·exact ih
  ·rename_i v r e
   exact ih.step (by rw[e];simp)
theorem lb{n:Nat}{es:List Edg}{m i:Nat}{r:List Nat}(h:cO n es (aO n es m)=i::r):aO n es (m+1)=aO n es m++[i]:=by
 show iM n es (aO n es m)=_
 unfold iM
 rw[h]
theorem kg{n:Nat}{es:List Edg}{m:Nat}(h:cO n es (aO n es m)=[]):∀k,aO n es (m+k)=aO n es m
 | 0=>rfl
 | k+1=>by
  show iM n es (aO n es (m+k))=_
  rw[kg h k]
  unfold iM
  rw[h]
theorem zO{n:Nat}{es:List Edg}{m:Nat}(hl:(aO n es m).length=m)(h:cO n es (aO n es m)=[]):aX n es=aO n es m:=by
 have:=(gO n es m).len
 have e:=kg h (n-m)
 rw[show m+(n-m)=n by omega]at e
 exact e
theorem xi{n:Nat}{es:List Edg}{out:List Nat}(h:lS n es out){i:Nat}{r:List Nat}(hr:cO n es out=i::r):cO n es (out++[i])=(List.range n).filter fun v=>(!out.contains v&&km es out v&&!(v==i))||((nxt n es i).contains v&&km es (out++[i]) v):=by
 have hi:i∈cO n es out:=by rw[hr];simp
 obtain⟨h1,h2,h3⟩:=gl.1 hi
 unfold cO
 apply List.filter_congr
 intro v hv
 have hvn:v<n:=by simpa using hv
 rw[x0z]
 simp only[x0a,x0H,x0q,x0G,ko,fP,beq_eq_false_iff_ne,ne_eq]
 simp only[List.contains_eq_mem,x0J,x0l,x1d,not_or]
 constructor
 ·rintro⟨⟨a1,a2⟩,a3⟩
  by_cases c:(i,v)∈es
  ·exact .inr ⟨⟨hvn,c⟩,a3⟩
  ·refine .inl ⟨⟨a1,fun u hu=>?_⟩,a2⟩
   rcases a3 u hu with b|rfl
   ·exact b
   ·exact absurd hu c
 ·rintro(⟨⟨a1,a2⟩,a3⟩|⟨⟨_,a1⟩,a2⟩)
  ·exact⟨⟨a1,a3⟩,fun u hu=>.inl (a2 u hu)⟩
  ·refine⟨⟨fun hv=>h2 (h.pre v hv i a1),?_⟩,a2⟩
   rintro rfl
   exact h2 (h3 _ a1)
variable{C:CC}(hC:al prog C)
include hC
theorem Cl(x:Int):C 299 [.int .i64 x] (.bool false) []:=by
 refine aj hC (nf:=N299) rfl rfl ?_
 simp[N299]
theorem DS(x:Int):C 524 [.int .i64 x] (.bool false) []:=by
 refine aj hC (nf:=N524) rfl rfl ?_
 simp[N524]
theorem yu(x y:Int):C 411 [.int .i64 x,.int .i64 y] (.bool (decide (x<y))) []:=by
 refine aj hC (nf:=N411) rfl rfl ?_
 simp[N411]
 refine aa (Cl hC x) (.inl rfl) ?_
 simp
theorem uj(l:List Nat)(x:Nat)(hs:l.Pairwise (·<·))(hl:l.length<2^40):C 518 [.sl (bG l),.int .i64 x] (.tup [.int .i64 (dg l x),.bool (decide (dg l x<l.length)&&decide (l[dg l x]! = x))]) []:=by
 have hpl:=tE l x
 obtain⟨n,hn⟩:∃n,n=dg l x:=⟨_,rfl⟩
 obtain⟨r,hr⟩:∃r,r=(decide (dg l x<l.length)&&decide (l[dg l x]! = x)):=⟨_,rfl⟩
 have hlt:∀j,(hj:j<l.length)->l[j]<x->j<n:=fun j hj h1=>hn▸m8 hs hj h1
 have hle:∀j,(hj:j<l.length)->x<=l[j]->n<=j:=fun j hj h1=>hn▸sH hj h1
 rw[<- hn]at hpl ⊢
 rw[<- hn]at hr
 rw[<- hr]
 refine aj hC (nf:=N518) rfl rfl ?_
 simp[N518,bG]
 refine aF (Nat×Nat) (fun s=>[(0,.sl (bG l)),(1,.int .i64 x),(6,.int .i64 l.length),(7,.int .i64 s.1),(8,.int .i64 s.2)]) (fun s=>s.1<=n/\n<=s.2/\s.2<=l.length) (fun s=>s.2-s.1) (0,l.length) (by simp;omega) (by simp[bG]) ?_
 rintro⟨i,j⟩ ⟨h1,h2,h3⟩
 simp only at h1 h2 h3
 simp
 refine ae (fun g=>?_) (fun g=>?_)<;>simp at g<;>simp[g]
 ·obtain⟨m,hm⟩:∃m,m=(i+j)/2:=⟨_,rfl⟩
  have e1:IntKind.wrap .i64 ((i:Int)+(j:Int))=((i+j:Nat):Int):=wrap_i64 (by omega) (by omega)
  obtain⟨s,hsm⟩:∃s,s=i+j:=⟨_,rfl⟩
  rw[<- hsm]at e1 hm
  have e2:Int.fdiv (s:Int) (2^min 1 IntKind.u64.bits)=(m:Int):=by rw[hm];exact nE s 1
  have e3:IntKind.wrap .i64 (m:Int)=(m:Int):=wrap_i64 rfl (by omega)
  have e4:IntKind.wrap .i64 ((m:Int)+1)=((m+1:Nat):Int):=wrap_i64 (by omega) (by omega)
  have hml:m<l.length:=by omega
  simp[e1,bV s (by omega),e2,e3,hml,bG]
  refine aa (yu hC l[m] x) (.inl rfl) ?_
  by_cases hmx:l[m]<x
  ·have:=hlt m hml hmx
   have hi:(l[m]:Int)<x:=by omega
   simp[hmx,e4]
   exact⟨m+1,j,⟨by omega,h2,h3⟩,by omega,by omega,by omega⟩
  ·have:=hle m hml (by omega)
   simp[hmx]
   exact⟨i,m,⟨h1,by omega,by omega⟩,by omega,by omega,by omega⟩
 ·have e0:i=n:=by omega
  subst e0
  by_cases g2:i<l.length
  ·have eg:l[i]! = l[i]:=x0g l i g2
   rw[eg]at hr
   simp[g2,bG]
   by_cases g3:l[i]=x
   ·simp[g3,g2]at hr ⊢
    exact hr
   ·have g3i:¬(l[i]:Int)=x:=by omega
    simp[g3,g3i,g2]at hr ⊢
    refine aa (DS hC _) (.inl rfl) ?_
    simp[hr]
  ·simp[g2]at hr ⊢
   exact hr
end Go.Gv

namespace Go.Gv
def wtA(n:Nat)(f:Nat->Nat):List (List D):=(List.range n).map fun v=>[.int .i64 (f v:Int)]
theorem ja{n v:Nat}(f:Nat->Nat)(h:v<n):(wtA n f)[v]? = some [.int .i64 (f v:Int)]:=by simp[wtA,h]
theorem tY{n v:Nat}(f:Nat->Nat)(x:Nat):(wtA n f).set v [.int .i64 (x:Int)]=wtA n fun u=>if u=v then x else f u:=by
 unfold wtA
 rw[lm]
 apply x0m
 intro u _
 by_cases h:u=v<;>simp[h]
theorem wU{l:List Nat}{j v:Nat}(hj:j<l.length):v∈l.take (j+1)↔v∈l.take j\/v=l[j]:=by
 rw[x0w hj,x0l,x1d]
theorem gI{n:Nat}{f g:Nat->Nat}(h:∀v,v<n->f v=g v):wtA n f=wtA n g:=by
 unfold wtA
 apply x0m
 intro u hu
 rw[h u (by simpa using hu)]
def wt1(n:Nat)(es:List Edg)(i j v:Nat):Nat:=kG es i v+(if v∈(nxt n es i).take j then 1 else 0)
theorem AL{n:Nat}{es:List Edg}{i v:Nat}(hv:v<n):wt1 n es i (nxt n es i).length v=kG es (i+1) v:=by
 unfold wt1
 rw[ur,x1n]
 simp[fP,hv]
theorem x6{n:Nat}{es:List Edg}{i j:Nat}(hj:j<(nxt n es i).length)(v:Nat):wt1 n es i (j+1) v=if v=(nxt n es i)[j] then wt1 n es i j v+1 else wt1 n es i j v:=by
 unfold wt1
 simp only[wU hj]
 have hnd:(nxt n es i)[j]∉(nxt n es i).take j:=by
  intro h
  obtain⟨k,hk,e⟩:=x0C.1 h
  have hk2:k<j:=by simp at hk;omega
  rw[List.getElem_take]at e
  have:=(List.getElem_inj (oK n es i)).1 e
  omega
 by_cases e:v=(nxt n es i)[j]
 ·subst e
  rw[if_pos rfl,if_pos (.inr rfl),if_neg hnd]
 ·rw[if_neg e]
  congr 1
  simp only[e,or_false]
def rd0(n:Nat)(es:List Edg)(i:Nat):List Nat:=(List.range i).filter fun v=>decide (eb n es [] v=0)
theorem ng(n:Nat)(es:List Edg)(i:Nat):rd0 n es (i+1)=rd0 n es i++(if eb n es [] i=0 then [i] else []):=by
 unfold rd0
 rw[List.range_succ,List.filter_append]
 congr 1
 by_cases h:eb n es [] i=0<;>simp[h]
theorem zW{n:Nat}{es:List Edg}(hg:inG n es):rd0 n es n=cO n es []:=by
 unfold rd0 cO
 apply List.filter_congr
 intro v _
 rw[x0z]
 simp[oq hg]
theorem zX(n:Nat)(es:List Edg)(i:Nat):(rd0 n es i).length<=i:=by
 have:=x05 (fun v=>decide (eb n es [] v=0)) (List.range i)
 simpa[rd0]using this
def wt2(n:Nat)(es:List Edg)(out:List Nat)(i j v:Nat):Nat:=if v∈(nxt n es i).take j then eb n es (out++[i]) v else eb n es out v
def rdp(n:Nat)(es:List Edg)(out:List Nat)(i j v:Nat):Bool:=(!out.contains v&&km es out v&&!(v==i))||(((nxt n es i).take j).contains v&&km es (out++[i]) v)
def rd2(n:Nat)(es:List Edg)(out:List Nat)(i j:Nat):List Nat:=(List.range n).filter (rdp n es out i j)
theorem z7(n:Nat)(es:List Edg)(out:List Nat)(i j:Nat):(rd2 n es out i j).length<=n:=by
 have:=x05 (rdp n es out i j) (List.range n)
 simpa[rd2]using this
theorem tB{n:Nat}{es:List Edg}{i j:Nat}(hj:j<(nxt n es i).length):(nxt n es i)[j]∉(nxt n es i).take j:=by
 intro h
 obtain⟨k,hk,e⟩:=x0C.1 h
 have hk2:k<j:=by simp at hk;omega
 rw[List.getElem_take]at e
 have:=(List.getElem_inj (oK n es i)).1 e
 omega
theorem qP{n:Nat}{es:List Edg}{out:List Nat}{i:Nat}{r:List Nat}(h:cO n es out=i::r):rd2 n es out i 0=r:=by
 have hs:(cO n es out).Pairwise (·<·):=List.Pairwise.filter _ x1x
 have hm:∀v,v∈cO n es out↔v=i\/v∈r:=fun v=>by rw[h];simp
 rw[h,List.pairwise_cons]at hs
 refine lQ (List.Pairwise.filter _ x1x) hs.2 fun v=>?_
 have h2:=hm v
 simp only[rd2,rdp,List.mem_filter,x1k,List.take_zero,List.contains_nil,Bool.false_and,Bool.or_false,x0a,x0q,beq_eq_false_iff_ne]
 simp only[cO,List.mem_filter,x1k,x0a,x0q]at h2
 constructor
 ·rintro⟨a,b,c⟩
  rcases h2.1 ⟨a,b⟩with e|e
  ·exact absurd e c
  ·exact e
 ·intro hv
  obtain⟨a,b⟩:=h2.2 (.inr hv)
  refine⟨a,b,?_⟩
  rintro rfl
  have:=hs.1 v hv
  omega
theorem zZ{n:Nat}{es:List Edg}{out:List Nat}(h:lS n es out){i:Nat}{r:List Nat}(hr:cO n es out=i::r):rd2 n es out i (nxt n es i).length=cO n es (out++[i]):=by
 rw[xi h hr]
 unfold rd2 rdp
 rw[x1n]
theorem AM{n:Nat}{es:List Edg}{out:List Nat}{i:Nat}(hi:i<n)(ho:i∉out){v:Nat}(hv:v<n):wt2 n es out i (nxt n es i).length v=eb n es (out++[i]) v:=by
 unfold wt2
 rw[x1n]
 split
 ·rfl
 ·rename_i h
  rw[oo hi ho,if_neg (fun e=>h (fP.2 ⟨hv,e⟩)),x0U]
theorem rr{n:Nat}{es:List Edg}{out:List Nat}{i j:Nat}(hj:j<(nxt n es i).length)(v:Nat):wt2 n es out i (j+1) v=if v=(nxt n es i)[j] then eb n es (out++[i]) v else wt2 n es out i j v:=by
 unfold wt2
 simp only[wU hj]
 by_cases e:v=(nxt n es i)[j]
 ·rw[if_pos e,if_pos (.inr e)]
 ·rw[if_neg e]
  simp only[e,or_false]
theorem qQ{n:Nat}{es:List Edg}{out:List Nat}{i j:Nat}(hj:j<(nxt n es i).length)(v:Nat):rdp n es out i (j+1) v=(rdp n es out i j v||(v==(nxt n es i)[j]&&km es (out++[i]) v)):=by
 unfold rdp
 rw[x0w hj]
 rw[x0z]
 simp only[x0H,x0a,x0G,x0l,x1d,x0o]
 constructor
 ·rintro(h|⟨h|h,h'⟩)
  ·exact .inl (.inl h)
  ·exact .inl (.inr ⟨h,h'⟩)
  ·exact .inr ⟨h,h'⟩
 ·rintro((h|⟨h,h'⟩)|⟨h,h'⟩)
  ·exact .inl h
  ·exact .inr ⟨.inl h,h'⟩
  ·exact .inr ⟨.inr h,h'⟩
theorem xg{n:Nat}{es:List Edg}{out:List Nat}{i j:Nat}(hj:j<(nxt n es i).length)(h:km es (out++[i]) (nxt n es i)[j]=false):rd2 n es out i (j+1)=rd2 n es out i j:=by
 unfold rd2
 apply List.filter_congr
 intro v _
 rw[qQ hj]
 by_cases e:v=(nxt n es i)[j]
 ·subst e;simp[h]
 ·simp[e]
theorem z6{n:Nat}{es:List Edg}{out:List Nat}(hI:lS n es out){i:Nat}{r:List Nat}(hr:cO n es out=i::r){j:Nat}(hj:j<(nxt n es i).length)(h:km es (out++[i]) (nxt n es i)[j]=true) :
  (rd2 n es out i j).take (dg (rd2 n es out i j) (nxt n es i)[j])++(nxt n es i)[j]::(rd2 n es out i j).drop (dg (rd2 n es out i j) (nxt n es i)[j])=rd2 n es out i (j+1):=by
 obtain⟨h1,h2⟩:=fP.1 (x0p hj)
 have hi:i∈cO n es out:=by rw[hr];simp
 obtain⟨i1,i2,i3⟩:=gl.1 hi
 refine sj h1 ?_ (fun v _=>?_)
 ·unfold rdp
  rw[x1G]
  constructor
  ·have:km es out (nxt n es i)[j]=false:=by
    rw[<- x01,ko]
    exact fun h=>i2 (h _ h2)
   simp[this]
  ·have:=tB hj
   simp[this]
 ·rw[qQ hj]
  by_cases e:v=(nxt n es i)[j]
  ·rw[e,h,Bool.and_true]
  ·have e':(v==(nxt n es i)[j])=false:=by simpa using e
   rw[e',Bool.false_and]
theorem zY(n:Nat)(es:List Edg)(out:List Nat)(i j:Nat):(rd2 n es out i j).Pairwise (·<·):=List.Pairwise.filter _ x1x
theorem xh(n:Nat)(es:List Edg)(out:List Nat):(cO n es out).length<=n:=by
 have:=x05 (fun v=>!out.contains v&&km es out v) (List.range n)
 simpa[cO]using this
end Go.Gv

namespace Go.Gv
def ndR(n:Nat)(es:List Edg):List (List D):=(List.range n).map fun v=>[ndD (nxt n es v)]
theorem tz{n v:Nat}(es:List Edg)(h:v<n):(ndR n es)[v]? = some [ndD (nxt n es v)]:=by simp[ndR,h]
theorem RX(n:Nat)(es:List Edg)(i:Nat):wt1 n es i 0=kG es i:=by funext v;simp[wt1]
theorem RY(n:Nat)(es:List Edg)(out:List Nat)(i:Nat):wt2 n es out i 0=eb n es out:=by funext v;simp[wt2]
theorem zK(n:Nat)(es:List Edg):(ndR n es).length=n:=by simp[ndR]
theorem mR{l:List Nat}{j:Nat}(h:j<l.length):(bG l)[j]? = some [.int .i64 (l[j]:Int)]:=by simp[bG,h]
variable{C:CC}(hC:al prog C)
include hC
set_option maxHeartbeats 1000000 in
theorem tC(hS:SlC C){b:Bool}{n:Nat}{es:List Edg}(hn:n<=300)(he:es.length<=1000)(hg:inG n es):C 504 [.int .i64 n,slx b (es.map edK)] (ndD (aX n es)) []:=by
 have kn:=DG hC hS (b:=b) hn he hg
 have enx:DK n es=.sl (ndR n es):=rfl
 rw[enx]at kn
 refine aj hC (nf:=N504) rfl rfl ?_
 simp[N504]
 refine aa kn (.inr rfl) ?_
 simp[zK]
 refine⟨by omega,?_⟩
 refine aF Nat (fun i=>[(5,.sl (ndR n es)),(6,.ref (.r 10096) 0 n),(10096,.blk 1 (wtA n (kG es i))),(25,.sl (ndR n es)),(26,.int .i64 n),(27,.int .i64 i)]) (fun i=>i<=n) (fun i=>n-i) 0 (by simp) (by simp[wtA,kG,md]) ?_
 rintro i hi
 simp
 refine ae (fun h=>?_) (fun h=>?_)<;>simp[h]<;>simp at h
 ·have hw:IntKind.wrap .i64 ((i:Int)+1)=((i+1:Nat):Int):=wrap_i64 (by omega) (by omega)
  have hlen:=tA n es i
  simp[h,bq (tz es h),ndD,bQ]
  refine aF Nat (fun j=>[(5,.sl (ndR n es)),(6,.ref (.r 10096) 0 n),(10096,.blk 1 (wtA n (wt1 n es i j))),(25,.sl (ndR n es)),(26,.int .i64 n),(27,.int .i64 i),(31,.sl (bG (nxt n es i))),(32,.int .i64 (nxt n es i).length),(33,.int .i64 j)]) (fun j=>j<=(nxt n es i).length) (fun j=>(nxt n es i).length-j) 0 (by simp) (by simp[RX,ndD]) ?_
  rintro j hj
  simp
  refine ae (fun g=>?_) (fun g=>?_)<;>simp[g]<;>simp at g
  ·have hw2:IntKind.wrap .i64 ((j:Int)+1)=((j+1:Nat):Int):=wrap_i64 (by omega) (by omega)
   obtain⟨k1,k2⟩:=fP.1 (x0p g)
   have kle:=yB es i (nxt n es i)[j]
   have hwv:IntKind.wrap .i64 ((wt1 n es i j (nxt n es i)[j]:Int)+1)=((wt1 n es i j (nxt n es i)[j]+1:Nat):Int):=wrap_i64 (by omega) (by unfold wt1;split<;>omega)
   simp[g,bq (mR g),k1,aG (ja _ k1),ja _ k1,hwv]
   refine⟨j+1,by omega,by omega,?_,hw2⟩
   have e1:=tY (n:=n) (v:=(nxt n es i)[j]) (wt1 n es i j) (wt1 n es i j (nxt n es i)[j]+1)
   rw[show((wt1 n es i j (nxt n es i)[j]+1:Nat):Int)=(wt1 n es i j (nxt n es i)[j]:Int)+1 by omega]at e1
   rw[e1]
   refine gI fun v _=>?_
   rw[x6 g]
   split
   ·rename_i e;rw[e]
   ·rfl
  ·have ej:j=(nxt n es i).length:=by omega
   subst ej
   simp[hw]
   exact⟨i+1,by omega,by omega,gI fun v hv=>AL hv,by omega⟩
 ·have ei:n=i:=by omega
  subst ei
  clear h hi
  have e0:wtA n (kG es n)=wtA n (eb n es []):=gI fun v _=>vU n es v
  rw[e0]
  refine aF Nat (fun i=>[(5,.sl (ndR n es)),(6,.ref (.r 10096) 0 n),(10096,.blk 1 (wtA n (eb n es []))),(11,.ref (.r 10176) 0 (rd0 n es i).length),(10176,.blk 1 (bG (rd0 n es i))),(12,.ref (.r 10192) 0 0),(10192,.blk 1 []),(45,.ref (.r 10096) 0 n),(46,.int .i64 n),(47,.int .i64 i)]) (fun i=>i<=n) (fun i=>n-i) 0 (by simp) (by simp[rd0,bG]) ?_
  rintro i hi
  simp
  refine ae (fun h=>?_) (fun h=>?_)<;>simp[h]<;>simp at h
  ·have hw:IntKind.wrap .i64 ((i:Int)+1)=((i+1:Nat):Int):=wrap_i64 (by omega) (by omega)
   have hrl:=zX n es i
   simp[h,aG (ja _ h),ja _ h]
   refine ae (fun c=>?_) (fun c=>?_)<;>simp at c<;>simp[c,bQ]
   ·refine⟨by omega,i+1,by omega,by omega,?_,?_,hw⟩
    ·rw[ng,if_pos c];simp
    ·rw[gk,j5,ng,if_pos c]
   ·simp[hw]
    refine⟨i+1,by omega,by omega,?_⟩
    rw[ng,if_neg c,x1v]
    exact⟨rfl,rfl,by omega⟩
  ·have ei:i=n:=by omega
   rw[ei,zW hg]
   clear ei h hi i
   refine aF (Nat×Nat×List (List D)) (fun s=>[(5,.sl (ndR n es)),(6,.ref (.r 10096) 0 n),(10096,.blk 1 (wtA n (eb n es (aO n es s.1)))),(11,.ref (.r 10176) s.2.1 (cO n es (aO n es s.1)).length),(10176,.blk 1 s.2.2),(12,.ref (.r 10192) 0 s.1),(10192,.blk 1 (bG (aO n es s.1)))])
    (fun s=>(aO n es s.1).length=s.1/\s.2.1+(cO n es (aO n es s.1)).length<=s.2.2.length/\(s.2.2.drop s.2.1).take (cO n es (aO n es s.1)).length=bG (cO n es (aO n es s.1))) (fun s=>n-s.1) (0,0,bG (cO n es [])) (by simp[aO,bQ,gk]) (by simp[aO,bG]) ?_
   rintro⟨m,k,B⟩ ⟨hm,hkB,hB⟩
   simp only at hm hkB hB
   simp
   have hI:=gO n es m
   have hmn:=hI.len
   obtain⟨out,hout⟩:∃out,out=aO n es m:=⟨_,rfl⟩
   cases hr:cO n es (aO n es m) with
   | nil =>
    have e1:(bG (aO n es m)).map (fun e=>e.map aU)=bG (aO n es m):=by simp[bG,aU]
    have e2:(bG (aO n es m)).take m=bG (aO n es m):=x0y (by rw[bQ];omega)
    simp[hm]
    rw[e1,e2,zO hm hr]
    exact⟨by rw[bQ];omega,rfl⟩
   | cons i r =>
    have hi:i∈cO n es (aO n es m):=by rw[hr];simp
    obtain⟨i1,i2,i3⟩:=gl.1 hi
    have hrl:=xh n es (aO n es m)
    rw[hr]at hkB hB hrl
    simp only[x0Q]at hkB hB hrl
    have hBk:B[k]? = some [.int .i64 (i:Int)]:=by
     have:=congrArg (fun l=>l[0]?) hB
     simpa[bG]using this
    have hBr:(B.drop (k+1)).take r.length=bG r:=by
     have:=congrArg (fun l=>l.drop 1) hB
     simp only[List.drop_take,List.drop_drop]at this
     simpa[bG]using this
    have hS1:=hI.step hi
    have hsl:=hS1.len
    have eN:=lb hr
    have e2:(bG (aO n es m)).take m=bG (aO n es m):=x0y (by rw[bQ];omega)
    have hlen:=tA n es i
    simp only[x0L,List.length_singleton,hm]at hsl
    simp[aG hBk]
    refine⟨by rw[bQ];omega,by omega,?_⟩
    rw[e2,j5,<- eN]
    simp[bq (tz es i1),ndD,bQ]
    refine aF (Nat×Nat×List (List D)) (fun s=>[(5,.sl (ndR n es)),(6,.ref (.r 10096) 0 n),(10096,.blk 1 (wtA n (wt2 n es (aO n es m) i s.1))),(11,.ref (.r 10176) s.2.1 (rd2 n es (aO n es m) i s.1).length),(10176,.blk 1 s.2.2),(12,.ref (.r 10192) 0 (m+1)),(10192,.blk 1 (bG (aO n es (m+1)))),(74,.sl (bG (nxt n es i))),(75,.int .i64 (nxt n es i).length),(76,.int .i64 s.1)])
     (fun s=>s.1<=(nxt n es i).length/\s.2.1+(rd2 n es (aO n es m) i s.1).length<=s.2.2.length/\(s.2.2.drop s.2.1).take (rd2 n es (aO n es m) i s.1).length=bG (rd2 n es (aO n es m) i s.1)) (fun s=>(nxt n es i).length-s.1) (0,k+1,B) (by simp[qP hr];exact⟨by omega,hBr⟩) (by simp[qP hr,ndD,RY]) ?_
    rintro⟨j,k',B'⟩ ⟨hj,hkB',hB'⟩
    simp only at hj hkB' hB'
    simp
    refine ae (fun g=>?_) (fun g=>?_)<;>simp[g]<;>simp at g
    ·have hw2:IntKind.wrap .i64 ((j:Int)+1)=((j+1:Nat):Int):=wrap_i64 (by omega) (by omega)
     obtain⟨k1,k2⟩:=fP.1 (x0p g)
     have hw0:wt2 n es (aO n es m) i j (nxt n es i)[j]=eb n es (aO n es m++[i]) (nxt n es i)[j]+1:=by
      unfold wt2
      rw[if_neg (tB g),oo i1 i2,if_pos k2]
     have hcl:eb n es (aO n es m++[i]) (nxt n es i)[j]<=n:=by
      have:=x05 (fun u=>es.contains (u,(nxt n es i)[j])&&!(aO n es m++[i]).contains u) (List.range n)
      simpa[eb]using this
     have hwv:IntKind.wrap .i64 ((wt2 n es (aO n es m) i j (nxt n es i)[j]:Int)-1)=(eb n es (aO n es m++[i]) (nxt n es i)[j]:Int):=wrap_i64 (by omega) (by omega)
     have ew:=tY (n:=n) (v:=(nxt n es i)[j]) (wt2 n es (aO n es m) i j) (eb n es (aO n es m++[i]) (nxt n es i)[j])
     have ew2:(wtA n fun u=>if u=(nxt n es i)[j] then eb n es (aO n es m++[i]) (nxt n es i)[j] else wt2 n es (aO n es m) i j u)=wtA n (wt2 n es (aO n es m) i (j+1)):=gI fun v _=>by
      rw[rr g]
      by_cases e:v=(nxt n es i)[j]
      ·rw[if_pos e,if_pos e,e]
      ·rw[if_neg e,if_neg e]
     rw[ew2]at ew
     have hwn:wt2 n es (aO n es m) i (j+1) (nxt n es i)[j]=eb n es (aO n es m++[i]) (nxt n es i)[j]:=by rw[rr g,if_pos rfl]
     simp[g,bq (mR g),k1,aG (ja _ k1),ja _ k1,hwv,ew,hwn]
     have hl2:=z7 n es (aO n es m) i j
     have p0:=oq hg (out:=aO n es m++[i]) (k:=(nxt n es i)[j])
     refine ae (fun c=>?_) (fun c=>?_)<;>simp at c
     ·have pk:=p0.1 c
      have hins:=z6 hI hr g pk
      have kb:=uj hC (rd2 n es (aO n es m) i j) (nxt n es i)[j] (zY n es _ i j) (by omega)
      have hpl:=tE (rd2 n es (aO n es m) i j) (nxt n es i)[j]
      have kI:=hS.insert ((rd2 n es (aO n es m) i j).map fun k:Nat=>(k:Int)) (dg (rd2 n es (aO n es m) i j) (nxt n es i)[j]) (nxt n es i)[j] (by simpa using hpl) (by simp;omega)
      have eI:((((rd2 n es (aO n es m) i j).map fun k:Nat=>(k:Int)).take (dg (rd2 n es (aO n es m) i j) (nxt n es i)[j])++((nxt n es i)[j]:Int)::((rd2 n es (aO n es m) i j).map fun k:Nat=>(k:Int)).drop (dg (rd2 n es (aO n es m) i j) (nxt n es i)[j])).map fun n=>[D.int .i64 n])=bG (rd2 n es (aO n es m) i (j+1)):=by
       rw[<- hins]
       simp[bG]
       rfl
      rw[eI,<- kP]at kI
      have e4:(bG (rd2 n es (aO n es m) i j)).map (fun e=>e.map aU)=bG (rd2 n es (aO n es m) i j):=by simp[bG,aU]
      have e5:(((B'.drop k').take (rd2 n es (aO n es m) i j).length).map fun e=>e.map aU)=bG (rd2 n es (aO n es m) i j):=by rw[hB',e4]
      simp[hkB']
      simp at e5
      rw[e5]
      refine aa kb (.inl rfl) ?_
      simp[hkB',hB']
      refine⟨fun e he=>(pz e he).2,?_⟩
      refine ta kI pz ?_
      simp[hw2,bQ]
      exact⟨j+1,0,bG (rd2 n es (aO n es m) i (j+1)),⟨by omega,by simp[bQ],by simp[gk]⟩,by omega,by simp⟩
     ·have pk:km es (aO n es m++[i]) (nxt n es i)[j]=false:=by
       rw[<- x01]
       exact fun e=>c (p0.2 e)
      have hsame:=xg g pk
      simp[hw2]
      exact⟨j+1,k',B',⟨by omega,by rw[hsame];exact hkB',by rw[hsame];exact hB'⟩,by omega,by simp[hsame]⟩
    ·have ej:j=(nxt n es i).length:=by omega
     subst ej
     have er:=zZ hI hr
     rw[<- eN]at er
     rw[er]at hkB' hB' ⊢
     exact⟨m+1,k',B',⟨by rw[eN];simp[hm],hkB',hB'⟩,by omega,gI fun v hv=>by rw[AM i1 i2 hv,eN],by simp⟩
end Go.Gv

namespace Go.Gv
def w8(n:Nat)(es:List Edg):Int:=if (aX n es).length<n then 22 else 0
def w9(n:Nat)(es:List Edg):D:=if (aX n es).length<n then .nils else ndD (aX n es)
def dE(n:Nat)(es:List Edg):Bool:=decide ((es.map (·.1)).Nodup)&&decide ((aX n es).length=n)
def lp(es:List Edg)(j:Nat):List Nat:=(es.take j).map (·.1)
theorem lq{es:List Edg}{j:Nat}(h:j<es.length):lp es (j+1)=lp es j++[es[j].1]:=by
 unfold lp
 rw[x0w h,x1p]
 rfl
@[simp] theorem RT(es:List Edg):lp es 0=[]:=rfl
theorem xO(es:List Edg):lp es es.length=es.map (·.1):=by simp[lp]
theorem AE{es:List Edg}{j:Nat}(h:¬(lp es j).Nodup):¬(es.map (·.1)).Nodup:=by
 intro h2
 apply h
 unfold lp
 rw[List.map_take]
 exact h2.sublist (List.take_sublist _ _)
def edT(es:List Edg)(j:Nat):List (List D):=(es.take j).map edK
theorem we{es:List Edg}{j:Nat}(h:j<es.length):edT es (j+1)=edT es j++[edK es[j]]:=by
 unfold edT
 rw[x0w h,x1p]
 rfl
@[simp] theorem R2(es:List Edg):edT es 0=[]:=rfl
theorem tc{es:List Edg}{j:Nat}(h:j<=es.length):(edT es j).length=j:=by simp[edT];omega
theorem yH(es:List Edg):edT es es.length=es.map edK:=by simp[edT]
theorem IM(es:List Edg)(j:Nat):(edT es j).map (fun e=>e.map aU)=edT es j:=by
 unfold edT
 rw[List.map_map]
 apply x0m
 intro e _
 simp[edK,knD,aU]
def nD(n:Nat)(es:List Edg)(j:Nat):List (List D):=(List.range n).map fun v=>[.bool (decide (v∈lp es j))]
theorem ll{n v:Nat}(es:List Edg)(j:Nat)(h:v<n):(nD n es j)[v]? = some [.bool (decide (v∈lp es j))]:=by simp[nD,h]
def aK(ns:List Nod)(ls:List Lnk):List Edg:=ls.map fun l=>((bk (bi l.src) ns).toNat,(bk (bi l.dst) ns).toNat)
theorem ee(ns:List Nod)(ls:List Lnk):(aK ns ls).length=ls.length:=by simp[aK]
theorem dB{ns:List Nod}{ls:List Lnk}(h:b9 ns ls=true):ns.length<=300/\ls.length<=400:=by
 simp only[b9,x0a,x0d]at h
 exact⟨h.1.1.1,h.1.1.2⟩
theorem kX{ns:List Nod}{ls:List Lnk}(h:b9 ns ls=true){i:Nat}(hi:i<ls.length):cj ls[i]=true/\bk (mU ls[i].name) ls=(i:Int)/\0<=bk (bi ls[i].src) ns/\0<=bk (bi ls[i].dst) ns:=by
 simp only[b9,x0a,x0f,x1k]at h
 have:=h.2 i hi
 simp only[fy,x0g ls i hi,jq,x0a,x0d]at this
 exact⟨this.1.1.1,this.1.1.2,this.1.2.1,this.2⟩
theorem gm{ns:List Nod}{ls:List Lnk}(h:b9 ns ls=true){i:Nat}(hi:i<ns.length):gn ns[i]=true/\bk (bi ns[i].name) ns=(i:Int):=by
 simp only[b9,x0a,x0f,x1k]at h
 have:=h.1.2 i hi
 simpa only[j9,x0g ns i hi,x0a,x0d]using this
theorem jU{ns:List Nod}{ls:List Lnk}(h:b9 ns ls=true):inG ns.length (aK ns ls):=by
 intro e he
 simp only[aK,x0s]at he
 obtain⟨l,hl,rfl⟩:=he
 obtain⟨i,hi,rfl⟩:=x0C.1 hl
 obtain⟨_,_,h1,h2⟩:=kX h hi
 exact⟨j0 h1,j0 h2⟩
variable{C:CC}(hC:al prog C)
include hC
theorem wC(hS:SlC C){b:Bool}{n:Nat}{es:List Edg}(hn:n<=300)(he:es.length<=1000)(hg:inG n es):C 511 [.int .i64 n,slx b (es.map edK)] (.tup [w9 n es,.int .i64 (w8 n es)]) []:=by
 have k1:=qp hC b n (es.map edI) (by simp;omega)
 rw[<- tb,wB hC hn he hg]at k1
 have k2:=tC hC hS (b:=b) hn he hg
 refine aj hC (nf:=N511) rfl rfl ?_
 simp[N511]
 refine aa k1 (.inl rfl) ?_
 simp
 refine aa k2 (.inr rfl) ?_
 unfold w9 w8
 simp[ndD,bQ]
 refine ae (fun c=>?_) (fun c=>?_)<;>simp at c<;>simp[c]
theorem y4(hS:SlC C){b:Bool}{n:Nat}{es:List Edg}(hn:n<=300)(he:es.length<=1000)(hg:inG n es):C 472 [.int .i64 n,slx b (es.map edK)] (.bool (dE n es)) []:=by
 have k1:=qp hC b n (es.map edI) (by simp;omega)
 rw[<- tb,wB hC hn he hg]at k1
 have k2:=tC hC hS (b:=b) hn he hg
 obtain⟨r,hr⟩:∃r,r=dE n es:=⟨_,rfl⟩
 rw[<- hr]
 unfold dE at hr
 refine aj hC (nf:=N472) rfl rfl ?_
 simp[N472]
 refine aa k1 (.inl rfl) ?_
 simp
 refine⟨by omega,?_⟩
 refine aF Nat (fun j=>[(0,.int .i64 n),(1,slx b (es.map edK)),(5,.ref (.r 10080) 0 n),(10080,.blk 1 (nD n es j)),(14,slx b (es.map edK)),(15,.int .i64 es.length),(16,.int .i64 j)]) (fun j=>j<=es.length/\(lp es j).Nodup) (fun j=>es.length-j) 0 (by simp) (by simp[nD,md]) ?_
 rintro j ⟨hj,hnd⟩
 simp
 refine ae (fun h=>?_) (fun h=>?_)<;>simp[h]<;>simp at h
 ·have hw:IntKind.wrap .i64 ((j:Int)+1)=((j+1:Nat):Int):=wrap_i64 (by omega) (by omega)
  have hin:=hg _ (x0p h)
  simp[h,edK,knD,hin,aG (ll es j hin.1),ll es j hin.1]
  refine ae (fun c=>?_) (fun c=>?_)<;>simp at c
  ·have hbad:¬(lp es (j+1)).Nodup:=by
    rw[lq h,x1u]
    rintro⟨_,_,h3⟩
    exact h3 _ c _ (by simp) rfl
   simp[hr,AE hbad]
  ·have e1:(nD n es j).set es[j].1 [.bool true]=nD n es (j+1):=by
    unfold nD
    rw[lm]
    apply x0m
    intro v _
    rw[lq h]
    by_cases e:v=es[j].1
    ·subst e;simp
    ·simp[e]
   have hnd2:(lp es (j+1)).Nodup:=by
    rw[lq h,x1u]
    refine⟨hnd,by simp,fun a ha b hb=>?_⟩
    simp at hb
    subst hb
    rintro rfl
    exact c ha
   simp[hin,ll es j hin.1,e1,hw]
   exact⟨j+1,⟨by omega,hnd2⟩,by omega,rfl,by omega⟩
 ·have ej:j=es.length:=by omega
  rw[ej,xO]at hnd
  refine aa k2 (.inr rfl) ?_
  simp[ndD,bQ,hr,hnd]
  omega
theorem qJ(b1 b2:Bool)(ns:List Nod)(ls:List Lnk)(hv:b9 ns ls=true):C 499 [.agg [slx b1 (ns.map a8),slx b2 (ls.map aJ)]] (.sl ((aK ns ls).map edK)) []:=by
 obtain⟨hl1,hl2⟩:=dB hv
 refine aj hC (nf:=N499) rfl rfl ?_
 simp[N499]
 refine aF Nat (fun j=>[(1,.ptr [slx b1 (ns.map a8),slx b2 (ls.map aJ)]),(3,.ref (.r 10048) 0 j),(10048,.blk 2 (edT (aK ns ls) j)),(7,slx b2 (ls.map aJ)),(8,.int .i64 ls.length),(9,.int .i64 j)]) (fun j=>j<=ls.length) (fun j=>ls.length-j) 0 (by simp) (by simp) ?_
 rintro j hj
 simp
 refine ae (fun h=>?_) (fun h=>?_)<;>simp[h]<;>simp at h
 ·have hw:IntKind.wrap .i64 ((j:Int)+1)=((j+1:Nat):Int):=wrap_i64 (by omega) (by omega)
  obtain⟨_,_,g1,g2⟩:=kX hv h
  have k1:=kZ hC b1 b2 ns ls ls[j].src (by omega)
  have k2:=kZ hC b1 b2 ns ls ls[j].dst (by omega)
  have hjl:j<(aK ns ls).length:=by rw[ee];exact h
  have el:=tc (es:=aK ns ls) (j:=j) (by omega)
  simp[h,aJ,el]
  refine aa k1 (.inl rfl) ?_
  simp
  refine aa k2 (.inl rfl) ?_
  simp[el]
  refine⟨by omega,aw (by decide +kernel),j+1,by omega,by omega,rfl,?_,hw⟩
  have e2:(edT (aK ns ls) j).take j=edT (aK ns ls) j:=x0y (by omega)
  rw[e2,we hjl]
  congr 2
  simp only[aK,List.getElem_map,edK,knD]
  rw[Int.toNat_of_nonneg g1,Int.toNat_of_nonneg g2]
 ·have ej:j=ls.length:=by omega
  subst ej
  have e0:=yH (aK ns ls)
  have el:=tc (es:=aK ns ls) (j:=ls.length) (by rw[ee];exact x0r _)
  rw[ee]at e0
  simp[IM,el]
  rw[<- e0,x0y (by omega)]
theorem mr(b1 b2:Bool)(ns:List Nod)(ls:List Lnk)(hcv:∀l∈ls,l.curve.length<2^62):C 471 [.agg [slx b1 (ns.map a8),slx b2 (ls.map aJ)]] (.tup (if b9 ns ls then [.sl ((aK ns ls).map edK),.int .i64 0] else [.nils,.int .i64 1])) []:=by
 refine aj hC (nf:=N471) rfl rfl ?_
 simp[N471]
 refine aa (j7 hC b1 b2 ns ls hcv) (.inl rfl) ?_
 cases hv:b9 ns ls
 ·simp
 ·simp
  refine aa (qJ hC b1 b2 ns ls hv) (.inr rfl) ?_
  simp
theorem vy(hS:SlC C)(b1 b2:Bool)(ns:List Nod)(ls:List Lnk)(hcv:∀l∈ls,l.curve.length<2^62):C 495 [.agg [slx b1 (ns.map a8),slx b2 (ls.map aJ)]] (.tup (if b9 ns ls then [w9 ns.length (aK ns ls),.int .i64 (w8 ns.length (aK ns ls))] else [.nils,.int .i64 1])) []:=by
 refine aj hC (nf:=N495) rfl rfl ?_
 simp[N495]
 refine aa (j7 hC b1 b2 ns ls hcv) (.inl rfl) ?_
 cases hv:b9 ns ls
 ·simp
 ·obtain⟨l1,l2⟩:=dB hv
  have k:=wC hC hS (b:=false) (n:=ns.length) (es:=aK ns ls) l1 (by rw[ee];omega) (jU hv)
  simp
  refine aa (qJ hC b1 b2 ns ls hv) (.inr rfl) ?_
  simp at k ⊢
  refine aa k (.inr rfl) ?_
  unfold w9 w8 ndD
  split<;>simp
  ·exact⟨aw (by decide +kernel),by omega⟩
  ·exact⟨aw (by decide +kernel),by omega⟩
theorem uU(l:Lnk):C 470 [.agg (aJ l)] (.bool (!decide (l.kind=1))) []:=by
 refine aj hC (nf:=N470) rfl rfl ?_
 simp[N470,aJ]
theorem mL{b:Bool}{xs:List Lnk}{g:Nat}{cs:List D}(p:Lnk->Bool)(hs:xs.length<2^62)(hp:∀x∈xs,C g (.agg (aJ x)::cs) (.bool (p x)) []):C 455 [slx b (xs.map fun x=>aJ x),.fn g cs] (.bool (xs.any p)) []:=by
 refine aj hC (nf:=N455) rfl rfl ?_
 simp[N455]
 refine aa (qr hC p hs hp) (.inl rfl) ?_
 simp[eu]
theorem wG{b:Bool}{xs:List Nod}{g:Nat}{cs:List D}(p:Nod->Bool)(hs:xs.length<2^62)(hp:∀x∈xs,C g (.agg (a8 x)::cs) (.bool (p x)) []):C 453 [slx b (xs.map fun x=>a8 x),.fn g cs] (.bool (xs.any p)) []:=by
 refine aj hC (nf:=N453) rfl rfl ?_
 simp[N453]
 refine aa (mQ hC p hs hp) (.inl rfl) ?_
 simp[eu]
def c9(ns:List Nod)(ls:List Lnk):Bool:=b9 ns ls&&ls.all (fun l=>decide (l.kind=1))&&dE ns.length (aK ns ls)
theorem tJ(hS:SlC C)(b1 b2:Bool)(ns:List Nod)(ls:List Lnk)(hl:ls.length<2^62)(hcv:∀l∈ls,l.curve.length<2^62):C 433 [.agg [slx b1 (ns.map a8),slx b2 (ls.map aJ)]] (.bool (c9 ns ls)) []:=by
 have k1:=mL hC (b:=b2) (xs:=ls) (g:=470) (cs:=[]) (fun l=>!decide (l.kind=1)) hl (fun x _=>uU hC x)
 have k2:=mr hC b1 b2 ns ls hcv
 have e1:(ls.any fun l=>!decide (l.kind=1))=!(ls.all fun l=>decide (l.kind=1)):=by simp[List.any_eq_not_all_not]
 rw[e1]at k1
 refine aj hC (nf:=N433) rfl rfl ?_
 simp[N433]
 refine aa k1 (.inl rfl) ?_
 unfold c9
 cases h1:ls.all (fun l=>decide (l.kind=1))
 ·simp
 simp
 cases hv:b9 ns ls
 ·rw[hv]at k2
  refine aa k2 (.inr rfl) ?_
  simp
 ·rw[hv]at k2
  obtain⟨l1,l2⟩:=dB hv
  have k:=y4 hC hS (b:=false) (n:=ns.length) (es:=aK ns ls) l1 (by rw[ee];omega) (jU hv)
  refine aa k2 (.inr rfl) ?_
  simp at k ⊢
  refine aa k (.inl rfl) ?_
  simp
end Go.Gv

namespace Go.Gv
abbrev Sp:=Int×Int
def rU(n:Int):Bool:=decide (-72057594037927936<=n)&&decide (n<=72057594037927936)
def cA(s:Sp):Bool:=decide (s.1<=s.2)&&rU s.1&&rU s.2
def jI(s:Sp):Bool:=decide (s.1<0)||decide (1099511627776<s.2)
def gT(l:List Sp)(count:Int):Int:=if l.any (fun s=>!cA s) then 1 else if (l.length:Int)=count then(if l.any jI then 2 else 0) else 3
def vj(a b:Sp):Sp:=(IntKind.wrap .i64 (a.1+b.1),IntKind.wrap .i64 (a.2+b.2))
abbrev FSt:=(Nat->Sp)×(Nat->Sp)
def lB(i k:Nat)(e:Edg)(s:FSt):FSt:=if e.1=i then(fun v=>if v=e.2 then vj (s.1 e.2) (s.1 i) else s.1 v,fun q=>if q=k then s.1 i else s.2 q) else s
def flI(es:List Edg)(i:Nat)(s:FSt):Nat->FSt
 | 0=>s
 | k+1=>lB i k es[k]! (flI es i s k)
def flO(es:List Edg)(ord:List Nat)(s:FSt):Nat->FSt
 | 0=>s
 | m+1=>flI es ord[m]! (flO es ord s m) es.length
def flS(l:List Sp):FSt:=(fun v=>l[v]!,fun _=>(0,0))
def aE(n:Nat)(es:List Edg)(l:List Sp):List Sp:=(List.range es.length).map (flO es (aX n es) (flS l) (aX n es).length).2
def pd(l:List Sp):Bool:=l.any fun s=>decide (1099511627776<s.2)
def bZ(n:Nat)(es:List Edg)(l:List Sp):Int:=if pd (aE n es l) then 5 else 0
def rV(n:Nat)(es:List Edg)(l:List Sp):D:=if pd (aE n es l) then .nils else .sl ((aE n es l).map knD)
def spR(n:Nat)(f:Nat->Sp):List (List D):=(List.range n).map fun v=>knD (f v)
theorem D1(n:Nat)(f:Nat->Sp):spR n f=((List.range n).map f).map knD:=by simp[spR]
theorem BQ(n:Nat)(f:Nat->Sp):(spR n f).map (fun e=>e.map aU)=spR n f:=by
 unfold spR
 rw[List.map_map]
 apply x0m
 intro v _
 simp[knD,aU]
theorem kq(n:Nat)(f:Nat->Sp):(spR n f).length=n:=by simp[spR]
theorem mg{n v:Nat}(f:Nat->Sp)(h:v<n):(spR n f)[v]? = some [.int .i64 (f v).1,.int .i64 (f v).2]:=by simp[spR,h,knD]
theorem tP{n v:Nat}(f:Nat->Sp)(x:Sp):(spR n f).set v [.int .i64 x.1,.int .i64 x.2]=spR n fun u=>if u=v then x else f u:=by
 unfold spR
 rw[lm]
 apply x0m
 intro u _
 by_cases h:u=v<;>simp[h,knD]
variable{C:CC}(hC:al prog C)
include hC
theorem wv(n:Int):C 510 [.int .i64 n] (.bool (rU n)) []:=by
 refine aj hC (nf:=N510) rfl rfl ?_
 simp[N510,rU]
 refine ae (fun h=>?_) (fun h=>?_)<;>simp at h<;>simp[h]
 intro _;omega
theorem pN(s:Sp):C 493 [.agg (knD s)] (.bool (cA s)) []:=by
 refine aj hC (nf:=N493) rfl rfl ?_
 simp[N493,knD]
 refine ae (fun h=>?_) (fun h=>?_)<;>simp at h<;>simp[h]
 ·refine aa (wv hC s.1) (.inl rfl) ?_
  cases h1:rU s.1
  ·simp[cA,h1]
  ·simp
   refine aa (wv hC s.2) (.inl rfl) ?_
   simp[cA,h1,h]
 ·simp[cA,show ¬s.1<=s.2 by omega]
theorem Ax(s:Sp):C 492 [.agg (knD s)] (.bool (!cA s)) []:=by
 have k:=pN hC s
 simp only[knD]at k
 refine aj hC (nf:=N492) rfl rfl ?_
 simp[N492,knD]
 refine aa k (.inl rfl) ?_
 simp
theorem D2(s:Sp):C 494 [.agg (knD s)] (.bool (jI s)) []:=by
 refine aj hC (nf:=N494) rfl rfl ?_
 simp[N494,knD,jI]
 by_cases h:s.1<0<;>simp[h]
theorem Ay(s:Sp):C 497 [.agg (knD s)] (.bool (decide (1099511627776<s.2))) []:=by
 refine aj hC (nf:=N497) rfl rfl ?_
 simp[N497,knD]
theorem za{b:Bool}{xs:List (Int×Int)}{g:Nat}{cs:List D}(p:(Int×Int)->Bool)(hs:xs.length<2^62)(hp:∀x∈xs,C g (.agg (knD x)::cs) (.bool (p x)) []):C 509 [slx b (xs.map fun x=>knD x),.fn g cs] (.int .i64 (bk p xs)) []:=by
 refine aj hC (nf:=N509) rfl rfl ?_
 simp[N509]
 refine aF Nat (fun i=>[(0,slx b (xs.map fun x=>knD x)),(1,.fn g cs),(7,.int .i64 xs.length),(8,.int .i64 i)]) (fun i=>i<=xs.length/\∀(j:Nat) (h:j<xs.length),j<i->p xs[j]=false) (fun i=>xs.length-i) 0 (by simp) (by simp) ?_
 rintro i ⟨hi,hj⟩
 simp
 refine ae (fun h=>?_) (fun h=>?_)<;>simp[h]<;>simp at h
 ·have hw:IntKind.wrap .i64 ((i:Int)+1)=((i+1:Nat):Int):=wrap_i64 (by omega) (by omega)
  have hc:=hp _ (x0p h)
  simp[h,knD]at hc ⊢
  refine aa hc (.inl rfl) ?_
  simp
  refine ae (fun h1=>?_) (fun h1=>?_)<;>simp[h1,hw]
  ·rw[cQ hj h h1]
  ·refine⟨i+1,⟨by omega,fun j hl hjj=>?_⟩,by omega,rfl⟩
   rcases x0D.1 hjj with h2|rfl
   ·exact hj j hl h2
   ·exact h1
 ·rw[dA (fun j hl=>hj j hl (by omega))]
theorem gL{b:Bool}{xs:List (Int×Int)}{g:Nat}{cs:List D}(p:(Int×Int)->Bool)(hs:xs.length<2^62)(hp:∀x∈xs,C g (.agg (knD x)::cs) (.bool (p x)) []):C 491 [slx b (xs.map fun x=>knD x),.fn g cs] (.bool (xs.any p)) []:=by
 refine aj hC (nf:=N491) rfl rfl ?_
 simp[N491]
 refine aa (za hC p hs hp) (.inl rfl) ?_
 simp[eu]
theorem AB(b:Bool)(l:List Sp)(count:Int)(hl:l.length<2^62):C 460 [slx b (l.map knD),.int .i64 count] (.int .i64 (gT l count)) []:=by
 have k1:=gL hC (b:=b) (xs:=l) (g:=492) (cs:=[]) (fun s=>!cA s) hl (fun x _=>Ax hC x)
 have k2:=gL hC (b:=b) (xs:=l) (g:=494) (cs:=[]) jI hl (fun x _=>D2 hC x)
 refine aj hC (nf:=N460) rfl rfl ?_
 simp[N460]
 refine aa k1 (.inl rfl) ?_
 unfold gT
 cases h1:l.any (fun s=>!cA s)
 ·simp
  by_cases h2:(l.length:Int)=count
  ·simp[h2]
   refine aa k2 (.inl rfl) ?_
   cases h3:l.any jI<;>simp[h2]
  ·simp[h2]
 ·simp
theorem uo(b:Bool)(l:List Sp)(hl:l.length<2^40):C 496 [slx b (l.map knD)] .any [.own 2 (l.map knD)]:=by
 have hf:∀e∈l.map knD,e.length=2/\(∀c∈e,az c=true)/\∀c∈e,bl c=true:=by
  intro e he
  obtain⟨s,_,rfl⟩:=x0s.1 he
  simp[knD,az,bl]
 cases l with
 | nil =>
  cases b with
  | true =>
   show C 496 [.nils] .any [.own 2 []]
   refine pO hC (nf:=N496) rfl rfl ?_
   simp[N496]
  | false =>
   show C 496 [.sl []] .any [.own 2 []]
   refine pO hC (nf:=N496) rfl rfl ?_
   simp[N496]
 | cons x xs =>
  have e:slx b ((x::xs).map knD)=.sl ((x::xs).map knD):=by cases b<;>rfl
  rw[e]
  obtain⟨l,hl2⟩:∃l,l=(x::xs).map knD:=⟨_,rfl⟩
  have h:0<l.length:=by rw[hl2];simp
  have h2:l.length<1099511627776:=by rw[hl2];simpa using hl
  rw[<- hl2]at hf ⊢
  clear hl2 e hl
  refine pO hC (nf:=N496) rfl rfl ?_
  simp[N496]
  refine⟨fun _=>⟨fun e he=>⟨(hf e he).1,(hf e he).2.1⟩,by omega,fun e he=>(hf e he).2.2⟩,fun h0=>?_⟩
  subst h0
  simp at h
set_option maxRecDepth 20000 in
set_option maxHeartbeats 2000000 in
theorem xw(hS:SlC C)(b1 b2 b:Bool)(ns:List Nod)(ls:List Lnk)(l:List Sp)(hcv:∀l∈ls,l.curve.length<2^62)(ht:c9 ns ls=true)(hl:l.length=ns.length):C 461 [.agg [slx b1 (ns.map a8),slx b2 (ls.map aJ)],slx b (l.map knD)] (.tup [rV ns.length (aK ns ls) l,.int .i64 (bZ ns.length (aK ns ls) l)]) []:=by
 simp only[c9,dE,x0a,x0d]at ht
 obtain⟨⟨hv,_⟩,_,hlen⟩:=ht
 obtain⟨l1,l2⟩:=dB hv
 have k1:=vy hC hS b1 b2 ns ls hcv
 have k2:=mr hC b1 b2 ns ls hcv
 have k3:=uo hC b l (by omega)
 have hg:=jU hv
 have hel:=ee ns ls
 rw[hv]at k1 k2
 rw[w9,w8,hlen,if_neg (Nat.lt_irrefl _),if_neg (Nat.lt_irrefl _)]at k1
 simp only[if_true]at k1 k2
 refine aj hC (nf:=N461) rfl rfl ?_
 simp[N461]
 refine aa k1 (.inr rfl) ?_
 simp[ndD]
 refine aa k2 (.inr rfl) ?_
 have hfv:aE ns.length (aK ns ls) l=(List.range (aK ns ls).length).map (flO (aK ns ls) (aX ns.length (aK ns ls)) (flS l) ns.length).2:=by unfold aE;rw[hlen]
 have hI:=gO ns.length (aK ns ls) ns.length
 have hIl:∀v∈aX ns.length (aK ns ls),v<ns.length:=hI.lt
 clear hI
 unfold rV bZ
 rw[hfv]
 clear hfv
 generalize aX ns.length (aK ns ls)=ord at *
 generalize aK ns ls=es at *
 generalize ns.length=n at *
 simp[<- hel]
 refine⟨by omega,?_⟩
 refine oi k3 ?_
 simp[hl]
 refine aF Nat (fun m=>[(8,.sl (es.map edK)),(9,.ref (.r 10144) 0 es.length),(10144,.blk 2 (spR es.length (flO es ord (flS l) m).2)),(10,.ref (.r 10160) 0 n),(10160,.blk 2 (spR n (flO es ord (flS l) m).1)),(38,.sl (bG ord)),(39,.int .i64 n),(40,.int .i64 m)]) (fun m=>m<=n) (fun m=>n-m) 0 (by simp) (by
  simp[flO,flS,hl,bQ,hlen]
  refine⟨by simp[spR,md,knD],?_⟩
  apply List.ext_getElem
  ·simp[spR,hl]
  ·intro i h1 h2
   have:i<l.length:=by simpa using h1
   simp[spR,this]) ?_
 rintro m hm
 simp
 refine ae (fun h=>?_) (fun h=>?_)<;>simp[h]<;>simp at h
 ·have hw:IntKind.wrap .i64 ((m:Int)+1)=((m+1:Nat):Int):=wrap_i64 (by omega) (by omega)
  have hmo:m<ord.length:=by omega
  have hin:=hIl _ (x0p hmo)
  simp[bq (mR hmo)]
  refine aF Nat (fun k=>[(8,.sl (es.map edK)),(9,.ref (.r 10144) 0 es.length),(10144,.blk 2 (spR es.length (flI es ord[m] (flO es ord (flS l) m) k).2)),(10,.ref (.r 10160) 0 n),(10160,.blk 2 (spR n (flI es ord[m] (flO es ord (flS l) m) k).1)),(12,.int .i64 ord[m]),(38,.sl (bG ord)),(39,.int .i64 n),(40,.int .i64 m),(44,.sl (es.map edK)),(45,.int .i64 es.length),(46,.int .i64 k)]) (fun k=>k<=es.length) (fun k=>es.length-k) 0 (by simp) (by simp[flI]) ?_
  rintro k hk
  simp
  refine ae (fun g=>?_) (fun g=>?_)<;>simp[g]<;>simp at g
  ·have hw2:IntKind.wrap .i64 ((k:Int)+1)=((k+1:Nat):Int):=wrap_i64 (by omega) (by omega)
   have he:=hg _ (x0p g)
   have eg:es[k]! = es[k]:=x0g es k g
   have efl:flI es ord[m] (flO es ord (flS l) m) (k+1)=lB ord[m] k es[k] (flI es ord[m] (flO es ord (flS l) m) k):=by rw[flI,eg]
   generalize flI es ord[m] (flO es ord (flS l) m) k=s at *
   simp[g,edK,knD]
   refine ae (fun c=>?_) (fun c=>?_)<;>simp at c<;>simp[c]
   ·have c':es[k].1≠ord[m]:=by omega
    have e2:flI es ord[m] (flO es ord (flS l) m) (k+1)=s:=by rw[efl,lB,if_neg c']
    refine⟨k+1,by omega,by omega,?_⟩
    simp[e2,hw2]
   ·have eg2:es[k]=es[k]?.getD default:=by simp[g]
    have c':es[k].1=ord[m]:=by omega
    have e2:flI es ord[m] (flO es ord (flS l) m) (k+1)=(fun v=>if v=es[k].2 then vj (s.1 es[k].2) (s.1 ord[m]) else s.1 v,fun q=>if q=k then s.1 ord[m] else s.2 q):=by rw[efl,lB,if_pos c']
    simp[g,edK,knD,hin,he,aG (mg _ hin),mg _ g,aG (mg _ he.2),mg _ he.2]
    have hset:∀x,((spR n s.1).set es[k].2 x)[es[k].2]? = some x:=fun x=>by simp[kq,he.2]
    simp[hset]
    refine⟨aw (by decide +kernel),?_⟩
    simp[hw2]
    refine⟨k+1,by omega,by omega,?_,?_,by omega⟩
    ·rw[e2,tP]
    ·rw[e2]
     have:=tP (n:=n) (v:=es[k].2) s.1 (vj (s.1 es[k].2) (s.1 ord[m]))
     exact this
  ·have ek:k=es.length:=by omega
   subst ek
   have eo:ord[m]! = ord[m]:=x0g ord m hmo
   have e2:flO es ord (flS l) (m+1)=flI es ord[m] (flO es ord (flS l) m) es.length:=by rw[flO,eo]
   exact⟨m+1,by omega,by omega,by rw[e2],by rw[e2],hw⟩
 ·have em:m=n:=by omega
  subst em
  have k4:=gL hC (b:=false) (xs:=(List.range es.length).map (flO es ord (flS l) m).2) (g:=497) (cs:=[]) (fun s=>decide (1099511627776<s.2)) (by simp;omega) (fun x _=>Ay hC x)
  rw[iZ,<- D1]at k4
  simp only[BQ,kq,x0y (Nat.le_of_eq (kq es.length (flO es ord (flS l) m).2))]
  refine⟨x0r _,?_⟩
  refine aa k4 (.inl rfl) ?_
  show dW _ _ _ _ _ _ _ _ _ (.bool (pd ((List.range es.length).map (flO es ord (flS l) m).2)))
  cases hb:pd ((List.range es.length).map (flO es ord (flS l) m).2)
  ·simp[BQ,kq]
   rw[x0y (by rw[kq];exact x0r _)]
   simp[spR]
  ·simp
def mq(ns:List Nod)(ls:List Lnk)(l:List Sp):Int:=if c9 ns ls then(if gT l ns.length=0 then bZ ns.length (aK ns ls) l else gT l ns.length) else 1
def rB(ns:List Nod)(ls:List Lnk)(l:List Sp):D:=if mq ns ls l=0 then .sl ((aE ns.length (aK ns ls) l).map knD) else .nils
theorem xN{l:List Sp}{n:Nat}(h:gT l n=0):l.length=n:=by
 unfold gT at h
 split at h
 ·cases h
 ·split at h
  ·omega
  ·cases h
theorem yk(hS:SlC C)(b1 b2 b:Bool)(ns:List Nod)(ls:List Lnk)(l:List Sp)(hls:ls.length<2^62)(hl:l.length<2^62)(hcv:∀l∈ls,l.curve.length<2^62):C 428 [.agg [slx b1 (ns.map a8),slx b2 (ls.map aJ)],slx b (l.map knD)] (.tup [rB ns ls l,.int .i64 (mq ns ls l)]) []:=by
 have k1:=tJ hC hS b1 b2 ns ls hls hcv
 have k2:=AB hC b l ns.length hl
 refine aj hC (nf:=N428) rfl rfl ?_
 simp[N428]
 refine aa k1 (.inl rfl) ?_
 unfold rB mq
 cases ht:c9 ns ls
 ·simp
 simp
 refine aa k2 (.inl rfl) ?_
 by_cases h0:gT l ns.length=0
 ·have k3:=xw hC hS b1 b2 b ns ls l hcv ht (xN hC h0)
  simp[h0]
  unfold rV bZ at k3
  unfold bZ
  refine aa k3 (.inr rfl) ?_
  cases hb:pd (aE ns.length (aK ns ls) l)<;>simp[h0]
 ·simp[h0]
end Go.Gv

namespace Go.Gv
def wS(s:Sp):Sp:=(IntKind.wrap .i64 s.1,IntKind.wrap .i64 s.2)
def adS(a b:Sp):Sp:=(a.1+b.1,a.2+b.2)
theorem x4(a b:Int):IntKind.wrap .i64 (IntKind.wrap .i64 a+b)=IntKind.wrap .i64 (a+b):=by
 simp only[IntKind.wrap_i64]
 omega
theorem BP(a b:Sp):vj (wS a) b=wS (adS a b):=by
 simp only[vj,wS,adS,x4]
def di(P:Nat->Bool)(o:Nat->Sp):Nat->Sp
 | 0=>(0,0)
 | k+1=>if P k then adS (di P o k) (o k) else di P o k
theorem dY{P P':Nat->Bool}{o o':Nat->Sp}:∀{K:Nat},(∀k,k<K->P k=P' k/\(P k=true->o k=o' k))->di P o K=di P' o' K
 | 0,_=>rfl
 | K+1,h=>by
  obtain⟨h1,h2⟩:=h K (by omega)
  have ih:=dY (K:=K) (fun k hk=>h k (by omega))
  unfold di
  rw[ih,<- h1]
  cases hP:P K
  ·rfl
  ·simp only[if_true];rw[h2 hP]
theorem gc(a:Sp):adS a (0,0)=a:=by simp[adS]
theorem uc(a b c:Sp):adS (adS a b) c=adS (adS a c) b:=by simp only[adS];congr 1<;>omega
theorem oc(a b c:Sp):adS (adS a b) c=adS a (adS b c):=by simp only[adS];congr 1<;>omega
theorem rk{P P':Nat->Bool}{o o':Nat->Sp}{k0:Nat}(h:∀k,k≠k0->P' k=P k/\o' k=o k)(h0:P k0=false):∀K,di P' o' K=adS (di P o K) (if k0<K/\P' k0=true then o' k0 else(0,0))
 | 0=>by simp[di,adS]
 | K+1=>by
  have ih:=rk h h0 K
  unfold di
  by_cases e:K=k0
  ·subst e
   have e1:¬(K<K/\P' K=true):=fun h=>Nat.lt_irrefl _ h.1
   rw[if_neg e1,gc]at ih
   rw[h0,ih]
   cases hP:P' K
   ·simp[adS]
   ·simp
  ·obtain⟨h1,h2⟩:=h K e
   rw[h1,h2,ih]
   have e2:(k0<K+1/\P' k0=true)↔(k0<K/\P' k0=true):=⟨fun x=>⟨by omega,x.2⟩,fun x=>⟨by omega,x.2⟩⟩
   by_cases c:k0<K/\P' k0=true
   ·rw[if_pos c,if_pos (e2.2 c)]
    cases P K
    ·rfl
    ·simp only[if_true];exact uc _ _ _
   ·rw[if_neg c,if_neg (fun x=>c (e2.1 x)),gc,gc]
theorem mH{es:List Edg}{i:Nat}{s:FSt}:∀{K:Nat},K<=es.length->(∀k,(h:k<es.length)->k<K->es[k].1≠i)->flI es i s K=s
 | 0,_,_=>rfl
 | K+1,hK,h=>by
  have hk:K<es.length:=by omega
  unfold flI
  rw[mH (by omega) (fun k h1 h2=>h k h1 (by omega)),x0g es K hk,lB,if_neg (h K hk (by omega))]
theorem th{es:List Edg}{i:Nat}{s:FSt}{k0:Nat}(hk0:k0<es.length)(hi:es[k0].1=i)(hu:∀k,(h:k<es.length)->es[k].1=i->k=k0):∀{K:Nat},K<=es.length->k0<K->flI es i s K=lB i k0 es[k0] s
 | 0,_,h=>by omega
 | K+1,hK,h=>by
  have hk:K<es.length:=by omega
  unfold flI
  rw[x0g es K hk]
  by_cases e:K=k0
  ·subst e
   rw[mH (by omega) (fun k h1 h2 e=>by have:=hu k h1 e;omega)]
  ·rw[th hk0 hi hu (by omega) (by omega),lB,if_neg (fun e2=>e (hu K hk e2))]
theorem qM(n:Nat)(es:List Edg)(m:Nat):∀k,aO n es m <+: aO n es (m+k)
 | 0=>List.prefix_refl _
 | k+1=>by
  refine(qM n es m k).trans ?_
  show _ <+: iM n es (aO n es (m+k))
  unfold iM
  split
  ·exact List.prefix_refl _
  ·exact List.prefix_append _ _
theorem la(n:Nat)(es:List Edg):∀m k,(aO n es (m+k)).length<=(aO n es m).length+k
 | m,0=>by simp
 | m,k+1=>by
  have ih:=la n es m k
  show(iM n es (aO n es (m+k))).length<=_
  unfold iM
  split
  ·omega
  ·simp;omega
theorem iV{n:Nat}{es:List Edg}(h:(aX n es).length=n){m:Nat}(hm:m<=n):(aX n es).take m=aO n es m/\(aO n es m).length=m:=by
 have h1:=la n es 0 m
 have h2:=la n es m (n-m)
 have h3:=qM n es m (n-m)
 rw[show m+(n-m)=n by omega]at h2 h3
 simp only[x07]at h1
 have h4:(aO n es 0).length=0:=rfl
 have hl:(aO n es m).length=m:=by
  have h5:(aO n es n).length=n:=h
  omega
 refine⟨?_,hl⟩
 obtain⟨t,ht⟩:=h3
 show(aO n es n).take m=_
 rw[<- ht,List.take_append_of_le_length (by omega),x0y (by omega)]
theorem nG{es:List Edg}(h:(es.map (·.1)).Nodup){k k':Nat}(hk:k<es.length)(hk':k'<es.length)(e:es[k].1=es[k'].1):k=k':=by
 have h1:k<(es.map (·.1)).length:=by simpa using hk
 have h2:k'<(es.map (·.1)).length:=by simpa using hk'
 have:=(List.getElem_inj (xs:=es.map (·.1)) (i:=k) (j:=k') (h₀:=h1) (h₁:=h2) h).1 (by simpa using e)
 exact this
def inT(es:List Edg)(v:Nat)(done:List Nat)(k:Nat):Bool:=decide (es[k]!.2=v)&&done.contains es[k]!.1
theorem ti{n:Nat}{es:List Edg}(hg:inG n es)(ht:dE n es=true){l:List Sp}(hl:∀v,v<n->wS l[v]! = l[v]!):∀m,m<=n ->
  (∀k,(h:k<es.length)->es[k].1∈(aX n es).take m->(flO es (aX n es) (flS l) m).2 k=(flO es (aX n es) (flS l) m).1 es[k].1) /\
  (∀v,v<n->(flO es (aX n es) (flS l) m).1 v=wS (adS l[v]! (di (inT es v ((aX n es).take m)) (flO es (aX n es) (flS l) m).2 es.length)))
 | 0,_=>by
  refine⟨fun k h hk=>by simp at hk,fun v hv=>?_⟩
  have:di (inT es v ((aX n es).take 0)) (flS l).2 es.length=di (fun _=>false) (flS l).2 es.length:=dY fun k hk=>⟨by simp[inT],fun h=>by simp[inT]at h⟩
  have hz:∀K,di (fun _=>false) (flS l).2 K=(0,0):=fun K=>by
   induction K with
   | zero=>rfl
   | succ K ih=>unfold di;simpa using ih
  show l[v]! = wS (adS l[v]! (di (inT es v ((aX n es).take 0)) (flS l).2 es.length))
  rw[this,hz,gc,hl v hv]
 | m+1,hm=>by
  simp only[dE,x0a,x0d]at ht
  obtain⟨hnd,hlen⟩:=ht
  obtain⟨ih1,ih2⟩:=ti hg (by simp[dE,hnd,hlen]) hl m (by omega)
  obtain⟨t1,t2⟩:=iV hlen (show m<=n by omega)
  obtain⟨t3,t4⟩:=iV hlen hm
  have hml:m<(aX n es).length:=by omega
  have hI:=gO n es m
  have hI':=gO n es (m+1)
  have htk:(aX n es).take (m+1)=(aX n es).take m++[(aX n es)[m]]:=x0w hml
  obtain⟨i,hi⟩:∃i,i=(aX n es)[m]:=⟨_,rfl⟩
  rw[<- hi]at htk
  have hin:i∈aO n es (m+1):=by rw[<- t3,htk];simp
  have hni:i∉(aX n es).take m:=by
   have:=hI'.nd
   rw[<- t3,htk,x1u]at this
   exact fun h=>this.2.2 i h i (by simp) rfl
  have hcl:∀u v,u∈(aX n es).take m->(v,u)∈es->v∈(aX n es).take m:=fun u v hu he=>by rw[t1]at hu ⊢;exact hI.pre u hu v he
  have hself:(i,i)∉es:=by
   intro he
   have:cO n es (aO n es m)≠[]:=by
    intro e
    have:=kg e 1
    rw[this]at t4
    omega
   cases hr:cO n es (aO n es m) with
   | nil=>exact this hr
   | cons j r =>
    have e1:=lb hr
    have e2:j=i:=by
     have h5:aO n es m++[j]=aO n es m++[i]:=by rw[<- e1,<- t3,htk,t1]
     simpa using h5
    have hj:j∈cO n es (aO n es m):=by rw[hr];simp
    rw[e2]at hj
    obtain⟨_,h6,h7⟩:=gl.1 hj
    exact h6 (h7 i he)
  obtain⟨s,hs⟩:∃s,s=flO es (aX n es) (flS l) m:=⟨_,rfl⟩
  have efl:flO es (aX n es) (flS l) (m+1)=flI es i s es.length:=by rw[flO,x0g _ m hml,<- hi,<- hs]
  rw[efl]
  rw[<- hs]at ih1 ih2
  by_cases hx:∃k,∃h:k<es.length,es[k].1=i
  ·obtain⟨k0,hk0,e0⟩:=hx
   have hu:∀k,(h:k<es.length)->es[k].1=i->k=k0:=fun k h e=>nG hnd h hk0 (e.trans e0.symm)
   rw[th hk0 e0 hu (x0r _) hk0,lB,if_pos e0]
   have het:(i,es[k0].2)∈es:=by rw[<- e0];exact x0p hk0
   have hti:es[k0].2≠i:=fun e=>hself (by rw[e]at het;exact het)
   have htm:es[k0].2∉(aX n es).take m:=fun h=>hni (hcl _ _ h het)
   refine⟨fun k h hk=>?_,fun v hv=>?_⟩
   ·rw[htk]at hk
    rcases x0l.1 hk with hk|hk
    ·have hne:k≠k0:=by rintro rfl;exact hni (e0▸hk)
     have hnt:es[k].1≠es[k0].2:=fun e=>htm (e▸hk)
     simp only[if_neg hne,if_neg hnt]
     exact ih1 k h hk
    ·simp only[x1d]at hk
     have:k=k0:=hu k h hk
     subst this
     simp only[if_true]
     rw[if_neg (by rw[hk];exact Ne.symm hti),hk]
   ·have hsum:di (inT es v ((aX n es).take (m+1))) (fun q=>if q=k0 then s.1 i else s.2 q) es.length=adS (di (inT es v ((aX n es).take m)) s.2 es.length) (if es[k0].2=v then s.1 i else(0,0)):=by
     have eK:di (fun k=>decide (k<es.length)&&inT es v ((aX n es).take (m+1)) k) (fun q=>if q=k0 then s.1 i else s.2 q) es.length=di (inT es v ((aX n es).take (m+1))) (fun q=>if q=k0 then s.1 i else s.2 q) es.length:=dY fun k hk=>⟨by simp[hk],fun _=>rfl⟩
     have eK2:di (fun k=>decide (k<es.length)&&inT es v ((aX n es).take m) k) s.2 es.length=di (inT es v ((aX n es).take m)) s.2 es.length:=dY fun k hk=>⟨by simp[hk],fun _=>rfl⟩
     rw[<- eK,<- eK2,rk (P:=fun k=>decide (k<es.length)&&inT es v ((aX n es).take m) k) (o:=s.2) (k0:=k0) (fun k hk=>⟨?_,by simp[hk]⟩) (by simp[inT,x0g es k0 hk0,e0,hni])]
     ·congr 1
      simp only[if_true]
      by_cases c:es[k0].2=v
      ·rw[if_pos c,if_pos ⟨hk0,by simp[hk0,inT,x0g es k0 hk0,e0,c,htk]⟩]
      ·rw[if_neg c,if_neg (fun h=>by simp[inT,x0g es k0 hk0,c]at h)]
     ·by_cases hkl:k<es.length
      ·have hne:es[k].1≠i:=fun e=>hk (hu k hkl e)
       simp[hkl,inT,htk,hne]
      ·simp[hkl]
    rw[hsum]
    by_cases c:v=es[k0].2
    ·simp only[if_pos c,if_pos c.symm]
     rw[<- c,ih2 v hv,BP,oc]
    ·simp only[if_neg c,if_neg (Ne.symm c),gc]
     exact ih2 v hv
  ·have hno:∀k,(h:k<es.length)->es[k].1≠i:=fun k h e=>hx ⟨k,h,e⟩
   rw[mH (x0r _) (fun k h _=>hno k h)]
   refine⟨fun k h hk=>?_,fun v hv=>?_⟩
   ·rw[htk]at hk
    rcases x0l.1 hk with hk|hk
    ·exact ih1 k h hk
    ·exact absurd (by simpa using hk) (hno k h)
   ·rw[ih2 v hv]
    congr 2
    refine dY fun k hk=>⟨?_,fun _=>rfl⟩
    simp[inT,x0g es k hk,htk,hno k hk]
def uh(es:List Edg)(fl:List Sp)(s0:Sp)(v:Nat):Nat->Sp
 | 0=>s0
 | k+1=>if es[k]!.2=v then vj (uh es fl s0 v k) fl[k]! else uh es fl s0 v k
theorem pc(es:List Edg)(fl:List Sp)(s0:Sp)(h0:wS s0=s0)(v:Nat):∀K,uh es fl s0 v K=wS (adS s0 (di (fun k=>decide (es[k]!.2=v)) (fun k=>fl[k]!) K))
 | 0=>by simp[uh,di,gc,h0]
 | K+1=>by
  have ih:=pc es fl s0 h0 v K
  unfold uh di
  by_cases c:es[K]!.2=v
  ·rw[if_pos c,if_pos (by simpa using c),ih,BP,oc]
  ·rw[if_neg c,if_neg (by simpa using c),ih]
theorem yq{n:Nat}{es:List Edg}(hg:inG n es)(ht:dE n es=true){l:List Sp}(hl:∀v,v<n->wS l[v]! = l[v]!){i:Nat}(hi:i<es.length):(aE n es l)[i]! = uh es (aE n es l) l[es[i].1]! es[i].1 es.length:=by
 have ht2:=ht
 simp only[dE,x0a,x0d]at ht2
 obtain⟨h1,h2⟩:=ti hg ht hl n (x0r _)
 have hv:=(hg _ (x0p hi)).1
 have hfull:(aX n es).take n=aX n es:=x0y (by omega)
 have hI:=gO n es n
 have hmem:∀v,v<n->v∈aX n es:=by
  intro v hv
  apply Classical.byContradiction
  intro hn
  have hnd:(v::aX n es).Nodup:=List.nodup_cons.2 ⟨hn,hI.nd⟩
  have hsub:(v::aX n es) ⊆ List.range n:=by
   intro u hu
   rcases x0M.1 hu with rfl|hu
   ·simpa using hv
   ·simpa using hI.lt u hu
  have:=List.Nodup.length_le_of_subset hnd hsub
  simp at this
  omega
 have eF:∀k,k<es.length->(aE n es l)[k]! =(flO es (aX n es) (flS l) n).2 k:=fun k hk=>by
  unfold aE
  rw[ht2.2,x0g _ k (by simpa using hk)]
  simp
 rw[pc _ _ _ (hl _ hv),eF i hi,h1 i hi (by rw[hfull];exact hmem _ hv),h2 _ hv]
 congr 2
 refine dY fun k hk=>⟨?_,fun _=>(eF k hk).symm⟩
 have:=hmem _ (hg _ (x0p hk)).1
 simp[inT,x0g es k hk,hfull,this]
end Go.Gv

namespace Go.Gv
def bj(f:Nat->Int):Nat->Int
 | 0=>0
 | k+1=>bj f k+f k
theorem cD{f g:Nat->Int}:∀{K:Nat},(∀k,k<K->f k=g k)->bj f K=bj g K
 | 0,_=>rfl
 | K+1,h=>by unfold bj;rw[cD (K:=K) (fun k hk=>h k (by omega)),h K (by omega)]
theorem rj(f g:Nat->Int):∀K,bj (fun k=>f k+g k) K=bj f K+bj g K
 | 0=>rfl
 | K+1=>by unfold bj;rw[rj f g K];omega
theorem dD{f:Nat->Int}:∀{K:Nat},(∀k,k<K->f k=0)->bj f K=0
 | 0,_=>rfl
 | K+1,h=>by unfold bj;rw[dD (K:=K) (fun k hk=>h k (by omega)),h K (by omega)];rfl
theorem kx{f:Nat->Int}{k0:Nat}:∀{K:Nat},k0<K->(∀k,k<K->k≠k0->f k=0)->bj f K=f k0
 | 0,h,_=>by omega
 | K+1,h,h2=>by
  unfold bj
  by_cases e:K=k0
  ·subst e
   rw[dD (fun k hk=>h2 k (by omega) (by omega))];omega
  ·rw[kx (by omega) (fun k hk hn=>h2 k (by omega) hn),h2 K (by omega) e];omega
theorem i7(f:Nat->Nat->Int)(A:Nat):∀B,bj (fun b=>bj (fun a=>f a b) A) B=bj (fun a=>bj (fun b=>f a b) B) A
 | 0=>(dD fun _ _=>rfl).symm
 | B+1=>by
  have e:(fun a=>bj (fun b=>f a b) (B+1))=fun a=>bj (fun b=>f a b) B+f a B:=rfl
  rw[e,rj,<- i7 f A B]
  rfl
theorem nI(f:Nat->Int):∀M,bj f (M+1)=f 0+bj (fun m=>f (m+1)) M
 | 0=>by simp[bj]
 | M+1=>by
  have ih:=nI f M
  show bj f (M+1)+f (M+1)=f 0+(bj (fun m=>f (m+1)) M+f (M+1))
  omega
theorem tS(c:Prop)[Decidable c](f:Nat->Int)(K:Nat):bj (fun k=>if c then f k else 0) K=if c then bj f K else 0:=by
 by_cases h:c
 ·rw[if_pos h];exact cD fun k _=>if_pos h
 ·rw[if_neg h];exact dD fun k _=>if_neg h
theorem mi{f g:Nat->Int}:∀{K:Nat},(∀k,k<K->f k<=g k)->bj f K<=bj g K
 | 0,_=>x0F _
 | K+1,h=>by
  have:=mi (K:=K) (fun k hk=>h k (by omega))
  have:=h K (by omega)
  unfold bj
  omega
theorem jK(B:Int):∀K:Nat,bj (fun _=>B) K=K*B
 | 0=>by simp[bj]
 | K+1=>by unfold bj;rw[jK B K];push_cast;rw[Int.add_mul];omega
def stp(es:List Edg)(v:Nat):Option Nat:=(es.find? fun e=>e.1==v).map (·.2)
def wat(es:List Edg):Nat->Nat->Option Nat
 | 0,v=>some v
 | m+1,v=>(wat es m v).bind (stp es)
def upB(n:Nat)(es:List Edg)(v x:Nat):Bool:=(List.range n).any fun m=>wat es m v==some x
theorem ri{es:List Edg}{y z:Nat}(h:stp es y=some z):(y,z)∈es:=by
 unfold stp at h
 cases e:es.find? (fun e=>e.1==y) with
 | none=>rw[e]at h;cases h
 | some p =>
  rw[e]at h
  have h1:=List.find?_some e
  have h2:=List.mem_of_find?_eq_some e
  simp at h1 h
  obtain⟨a,b⟩:=p
  simp only at h1 h
  subst h1 h
  exact h2
theorem xP{es:List Edg}(hnd:(es.map (·.1)).Nodup){y z:Nat}(h:(y,z)∈es):stp es y=some z:=by
 unfold stp
 cases e:es.find? (fun e=>e.1==y) with
 | none =>
  have:=List.find?_eq_none.1 e _ h
  simp at this
 | some p =>
  have h1:=List.find?_some e
  have h2:=List.mem_of_find?_eq_some e
  obtain⟨a,b⟩:=p
  simp at h1
  subst h1
  obtain⟨k,hk,ek⟩:=x1g h
  obtain⟨j,hj,ej⟩:=x1g h2
  have:=nG hnd hk hj (by rw[ek,ej])
  subst this
  rw[ek]at ej
  cases ej
  rfl
theorem kh{n:Nat}{es:List Edg}(hg:inG n es)(hlen:(aX n es).length=n){u v:Nat}(he:(u,v)∈es):(aX n es).idxOf u<(aX n es).idxOf v/\(aX n es).idxOf v<n:=by
 have hI:=gO n es n
 have hmem:∀v,v<n->v∈aX n es:=by
  intro v hv
  apply Classical.byContradiction
  intro hn
  have hnd:(v::aX n es).Nodup:=List.nodup_cons.2 ⟨hn,hI.nd⟩
  have hsub:(v::aX n es) ⊆ List.range n:=by
   intro u hu
   rcases x0M.1 hu with rfl|hu
   ·simpa using hv
   ·simpa using hI.lt u hu
  have:=List.Nodup.length_le_of_subset hnd hsub
  simp at this
  omega
 obtain⟨h1,h2⟩:=hg _ he
 have hv:=hmem v h2
 have hi:=List.idxOf_lt_length_iff.2 hv
 obtain⟨m,hm⟩:∃m,m=(aX n es).idxOf v:=⟨_,rfl⟩
 rw[<- hm]at hi ⊢
 have hget:(aX n es)[m]=v:=by
  subst hm
  exact List.getElem_idxOf hi
 obtain⟨t1,t2⟩:=iV hlen (show m<=n by omega)
 obtain⟨t3,t4⟩:=iV hlen (show m+1<=n by omega)
 have htk:(aX n es).take (m+1)=(aX n es).take m++[(aX n es)[m]]:=x0w hi
 have hu:u∈(aX n es).take m:=by
  rw[t1]
  cases hr:cO n es (aO n es m) with
  | nil =>
   have:=kg hr 1
   rw[this]at t4
   omega
  | cons j r =>
   have e1:=lb hr
   have e2:j=v:=by
    have h5:aO n es m++[j]=aO n es m++[v]:=by rw[<- e1,<- t3,htk,t1,hget]
    simpa using h5
   have hj:j∈cO n es (aO n es m):=by rw[hr];simp
   rw[e2]at hj
   exact(gl.1 hj).2.2 u he
 refine⟨?_,by omega⟩
 obtain⟨a,ha,e⟩:=x1g hu
 have ha2:a<m:=by simp at ha;omega
 have e2:(aX n es)[a]'(by omega)=u:=by rw[<- e];simp
 have e3:(aX n es).idxOf ((aX n es)[a]'(by omega))=a:=hI.nd.idxOf_getElem a (show a<(aX n es).length by omega)
 rw[e2]at e3
 omega
theorem gF{n:Nat}{es:List Edg}(hg:inG n es)(hlen:(aX n es).length=n):∀{m v x:Nat},wat es m v=some x->(aX n es).idxOf v+m<=(aX n es).idxOf x/\(m≠0->(aX n es).idxOf x<n)
 | 0,v,x,h=>by
  simp[wat]at h
  subst h
  exact⟨x0r _,fun h=>absurd rfl h⟩
 | m+1,v,x,h=>by
  unfold wat at h
  cases e:wat es m v with
  | none=>rw[e]at h;cases h
  | some y =>
   rw[e]at h
   obtain⟨i1,_⟩:=gF hg hlen e
   obtain⟨r1,r2⟩:=kh hg hlen (ri h)
   exact⟨by omega,fun _=>r2⟩
def nM(n:Nat)(es:List Edg)(g:Nat->Int)(m x:Nat):Int:=bj (fun v=>if wat es m v=some x then g v else 0) n
theorem vo{n:Nat}{es:List Edg}(hnd:(es.map (·.1)).Nodup)(g:Nat->Int)(m x:Nat):nM n es g (m+1) x=bj (fun k=>if es[k]!.2=x then nM n es g m es[k]!.1 else 0) es.length:=by
 have h1:∀v,v<n->(if wat es (m+1) v=some x then g v else 0)=bj (fun k=>if es[k]!.2=x then(if wat es m v=some es[k]!.1 then g v else 0) else 0) es.length:=fun v _=>by
  cases e:wat es m v with
  | none =>
   have:wat es (m+1) v=none:=by unfold wat;rw[e];rfl
   rw[this,if_neg (by simp),dD (fun k _=>by simp)]
  | some y =>
   have e1:wat es (m+1) v=stp es y:=by
    show(wat es m v).bind (stp es)=_
    rw[e];rfl
   rw[e1]
   cases e2:stp es y with
   | none =>
    rw[if_neg (by simp),dD fun k hk=>?_]
    by_cases c:es[k]!.2=x
    ·rw[if_pos c]
     by_cases d:y=es[k]!.1
     ·have:=xP (es:=es) hnd (y:=y) (z:=es[k]!.2) (by rw[d,x0g es k hk];exact x0p hk)
      rw[e2]at this;cases this
     ·rw[if_neg (by simpa using d)]
    ·rw[if_neg c]
   | some z =>
    obtain⟨k0,hk0,ek0⟩:=x1g (ri e2)
    rw[kx (k0:=k0) hk0 fun k hk hne=>?_]
    ·rw[x0g es k0 hk0,ek0]
     simp
    ·by_cases d:y=es[k]!.1
     ·exact absurd (nG hnd hk hk0 (by rw[ek0,<- x0g es k hk,d])) hne
     ·rw[if_neg (show ¬some y=some es[k]!.1 by simpa using d)];simp
 unfold nM
 rw[cD h1,i7]
 exact cD fun k _=>tS _ _ _
theorem vp{n:Nat}{es:List Edg}(g:Nat->Int){x:Nat}(hx:x<n):nM n es g 0 x=g x:=by
 unfold nM
 rw[kx (k0:=x) hx fun k _ hne=>?_]
 ·simp[wat]
 ·simp[wat,hne]
theorem xZ{n:Nat}{es:List Edg}(hg:inG n es)(hlen:(aX n es).length=n)(g:Nat->Int){m x:Nat}(hm:n<=m):nM n es g m x=0:=by
 refine dD fun v hv=>if_neg fun h=>?_
 obtain⟨h1,h2⟩:=gF hg hlen h
 have:=h2 (by omega)
 omega
def upS(n:Nat)(es:List Edg)(g:Nat->Int)(x:Nat):Int:=bj (fun v=>if upB n es v x=true then g v else 0) n
theorem tX{n:Nat}{es:List Edg}(hg:inG n es)(hlen:(aX n es).length=n)(g:Nat->Int)(x:Nat):upS n es g x=bj (fun m=>nM n es g m x) n:=by
 unfold nM upS
 rw[i7]
 refine cD fun v _=>?_
 by_cases h:upB n es v x=true
 ·rw[if_pos h]
  obtain⟨m,hm,e⟩:=x0O.1 h
  simp at hm e
  rw[kx (k0:=m) hm fun k _ hne=>if_neg fun h2=>?_,if_pos e]
  have a:=(gF hg hlen e).1
  have b:=(gF hg hlen h2).1
  rcases Nat.lt_or_gt_of_ne hne with h3|h3
  ·have:∀d,wat es (k+d) v=(wat es d x):=fun d=>by
    induction d with
    | zero=>exact h2
    | succ d ih =>
     show(wat es (k+d) v).bind _=_
     rw[ih];rfl
   have h4:=this (m-k)
   rw[show k+(m-k)=m by omega,e]at h4
   have:=(gF hg hlen h4.symm).1
   omega
  ·have:∀d,wat es (m+d) v=(wat es d x):=fun d=>by
    induction d with
    | zero=>exact e
    | succ d ih =>
     show(wat es (m+d) v).bind _=_
     rw[ih];rfl
   have h4:=this (k-m)
   rw[show m+(k-m)=k by omega,h2]at h4
   have:=(gF hg hlen h4.symm).1
   omega
 ·rw[if_neg h,dD fun k hk=>if_neg fun h2=>h (x0O.2 ⟨k,by simpa using hk,by simp[h2]⟩)]
theorem tW{n:Nat}{es:List Edg}(hg:inG n es)(ht:dE n es=true)(g:Nat->Int){x:Nat}(hx:x<n):upS n es g x=g x+bj (fun k=>if es[k]!.2=x then upS n es g es[k]!.1 else 0) es.length:=by
 simp only[dE,x0a,x0d]at ht
 obtain⟨hnd,hlen⟩:=ht
 have e1:bj (fun m=>nM n es g m x) n=bj (fun m=>nM n es g m x) (n+1):=by
  show _=bj _ n+nM n es g n x
  rw[xZ hg hlen g (x0r _)];omega
 rw[tX hg hlen,e1,nI,vp g hx]
 congr 1
 rw[cD fun m _=>vo hnd g m x,i7]
 refine cD fun k _=>?_
 rw[tS]
 by_cases c:es[k]!.2=x
 ·rw[if_pos c,if_pos c,tX hg hlen]
 ·rw[if_neg c,if_neg c]
theorem lu{n:Nat}{es:List Edg}{g:Nat->Int}{B:Int}(hB:0<=B)(h:∀v,v<n->0<=g v/\g v<=B)(x:Nat):0<=upS n es g x/\upS n es g x<=n*B:=by
 unfold upS
 constructor
 ·have:=mi (f:=fun _=>0) (g:=fun v=>if upB n es v x=true then g v else 0) (K:=n) fun k hk=>by
   have:=h k hk
   show 0<=if upB n es k x=true then g k else 0
   split<;>omega
  rw[jK]at this
  simpa using this
 ·rw[<- jK]
  exact mi fun k hk=>by
   have:=h k hk
   show(if upB n es k x=true then g k else 0)<=B
   split<;>omega
theorem xQ(P:Nat->Bool)(o:Nat->Sp):∀K,(di P o K).1=bj (fun k=>if P k=true then(o k).1 else 0) K
 | 0=>rfl
 | K+1=>by
  have ih:=xQ P o K
  unfold di bj
  by_cases h:P K=true
  ·rw[if_pos h,if_pos h,<- ih];rfl
  ·rw[if_neg h,if_neg h,<- ih];omega
theorem xR(P:Nat->Bool)(o:Nat->Sp):∀K,(di P o K).2=bj (fun k=>if P k=true then(o k).2 else 0) K
 | 0=>rfl
 | K+1=>by
  have ih:=xR P o K
  unfold di bj
  by_cases h:P K=true
  ·rw[if_pos h,if_pos h,<- ih];rfl
  ·rw[if_neg h,if_neg h,<- ih];omega
theorem qn{n:Nat}{es:List Edg}(hn:n<=300)(hg:inG n es)(ht:dE n es=true){l:List Sp}(hl:∀v,v<n->0<=l[v]!.1/\l[v]!.1<=l[v]!.2/\l[v]!.2<=1099511627776) :
  ∀(r i:Nat) (hi:i<es.length),(aX n es).idxOf es[i].1<r->(aE n es l)[i]! =(upS n es (fun v=>l[v]!.1) es[i].1,upS n es (fun v=>l[v]!.2) es[i].1)
 | 0,_,_,h=>by omega
 | r+1,i,hi,hr=>by
  have hw:∀v,v<n->wS l[v]! = l[v]!:=fun v hv=>by
   have:=hl v hv
   unfold wS
   rw[wrap_i64 rfl (by omega),wrap_i64 rfl (by omega)]
  have hb:=yq hg ht hw hi
  have hv:=(hg _ (x0p hi)).1
  have ht2:=ht
  simp only[dE,x0a,x0d]at ht2
  have ih:∀k,k<es.length->es[k]!.2=es[i].1->(aE n es l)[k]! =(upS n es (fun v=>l[v]!.1) es[k]!.1,upS n es (fun v=>l[v]!.2) es[k]!.1):=fun k hk e=>by
   rw[x0g es k hk]at e ⊢
   have hm:(es[k].1,es[i].1)∈es:=by rw[<- e];exact x0p hk
   have:=(kh hg ht2.2 hm).1
   exact qn hn hg ht hl r k hk (by omega)
  have r1:=lu (n:=n) (es:=es) (g:=fun v=>l[v]!.1) (B:=1099511627776) (by omega) (fun v hv=>by have:=hl v hv;omega) es[i].1
  have r2:=lu (n:=n) (es:=es) (g:=fun v=>l[v]!.2) (B:=1099511627776) (by omega) (fun v hv=>by have:=hl v hv;omega) es[i].1
  rw[hb,pc _ _ _ (hw _ hv)]
  have s1:=tW hg ht (fun v=>l[v]!.1) hv
  have s2:=tW hg ht (fun v=>l[v]!.2) hv
  have e1:(di (fun k=>decide (es[k]!.2=es[i].1)) (fun k=>(aE n es l)[k]!) es.length).1=bj (fun k=>if es[k]!.2=es[i].1 then upS n es (fun v=>l[v]!.1) es[k]!.1 else 0) es.length:=by
   rw[xQ]
   refine cD fun k hk=>?_
   by_cases c:es[k]!.2=es[i].1
   ·rw[if_pos (by simpa using c),if_pos c,ih k hk c]
   ·rw[if_neg (by simpa using c),if_neg c]
  have e2:(di (fun k=>decide (es[k]!.2=es[i].1)) (fun k=>(aE n es l)[k]!) es.length).2=bj (fun k=>if es[k]!.2=es[i].1 then upS n es (fun v=>l[v]!.2) es[k]!.1 else 0) es.length:=by
   rw[xR]
   refine cD fun k hk=>?_
   by_cases c:es[k]!.2=es[i].1
   ·rw[if_pos (by simpa using c),if_pos c,ih k hk c]
   ·rw[if_neg (by simpa using c),if_neg c]
  have e3:adS l[es[i].1]! (di (fun k=>decide (es[k]!.2=es[i].1)) (fun k=>(aE n es l)[k]!) es.length)=(upS n es (fun v=>l[v]!.1) es[i].1,upS n es (fun v=>l[v]!.2) es[i].1):=by
   unfold adS
   rw[e1,e2,s1,s2]
  rw[e3]
  unfold wS
  rw[wrap_i64 rfl (by simp only;omega),wrap_i64 rfl (by simp only;omega)]
theorem yX{n:Nat}{es:List Edg}(hn:n<=300)(hg:inG n es)(ht:dE n es=true){l:List Sp}(hl:∀v,v<n->0<=l[v]!.1/\l[v]!.1<=l[v]!.2/\l[v]!.2<=1099511627776){i:Nat}(hi:i<es.length):(aE n es l)[i]! =(upS n es (fun v=>l[v]!.1) es[i].1,upS n es (fun v=>l[v]!.2) es[i].1) :=
 qn hn hg ht hl _ i hi (Nat.lt_succ_self _)
end Go.Gv

namespace Go.Gv
theorem vK{l:Lnk}{s:Sec}{f v:Int}(hv:av s=true)(hl:1<=l.len/\l.len<=16777216)(hd:l.down<=l.up)(hf:0<=f/\f<=1099511627776)(hlo:(b8 l s f).2=0)(hu:-4194304<=l.up/\l.up<=4194304)(hvl:v<=1098437885952) :
  (bH l s f v).2=0/\v<=(bH l s f v).1/\(bH l s f v).1<=mxI 8388608 (v+1073741824):=by
 have hh:1<=s.height/\s.height<=32768:=by
  simp only[av,x0a,x0d]at hv
  omega
 have hs:bT (cr l) l.len=true:=by
  simp only[bT,x0a,x0d]
  unfold cr
  split<;>omega
 have hr:=fO (dR s.conv).2.toNat f.toNat l.len.toNat
 have hr':0<=(b8 l s f).1/\(b8 l s f).1<=1073741824:=hr
 by_cases hb:je l s f v=true
 ·rw[dT hb]
  have hcap:=Cm hv (cr l) l.len
  have hfc:f<=(my s (cr l) l.len:Int):=by
   simp only[je,x0a,x0H,x0d]at hb
   obtain⟨_,hb⟩:=hb
   unfold fI at hb
   rw[if_pos hv,if_pos hs]at hb
   by_cases hc:1099511627776<my s (cr l) l.len
   ·omega
   ·rw[if_neg hc]at hb
    simp only at hb
    rcases hb with hb|hb
    ·omega
    ·exact hb.2
  have hD:(cn s f (cr l) l.len).2=0:=by
   rw[<- uy]
   unfold rM
   rw[if_pos hv,if_pos ⟨hf.1,hf.2,hs⟩,hcap,if_neg (by omega)]
  have hdr:=jR hv f (cr l) l.len
  unfold pC
  rw[if_pos hD]
  simp only
  have h1:=wW (l.up+(cn s f (cr l) l.len).1) v
  refine⟨trivial,h1.2,?_⟩
  unfold mxI
  split<;>split<;>omega
 ·rw[fv hb]
  unfold jZ
  have h1:=wW (l.up+s.height) (v+(b8 l s f).1)
  have h2:mxI (l.up+s.height) (v+(b8 l s f).1)<=mxI 8388608 (v+1073741824):=dL (by omega) (by omega)
  have h3:mxI 8388608 (v+1073741824)<=1099511627776:=by unfold mxI;split<;>omega
  rw[if_pos hlo,if_neg (by omega)]
  simp only
  exact⟨trivial,by omega,h2⟩
theorem uM{l:Lnk}{s:Sec}{f g:Int}(h0:0<=f)(h:f<=g)(hg:(b8 l s g).2=0):(b8 l s f).2=0:=by
 unfold b8 fN at *
 by_cases f0:f.toNat=0
 ·rw[if_pos f0]
 rw[if_neg f0]
 rw[if_neg (show ¬g.toNat=0 by omega)]at hg
 by_cases k0:(dR s.conv).2.toNat=0
 ·rw[if_pos k0]at hg;simp at hg
 rw[if_neg k0]at hg ⊢
 by_cases e:cg (dR s.conv).2.toNat g.toNat l.len.toNat 1073741824=true
 ·rw[if_pos (jX (show f.toNat<=g.toNat by omega) e)]
 ·rw[if_neg e]at hg;simp at hg
def lc(es:List Edg)(v:Nat):Option Nat:=es.findIdx? fun e=>e.1==v
theorem gq{es:List Edg}{v k:Nat}(h:lc es v=some k):∃hk:k<es.length,es[k].1=v:=by
 unfold lc at h
 obtain⟨hk,h1,_⟩:=x0W.1 h
 exact⟨hk,by simpa using h1⟩
def fZ(es:List Edg)(ab:Nat->Int->Int)(base:Nat->Int):Nat->Nat->Int
 | 0,i=>base i
 | f+1,i=>match lc es i with
  | none=>base i
  | some k=>ab k (fZ es ab base f es[k]!.2)
def rkO(n:Nat)(es:List Edg)(i:Nat):Nat:=(aX n es).idxOf i
theorem oB{n:Nat}{es:List Edg}(hg:inG n es)(hlen:(aX n es).length=n)(ab:Nat->Int->Int)(base:Nat->Int):∀(f i:Nat),n<=f+rkO n es i->rkO n es i<n->fZ es ab base (f+1) i=fZ es ab base f i
 | 0,i,h1,h2=>by omega
 | f+1,i,h1,h2=>by
  rw[fZ,fZ]
  cases h:lc es i with
  | none=>rfl
  | some k =>
   obtain⟨hk,e⟩:=gq h
   have hm:(i,es[k].2)∈es:=by
    have:=x0p hk
    rwa[show es[k]=(i,es[k].2)from Prod.ext e rfl]at this
   have hr:=kh hg hlen hm
   simp only
   rw[x0g es k hk,oB hg hlen ab base f es[k].2 (by unfold rkO at *;omega) hr.2]
def sA(n:Nat)(es:List Edg)(ab:Nat->Int->Int)(base:Nat->Int)(i:Nat):Int:=fZ es ab base n i
theorem oD(n:Nat){es:List Edg}(ab:Nat->Int->Int)(base:Nat->Int){i:Nat}(h:lc es i=none):sA n es ab base i=base i:=by
 unfold sA
 cases n with
 | zero=>rfl
 | succ n=>rw[fZ,h]
theorem oE{n:Nat}{es:List Edg}(hg:inG n es)(hlen:(aX n es).length=n)(ab:Nat->Int->Int)(base:Nat->Int){i k:Nat}(hi:rkO n es i<n)(h:lc es i=some k):sA n es ab base i=ab k (sA n es ab base es[k]!.2):=by
 unfold sA
 rw[<- oB hg hlen ab base n i (by omega) hi,fZ,h]
theorem qG{es:List Edg}{ab:Nat->Int->Int}{base:Nat->Int}{Q:Nat->Nat->Int->Prop}(h0:∀f i,Q f i (base i))(h1:∀f i k (hk:k<es.length),es[k].1=i->∀v,Q f es[k].2 v->Q (f+1) i (ab k v)):∀f i,Q f i (fZ es ab base f i)
 | 0,i=>h0 0 i
 | f+1,i=>by
  rw[fZ]
  cases h:lc es i with
  | none=>exact h0 _ i
  | some k =>
   obtain⟨hk,e⟩:=gq h
   simp only
   rw[x0g es k hk]
   exact h1 f i k hk e _ (qG h0 h1 f es[k].2)
theorem oC{es:List Edg}{ab ab':Nat->Int->Int}{base base':Nat->Int}{Q:Nat->Nat->Int->Int->Prop}(h0:∀f i,Q f i (base i) (base' i))(h1:∀f i k (hk:k<es.length),es[k].1=i->∀v w,Q f es[k].2 v w->Q (f+1) i (ab k v) (ab' k w)):∀f i,Q f i (fZ es ab base f i) (fZ es ab' base' f i)
 | 0,i=>h0 0 i
 | f+1,i=>by
  rw[fZ,fZ]
  cases h:lc es i with
  | none=>exact h0 _ i
  | some k =>
   obtain⟨hk,e⟩:=gq h
   simp only
   rw[x0g es k hk]
   exact h1 f i k hk e _ _ (oC h0 h1 f es[k].2)
end Go.Gv
