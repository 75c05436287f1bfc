/-
  Texts of the proof: H2, H3, H4, H5, H6, H7, H9, CA6, GvX2, GvX3, GvX4, GvX5, H10, H11, H12, SK1, SK2, PH1, SK3p, PT1, S0, S3, SK3, PT2, PF1, PF2, V3, V4, PF3, PF4, PF5, PT3, PT5, I3, I2, I4, H13, H14, H15, I5, I6, L10, L11, J29, L12, L15, L16, L19, RF1, SF1, SF2, PT6, PL1, Z2, Z4, Z5.
-/
import Derived.Test.YtjlibcgkjgglkaaGreatDoorX6
set_option linter.all false
namespace Go.Gv
theorem bF:IntKind.wrap .i64 1=1:=by decide
theorem bN:IntKind.wrap .i64 2=2:=by decide
theorem bO:IntKind.wrap .i64 3=3:=by decide
variable{C:CC}(hC:av prog C)
include hC
set_option maxHeartbeats 1000000 in
theorem CM{t u:Tri}(ht:okT t=true)(hu:okT u=true):C 311 [.agg (cm t),.agg (cm u)] (.bool (tW t u)) []:=by
 simp only[okT,x0a]at ht hu
 obtain⟨⟨t1,t2⟩,t3⟩:=ht
 obtain⟨⟨u1,u2⟩,u3⟩:=hu
 have kk:=fun(p q r:Pnt) (hp:okP p=true) (hq:okP q=true) (hr:okP r=true)=>qn hC hp hq hr
 simp only[ptD]at kk
 have E:tW t u=(mI t.1 t.2.1 u||mI t.2.1 t.2.2 u||mI t.2.2 t.1 u):=rfl
 rw[E]
 clear E
 have S:∀p q,mI p q u=(decide (dV p q u.1<=0)&&decide (dV p q u.2.1<=0)&&decide (dV p q u.2.2<=0)):=fun p q=>rfl
 refine az hC (nf:=N311) rfl rfl ?_
 rw[cm,cm]
 simp[N311]
 refine aC Nat (fun i=>[(2,.ptr (cm t)),(3,.ptr (cm u)),(8,.int .i64 i)]) (fun i=>i<=3/\(1<=i->mI t.1 t.2.1 u=false)/\(2<=i->mI t.2.1 t.2.2 u=false)/\(3<=i->mI t.2.2 t.1 u=false)) (fun i=>3-i) 0 (by simp) (by simp[cm]) ?_
 rintro i ⟨hi,s1,s2,s3⟩
 rcases(by omega:i=0\/i=1\/i=2\/i=3)with rfl|rfl|rfl|rfl
 ·simp[cm,bF,bN,bO]
  refine⟨aF (by decide +kernel),?_⟩
  refine aa (kk t.1 t.2.1 u.1 t1 t2 u1) (.inl rfl) ?_
  simp
  refine aj (fun h1=>?_) (fun h1=>?_)<;>simp at h1
  ·simp[h1]
   refine aa (kk t.1 t.2.1 u.2.1 t1 t2 u2) (.inl rfl) ?_
   simp
   refine aj (fun h2=>?_) (fun h2=>?_)<;>simp at h2
   ·simp[h2]
    refine aa (kk t.1 t.2.1 u.2.2 t1 t2 u3) (.inl rfl) ?_
    simp
    refine aj (fun h3=>?_) (fun h3=>?_)<;>simp at h3<;>simp[h3]
    ·simp[S,h1,h2,h3]
    ·refine⟨1,⟨by omega,fun _=>by simp only[S,x0Y,x0C];omega,fun h=>by omega,fun h=>by omega⟩,by omega,?_⟩<;>simp[bF,bN,bO]
   ·simp[Int.not_le.2 h2]
    refine⟨1,⟨by omega,fun _=>by simp only[S,x0Y,x0C];omega,fun h=>by omega,fun h=>by omega⟩,by omega,?_⟩<;>simp[bF,bN,bO]
  ·simp[Int.not_le.2 h1]
   refine⟨1,⟨by omega,fun _=>by simp only[S,x0Y,x0C];omega,fun h=>by omega,fun h=>by omega⟩,by omega,?_⟩<;>simp[bF,bN,bO]
 ·simp[cm,bF,bN,bO]
  refine⟨aF (by decide +kernel),?_⟩
  refine aa (kk t.2.1 t.2.2 u.1 t2 t3 u1) (.inl rfl) ?_
  simp
  refine aj (fun h1=>?_) (fun h1=>?_)<;>simp at h1
  ·simp[h1]
   refine aa (kk t.2.1 t.2.2 u.2.1 t2 t3 u2) (.inl rfl) ?_
   simp
   refine aj (fun h2=>?_) (fun h2=>?_)<;>simp at h2
   ·simp[h2]
    refine aa (kk t.2.1 t.2.2 u.2.2 t2 t3 u3) (.inl rfl) ?_
    simp
    refine aj (fun h3=>?_) (fun h3=>?_)<;>simp at h3<;>simp[h3]
    ·simp[S,h1,h2,h3]
    ·refine⟨2,⟨by omega,fun _=>s1 (by omega),fun _=>by simp only[S,x0Y,x0C];omega,fun h=>by omega⟩,by omega,?_⟩<;>simp[bF,bN,bO]
   ·simp[Int.not_le.2 h2]
    refine⟨2,⟨by omega,fun _=>s1 (by omega),fun _=>by simp only[S,x0Y,x0C];omega,fun h=>by omega⟩,by omega,?_⟩<;>simp[bF,bN,bO]
  ·simp[Int.not_le.2 h1]
   refine⟨2,⟨by omega,fun _=>s1 (by omega),fun _=>by simp only[S,x0Y,x0C];omega,fun h=>by omega⟩,by omega,?_⟩<;>simp[bF,bN,bO]
 ·simp[cm,bF,bN,bO]
  refine⟨aF (by decide +kernel),?_⟩
  refine aa (kk t.2.2 t.1 u.1 t3 t1 u1) (.inl rfl) ?_
  simp
  refine aj (fun h1=>?_) (fun h1=>?_)<;>simp at h1
  ·simp[h1]
   refine aa (kk t.2.2 t.1 u.2.1 t3 t1 u2) (.inl rfl) ?_
   simp
   refine aj (fun h2=>?_) (fun h2=>?_)<;>simp at h2
   ·simp[h2]
    refine aa (kk t.2.2 t.1 u.2.2 t3 t1 u3) (.inl rfl) ?_
    simp
    refine aj (fun h3=>?_) (fun h3=>?_)<;>simp at h3<;>simp[h3]
    ·simp[S,h1,h2,h3]
    ·refine⟨3,⟨by omega,fun _=>s1 (by omega),fun _=>s2 (by omega),fun _=>by simp only[S,x0Y,x0C];omega⟩,by omega,?_⟩<;>simp[bF,bN,bO]
   ·simp[Int.not_le.2 h2]
    refine⟨3,⟨by omega,fun _=>s1 (by omega),fun _=>s2 (by omega),fun _=>by simp only[S,x0Y,x0C];omega⟩,by omega,?_⟩<;>simp[bF,bN,bO]
  ·simp[Int.not_le.2 h1]
   refine⟨3,⟨by omega,fun _=>s1 (by omega),fun _=>s2 (by omega),fun _=>by simp only[S,x0Y,x0C];omega⟩,by omega,?_⟩<;>simp[bF,bN,bO]
 ·simp[s1 (by omega),s2 (by omega),s3 (by omega)]
end Go.Gv

namespace Go.Gv
def okc(m:Msh)(a b:Int):Bool:=eF m.s.length a&&decide (a≠b)&&bG (spt m a.toNat)
def okF(m:Msh)(f:Fce):Bool:=okc m f.a f.b&&okc m f.b f.c&&okc m f.c f.a&&decide (0<=f.k)&&decide (f.k<16)
def mtc(f g:Fce)(i k:Nat):Bool:=decide (crn f i=crn g k)&&decide (crn f (i+1)=crn g (k+1))
def oi(f g:Fce):Bool:=(List.range 3).any fun i=>(List.range 3).any fun k=>mtc f g i k
theorem qw{m:Msh}{f:Fce}(h:okF m f=true):inS m f=true:=by
 simp only[okF,okc,x0a]at h
 simp only[inS,x0a]
 exact⟨⟨h.1.1.1.1.1.1,h.1.1.1.2.1.1⟩,h.1.1.2.1.1⟩
theorem cY{m:Msh}{f:Fce}(h:okF m f=true):okT (aS m f)=true:=by
 simp only[okF,okc,x0a]at h
 simp only[okT,aS,x0a]
 exact⟨⟨qx h.1.1.1.1.2,qx h.1.1.1.2.2⟩,qx h.1.1.2.2⟩
def Hg(n:Nat):UInt8:=UInt8.ofNat (48+n%10)
def He(n:Nat)(out:List UInt8):List UInt8:=if n<10 then Hg n::out else He (n/10) (Hg n::out)
variable{C:CC}(hC:av prog C)
include hC
end Go.Gv

namespace Go.Gv
def om(m:Msh)(i:Nat):Pnt:=ptS (spt m i)
def fil(p:Nat->Bool)(n:Nat):List Nat:=(List.range n).filter p
theorem rA(p:Nat->Bool):fil p 0=[]:=rfl
theorem cX{p:Nat->Bool}{n:Nat}(h:p n=true):fil p (n+1)=fil p n++[n]:=by
 rw[fil,x04,List.filter_append]
 simp[h,fil]
theorem ta{p:Nat->Bool}{n:Nat}(h:p n=false):fil p (n+1)=fil p n:=by
 rw[fil,x04,List.filter_append]
 simp[h,fil]
theorem aR(p:Nat->Bool)(n:Nat):(fil p n).length<=n:=by
 have:=List.length_filter_le p (List.range n)
 rw[fil]
 simpa using this
theorem eD{p:Nat->Bool}{n i:Nat}(h:i∈fil p n):i<n/\p i=true:=by
 rw[fil,List.mem_filter,x0V]at h
 exact h
theorem kx{p:Nat->Bool}{n:Nat}:fil p n=[]↔∀i,i<n->p i=false:=by
 rw[fil,List.filter_eq_nil_iff]
 simp
def f5(m:Msh)(i:Nat):Bool:=!bG (spt m i)
def en(m:Msh)(i:Nat):Bool:=bG (spt m i)&&(List.range i).any fun k=>bG (spt m k)&&decide (om m k=om m i)
def gn(m:Msh)(i:Nat):Bool:=!okF m (fce m i)
def d9(m:Msh)(i:Nat):Bool:=okF m (fce m i)&&decide (lh (aS m (fce m i))<=0)
def aJ(m:Msh)(i:Nat):Bool:=okF m (fce m i)&&decide (0<lh (aS m (fce m i)))
def cZ(m:Msh)(i:Nat):Bool:=aJ m i&&(List.range i).any fun k=>aJ m k&&oi (fce m i) (fce m k)
def a6(m:Msh)(i:Nat):Bool:=aJ m i&&(List.range i).any fun k=>aJ m k&&ovT (aS m (fce m i)) (aS m (fce m k))
def LL(m:Msh):List (List Nat):=[[],fil (f5 m) m.s.length,fil (en m) m.s.length,fil (gn m) m.f.length,fil (d9 m) m.f.length,fil (cZ m) m.f.length,fil (a6 m) m.f.length]
def d7(dec:Nat->List UInt8):Nat->List (List Nat)->List (Int×List UInt8)
 | _,[]=>[]
 | k,l::r=>(l.map fun i=>((k:Int),dec i))++d7 dec (k+1) r
def fnD(x:Int×List UInt8):List D:=[.int .i64 x.1,.str x.2]
def ct(m:Msh):Bool:=decide (m.s.length<=2000)&&decide (m.f.length<=4000)
def aw(m:Msh):Bool:=ct m&&(LL m).all fun l=>decide (l=[])
theorem sg(dec:Nat->List UInt8):∀(k:Nat) (ls:List (List Nat)),d7 dec k ls=[]↔(ls.all fun l=>decide (l=[]))=true
 | _,[]=>by simp[d7]
 | k,l::r=>by simp[d7,sg dec (k+1) r]
def jK(m:Msh):Nat->List D
 | 0=>[]
 | i+1=>if bG (spt m i) then .agg (ptD (om m i))::jK m i else jK m i
def lU(m:Msh):Nat->List D
 | 0=>[]
 | i+1=>if bG (spt m i) then .bool true::lU m i else lU m i
theorem sk(m:Msh):∀i,(jK m i).length<=i
 | 0=>by simp[jK]
 | i+1=>by
  have:=sk m i
  rw[jK]
  split<;>simp<;>omega
theorem Dk(p q:Pnt):eqD (.agg (ptD p)) (.agg (ptD q))=decide (q=p):=by
 obtain⟨a,b⟩:=p
 obtain⟨c,d⟩:=q
 simp[eqD,pY,pX,ptD]
 rw[x0S]
 simp
 exact⟨fun h=>⟨h.1.symm,h.2.symm⟩,fun h=>⟨h.1.symm,h.2.symm⟩⟩
theorem tJ(m:Msh)(p:Pnt):∀i,(cJ (jK m i) (lU m i) (.agg (ptD p))).getD (.bool false)=.bool ((List.range i).any fun k=>bG (spt m k)&&decide (om m k=p))
 | 0=>rfl
 | i+1=>by
  rw[jK,lU,x04,List.any_append]
  by_cases h:bG (spt m i)=true
  ·rw[if_pos h,if_pos h,cJ,Dk]
   by_cases h2:om m i=p
   ·simp[h,h2]
   ·simp[h2,tJ m p i]
  ·rw[if_neg h,if_neg h,tJ m p i]
   simp[h]
def fh(m:Msh)(i:Nat):List Bool:=(List.range m.s.length).map fun j=>decide (j<i)&&f5 m j
theorem ku(m:Msh)(i:Nat):(fh m i).length=m.s.length:=by simp[fh]
theorem vE(m:Msh):fh m 0=List.replicate m.s.length false:=by
 refine x1m (by simp[fh]) fun k h1 h2=>?_
 simp[fh]
theorem xH(m:Msh){i:Nat}(h:i<m.s.length):(fh m i).set i (f5 m i)=fh m (i+1):=by
 refine x1m (by simp[fh]) fun k h1 h2=>?_
 rw[List.getElem_set]
 simp only[fh,x1u,x1J]
 by_cases e:i=k
 ·subst e;simp
 ·rw[if_neg e]
  by_cases e2:k<i
  ·simp[e2,show k<i+1 by omega]
  ·simp[e2,show ¬k<i+1 by omega]
theorem xF(m:Msh){k:Nat}(h:k<m.s.length):(fh m m.s.length)[k]'(by rw[ku];exact h)=f5 m k:=by simp[fh,h]
variable{C:CC}(hC:av prog C)
include hC
theorem xU{b:Bool}{xs:List Tri}{g:Nat}{cs:List D}(p:Tri->Bool)(hs:xs.length<2^62)(hp:∀x∈xs,C g (.agg (cm x)::cs) (.bool (p x)) []):C 328 [slx b (xs.map cm),.fn g cs] (.int .i64 (gA p xs)) []:=by
 refine az hC (nf:=N328) rfl rfl ?_
 simp[N328]
 refine aC Nat (fun i=>[(0,slx b (xs.map cm)),(1,.fn g cs),(7,.int .i64 xs.length),(8,.int .i64 i)]) (fun i=>i<=xs.length/\∀(j:Nat) (h:j<xs.length),j<i->p xs[j]=false) (fun i=>xs.length-i) 0 (by simp) (by simp) ?_
 rintro i ⟨hi,hj⟩
 simp
 refine aj (fun h=>?_) (fun h=>?_)<;>simp[h]<;>simp at h
 ·have hw:IntKind.wrap .i64 ((i:Int)+1)=((i+1:Nat):Int):=ah (by omega) (by omega)
  have hc:=hp _ (x0u h)
  simp[h,x1u,cm]at hc ⊢
  refine aa hc (.inl rfl) ?_
  simp
  refine aj (fun h1=>?_) (fun h1=>?_)<;>simp[h1,hw]
  ·rw[dT hj h h1]
  ·refine⟨i+1,⟨by omega,fun j hl hjj=>?_⟩,by omega,by simp[cm]⟩
   rcases x1f.1 hjj with h2|rfl
   ·exact hj j hl h2
   ·exact h1
 ·rw[dS (fun j hl=>hj j hl (by omega))]
theorem cT{b:Bool}{xs:List Tri}{g:Nat}{cs:List D}(p:Tri->Bool)(hs:xs.length<2^62)(hp:∀x∈xs,C g (.agg (cm x)::cs) (.bool (p x)) []):C 309 [slx b (xs.map cm),.fn g cs] (.bool (xs.any p)) []:=by
 refine az hC (nf:=N309) rfl rfl ?_
 simp[N309]
 refine aa (xU hC p hs hp) (.inl rfl) ?_
 simp[gT]
theorem De(m:Msh)(k:Int)(hn:m.s.length<2^40):C 306 [.int .i64 k,.ptr (b0 m),.ptr [.sl ((fh m m.s.length).map fun b=>[.bool b])]] (.bool (!(eF m.s.length k&&bG (spt m k.toNat)))) []:=by
 have E:eF m.s.length k=(decide (0<=k)&&decide (k<m.s.length)):=rfl
 refine az hC (nf:=N306) rfl rfl ?_
 simp[N306,b0]
 refine aj (fun c1=>?_) (fun c1=>?_)<;>simp at c1
 ·simp[c1]
  rw[E,decide_eq_false (by omega)];simp
 ·simp[x1y.2 c1]
  refine aj (fun c2=>?_) (fun c2=>?_)<;>simp at c2
  ·simp[c2]
   rw[E,decide_eq_false (show ¬k<m.s.length by omega)];simp
  ·have c3:k.toNat<m.s.length:=by omega
   have c4:=xF m c3
   simp[Int.not_le.2 c2,c1,c3,ku]
   rw[c4,E,decide_eq_true c1,decide_eq_true c2]
   simp[f5]
theorem fe{t o:Tri}(ht:okT t=true)(ho:okT o=true):C 310 [.agg (cm o),.ptr (cm t)] (.bool (ovT t o)) []:=by
 have k1:=CM hC ht ho
 have k2:=CM hC ho ht
 refine az hC (nf:=N310) rfl rfl ?_
 rw[cm,cm]at k1 k2 ⊢
 simp[N310]
 refine aa k1 (.inl rfl) ?_
 simp
 cases h1:tW t o<;>simp[ovT,h1]
 refine aa k2 (.inl rfl) ?_
 simp
 exact fun _=>h1
end Go.Gv

namespace Go.Gv
def nmR(l:List Nat):List (List D):=l.map fun(k:Nat)=>[D.int .i64 k]
theorem fo(l:List Nat):nmR l=l.map fun(k:Nat)=>[D.int .i64 k]:=zR
theorem ju{p:Nat->Bool}{n:Nat}(h:p n=true):nmR (fil p n)++[[D.int .i64 n]]=nmR (fil p (n+1)):=by
 rw[cX h];simp[nmR]
theorem fp{p:Nat->Bool}{n:Nat}(h:p n=false):nmR (fil p n)=nmR (fil p (n+1)):=by rw[ta h]
@[simp] theorem KS(l:List Nat):(nmR l).length=l.length:=by simp[nmR]
@[simp] theorem Eh(l:List Nat):(∀e∈nmR l,∀c∈e,aH c=true)=True:=by simp[nmR]
@[simp] theorem II(l:List Nat):List.take l.length (nmR l)=nmR l:=x0z (by simp)
@[simp] theorem KR(l:List Nat)(x:List D):(∀e,e∈nmR l\/e=x->∀c,c∈e->aH c=true)=∀c,c∈x->aH c=true:=by
 apply propext
 constructor
 ·exact fun h=>h x (.inr rfl)
 ·rintro h e (he|rfl)
  ·exact(Eh l).mpr trivial e he
  ·exact h
@[simp] theorem KU:nmR []=[]:=rfl
def boR(l:List Bool):List (List D):=l.map fun b=>[D.bool b]
theorem pP(l:List Bool):boR l=l.map fun b=>[D.bool b]:=zR
@[simp] theorem JF(l:List Bool):(boR l).length=l.length:=by simp[boR]
@[simp] theorem JE(l:List Bool)(i:Nat)(h:i<(boR l).length):(boR l)[i]=[D.bool (l[i]'(by simpa using h))]:=by simp[boR]
@[simp] theorem JG(l:List Bool)(i:Nat)(b:Bool):(boR l).set i [D.bool b]=boR (l.set i b):=by simp[boR,List.map_set]
theorem vD(m:Msh){i:Nat}(h:i<m.s.length):(fh m i).set i (!bG (spt m i))=fh m (i+1):=xH m h
theorem Ax(m:Msh){i:Nat}(h:i<m.s.length)(h':i<(fh m (i+1)).length):(fh m (i+1))[i]=!bG (spt m i):=by simp[fh,f5]
theorem xG(m:Msh):List.replicate m.s.length [D.bool false]=boR (fh m 0):=by rw[vE];simp[boR]
def Cd(m:Msh)(i:Nat):Env:=[(1,.ptr (b0 m)),(4,.adr (.r 10064) 0 0),(10064,.blk 7 [[.own 1 [],.own 1 (nmR (fil (f5 m) i)),.own 1 (nmR (fil (en m) i)),.own 1 [],.own 1 [],.own 1 [],.own 1 []]]),(5,.adr (.r 10080) 0 0),(10080,.blk 1 [[.own 1 (boR (fh m i))]]),(6,.mrf 10464),(10464,.mp 4 1 (jK m i) (lU m i)),(31,slx m.sn (m.s.map ol)),(32,.int .i64 m.s.length),(33,.int .i64 i)]
theorem iW(m:Msh)(i:Nat):Cd m i=[(1,.ptr (b0 m)),(4,.adr (.r 10064) 0 0),(10064,.blk 7 [[.own 1 [],.own 1 (nmR (fil (f5 m) i)),.own 1 (nmR (fil (en m) i)),.own 1 [],.own 1 [],.own 1 [],.own 1 []]]),(5,.adr (.r 10080) 0 0),(10080,.blk 1 [[.own 1 (boR (fh m i))]]),(6,.mrf 10464),(10464,.mp 4 1 (jK m i) (lU m i)),(31,slx m.sn (m.s.map ol)),(32,.int .i64 m.s.length),(33,.int .i64 i)]:=zR
def trR(m:Msh)(l:List Nat):List (List D):=l.map fun k=>cm (aS m (fce m k))
theorem fv(m:Msh)(l:List Nat):trR m l=(l.map fun k=>aS m (fce m k)).map cm:=by simp[trR]
@[simp] theorem LB(m:Msh)(l:List Nat):(trR m l).length=l.length:=by simp[trR]
@[simp] theorem Ju(m:Msh)(l:List Nat):List.take l.length (trR m l)=trR m l:=x0z (by simp)
@[simp] theorem MK(m:Msh)(l:List Nat):List.map (fun e=>List.map bW e) (trR m l)=trR m l:=by simp[trR,cm]
@[simp] theorem LC(m:Msh):trR m []=[]:=rfl
theorem dH{m:Msh}{i:Nat}(h:aJ m i=true):trR m (fil (aJ m) i)++[cm (aS m (fce m i))]=trR m (fil (aJ m) (i+1)):=by rw[cX h];simp[trR]
def sdK(f:Fce):Nat->List D
 | 0=>[]
 | j+1=>.agg [.int .i64 (crn f j),.int .i64 (crn f (j+1))]::sdK f j
theorem la(f:Fce):∀j,(sdK f j).length=j
 | 0=>rfl
 | j+1=>by simp[sdK,la f j]
def ca(m:Msh):Nat->List D
 | 0=>[]
 | i+1=>if aJ m i then sdK (fce m i) 3++ca m i else ca m i
def cg(m:Msh):Nat->List D
 | 0=>[]
 | i+1=>if aJ m i then List.replicate 3 (.bool true)++cg m i else cg m i
theorem cH(m:Msh):∀i,(ca m i).length<=3*i
 | 0=>by simp[ca]
 | i+1=>by
  have:=cH m i
  rw[ca]
  split<;>simp[la]<;>omega
def i7(m:Msh)(i j:Nat):Bool:=(List.range i).any fun k=>aJ m k&&(List.range 3).any fun j'=>mtc (fce m i) (fce m k) j j'
theorem Cj(a b c d:Int):eqD (.agg [.int .i64 a,.int .i64 b]) (.agg [.int .i64 c,.int .i64 d])=(decide (a=c)&&decide (b=d)):=by
 simp[eqD,pY,pX]
theorem t6(m:Msh)(a b:Int):∀i,(cJ (ca m i) (cg m i) (.agg [.int .i64 a,.int .i64 b])).getD (.bool false)=.bool ((List.range i).any fun k=>aJ m k&&(List.range 3).any fun j=>decide (a=crn (fce m k) j)&&decide (b=crn (fce m k) (j+1)))
 | 0=>rfl
 | i+1=>by
  rw[ca,cg,x04,List.any_append]
  have h3:List.range 3=[0,1,2]:=rfl
  by_cases h:aJ m i=true
  ·rw[if_pos h,if_pos h]
   simp only[sdK,List.replicate,x05,x03,cJ,Cj]
   have ih:=t6 m a b i
   by_cases c0:(decide (a=crn (fce m i) 2)&&decide (b=crn (fce m i) (2+1)))=true
   ·rw[if_pos c0]
    simp only[List.any_cons,x1E,h,h3,c0]
    simp
   ·rw[if_neg c0]
    by_cases c1:(decide (a=crn (fce m i) 1)&&decide (b=crn (fce m i) (1+1)))=true
    ·rw[if_pos c1]
     simp only[List.any_cons,x1E,h,h3,c1]
     simp
    ·rw[if_neg c1]
     by_cases c2:(decide (a=crn (fce m i) 0)&&decide (b=crn (fce m i) (0+1)))=true
     ·rw[if_pos c2]
      simp only[List.any_cons,x1E,h,h3,c2]
      simp
     ·rw[if_neg c2,ih]
      rw[Bool.not_eq_true]at c0 c1 c2
      simp only[List.any_cons,x1E,h,h3,c0,c1,c2]
      simp
  ·rw[if_neg h,if_neg h,t6 m a b i]
   simp[h]
theorem Ag{α:Type}(A p q r:α->Bool)(l:List α):(l.any fun k=>A k&&(p k||(q k||r k)))=((l.any fun k=>A k&&p k)||((l.any fun k=>A k&&q k)||(l.any fun k=>A k&&r k))):=by
 induction l with
 | nil=>rfl
 | cons x l ih =>
  simp only[List.any_cons,ih]
  cases A x<;>cases p x<;>cases q x<;>cases r x<;>simp
theorem yX{m:Msh}{i:Nat}(h:aJ m i=true):cZ m i=(i7 m i 0||(i7 m i 1||i7 m i 2)):=by
 unfold cZ oi i7
 rw[h,x1G,<- Ag]
 have h3:List.range 3=[0,1,2]:=rfl
 simp only[h3,List.any_cons,x1E,Bool.or_false]
theorem sX{m:Msh}{f:Fce}(h:inS m f=true)(j:Nat):0<=crn f j/\crn f j<m.s.length:=by
 have:=lJ h
 unfold crn
 split<;>omega
def rj(m:Msh)(i k:Nat):Env:=[(1,.ptr (b0 m)),(4,.adr (.r 10064) 0 0),(10064,.blk 7 [[.own 1 [],.own 1 (nmR (fil (f5 m) m.s.length)),.own 1 (nmR (fil (en m) m.s.length)),.own 1 (nmR (fil (gn m) i)),.own 1 (nmR (fil (d9 m) i)),.own 1 (nmR (fil (cZ m) (i+1))),.own 1 (nmR (fil (a6 m) i))]]),(5,.adr (.r 10080) 0 0),(10080,.blk 1 [[.own 1 (boR (fh m m.s.length))]]),(10,.mrf 11104),(11104,.mp 3 1 (sdK (fce m i) k++ca m i) (List.replicate k (.bool true)++cg m i)),(11,.ref (.r 10176) 0 (fil (aJ m) i).length),(10176,.blk 6 (trR m (fil (aJ m) i))),(12,.int .i64 i),(13,.adr (.r 10208) 0 0),(10208,.blk 4 [cu (fce m i)]),(15,.adr (.r 10240) 0 0),(10240,.blk 6 [cm (aS m (fce m i))]),(71,slx m.fn (m.f.map cu)),(72,.int .i64 m.f.length),(73,.int .i64 i),(159,.int .i64 k)]
theorem gH(m:Msh)(i k:Nat):rj m i k=[(1,.ptr (b0 m)),(4,.adr (.r 10064) 0 0),(10064,.blk 7 [[.own 1 [],.own 1 (nmR (fil (f5 m) m.s.length)),.own 1 (nmR (fil (en m) m.s.length)),.own 1 (nmR (fil (gn m) i)),.own 1 (nmR (fil (d9 m) i)),.own 1 (nmR (fil (cZ m) (i+1))),.own 1 (nmR (fil (a6 m) i))]]),(5,.adr (.r 10080) 0 0),(10080,.blk 1 [[.own 1 (boR (fh m m.s.length))]]),(10,.mrf 11104),(11104,.mp 3 1 (sdK (fce m i) k++ca m i) (List.replicate k (.bool true)++cg m i)),(11,.ref (.r 10176) 0 (fil (aJ m) i).length),(10176,.blk 6 (trR m (fil (aJ m) i))),(12,.int .i64 i),(13,.adr (.r 10208) 0 0),(10208,.blk 4 [cu (fce m i)]),(15,.adr (.r 10240) 0 0),(10240,.blk 6 [cm (aS m (fce m i))]),(71,slx m.fn (m.f.map cu)),(72,.int .i64 m.f.length),(73,.int .i64 i),(159,.int .i64 k)]:=zR
def fnR(l:List (Int×List UInt8)):List (List D):=l.map fnD
@[simp] theorem JZ(l:List (Int×List UInt8)):(fnR l).length=l.length:=by simp[fnR]
@[simp] theorem gN(l:List (Int×List UInt8)):List.take l.length (fnR l)=fnR l:=x0z (by simp)
@[simp] theorem Ml(l:List (Int×List UInt8)):List.map (fun e=>List.map bW e) (fnR l)=fnR l:=by simp[fnR,fnD]
theorem js(l:List (Int×List UInt8))(k:Int)(s:List UInt8):fnR l++[[.int .i64 k,.str s]]=fnR (l++[(k,s)]):=by simp[fnR,fnD]
@[simp] theorem J0:fnR []=[]:=rfl
def GO(L1 L2 L3 L4 L5 L6:List Nat):D:=.agx [.ref (.n 10064 0 0) 0 0,.ref (.n 10064 0 1) 0 L1.length,.ref (.n 10064 0 2) 0 L2.length,.ref (.n 10064 0 3) 0 L3.length,.ref (.n 10064 0 4) 0 L4.length,.ref (.n 10064 0 5) 0 L5.length,.ref (.n 10064 0 6) 0 L6.length]
theorem aL(L1 L2 L3 L4 L5 L6:List Nat):GO L1 L2 L3 L4 L5 L6=.agx [.ref (.n 10064 0 0) 0 0,.ref (.n 10064 0 1) 0 L1.length,.ref (.n 10064 0 2) 0 L2.length,.ref (.n 10064 0 3) 0 L3.length,.ref (.n 10064 0 4) 0 L4.length,.ref (.n 10064 0 5) 0 L5.length,.ref (.n 10064 0 6) 0 L6.length]:=zR
def GV(L1 L2 L3 L4 L5 L6:List Nat):D:=.blk 7 [[.own 1 [],.own 1 (nmR L1),.own 1 (nmR L2),.own 1 (nmR L3),.own 1 (nmR L4),.own 1 (nmR L5),.own 1 (nmR L6)]]
theorem aX(L1 L2 L3 L4 L5 L6:List Nat):GV L1 L2 L3 L4 L5 L6=.blk 7 [[.own 1 [],.own 1 (nmR L1),.own 1 (nmR L2),.own 1 (nmR L3),.own 1 (nmR L4),.own 1 (nmR L5),.own 1 (nmR L6)]]:=zR
theorem eS(dec:Nat->List UInt8):∀(a b:List (List Nat)) (k:Nat),d7 dec k (a++b)=d7 dec k a++d7 dec (k+a.length) b
 | [],b,k=>by simp[d7]
 | x::a,b,k=>by
  have:=eS dec a b (k+1)
  simp only[x05,d7,this,x0O,x0F]
  rw[show k+1+a.length=k+(a.length+1) by omega]
def tkD(dec:Nat->List UInt8)(k:Int)(L:List Nat)(j:Nat):List (Int×List UInt8):=(L.take j).map fun i=>(k,dec i)
theorem fX(dec:Nat->List UInt8)(k:Int)(L:List Nat):tkD dec k L 0=[]:=by simp[tkD]
theorem ii(dec:Nat->List UInt8)(k:Int)(L:List Nat){j:Nat}(h:j<L.length):tkD dec k L (j+1)=tkD dec k L j++[(k,dec L[j])]:=by
 unfold tkD
 rw[List.take_add_one,x0e h,List.map_append]
 rfl
theorem jF(dec:Nat->List UInt8)(k:Int)(L:List Nat){j:Nat}(h:j<=L.length):(tkD dec k L j).length=j:=by simp[tkD];omega
theorem jE(dec:Nat->List UInt8)(k:Int)(L:List Nat):tkD dec k L L.length=L.map fun i=>(k,dec i):=by simp[tkD]
def Ce(m:Msh)(i:Nat):Env:=[(1,.ptr (b0 m)),(4,.adr (.r 10064) 0 0),(10064,.blk 7 [[.own 1 [],.own 1 (nmR (fil (f5 m) m.s.length)),.own 1 (nmR (fil (en m) m.s.length)),.own 1 (nmR (fil (gn m) i)),.own 1 (nmR (fil (d9 m) i)),.own 1 (nmR (fil (cZ m) i)),.own 1 (nmR (fil (a6 m) i))]]),(5,.adr (.r 10080) 0 0),(10080,.blk 1 [[.own 1 (boR (fh m m.s.length))]]),(10,.mrf 11104),(11104,.mp 3 1 (ca m i) (cg m i)),(11,.ref (.r 10176) 0 (fil (aJ m) i).length),(10176,.blk 6 (trR m (fil (aJ m) i))),(71,slx m.fn (m.f.map cu)),(72,.int .i64 m.f.length),(73,.int .i64 i)]
theorem db(m:Msh)(i:Nat):Ce m i=[(1,.ptr (b0 m)),(4,.adr (.r 10064) 0 0),(10064,.blk 7 [[.own 1 [],.own 1 (nmR (fil (f5 m) m.s.length)),.own 1 (nmR (fil (en m) m.s.length)),.own 1 (nmR (fil (gn m) i)),.own 1 (nmR (fil (d9 m) i)),.own 1 (nmR (fil (cZ m) i)),.own 1 (nmR (fil (a6 m) i))]]),(5,.adr (.r 10080) 0 0),(10080,.blk 1 [[.own 1 (boR (fh m m.s.length))]]),(10,.mrf 11104),(11104,.mp 3 1 (ca m i) (cg m i)),(11,.ref (.r 10176) 0 (fil (aJ m) i).length),(10176,.blk 6 (trR m (fil (aJ m) i))),(71,slx m.fn (m.f.map cu)),(72,.int .i64 m.f.length),(73,.int .i64 i)]:=zR
variable{C:CC}(hC:av prog C)
include hC
set_option maxHeartbeats 4000000 in
theorem Ac(dec:Nat->List UInt8)(hI:∀n:Nat,n<100->C 127 [.int .i64 n] (.str (dec n)) [])(m:Msh)(hs:m.s.length<=100)(hf:m.f.length<=100):C 273 [.agg (b0 m)] (.tup [.sl ((d7 dec 0 (LL m)).map fnD),.int .i64 0]) []:=by
 have ksm:=rY hC m
 rw[decide_eq_true (show m.s.length<=2000 by omega),decide_eq_true (show m.f.length<=4000 by omega)]at ksm
 have kr:=fun s=>yd hC s
 have kp:=fun i h=>kH hC m i h
 refine az hC (nf:=N273) rfl rfl ?_
 simp only[af]at ksm
 simp[N273,af]
 refine aa ksm (.inl rfl) ?_
 simp
 refine⟨by omega,?_⟩
 refine aC Nat (fun i=>Cd m i) (fun i=>i<=m.s.length) (fun i=>m.s.length-i) 0 (by simp) (by simp[iW,af,rA,jK,lU,xG]) ?_
 rintro i hi
 simp[iW,af]
 refine aj (fun g1=>?_) (fun g1=>?_)<;>simp at g1<;>simp[g1]
 ·have hw:IntKind.wrap .i64 ((i:Int)+1)=((i+1:Nat):Int):=ah (by omega) (by omega)
  have kri:=kr (spt m i)
  simp only[gm]at kri
  simp[gm]
  refine aa kri (.inl rfl) ?_
  simp[ku,g1]
  refine⟨aF (by decide +kernel),?_⟩
  rw[vD m g1]
  rw[pP]
  simp[ku,g1,Ax]
  have kpi:=kp i g1
  simp only[af]at kpi
  have hr:=qx (s:=spt m i)
  cases hr1:bG (spt m i)
  ·have e1:=ju (p:=f5 m) (n:=i) (by simp[f5,hr1])
   have e2:=fp (p:=en m) (n:=i) (by simp[en,hr1])
   have e3:jK m (i+1)=jK m i:=by simp[jK,hr1]
   have e4:lU m (i+1)=lU m i:=by simp[lU,hr1]
   simp[hw]
   refine⟨by have:=aR (f5 m) i;omega,i+1,by omega,by omega,?_⟩
   simp[iW,af,e1,<- e2,e3,e4,<- pP]
  ·have hp:=dD (hr hr1)
   have e2:=fp (p:=f5 m) (n:=i) (by simp[f5,hr1])
   have e3:jK m (i+1)=.agg (ptD (om m i))::jK m i:=by simp[jK,hr1]
   have e4:lU m (i+1)=.bool true::lU m i:=by simp[lU,hr1]
   have kg:=tJ m (om m i) i
   have kl:=sk m i
   have hml:maxLen=9223372036854775807:=rfl
   simp[af]
   refine aa kpi (.inl rfl) ?_
   simp[ptD,ptS,om]at kg hp
   simp[ptD,ptS,kg]
   refine⟨⟨by omega,by omega⟩,?_⟩
   have hsame:((List.range i).any fun k=>bG (spt m k)&&(decide ((spt m k).x=(spt m i).x)&&decide ((spt m k).y=(spt m i).y)))=en m i:=by
    simp[en,hr1,om,ptS]
   rw[hsame]
   cases hs1:en m i
   ·have e1:=fp (p:=en m) (n:=i) hs1
    simp[hw]
    refine⟨by omega,⟨by omega,by omega⟩,i+1,by omega,by omega,?_⟩
    simp[iW,af,<- e1,<- e2,e3,e4,<- pP,ptD,om,ptS]
   ·have e1:=ju (p:=en m) (n:=i) hs1
    simp[hw]
    refine⟨by have:=aR (en m) i;omega,by omega,⟨by omega,by omega⟩,i+1,by omega,by omega,?_⟩
    simp[iW,af,e1,<- e2,e3,e4,<- pP,ptD,om,ptS]
 ·have hi2:i=m.s.length:=by omega
  subst hi2
  refine aC Nat (fun i=>Ce m i) (fun i=>i<=m.f.length) (fun i=>m.f.length-i) 0 (by simp) (by simp[db,af,rA,ca,cg]) ?_
  clear hi g1 kr kp ksm
  rintro i hi
  simp[db,af]
  refine aj (fun g1=>?_) (fun g1=>?_)<;>simp at g1<;>simp[g1]
  ·have hw:IntKind.wrap .i64 ((i:Int)+1)=((i+1:Nat):Int):=ah (by omega) (by omega)
   have kc:=nL hC (fce m i)
   have k1:=fP hC (b:=false) (xs:=[(fce m i).a,(fce m i).b,(fce m i).c]) (g:=306) (cs:=[.ptr (b0 m),.ptr [.sl (boR (fh m m.s.length))]]) (fun k=>!(eF m.s.length k&&bG (spt m k.toNat))) (by simp) (fun x _=>De hC m x (by omega))
   simp only[af,aP]at kc k1
   simp at k1
   simp[aP]
   refine aa kc (.inl rfl) ?_
   simp[bY]
   obtain⟨v,hv⟩:∃v,v=(!eF m.s.length (fce m i).a||!bG (spt m (fce m i).a.toNat)||(!eF m.s.length (fce m i).b||!bG (spt m (fce m i).b.toNat)||(!eF m.s.length (fce m i).c||!bG (spt m (fce m i).c.toNat)))):=⟨_,rfl⟩
   rw[<- hv]at k1
   refine aa k1 (.inl rfl) ?_
   have E:gn m i=!(okF m (fce m i)):=rfl
   have E2:okF m (fce m i)=(okc m (fce m i).a (fce m i).b&&okc m (fce m i).b (fce m i).c&&okc m (fce m i).c (fce m i).a&&decide (0<=(fce m i).k)&&decide ((fce m i).k<16)):=rfl
   have E3:∀a b:Int,okc m a b=(eF m.s.length a&&decide (a≠b)&&bG (spt m a.toNat)):=fun a b=>rfl
   have bad:gn m i=true->nmR (fil (gn m) i)++[[D.int .i64 i]]=nmR (fil (gn m) (i+1))/\nmR (fil (d9 m) i)=nmR (fil (d9 m) (i+1))/\nmR (fil (cZ m) i)=nmR (fil (cZ m) (i+1))/\nmR (fil (a6 m) i)=nmR (fil (a6 m) (i+1))/\fil (aJ m) (i+1)=fil (aJ m) i/\ca m (i+1)=ca m i/\cg m (i+1)=cg m i:=fun h=>by
    have h0:okF m (fce m i)=false:=by rw[E]at h;simpa using h
    have h1:aJ m i=false:=by simp[aJ,h0]
    exact⟨ju h,fp (by simp[d9,h0]),fp (by simp[cZ,h1]),fp (by simp[a6,h1]),ta h1,by simp[ca,h1],by simp[cg,h1]⟩
   cases v
   rotate_left
   ·obtain⟨e1,e2,e3,e4,e5,e6,e7⟩:=bad (by
     rw[E,E2,E3,E3,E3]
     revert hv
     cases eF m.s.length (fce m i).a<;>cases bG (spt m (fce m i).a.toNat)<;>cases eF m.s.length (fce m i).b<;>cases bG (spt m (fce m i).b.toNat)<;>cases eF m.s.length (fce m i).c<;>cases bG (spt m (fce m i).c.toNat)<;>simp)
    simp[hw]
    refine⟨by have:=aR (gn m) i;omega,i+1,by omega,by omega,?_⟩
    simp[db,af,e1,<- e2,<- e3,<- e4,e5,e6,e7]
   by_cases c1:(fce m i).a=(fce m i).b
   ·obtain⟨e1,e2,e3,e4,e5,e6,e7⟩:=bad (by
     rw[E,E2,E3,E3,E3]
     rw[decide_eq_false (show ¬(fce m i).a≠(fce m i).b by omega)];simp)
    simp[c1,hw]
    refine⟨by have:=aR (gn m) i;omega,i+1,by omega,by omega,?_⟩
    simp[db,af,e1,<- e2,<- e3,<- e4,e5,e6,e7]
   by_cases c2:(fce m i).b=(fce m i).c
   ·obtain⟨e1,e2,e3,e4,e5,e6,e7⟩:=bad (by
     rw[E,E2,E3,E3,E3]
     rw[decide_eq_false (show ¬(fce m i).b≠(fce m i).c by omega)];simp)
    simp[(show ¬(fce m i).a=(fce m i).c by rw[<- c2];exact c1),c2,hw]
    refine⟨by have:=aR (gn m) i;omega,i+1,by omega,by omega,?_⟩
    simp[db,af,e1,<- e2,<- e3,<- e4,e5,e6,e7]
   by_cases c3:(fce m i).c=(fce m i).a
   ·obtain⟨e1,e2,e3,e4,e5,e6,e7⟩:=bad (by
     rw[E,E2,E3,E3,E3]
     rw[decide_eq_false (show ¬(fce m i).c≠(fce m i).a by omega)];simp)
    simp[c1,c2,hw]
    refine aj (fun _=>?_) (fun h=>by simp[c3]at h)
    simp[hw]
    refine⟨by have:=aR (gn m) i;omega,i+1,by omega,by omega,?_⟩
    simp[db,af,e1,<- e2,<- e3,<- e4,e5,e6,e7]
   have c3':¬(fce m i).a=(fce m i).c:=fun h=>c3 h.symm
   by_cases c4:(fce m i).k<0
   ·obtain⟨e1,e2,e3,e4,e5,e6,e7⟩:=bad (by
     rw[E,E2,E3,E3,E3]
     rw[decide_eq_false (show ¬0<=(fce m i).k by omega)];simp)
    simp[c1,c2,c3,c3',c4,hw]
    refine⟨by have:=aR (gn m) i;omega,i+1,by omega,by omega,?_⟩
    simp[db,af,e1,<- e2,<- e3,<- e4,e5,e6,e7]
   by_cases c5:16<=(fce m i).k
   ·obtain⟨e1,e2,e3,e4,e5,e6,e7⟩:=bad (by
     rw[E,E2,E3,E3,E3]
     rw[decide_eq_false (show ¬(fce m i).k<16 by omega)];simp)
    simp[c1,c2,c3,c3',c4,c5,hw]
    refine⟨by have:=aR (gn m) i;omega,i+1,by omega,by omega,?_⟩
    simp[db,af,e1,<- e2,<- e3,<- e4,e5,e6,e7]
   have ok:okF m (fce m i)=true:=by
    rw[E2,E3,E3,E3]
    simp only[x0a,x0b]
    have h:=hv.symm
    simp only[Bool.or_eq_false_iff,Bool.not_eq_false']at h
    exact⟨⟨⟨⟨⟨⟨h.1.1,c1⟩,h.1.2⟩,⟨h.2.1.1,c2⟩,h.2.1.2⟩,⟨h.2.2.1,c3⟩,h.2.2.2⟩,by omega⟩,by omega⟩
   have nbad:gn m i=false:=by rw[E,ok];rfl
   have b1:=fp nbad
   have hT:=cY ok
   have kt:=yf hC m (fce m i) (qw ok)
   have kn:C 308 [.agg (ptD (aS m (fce m i)).1),.agg (ptD (aS m (fce m i)).2.1),.agg (ptD (aS m (fce m i)).2.2)] (.int .i64 (lh (aS m (fce m i)))) []:=by
    have h:=hT
    simp only[okT,x0a]at h
    exact qn hC h.1.1 h.1.2 h.2
   have ks:=fun k h=>qm hC (fce m i) k h
   have ks0:=ks 0 (by omega)
   have ks1:=ks 1 (by omega)
   have ks2:=ks 2 (by omega)
   have kg:=fun j=>t6 m (crn (fce m i) j) (crn (fce m i) (j+1)) i
   have kg:∀j,(cJ (ca m i) (cg m i) (.agg [.int .i64 (crn (fce m i) j),.int .i64 (crn (fce m i) (j+1))])).getD (.bool false)=.bool (i7 m i j):=kg
   have kg0:=kg 0
   have kg1:=kg 1
   have kg2:=kg 2
   simp[c1,c2,c3,c3',c4,c5]
   simp only[af,aP]at kt
   refine aa kt (.inl rfl) ?_
   simp[cm]
   simp only[ptD]at kn
   refine aa kn (.inl rfl) ?_
   simp
   refine aj (fun d1=>?_) (fun d1=>?_)<;>simp at d1
   ·have hfl:d9 m i=true:=by simp[d9,ok,d1]
    have hsn:aJ m i=false:=by simp[aJ,ok];omega
    have e1:=ju hfl
    have e2:=fp (p:=cZ m) (n:=i) (by simp[cZ,hsn])
    have e3:=fp (p:=a6 m) (n:=i) (by simp[a6,hsn])
    have e5:=ta hsn
    have e6:ca m (i+1)=ca m i:=by simp[ca,hsn]
    have e7:cg m (i+1)=cg m i:=by simp[cg,hsn]
    simp[d1,hw]
    refine⟨by have:=aR (d9 m) i;omega,i+1,by omega,by omega,?_⟩
    simp[db,af,e1,<- e2,<- e3,<- b1,e5,e6,e7]
   ·have hfl:d9 m i=false:=by simp[d9,ok];omega
    have hsn:aJ m i=true:=by simp[aJ,ok,d1]
    have b2:=fp hfl
    have hsd:=yX hsn
    simp only[aP]at ks ks0 ks1 ks2
    simp at ks0 ks1 ks2 kg0 kg1 kg2
    simp[Int.not_le.2 d1]
    refine aa ks0 (.inl rfl) ?_
    simp[kg0]
    have cb:=fun j=>sX (qw ok) j
    have cb0:=cb 0
    have cb1:=cb 1
    have cb2:=cb 2
    have cb3:=cb 3
    refine⟨⟨by omega,by omega⟩,?_⟩
    have yes:cZ m i=true->nmR (fil (cZ m) i)++[[D.int .i64 i]]=nmR (fil (cZ m) (i+1)):=ju
    have nos:cZ m i=false->nmR (fil (cZ m) i)=nmR (fil (cZ m) (i+1)):=fp
    have lsd:=aR (cZ m) i
    have kT:=cT hC (b:=false) (xs:=(fil (aJ m) i).map fun k=>aS m (fce m k)) (g:=310) (cs:=[.ptr (cm (aS m (fce m i)))]) (fun o=>ovT (aS m (fce m i)) o) (by have:=aR (aJ m) i;simp;omega) (fun x hx=>by
     obtain⟨k,hk,rfl⟩:=x0p.1 hx
     have hk:=(eD hk).2
     simp only[aJ,x0a]at hk
     exact fe hC hT (cY hk.1))
    rw[<- fv,x1C]at kT
    have hov:(fil (aJ m) i).any ((fun o=>ovT (aS m (fce m i)) o)∘fun k=>aS m (fce m k))=a6 m i:=by
     rw[fil,x1l,a6,hsn]
     rfl
    rw[hov]at kT
    rw[bx]at kT
    have tl:=cH m i
    have hml:maxLen=9223372036854775807:=rfl
    have e5:=dH hsn
    have e6:ca m (i+1)=sdK (fce m i) 3++ca m i:=by simp[ca,hsn]
    have e7:cg m (i+1)=.bool true::.bool true::.bool true::cg m i:=by
     rw[cg,if_pos hsn];rfl
    have e8:(fil (aJ m) (i+1)).length=(fil (aJ m) i).length+1:=by rw[cX hsn];simp
    have l8:=aR (aJ m) i
    have lov:=aR (a6 m) i
    have kT:=cT hC (b:=false) (xs:=(fil (aJ m) i).map fun k=>aS m (fce m k)) (g:=310) (cs:=[.ptr (cm (aS m (fce m i)))]) (fun o=>ovT (aS m (fce m i)) o) (by have:=aR (aJ m) i;simp;omega) (fun x hx=>by
     obtain⟨k,hk,rfl⟩:=x0p.1 hx
     have hk:=(eD hk).2
     simp only[aJ,x0a]at hk
     exact fe hC hT (cY hk.1))
    rw[<- fv,x1C]at kT
    have hov:(fil (aJ m) i).any ((fun o=>ovT (aS m (fce m i)) o)∘fun k=>aS m (fce m k))=a6 m i:=by
     rw[fil,x1l,a6,hsn]
     rfl
    rw[hov]at kT
    rw[bx]at kT
    have tl:=cH m i
    have hml:maxLen=9223372036854775807:=rfl
    have e5:=dH hsn
    have e6:ca m (i+1)=sdK (fce m i) 3++ca m i:=by simp[ca,hsn]
    have e7:cg m (i+1)=.bool true::.bool true::.bool true::cg m i:=by
     rw[cg,if_pos hsn];rfl
    have e8:(fil (aJ m) (i+1)).length=(fil (aJ m) i).length+1:=by rw[cX hsn];simp
    have l8:=aR (aJ m) i
    have lov:=aR (a6 m) i
    have kT:=cT hC (b:=false) (xs:=(fil (aJ m) i).map fun k=>aS m (fce m k)) (g:=310) (cs:=[.ptr (cm (aS m (fce m i)))]) (fun o=>ovT (aS m (fce m i)) o) (by have:=aR (aJ m) i;simp;omega) (fun x hx=>by
     obtain⟨k,hk,rfl⟩:=x0p.1 hx
     have hk:=(eD hk).2
     simp only[aJ,x0a]at hk
     exact fe hC hT (cY hk.1))
    rw[<- fv,x1C]at kT
    have hov:(fil (aJ m) i).any ((fun o=>ovT (aS m (fce m i)) o)∘fun k=>aS m (fce m k))=a6 m i:=by
     rw[fil,x1l,a6,hsn]
     rfl
    rw[hov]at kT
    rw[bx]at kT
    have tl:=cH m i
    have hml:maxLen=9223372036854775807:=rfl
    have e5:=dH hsn
    have e6:ca m (i+1)=sdK (fce m i) 3++ca m i:=by simp[ca,hsn]
    have e7:cg m (i+1)=.bool true::.bool true::.bool true::cg m i:=by
     rw[cg,if_pos hsn];rfl
    have e8:(fil (aJ m) (i+1)).length=(fil (aJ m) i).length+1:=by rw[cX hsn];simp
    have l8:=aR (aJ m) i
    have lov:=aR (a6 m) i
    have kT:=cT hC (b:=false) (xs:=(fil (aJ m) i).map fun k=>aS m (fce m k)) (g:=310) (cs:=[.ptr (cm (aS m (fce m i)))]) (fun o=>ovT (aS m (fce m i)) o) (by have:=aR (aJ m) i;simp;omega) (fun x hx=>by
     obtain⟨k,hk,rfl⟩:=x0p.1 hx
     have hk:=(eD hk).2
     simp only[aJ,x0a]at hk
     exact fe hC hT (cY hk.1))
    rw[<- fv,x1C]at kT
    have hov:(fil (aJ m) i).any ((fun o=>ovT (aS m (fce m i)) o)∘fun k=>aS m (fce m k))=a6 m i:=by
     rw[fil,x1l,a6,hsn]
     rfl
    rw[hov]at kT
    rw[bx]at kT
    have tl:=cH m i
    have hml:maxLen=9223372036854775807:=rfl
    have e5:=dH hsn
    have e6:ca m (i+1)=sdK (fce m i) 3++ca m i:=by simp[ca,hsn]
    have e7:cg m (i+1)=.bool true::.bool true::.bool true::cg m i:=by
     rw[cg,if_pos hsn];rfl
    have e8:(fil (aJ m) (i+1)).length=(fil (aJ m) i).length+1:=by rw[cX hsn];simp
    have l8:=aR (aJ m) i
    have lov:=aR (a6 m) i
    have kT:=cT hC (b:=false) (xs:=(fil (aJ m) i).map fun k=>aS m (fce m k)) (g:=310) (cs:=[.ptr (cm (aS m (fce m i)))]) (fun o=>ovT (aS m (fce m i)) o) (by have:=aR (aJ m) i;simp;omega) (fun x hx=>by
     obtain⟨k,hk,rfl⟩:=x0p.1 hx
     have hk:=(eD hk).2
     simp only[aJ,x0a]at hk
     exact fe hC hT (cY hk.1))
    rw[<- fv,x1C]at kT
    have hov:(fil (aJ m) i).any ((fun o=>ovT (aS m (fce m i)) o)∘fun k=>aS m (fce m k))=a6 m i:=by
     rw[fil,x1l,a6,hsn]
     rfl
    rw[hov]at kT
    rw[bx]at kT
    have tl:=cH m i
    have hml:maxLen=9223372036854775807:=rfl
    have e5:=dH hsn
    have e6:ca m (i+1)=sdK (fce m i) 3++ca m i:=by simp[ca,hsn]
    have e7:cg m (i+1)=.bool true::.bool true::.bool true::cg m i:=by
     rw[cg,if_pos hsn];rfl
    have e8:(fil (aJ m) (i+1)).length=(fil (aJ m) i).length+1:=by rw[cX hsn];simp
    have l8:=aR (aJ m) i
    have lov:=aR (a6 m) i
    have kT:=cT hC (b:=false) (xs:=(fil (aJ m) i).map fun k=>aS m (fce m k)) (g:=310) (cs:=[.ptr (cm (aS m (fce m i)))]) (fun o=>ovT (aS m (fce m i)) o) (by have:=aR (aJ m) i;simp;omega) (fun x hx=>by
     obtain⟨k,hk,rfl⟩:=x0p.1 hx
     have hk:=(eD hk).2
     simp only[aJ,x0a]at hk
     exact fe hC hT (cY hk.1))
    rw[<- fv,x1C]at kT
    have hov:(fil (aJ m) i).any ((fun o=>ovT (aS m (fce m i)) o)∘fun k=>aS m (fce m k))=a6 m i:=by
     rw[fil,x1l,a6,hsn]
     rfl
    rw[hov]at kT
    rw[bx]at kT
    have tl:=cH m i
    have hml:maxLen=9223372036854775807:=rfl
    have e5:=dH hsn
    have e6:ca m (i+1)=sdK (fce m i) 3++ca m i:=by simp[ca,hsn]
    have e7:cg m (i+1)=.bool true::.bool true::.bool true::cg m i:=by
     rw[cg,if_pos hsn];rfl
    have e8:(fil (aJ m) (i+1)).length=(fil (aJ m) i).length+1:=by rw[cX hsn];simp
    have l8:=aR (aJ m) i
    have lov:=aR (a6 m) i
    have kT:=cT hC (b:=false) (xs:=(fil (aJ m) i).map fun k=>aS m (fce m k)) (g:=310) (cs:=[.ptr (cm (aS m (fce m i)))]) (fun o=>ovT (aS m (fce m i)) o) (by have:=aR (aJ m) i;simp;omega) (fun x hx=>by
     obtain⟨k,hk,rfl⟩:=x0p.1 hx
     have hk:=(eD hk).2
     simp only[aJ,x0a]at hk
     exact fe hC hT (cY hk.1))
    rw[<- fv,x1C]at kT
    have hov:(fil (aJ m) i).any ((fun o=>ovT (aS m (fce m i)) o)∘fun k=>aS m (fce m k))=a6 m i:=by
     rw[fil,x1l,a6,hsn]
     rfl
    rw[hov]at kT
    rw[bx]at kT
    have tl:=cH m i
    have hml:maxLen=9223372036854775807:=rfl
    have e5:=dH hsn
    have e6:ca m (i+1)=sdK (fce m i) 3++ca m i:=by simp[ca,hsn]
    have e7:cg m (i+1)=.bool true::.bool true::.bool true::cg m i:=by
     rw[cg,if_pos hsn];rfl
    have e8:(fil (aJ m) (i+1)).length=(fil (aJ m) i).length+1:=by rw[cX hsn];simp
    have l8:=aR (aJ m) i
    have lov:=aR (a6 m) i
    have kT:=cT hC (b:=false) (xs:=(fil (aJ m) i).map fun k=>aS m (fce m k)) (g:=310) (cs:=[.ptr (cm (aS m (fce m i)))]) (fun o=>ovT (aS m (fce m i)) o) (by have:=aR (aJ m) i;simp;omega) (fun x hx=>by
     obtain⟨k,hk,rfl⟩:=x0p.1 hx
     have hk:=(eD hk).2
     simp only[aJ,x0a]at hk
     exact fe hC hT (cY hk.1))
    rw[<- fv,x1C]at kT
    have hov:(fil (aJ m) i).any ((fun o=>ovT (aS m (fce m i)) o)∘fun k=>aS m (fce m k))=a6 m i:=by
     rw[fil,x1l,a6,hsn]
     rfl
    rw[hov]at kT
    rw[bx]at kT
    have tl:=cH m i
    have hml:maxLen=9223372036854775807:=rfl
    have e5:=dH hsn
    have e6:ca m (i+1)=sdK (fce m i) 3++ca m i:=by simp[ca,hsn]
    have e7:cg m (i+1)=.bool true::.bool true::.bool true::cg m i:=by
     rw[cg,if_pos hsn];rfl
    have e8:(fil (aJ m) (i+1)).length=(fil (aJ m) i).length+1:=by rw[cX hsn];simp
    have l8:=aR (aJ m) i
    have lov:=aR (a6 m) i
    have kT:=cT hC (b:=false) (xs:=(fil (aJ m) i).map fun k=>aS m (fce m k)) (g:=310) (cs:=[.ptr (cm (aS m (fce m i)))]) (fun o=>ovT (aS m (fce m i)) o) (by have:=aR (aJ m) i;simp;omega) (fun x hx=>by
     obtain⟨k,hk,rfl⟩:=x0p.1 hx
     have hk:=(eD hk).2
     simp only[aJ,x0a]at hk
     exact fe hC hT (cY hk.1))
    rw[<- fv,x1C]at kT
    have hov:(fil (aJ m) i).any ((fun o=>ovT (aS m (fce m i)) o)∘fun k=>aS m (fce m k))=a6 m i:=by
     rw[fil,x1l,a6,hsn]
     rfl
    rw[hov]at kT
    rw[bx]at kT
    have tl:=cH m i
    have hml:maxLen=9223372036854775807:=rfl
    have e5:=dH hsn
    have e6:ca m (i+1)=sdK (fce m i) 3++ca m i:=by simp[ca,hsn]
    have e7:cg m (i+1)=.bool true::.bool true::.bool true::cg m i:=by
     rw[cg,if_pos hsn];rfl
    have e8:(fil (aJ m) (i+1)).length=(fil (aJ m) i).length+1:=by rw[cX hsn];simp
    have l8:=aR (aJ m) i
    have lov:=aR (a6 m) i
    have kT:=cT hC (b:=false) (xs:=(fil (aJ m) i).map fun k=>aS m (fce m k)) (g:=310) (cs:=[.ptr (cm (aS m (fce m i)))]) (fun o=>ovT (aS m (fce m i)) o) (by have:=aR (aJ m) i;simp;omega) (fun x hx=>by
     obtain⟨k,hk,rfl⟩:=x0p.1 hx
     have hk:=(eD hk).2
     simp only[aJ,x0a]at hk
     exact fe hC hT (cY hk.1))
    rw[<- fv,x1C]at kT
    have hov:(fil (aJ m) i).any ((fun o=>ovT (aS m (fce m i)) o)∘fun k=>aS m (fce m k))=a6 m i:=by
     rw[fil,x1l,a6,hsn]
     rfl
    rw[hov]at kT
    rw[bx]at kT
    have tl:=cH m i
    have hml:maxLen=9223372036854775807:=rfl
    have e5:=dH hsn
    have e6:ca m (i+1)=sdK (fce m i) 3++ca m i:=by simp[ca,hsn]
    have e7:cg m (i+1)=.bool true::.bool true::.bool true::cg m i:=by
     rw[cg,if_pos hsn];rfl
    have e8:(fil (aJ m) (i+1)).length=(fil (aJ m) i).length+1:=by rw[cX hsn];simp
    have l8:=aR (aJ m) i
    have lov:=aR (a6 m) i
    have kT:=cT hC (b:=false) (xs:=(fil (aJ m) i).map fun k=>aS m (fce m k)) (g:=310) (cs:=[.ptr (cm (aS m (fce m i)))]) (fun o=>ovT (aS m (fce m i)) o) (by have:=aR (aJ m) i;simp;omega) (fun x hx=>by
     obtain⟨k,hk,rfl⟩:=x0p.1 hx
     have hk:=(eD hk).2
     simp only[aJ,x0a]at hk
     exact fe hC hT (cY hk.1))
    rw[<- fv,x1C]at kT
    have hov:(fil (aJ m) i).any ((fun o=>ovT (aS m (fce m i)) o)∘fun k=>aS m (fce m k))=a6 m i:=by
     rw[fil,x1l,a6,hsn]
     rfl
    rw[hov]at kT
    rw[bx]at kT
    have tl:=cH m i
    have hml:maxLen=9223372036854775807:=rfl
    have e5:=dH hsn
    have e6:ca m (i+1)=sdK (fce m i) 3++ca m i:=by simp[ca,hsn]
    have e7:cg m (i+1)=.bool true::.bool true::.bool true::cg m i:=by
     rw[cg,if_pos hsn];rfl
    have e8:(fil (aJ m) (i+1)).length=(fil (aJ m) i).length+1:=by rw[cX hsn];simp
    have l8:=aR (aJ m) i
    have lov:=aR (a6 m) i
    have kT:=cT hC (b:=false) (xs:=(fil (aJ m) i).map fun k=>aS m (fce m k)) (g:=310) (cs:=[.ptr (cm (aS m (fce m i)))]) (fun o=>ovT (aS m (fce m i)) o) (by have:=aR (aJ m) i;simp;omega) (fun x hx=>by
     obtain⟨k,hk,rfl⟩:=x0p.1 hx
     have hk:=(eD hk).2
     simp only[aJ,x0a]at hk
     exact fe hC hT (cY hk.1))
    rw[<- fv,x1C]at kT
    have hov:(fil (aJ m) i).any ((fun o=>ovT (aS m (fce m i)) o)∘fun k=>aS m (fce m k))=a6 m i:=by
     rw[fil,x1l,a6,hsn]
     rfl
    rw[hov]at kT
    rw[bx]at kT
    have tl:=cH m i
    have hml:maxLen=9223372036854775807:=rfl
    have e5:=dH hsn
    have e6:ca m (i+1)=sdK (fce m i) 3++ca m i:=by simp[ca,hsn]
    have e7:cg m (i+1)=.bool true::.bool true::.bool true::cg m i:=by
     rw[cg,if_pos hsn];rfl
    have e8:(fil (aJ m) (i+1)).length=(fil (aJ m) i).length+1:=by rw[cX hsn];simp
    have l8:=aR (aJ m) i
    have lov:=aR (a6 m) i
    rcases(by cases i7 m i 0<;>cases i7 m i 1<;>cases i7 m i 2<;>simp:i7 m i 0=true\/(i7 m i 0=false/\i7 m i 1=true)\/(i7 m i 0=false/\i7 m i 1=false/\i7 m i 2=true)\/(i7 m i 0=false/\i7 m i 1=false/\i7 m i 2=false))with h0|⟨h0,h1⟩|⟨h0,h1,h2⟩|⟨h0,h1,h2⟩
    have y:=yes (by rw[hsd,h0];rfl)
    simp[h0]
    refine⟨by omega,?_⟩
    rw[y]
    refine aC Nat (fun k=>rj m i k) (fun k=>k<=3) (fun k=>3-k) 0 (by simp) (by simp[gH,af,aP,cm,sdK]) ?_
    rotate_left
    have y:=yes (by rw[hsd,h0,h1];rfl)
    simp[h0]
    refine aa ks1 (.inl rfl) ?_
    simp[kg1,h1]
    refine⟨⟨by omega,by omega⟩,by omega,?_⟩
    rw[y]
    refine aC Nat (fun k=>rj m i k) (fun k=>k<=3) (fun k=>3-k) 0 (by simp) (by simp[gH,af,aP,cm,sdK]) ?_
    rotate_left
    have y:=yes (by rw[hsd,h0,h1,h2];rfl)
    simp[h0]
    refine aa ks1 (.inl rfl) ?_
    simp[kg1,h1]
    refine⟨⟨by omega,by omega⟩,?_⟩
    refine aa ks2 (.inl rfl) ?_
    simp[kg2,h2]
    refine⟨⟨by omega,by omega⟩,by omega,?_⟩
    rw[y]
    refine aC Nat (fun k=>rj m i k) (fun k=>k<=3) (fun k=>3-k) 0 (by simp) (by simp[gH,af,aP,cm,sdK]) ?_
    rotate_left
    have y:=nos (by rw[hsd,h0,h1,h2];rfl)
    simp[h0]
    refine aa ks1 (.inl rfl) ?_
    simp[kg1,h1]
    refine⟨⟨by omega,by omega⟩,?_⟩
    refine aa ks2 (.inl rfl) ?_
    simp[kg2,h2]
    refine⟨⟨by omega,by omega⟩,?_⟩
    rw[y]
    refine aC Nat (fun k=>rj m i k) (fun k=>k<=3) (fun k=>3-k) 0 (by simp) (by simp[gH,af,aP,cm,sdK]) ?_
    rotate_left
    all_goals
     clear y
     rintro k hk
     simp[gH,af,aP,cm]
     refine aj (fun g2=>?_) (fun g2=>?_)<;>simp at g2<;>simp[g2]
     ·have hw2:IntKind.wrap .i64 ((k:Int)+1)=((k+1:Nat):Int):=ah (by omega) (by omega)
      have ck:=cb k
      have ck1:=cb (k+1)
      refine aa (ks k (by omega)) (.inl rfl) ?_
      simp[hw2,la]
      refine⟨by omega,⟨⟨by omega,by omega⟩,by omega,by omega⟩,k+1,by omega,by omega,?_⟩
      simp[gH,af,aP,cm,sdK,List.replicate_succ]
     ·have hk3:k=3:=by omega
      subst hk3
      simp only[cm]at kT
      simp
      refine aa kT (.inl rfl) ?_
      simp
      simp only[cm]at e5
      cases hov2:a6 m i
      ·have e9:=fp hov2
       simp[hw]
       refine⟨by omega,i+1,by omega,by omega,?_⟩
       simp[db,af,<- b1,<- b2,<- e9,e5,e6,e7,e8]
      ·have e9:=ju hov2
       simp[hw]
       refine⟨by omega,by omega,i+1,by omega,by omega,?_⟩
       simp[db,af,<- b1,<- b2,e9,e5,e6,e7,e8]
  ·have hi2:i=m.f.length:=by omega
   subst hi2
   have bd:∀(p:Nat->Bool) (n:Nat),n<=100->(fil p n).length<=100/\∀x∈fil p n,x<100:=fun p n hn=>⟨by have:=aR p n;omega,fun x hx=>by have:=(eD hx).1;omega⟩
   have q1:=bd (f5 m) _ hs
   have q2:=bd (en m) _ hs
   have q3:=bd (gn m) _ hf
   have q4:=bd (d9 m) _ hf
   have q5:=bd (cZ m) _ hf
   have q6:=bd (a6 m) _ hf
   have hLL:LL m=[[],fil (f5 m) m.s.length,fil (en m) m.s.length,fil (gn m) m.f.length,fil (d9 m) m.f.length,fil (cZ m) m.f.length,fil (a6 m) m.f.length]:=rfl
   rw[hLL]
   clear hLL bd
   generalize fil (f5 m) m.s.length=L1 at *
   generalize fil (en m) m.s.length=L2 at *
   generalize fil (gn m) m.f.length=L3 at *
   generalize fil (d9 m) m.f.length=L4 at *
   generalize fil (cZ m) m.f.length=L5 at *
   generalize fil (a6 m) m.f.length=L6 at *
   obtain⟨AG,hAG⟩:∃x,x=GO L1 L2 L3 L4 L5 L6:=⟨_,rfl⟩
   obtain⟨BK,hBK⟩:∃x,x=GV L1 L2 L3 L4 L5 L6:=⟨_,rfl⟩
   obtain⟨U,hU⟩:∃U:Nat->List (Int×List UInt8),U=fun k=>d7 dec 0 (([([]:List Nat),L1,L2,L3,L4,L5,L6]).take k):=⟨_,rfl⟩
   have hU7:U 7=d7 dec 0 [[],L1,L2,L3,L4,L5,L6]:=by rw[hU];rfl
   have hU0:U 0=[]:=by rw[hU];rfl
   have bdU:∀k (L:List Nat),L.length<=100->(U k).length<=100*k->(U k++L.map fun i=>((k:Int),dec i)).length<=100*(k+1):=fun k L h1 h2=>by simp;omega
   have hU0s:U 1=U 0++(([]:List Nat)).map fun i=>((0:Int),dec i):=by
    rw[hU];show d7 dec 0 (([([]:List Nat),L1,L2,L3,L4,L5,L6]).take 0++[([]:List Nat)])=_
    rw[eS];simp[d7]
   have hU1s:U 2=U 1++(L1).map fun i=>((1:Int),dec i):=by
    rw[hU];show d7 dec 0 (([([]:List Nat),L1,L2,L3,L4,L5,L6]).take 1++[L1])=_
    rw[eS];simp[d7]
   have hU2s:U 3=U 2++(L2).map fun i=>((2:Int),dec i):=by
    rw[hU];show d7 dec 0 (([([]:List Nat),L1,L2,L3,L4,L5,L6]).take 2++[L2])=_
    rw[eS];simp[d7]
   have hU3s:U 4=U 3++(L3).map fun i=>((3:Int),dec i):=by
    rw[hU];show d7 dec 0 (([([]:List Nat),L1,L2,L3,L4,L5,L6]).take 3++[L3])=_
    rw[eS];simp[d7]
   have hU4s:U 5=U 4++(L4).map fun i=>((4:Int),dec i):=by
    rw[hU];show d7 dec 0 (([([]:List Nat),L1,L2,L3,L4,L5,L6]).take 4++[L4])=_
    rw[eS];simp[d7]
   have hU5s:U 6=U 5++(L5).map fun i=>((5:Int),dec i):=by
    rw[hU];show d7 dec 0 (([([]:List Nat),L1,L2,L3,L4,L5,L6]).take 5++[L5])=_
    rw[eS];simp[d7]
   have hU6s:U 7=U 6++(L6).map fun i=>((6:Int),dec i):=by
    rw[hU];show d7 dec 0 (([([]:List Nat),L1,L2,L3,L4,L5,L6]).take 6++[L6])=_
    rw[eS];simp[d7]
   have lU0:(U 0).length<=0:=by rw[hU0];simp
   have lU1:(U 1).length<=100:=by rw[hU0s];simp;omega
   have lU2:(U 2).length<=200:=by rw[hU1s];simp;omega
   have lU3:(U 3).length<=300:=by rw[hU2s];simp;omega
   have lU4:(U 4).length<=400:=by rw[hU3s];simp;omega
   have lU5:(U 5).length<=500:=by rw[hU4s];simp;omega
   have lU6:(U 6).length<=600:=by rw[hU5s];simp;omega
   rw[<- hU7]
   refine aC Nat (fun k=>[(17,.ref (.r 10272) 0 (U k).length),(10272,.blk 2 (fnR (U k))),(181,AG),(182,.int .i64 k),(10064,BK)]) (fun k=>k<=7) (fun k=>7-k) 0 (by simp) (by simp[hU0,hAG,hBK,aL,aX]) ?_
   rintro k hk
   rcases(by omega:k=0\/k=1\/k=2\/k=3\/k=4\/k=5\/k=6\/k=7)with rfl|rfl|rfl|rfl|rfl|rfl|rfl|rfl
   ·simp[hAG,aL]
    refine aC Nat (fun j=>[(17,.ref (.r 10272) 0 ((U 0).length+j)),(10272,.blk 2 (fnR (U 0++tkD dec 0 ([]:List Nat) j))),(18,.int .i64 0),(181,AG),(182,.int .i64 0),(186,.ref (.n 10064 0 0) 0 (([]:List Nat)).length),(187,.int .i64 (([]:List Nat)).length),(188,.int .i64 j),(10064,BK)]) (fun j=>j<=(([]:List Nat)).length) (fun j=>(([]:List Nat)).length-j) 0 (by simp) (by simp[hAG,hBK,aL,aX,fX]) ?_
    rintro j hj
    simp[hAG,hBK,aL,aX]
    have hj0:j=0:=by simpa using hj
    subst hj0
    simp[bF,hAG,hBK,aL,aX]
    refine⟨1,by omega,by omega,?_⟩
    rw[hU0s]
    simp[tkD]
   ·simp[hAG,aL]
    refine aC Nat (fun j=>[(17,.ref (.r 10272) 0 ((U 1).length+j)),(10272,.blk 2 (fnR (U 1++tkD dec 1 L1 j))),(18,.int .i64 1),(181,AG),(182,.int .i64 1),(186,.ref (.n 10064 0 1) 0 (L1).length),(187,.int .i64 (L1).length),(188,.int .i64 j),(10064,BK)]) (fun j=>j<=(L1).length) (fun j=>(L1).length-j) 0 (by simp) (by simp[hAG,hBK,aL,aX,fX]) ?_
    rintro j hj
    simp[hAG,hBK,aL,aX]
    refine aj (fun g3=>?_) (fun g3=>?_)<;>simp at g3<;>simp[g3,hAG,hBK,aL,aX]
    ·have hj2:j<L1.length:=by omega
     have hw3:IntKind.wrap .i64 ((j:Int)+1)=((j+1:Nat):Int):=ah (by omega) (by omega)
     have hi:=hI (L1[j]) (q1.2 _ (x0u hj2))
     have ht:=ii dec 1 L1 hj2
     have hl:=jF dec 1 L1 (Nat.le_of_lt hj2)
     rw[fo L1]
     try simp[hj2]
     refine aa hi (.inl rfl) ?_
     simp
     refine⟨by omega,by omega,j+1,by omega,by omega,by omega,?_,?_,hw3,?_⟩
     ·have e:(U 1).length+j=(U 1++tkD dec 1 L1 j).length:=by simp[hl]
      rw[e,gN,js,ht,x0O]
     ·rw[hAG,aL]
     ·rw[hBK,aX];simp only[fo]
    ·have hj2:j=L1.length:=by omega
     subst hj2
     refine⟨2,by omega,by omega,?_⟩
     rw[hU1s,jE]
     simp[hAG,hBK,aL,aX]
     decide
   ·simp[hAG,aL]
    refine aC Nat (fun j=>[(17,.ref (.r 10272) 0 ((U 2).length+j)),(10272,.blk 2 (fnR (U 2++tkD dec 2 L2 j))),(18,.int .i64 2),(181,AG),(182,.int .i64 2),(186,.ref (.n 10064 0 2) 0 (L2).length),(187,.int .i64 (L2).length),(188,.int .i64 j),(10064,BK)]) (fun j=>j<=(L2).length) (fun j=>(L2).length-j) 0 (by simp) (by simp[hAG,hBK,aL,aX,fX]) ?_
    rintro j hj
    simp[hAG,hBK,aL,aX]
    refine aj (fun g3=>?_) (fun g3=>?_)<;>simp at g3<;>simp[g3,hAG,hBK,aL,aX]
    ·have hj2:j<L2.length:=by omega
     have hw3:IntKind.wrap .i64 ((j:Int)+1)=((j+1:Nat):Int):=ah (by omega) (by omega)
     have hi:=hI (L2[j]) (q2.2 _ (x0u hj2))
     have ht:=ii dec 2 L2 hj2
     have hl:=jF dec 2 L2 (Nat.le_of_lt hj2)
     rw[fo L2]
     try simp[hj2]
     refine aa hi (.inl rfl) ?_
     simp
     refine⟨by omega,by omega,j+1,by omega,by omega,by omega,?_,?_,hw3,?_⟩
     ·have e:(U 2).length+j=(U 2++tkD dec 2 L2 j).length:=by simp[hl]
      rw[e,gN,js,ht,x0O]
     ·rw[hAG,aL]
     ·rw[hBK,aX];simp only[fo]
    ·have hj2:j=L2.length:=by omega
     subst hj2
     refine⟨3,by omega,by omega,?_⟩
     rw[hU2s,jE]
     simp[hAG,hBK,aL,aX]
     decide
   ·simp[hAG,aL]
    refine aC Nat (fun j=>[(17,.ref (.r 10272) 0 ((U 3).length+j)),(10272,.blk 2 (fnR (U 3++tkD dec 3 L3 j))),(18,.int .i64 3),(181,AG),(182,.int .i64 3),(186,.ref (.n 10064 0 3) 0 (L3).length),(187,.int .i64 (L3).length),(188,.int .i64 j),(10064,BK)]) (fun j=>j<=(L3).length) (fun j=>(L3).length-j) 0 (by simp) (by simp[hAG,hBK,aL,aX,fX]) ?_
    rintro j hj
    simp[hAG,hBK,aL,aX]
    refine aj (fun g3=>?_) (fun g3=>?_)<;>simp at g3<;>simp[g3,hAG,hBK,aL,aX]
    ·have hj2:j<L3.length:=by omega
     have hw3:IntKind.wrap .i64 ((j:Int)+1)=((j+1:Nat):Int):=ah (by omega) (by omega)
     have hi:=hI (L3[j]) (q3.2 _ (x0u hj2))
     have ht:=ii dec 3 L3 hj2
     have hl:=jF dec 3 L3 (Nat.le_of_lt hj2)
     rw[fo L3]
     try simp[hj2]
     refine aa hi (.inl rfl) ?_
     simp
     refine⟨by omega,by omega,j+1,by omega,by omega,by omega,?_,?_,hw3,?_⟩
     ·have e:(U 3).length+j=(U 3++tkD dec 3 L3 j).length:=by simp[hl]
      rw[e,gN,js,ht,x0O]
     ·rw[hAG,aL]
     ·rw[hBK,aX];simp only[fo]
    ·have hj2:j=L3.length:=by omega
     subst hj2
     refine⟨4,by omega,by omega,?_⟩
     rw[hU3s,jE]
     simp[hAG,hBK,aL,aX]
     decide
   ·simp[hAG,aL]
    refine aC Nat (fun j=>[(17,.ref (.r 10272) 0 ((U 4).length+j)),(10272,.blk 2 (fnR (U 4++tkD dec 4 L4 j))),(18,.int .i64 4),(181,AG),(182,.int .i64 4),(186,.ref (.n 10064 0 4) 0 (L4).length),(187,.int .i64 (L4).length),(188,.int .i64 j),(10064,BK)]) (fun j=>j<=(L4).length) (fun j=>(L4).length-j) 0 (by simp) (by simp[hAG,hBK,aL,aX,fX]) ?_
    rintro j hj
    simp[hAG,hBK,aL,aX]
    refine aj (fun g3=>?_) (fun g3=>?_)<;>simp at g3<;>simp[g3,hAG,hBK,aL,aX]
    ·have hj2:j<L4.length:=by omega
     have hw3:IntKind.wrap .i64 ((j:Int)+1)=((j+1:Nat):Int):=ah (by omega) (by omega)
     have hi:=hI (L4[j]) (q4.2 _ (x0u hj2))
     have ht:=ii dec 4 L4 hj2
     have hl:=jF dec 4 L4 (Nat.le_of_lt hj2)
     rw[fo L4]
     try simp[hj2]
     refine aa hi (.inl rfl) ?_
     simp
     refine⟨by omega,by omega,j+1,by omega,by omega,by omega,?_,?_,hw3,?_⟩
     ·have e:(U 4).length+j=(U 4++tkD dec 4 L4 j).length:=by simp[hl]
      rw[e,gN,js,ht,x0O]
     ·rw[hAG,aL]
     ·rw[hBK,aX];simp only[fo]
    ·have hj2:j=L4.length:=by omega
     subst hj2
     refine⟨5,by omega,by omega,?_⟩
     rw[hU4s,jE]
     simp[hAG,hBK,aL,aX]
     decide
   ·simp[hAG,aL]
    refine aC Nat (fun j=>[(17,.ref (.r 10272) 0 ((U 5).length+j)),(10272,.blk 2 (fnR (U 5++tkD dec 5 L5 j))),(18,.int .i64 5),(181,AG),(182,.int .i64 5),(186,.ref (.n 10064 0 5) 0 (L5).length),(187,.int .i64 (L5).length),(188,.int .i64 j),(10064,BK)]) (fun j=>j<=(L5).length) (fun j=>(L5).length-j) 0 (by simp) (by simp[hAG,hBK,aL,aX,fX]) ?_
    rintro j hj
    simp[hAG,hBK,aL,aX]
    refine aj (fun g3=>?_) (fun g3=>?_)<;>simp at g3<;>simp[g3,hAG,hBK,aL,aX]
    ·have hj2:j<L5.length:=by omega
     have hw3:IntKind.wrap .i64 ((j:Int)+1)=((j+1:Nat):Int):=ah (by omega) (by omega)
     have hi:=hI (L5[j]) (q5.2 _ (x0u hj2))
     have ht:=ii dec 5 L5 hj2
     have hl:=jF dec 5 L5 (Nat.le_of_lt hj2)
     rw[fo L5]
     try simp[hj2]
     refine aa hi (.inl rfl) ?_
     simp
     refine⟨by omega,by omega,j+1,by omega,by omega,by omega,?_,?_,hw3,?_⟩
     ·have e:(U 5).length+j=(U 5++tkD dec 5 L5 j).length:=by simp[hl]
      rw[e,gN,js,ht,x0O]
     ·rw[hAG,aL]
     ·rw[hBK,aX];simp only[fo]
    ·have hj2:j=L5.length:=by omega
     subst hj2
     refine⟨6,by omega,by omega,?_⟩
     rw[hU5s,jE]
     simp[hAG,hBK,aL,aX]
     decide
   ·simp[hAG,aL]
    refine aC Nat (fun j=>[(17,.ref (.r 10272) 0 ((U 6).length+j)),(10272,.blk 2 (fnR (U 6++tkD dec 6 L6 j))),(18,.int .i64 6),(181,AG),(182,.int .i64 6),(186,.ref (.n 10064 0 6) 0 (L6).length),(187,.int .i64 (L6).length),(188,.int .i64 j),(10064,BK)]) (fun j=>j<=(L6).length) (fun j=>(L6).length-j) 0 (by simp) (by simp[hAG,hBK,aL,aX,fX]) ?_
    rintro j hj
    simp[hAG,hBK,aL,aX]
    refine aj (fun g3=>?_) (fun g3=>?_)<;>simp at g3<;>simp[g3,hAG,hBK,aL,aX]
    ·have hj2:j<L6.length:=by omega
     have hw3:IntKind.wrap .i64 ((j:Int)+1)=((j+1:Nat):Int):=ah (by omega) (by omega)
     have hi:=hI (L6[j]) (q6.2 _ (x0u hj2))
     have ht:=ii dec 6 L6 hj2
     have hl:=jF dec 6 L6 (Nat.le_of_lt hj2)
     rw[fo L6]
     try simp[hj2]
     refine aa hi (.inl rfl) ?_
     simp
     refine⟨by omega,by omega,j+1,by omega,by omega,by omega,?_,?_,hw3,?_⟩
     ·have e:(U 6).length+j=(U 6++tkD dec 6 L6 j).length:=by simp[hl]
      rw[e,gN,js,ht,x0O]
     ·rw[hAG,aL]
     ·rw[hBK,aX];simp only[fo]
    ·have hj2:j=L6.length:=by omega
     subst hj2
     refine⟨7,by omega,by omega,?_⟩
     rw[hU6s,jE]
     simp[hAG,hBK,aL,aX]
     decide
   ·simp[hAG,aL]
    rfl
end Go.Gv

namespace Go.Gv
theorem cK{m:Msh}(h:aw m=true):m.s.length<=2000/\m.f.length<=4000:=by
 simp only[aw,ct,x0a,x0b]at h
 exact h.1
theorem jk{m:Msh}(h:aw m=true):∀l∈LL m,l=[]:=by
 simp only[aw,x0a,x0f,x0b]at h
 exact h.2
theorem qT{m:Msh}(h:aw m=true){i:Nat}(hi:i<m.s.length):bG (spt m i)=true:=by
 have:=kx.1 (jk h (fil (f5 m) m.s.length) (by simp[LL])) i hi
 simpa[f5]using this
theorem fD{m:Msh}(h:aw m=true){i:Nat}(hi:i<m.f.length):okF m (fce m i)=true/\0<lh (aS m (fce m i)):=by
 have h1:=kx.1 (jk h (fil (gn m) m.f.length) (by simp[LL])) i hi
 have h2:=kx.1 (jk h (fil (d9 m) m.f.length) (by simp[LL])) i hi
 have h3:okF m (fce m i)=true:=by simpa[gn]using h1
 refine⟨h3,?_⟩
 simp[d9,h3]at h2
 omega
theorem jG{m:Msh}(h:aw m=true){i:Nat}(hi:i<m.f.length):aJ m i=true:=by
 have:=fD h hi
 simp[aJ,this]
theorem oy{m:Msh}(h:aw m=true){i k:Nat}(hi:i<m.f.length)(hk:k<i):oi (fce m i) (fce m k)=false:=by
 have h1:=kx.1 (jk h (fil (cZ m) m.f.length) (by simp[LL])) i hi
 rw[cZ,jG h hi,x1G,x1h]at h1
 have:=h1 k (x0V.2 hk)
 rw[jG h (by omega),x1G]at this
 simpa using this
theorem fY{m:Msh}(h:aw m=true){i:Nat}(hi:i<m.f.length):inS m (fce m i)=true:=qw (fD h hi).1
theorem lj{m:Msh}(h:aw m=true){i:Nat}(hi:i<m.f.length):okT (aS m (fce m i))=true:=cY (fD h hi).1
def cz(f:Fce)(a b:Int):Bool:=(List.range 3).any fun j=>decide (crn f j=a)&&decide (crn f (j+1)=b)
def CQ(m:Msh)(a b:Int):Int:=gA (fun f=>cz f a b) m.f
def nbF(m:Msh)(i k:Nat):Int:=CQ m (crn (fce m i) (k+1)) (crn (fce m i) k)
def kE(p:Nat->Bool):Nat->Option Nat
 | 0=>none
 | i+1=>if p i then some i else kE p i
theorem nK(p:Nat->Bool):∀n,(kE p n=none/\∀i,i<n->p i=false)\/∃i,kE p n=some i/\i<n/\p i=true
 | 0=>.inl ⟨rfl,fun i h=>by omega⟩
 | n+1=>by
  rw[kE]
  by_cases h:p n=true
  ·rw[if_pos h];exact .inr ⟨n,rfl,by omega,h⟩
  ·rw[if_neg h]
   rcases nK p n with ⟨h1,h2⟩|⟨i,h1,h2,h3⟩
   ·refine .inl ⟨h1,fun i hi=>?_⟩
    rcases x1f.1 hi with h3|rfl
    ·exact h2 i h3
    ·simpa using h
   ·exact .inr ⟨i,h1,by omega,h3⟩
theorem ye{f g:Fce}{a b:Int}(h1:cz f a b=true)(h2:cz g a b=true):oi f g=true:=by
 simp only[cz,x0P,x0V,x0a,x0b]at h1 h2
 obtain⟨i,hi,rfl,rfl⟩:=h1
 obtain⟨j,hj,e1,e2⟩:=h2
 simp only[oi,x0P,x0V]
 exact⟨i,hi,j,hj,by simp[mtc,e1,e2]⟩
theorem lG{m:Msh}(h:aw m=true){i k:Nat}(hi:i<m.f.length)(hk:k<m.f.length){a b:Int}(h1:cz (fce m i) a b=true)(h2:cz (fce m k) a b=true):i=k:=by
 rcases Nat.lt_trichotomy i k with h3|h3|h3
 ·have:=oy h hk h3
  rw[ye h2 h1]at this;cases this
 ·exact h3
 ·have:=oy h hi h3
  rw[ye h1 h2]at this;cases this
theorem tZ{m:Msh}(h:aw m=true)(a b:Int):CQ m a b=match kE (fun i=>cz (fce m i) a b) m.f.length with
  | some i=>(i:Int)
  | none=>-1:=by
 rcases nK (fun i=>cz (fce m i) a b) m.f.length with ⟨h1,h2⟩|⟨i,h1,h2,h3⟩
 ·rw[h1]
  exact dS fun j hj=>by rw[nu];exact h2 j hj
 ·rw[h1]
  refine dT (fun j hj hji=>?_) h2 (by rw[nu];exact h3)
  rw[nu]
  cases hh:cz (fce m j) a b
  ·rfl
  ·have:=lG h hj h2 hh h3
   omega
def jJ(m:Msh):Nat->List D
 | 0=>[]
 | i+1=>sdK (fce m i) 3++jJ m i
def lP(m:Msh):Nat->List D
 | 0=>[]
 | i+1=>List.replicate 3 (.int .i64 i)++lP m i
theorem sc(m:Msh):∀i,(jJ m i).length=3*i
 | 0=>by simp[jJ]
 | i+1=>by
  have:=sc m i
  simp[jJ,la];omega
theorem yj(m:Msh)(a b:Int):∀i,cJ (jJ m i) (lP m i) (.agg [.int .i64 a,.int .i64 b])=(kE (fun i=>cz (fce m i) a b) i).map fun i=>.int .i64 i
 | 0=>rfl
 | i+1=>by
  have h3:List.range 3=[0,1,2]:=rfl
  simp only[jJ,lP,kE,sdK,List.replicate,x05,x03,cJ,Cj]
  have ih:=yj m a b i
  by_cases c0:(decide (a=crn (fce m i) 2)&&decide (b=crn (fce m i) (2+1)))=true
  ·have:cz (fce m i) a b=true:=by
    simp only[x0a,x0b]at c0
    simp[cz,h3,<- c0.1,<- c0.2]
   rw[if_pos c0,if_pos this];rfl
  ·rw[if_neg c0]
   by_cases c1:(decide (a=crn (fce m i) 1)&&decide (b=crn (fce m i) (1+1)))=true
   ·have:cz (fce m i) a b=true:=by
     simp only[x0a,x0b]at c1
     simp[cz,h3,<- c1.1,<- c1.2]
    rw[if_pos c1,if_pos this];rfl
   ·rw[if_neg c1]
    by_cases c2:(decide (a=crn (fce m i) 0)&&decide (b=crn (fce m i) (0+1)))=true
    ·have:cz (fce m i) a b=true:=by
      simp only[x0a,x0b]at c2
      simp[cz,h3,<- c2.1,<- c2.2]
     rw[if_pos c2,if_pos this];rfl
    ·have:cz (fce m i) a b=false:=by
      simp only[x0a,x0b,not_and]at c0 c1 c2
      simp only[cz,h3,List.any_cons,x1E,Bool.or_false,Bool.or_eq_false_iff,x0Y,x0C]
      omega
     rw[if_neg c2,if_neg (by rw[this];decide),ih]
def nbC(m:Msh)(i k j c:Nat):Int:=if j<i\/(j=i/\c<k) then nbF m j c else 0
def nbR(m:Msh)(i k:Nat):List (List D):=(List.range m.f.length).map fun j=>[.int .i64 (nbC m i k j 0),.int .i64 (nbC m i k j 1),.int .i64 (nbC m i k j 2)]
def nbA(m:Msh):List (List D):=(List.range m.f.length).map fun j=>[.int .i64 (nbF m j 0),.int .i64 (nbF m j 1),.int .i64 (nbF m j 2)]
@[simp] theorem KP(m:Msh)(i k:Nat):(nbR m i k).length=m.f.length:=by simp[nbR]
@[simp] theorem IF(m:Msh)(i k:Nat):List.take m.f.length (nbR m i k)=nbR m i k:=x0z (by simp)
@[simp] theorem MB(m:Msh)(i k:Nat):List.map (fun e=>List.map bW e) (nbR m i k)=nbR m i k:=by simp[nbR]
theorem yi(m:Msh):List.replicate m.f.length [D.int .i64 0,D.int .i64 0,D.int .i64 0]=nbR m 0 0:=by
 refine x1m (by simp) fun j h1 h2=>?_
 simp[nbR,nbC]
theorem yh(m:Msh)(i:Nat):nbR m i 3=nbR m (i+1) 0:=by
 unfold nbR
 refine x0m fun j _=>?_
 have e:∀c,c<3->nbC m i 3 j c=nbC m (i+1) 0 j c:=fun c hc=>by
  unfold nbC
  by_cases h:j<i+1
  ·rw[if_pos (by omega),if_pos (by omega)]
  ·rw[if_neg (by omega),if_neg (by omega)]
 rw[e 0 (by omega),e 1 (by omega),e 2 (by omega)]
theorem AX(m:Msh):nbR m m.f.length 0=nbA m:=by
 unfold nbR nbA
 refine x0m fun j hj=>?_
 have hj:=x0V.1 hj
 simp[nbC,hj]
theorem AY(m:Msh){i k j:Nat}(h:j<m.f.length):(nbR m i k)[j]? = some [.int .i64 (nbC m i k j 0),.int .i64 (nbC m i k j 1),.int .i64 (nbC m i k j 2)]:=by
 simp[nbR,h]
theorem AZ(m:Msh){i k:Nat}(h:i<m.f.length)(hk:k<3):(nbR m i k).set i (([.int .i64 (nbC m i k i 0),.int .i64 (nbC m i k i 1),.int .i64 (nbC m i k i 2)]:List D).set k (.int .i64 (nbF m i k)))=nbR m i (k+1):=by
 refine x1m (by simp) fun j h1 h2=>?_
 rw[List.getElem_set]
 by_cases e:i=j
 ·subst e
  rw[if_pos rfl]
  rcases(by omega:k=0\/k=1\/k=2)with rfl|rfl|rfl<;>simp[nbR,nbC]
 ·rw[if_neg e]
  simp only[nbR,x1u,x1J]
  have e2:∀c,nbC m i k j c=nbC m i (k+1) j c:=fun c=>by
   unfold nbC
   by_cases h:j<i
   ·rw[if_pos (by omega),if_pos (by omega)]
   ·rw[if_neg (by omega),if_neg (by omega)]
  rw[e2,e2,e2]
variable{C:CC}(hC:av prog C)
include hC
theorem wC(m:Msh)(h:ct m=false):C 273 [.agg (b0 m)] (.tup [.nils,.int .i64 4]) []:=by
 have ksm:=rY hC m
 rw[show(decide (m.s.length<=2000)&&decide (m.f.length<=4000))=false from h]at ksm
 refine az hC (nf:=N273) rfl rfl ?_
 simp only[af]at ksm
 simp[N273,af]
 refine aa ksm (.inl rfl) ?_
 simp
theorem gU(dec:Nat->List UInt8)(hI:∀n:Nat,n<100->C 127 [.int .i64 n] (.str (dec n)) [])(m:Msh)(hz:ct m=true->m.s.length<=100/\m.f.length<=100):C 234 [.agg (b0 m)] (.bool (aw m)) []:=by
 cases hs:ct m
 ·have k:=wC hC m hs
  refine az hC (nf:=N234) rfl rfl ?_
  simp only[af]at k
  simp[N234,af]
  refine aa k (.inr rfl) ?_
  simp[aw,hs]
 ·obtain⟨h1,h2⟩:=hz hs
  have k:=Ac hC dec hI m h1 h2
  have e:aw m=decide ((d7 dec 0 (LL m)).length=0):=by
   rw[aw,hs,x1G,x0S,x0b,List.length_eq_zero_iff,sg]
  obtain⟨X,hX⟩:∃X,X=d7 dec 0 (LL m):=⟨_,rfl⟩
  rw[e]
  rw[<- hX]at k ⊢
  refine az hC (nf:=N234) rfl rfl ?_
  simp only[af]at k
  simp[N234,af]
  refine aa k (.inr rfl) ?_
  simp
end Go.Gv

namespace Go.Gv
def IB(m:Msh)(i:Nat):Env:=[(1,.ptr (b0 m)),(3,.mrf 10224),(10224,.mp 3 2 (jJ m i) (lP m i)),(16,slx m.fn (m.f.map cu)),(17,.int .i64 m.f.length),(18,.int .i64 i)]
theorem qp(m:Msh)(i:Nat):IB m i=[(1,.ptr (b0 m)),(3,.mrf 10224),(10224,.mp 3 2 (jJ m i) (lP m i)),(16,slx m.fn (m.f.map cu)),(17,.int .i64 m.f.length),(18,.int .i64 i)]:=zR
def IC(m:Msh)(i k:Nat):Env:=[(1,.ptr (b0 m)),(3,.mrf 10224),(10224,.mp 3 2 (sdK (fce m i) k++jJ m i) (List.replicate k (.int .i64 i)++lP m i)),(4,.int .i64 i),(5,.adr (.r 10080) 0 0),(10080,.blk 4 [cu (fce m i)]),(16,slx m.fn (m.f.map cu)),(17,.int .i64 m.f.length),(18,.int .i64 i),(23,.int .i64 k)]
theorem qq(m:Msh)(i k:Nat):IC m i k=[(1,.ptr (b0 m)),(3,.mrf 10224),(10224,.mp 3 2 (sdK (fce m i) k++jJ m i) (List.replicate k (.int .i64 i)++lP m i)),(4,.int .i64 i),(5,.adr (.r 10080) 0 0),(10080,.blk 4 [cu (fce m i)]),(16,slx m.fn (m.f.map cu)),(17,.int .i64 m.f.length),(18,.int .i64 i),(23,.int .i64 k)]:=zR
def ID(m:Msh)(i:Nat):Env:=[(3,.mrf 10224),(10224,.mp 3 2 (jJ m m.f.length) (lP m m.f.length)),(7,.ref (.r 10112) 0 m.f.length),(10112,.blk 3 (nbR m i 0)),(38,slx m.fn (m.f.map cu)),(39,.int .i64 m.f.length),(40,.int .i64 i)]
theorem qr(m:Msh)(i:Nat):ID m i=[(3,.mrf 10224),(10224,.mp 3 2 (jJ m m.f.length) (lP m m.f.length)),(7,.ref (.r 10112) 0 m.f.length),(10112,.blk 3 (nbR m i 0)),(38,slx m.fn (m.f.map cu)),(39,.int .i64 m.f.length),(40,.int .i64 i)]:=zR
def IE(m:Msh)(i k:Nat):Env:=[(3,.mrf 10224),(10224,.mp 3 2 (jJ m m.f.length) (lP m m.f.length)),(7,.ref (.r 10112) 0 m.f.length),(10112,.blk 3 (nbR m i k)),(8,.int .i64 i),(9,.adr (.r 10144) 0 0),(10144,.blk 4 [cu (fce m i)]),(38,slx m.fn (m.f.map cu)),(39,.int .i64 m.f.length),(40,.int .i64 i),(45,.int .i64 k)]
theorem gd(m:Msh)(i k:Nat):IE m i k=[(3,.mrf 10224),(10224,.mp 3 2 (jJ m m.f.length) (lP m m.f.length)),(7,.ref (.r 10112) 0 m.f.length),(10112,.blk 3 (nbR m i k)),(8,.int .i64 i),(9,.adr (.r 10144) 0 0),(10144,.blk 4 [cu (fce m i)]),(38,slx m.fn (m.f.map cu)),(39,.int .i64 m.f.length),(40,.int .i64 i),(45,.int .i64 k)]:=zR
variable{C:CC}(hC:av prog C)
include hC
set_option maxHeartbeats 2000000 in
theorem qu(m:Msh)(hv:aw m=true):C 261 [.agg (b0 m)] (.sl (nbA m)) []:=by
 have hsz:=cK hv
 have hml:maxLen=9223372036854775807:=rfl
 refine az hC (nf:=N261) rfl rfl ?_
 simp[N261,af]
 refine aC Nat (fun i=>IB m i) (fun i=>i<=m.f.length) (fun i=>m.f.length-i) 0 (by simp) (by simp[qp,af,jJ,lP]) ?_
 rintro i hi
 simp[qp,af]
 refine aj (fun g1=>?_) (fun g1=>?_)<;>simp at g1<;>simp[g1]
 ·have hw:IntKind.wrap .i64 ((i:Int)+1)=((i+1:Nat):Int):=ah (by omega) (by omega)
  have cb:=fun j=>sX (fY hv g1) j
  have ks:=fun k h=>qm hC (fce m i) k h
  have nl:=sc m i
  simp only[aP]at ks
  simp[aP]
  refine aC Nat (fun k=>IC m i k) (fun k=>k<=3) (fun k=>3-k) 0 (by simp) (by simp[qq,af,aP,sdK]) ?_
  rintro k hk
  simp[qq,af,aP]
  refine aj (fun g2=>?_) (fun g2=>?_)<;>simp at g2<;>simp[g2]
  ·have hw2:IntKind.wrap .i64 ((k:Int)+1)=((k+1:Nat):Int):=ah (by omega) (by omega)
   have ck:=cb k
   have ck1:=cb (k+1)
   refine aa (ks k (by omega)) (.inl rfl) ?_
   simp[hw2,la]
   refine⟨by omega,⟨⟨by omega,by omega⟩,by omega,by omega⟩,by omega,k+1,by omega,by omega,?_⟩
   simp[qq,af,aP,sdK,List.replicate_succ]
  ·have hk3:k=3:=by omega
   subst hk3
   simp[hw]
   refine⟨i+1,by omega,by omega,?_⟩
   simp[qp,af,jJ,lP,List.replicate]
 ·have hi2:i=m.f.length:=by omega
  subst hi2
  refine⟨by omega,?_⟩
  refine aC Nat (fun i=>ID m i) (fun i=>i<=m.f.length) (fun i=>m.f.length-i) 0 (by simp) (by simp[qr,af,yi]) ?_
  clear hi g1
  rintro i hi
  simp[qr,af]
  refine aj (fun g1=>?_) (fun g1=>?_)<;>simp at g1<;>simp[g1]
  ·have hw:IntKind.wrap .i64 ((i:Int)+1)=((i+1:Nat):Int):=ah (by omega) (by omega)
   have cb:=fun j=>sX (fY hv g1) j
   have ks:=fun k h=>qm hC (fce m i) k h
   simp only[aP]at ks
   simp[aP]
   refine aC Nat (fun k=>IE m i k) (fun k=>k<=3) (fun k=>3-k) 0 (by simp) (by simp[gd,af,aP]) ?_
   rintro k hk
   simp[gd,af,aP]
   refine aj (fun g2=>?_) (fun g2=>?_)<;>simp at g2<;>simp[g2]
   ·have hw2:IntKind.wrap .i64 ((k:Int)+1)=((k+1:Nat):Int):=ah (by omega) (by omega)
    have ck:=cb k
    have ck1:=cb (k+1)
    have hg:=yj m (crn (fce m i) (k+1)) (crn (fce m i) k) m.f.length
    have hl:nbF m i k=match kE (fun j=>cz (fce m j) (crn (fce m i) (k+1)) (crn (fce m i) k)) m.f.length with
     | some j=>(j:Int)
     | none=>-1:=tZ hv _ _
    have hset:=AZ m g1 (k:=k) (by omega)
    have hget:=AY m (i:=i) (k:=k) g1
    cases hl0:kE (fun j=>cz (fce m j) (crn (fce m i) (k+1)) (crn (fce m i) k)) m.f.length with
    | none =>
     rw[hl0]at hg hl
     simp at hg
     rcases(by omega:k=0\/k=1\/k=2)with rfl|rfl|rfl
     ·refine aa (ks 0 (by omega)) (.inl rfl) ?_
      simp at ck ck1 hset hget
      simp[hg]
      refine⟨⟨⟨by omega,by omega⟩,by omega,by omega⟩,g1,?_⟩
      rw[hget]
      simp[hget]
      refine⟨1,by omega,by omega,?_⟩
      rw[hl]at hset
      simp[gd,af,aP,hset,bF,bN,bO]
     ·refine aa (ks 1 (by omega)) (.inl rfl) ?_
      simp at ck ck1 hset hget
      simp[hg]
      refine⟨⟨⟨by omega,by omega⟩,by omega,by omega⟩,g1,?_⟩
      rw[hget]
      simp[hget]
      refine⟨2,by omega,by omega,?_⟩
      rw[hl]at hset
      simp[gd,af,aP,hset,bF,bN,bO]
     ·refine aa (ks 2 (by omega)) (.inl rfl) ?_
      simp at ck ck1 hset hget
      simp[hg]
      refine⟨⟨⟨by omega,by omega⟩,by omega,by omega⟩,g1,?_⟩
      rw[hget]
      simp[hget]
      refine⟨3,by omega,by omega,?_⟩
      rw[hl]at hset
      simp[gd,af,aP,hset,bF,bN,bO]
    | some j =>
     rw[hl0]at hg hl
     simp at hg
     rcases(by omega:k=0\/k=1\/k=2)with rfl|rfl|rfl
     ·refine aa (ks 0 (by omega)) (.inl rfl) ?_
      simp at ck ck1 hset hget
      simp[hg]
      refine⟨⟨⟨by omega,by omega⟩,by omega,by omega⟩,g1,?_⟩
      rw[hget]
      simp[hget]
      refine⟨1,by omega,by omega,?_⟩
      rw[hl]at hset
      simp[gd,af,aP,hset,bF,bN,bO]
     ·refine aa (ks 1 (by omega)) (.inl rfl) ?_
      simp at ck ck1 hset hget
      simp[hg]
      refine⟨⟨⟨by omega,by omega⟩,by omega,by omega⟩,g1,?_⟩
      rw[hget]
      simp[hget]
      refine⟨2,by omega,by omega,?_⟩
      rw[hl]at hset
      simp[gd,af,aP,hset,bF,bN,bO]
     ·refine aa (ks 2 (by omega)) (.inl rfl) ?_
      simp at ck ck1 hset hget
      simp[hg]
      refine⟨⟨⟨by omega,by omega⟩,by omega,by omega⟩,g1,?_⟩
      rw[hget]
      simp[hget]
      refine⟨3,by omega,by omega,?_⟩
      rw[hl]at hset
      simp[gd,af,aP,hset,bF,bN,bO]
   ·have hk3:k=3:=by omega
    subst hk3
    simp[hw]
    refine⟨i+1,by omega,by omega,?_⟩
    simp[qr,af,yh]
  ·have hi2:i=m.f.length:=by omega
   subst hi2
   rw[AX]
end Go.Gv

namespace Go.Gv
theorem dA{s:Spt}(h:bG s=true):-16777216<=s.x/\s.x<=16777216/\-16777216<=s.y/\s.y<=16777216/\-4194304<=s.z/\s.z<=4194304:=by
 simp only[bG,x0a,x0b]at h
 omega
def spA(m:Msh)(i:Nat):Spt:=spt m (fce m i).a.toNat
def spB(m:Msh)(i:Nat):Spt:=spt m (fce m i).b.toNat
def spC(m:Msh)(i:Nat):Spt:=spt m (fce m i).c.toNat
def cI(m:Msh)(i:Nat):Int:=(spA m i).z+(spB m i).z+(spC m i).z
def cP(m:Msh)(i:Nat):Int:=(spA m i).x+(spB m i).x+(spC m i).x
def cQ(m:Msh)(i:Nat):Int:=(spA m i).y+(spB m i).y+(spC m i).y
theorem EH(m:Msh)(i:Nat):spt m (fce m i).a.toNat=spA m i:=rfl
theorem EI(m:Msh)(i:Nat):spt m (fce m i).b.toNat=spB m i:=rfl
theorem EJ(m:Msh)(i:Nat):spt m (fce m i).c.toNat=spC m i:=rfl
theorem zu{m:Msh}(hv:aw m=true){i:Nat}(hi:i<m.f.length):bG (spA m i)=true/\bG (spB m i)=true/\bG (spC m i)=true:=by
 obtain⟨⟨_,h1⟩,⟨_,h2⟩,⟨_,h3⟩⟩:=lJ (fY hv hi)
 exact⟨qT hv h1,qT hv h2,qT hv h3⟩
theorem mR{m:Msh}(hv:aw m=true){i:Nat}(hi:i<m.f.length):-12582912<=cI m i/\cI m i<=12582912:=by
 obtain⟨h1,h2,h3⟩:=zu hv hi
 have:=dA h1
 have:=dA h2
 have:=dA h3
 unfold cI
 omega
theorem pU{m:Msh}(hv:aw m=true){i:Nat}(hi:i<m.f.length):-50331648<=cP m i/\cP m i<=50331648/\-50331648<=cQ m i/\cQ m i<=50331648:=by
 obtain⟨h1,h2,h3⟩:=zu hv hi
 have:=dA h1
 have:=dA h2
 have:=dA h3
 unfold cP cQ
 omega
def smR(m:Msh)(i:Nat):List (List D):=(List.range i).map fun j=>[.int .i64 (cI m j)]
def ctR(m:Msh)(i:Nat):List (List D):=(List.range i).map fun j=>[.int .i64 (cP m j),.int .i64 (cQ m j)]
@[simp] theorem Lw(m:Msh)(i:Nat):(smR m i).length=i:=by simp[smR]
@[simp] theorem JK(m:Msh)(i:Nat):(ctR m i).length=i:=by simp[ctR]
@[simp] theorem Jl(m:Msh)(i:Nat):List.take i (smR m i)=smR m i:=x0z (by simp)
@[simp] theorem Hd(m:Msh)(i:Nat):List.take i (ctR m i)=ctR m i:=x0z (by simp)
theorem Bp(m:Msh)(i:Nat):smR m i++[[.int .i64 (cI m i)]]=smR m (i+1):=by simp[smR,x04]
theorem Ak(m:Msh)(i:Nat):ctR m i++[[.int .i64 (cP m i),.int .i64 (cQ m i)]]=ctR m (i+1):=by simp[ctR,x04]
@[simp] theorem Lv(m:Msh)(i:Nat)(x:List D):(∀e,e∈smR m i\/e=x->∀c,c∈e->aH c=true)=∀c,c∈x->aH c=true:=by
 apply propext
 constructor
 ·exact fun h=>h x (.inr rfl)
 ·rintro h e (he|rfl)
  ·obtain⟨j,_,rfl⟩:=x0p.1 he
   simp
  ·exact h
@[simp] theorem JJ(m:Msh)(i:Nat)(x:List D):(∀e,e∈ctR m i\/e=x->∀c,c∈e->aH c=true)=∀c,c∈x->aH c=true:=by
 apply propext
 constructor
 ·exact fun h=>h x (.inr rfl)
 ·rintro h e (he|rfl)
  ·obtain⟨j,_,rfl⟩:=x0p.1 he
   simp
  ·exact h
def cN(sz:Nat)(es:List (List D)):D:=match es with
 | []=>.nils
 | e::r=>.own sz (e::r)
@[simp] theorem G5(sz:Nat)(es:List (List D)):bW (cN sz es)=slx true es:=by cases es<;>rfl
def grC(m:Msh):List D:=[.sl (nbA m),slx true (smR m m.f.length),slx true (ctR m m.f.length)]
theorem dj(m:Msh):grC m=[.sl (nbA m),slx true (smR m m.f.length),slx true (ctR m m.f.length)]:=zR
def mdE(m:Msh)(i:Nat):Env:=[(1,.ptr (b0 m)),(6,.adr (.r 10352) 0 0),(10352,.blk 3 [[.sl (nbA m),cN 1 (smR m i),cN 2 (ctR m i)]]),(24,slx m.fn (m.f.map cu)),(25,.int .i64 m.f.length),(26,.int .i64 i)]
theorem qj(m:Msh)(i:Nat):mdE m i=[(1,.ptr (b0 m)),(6,.adr (.r 10352) 0 0),(10352,.blk 3 [[.sl (nbA m),cN 1 (smR m i),cN 2 (ctR m i)]]),(24,slx m.fn (m.f.map cu)),(25,.int .i64 m.f.length),(26,.int .i64 i)]:=zR
theorem B6(m:Msh)(i:Nat):cN 1 (smR m (i+1))=.own 1 (smR m (i+1)):=by
 have:(smR m (i+1)).length=i+1:=by simp
 cases h:smR m (i+1) with
 | nil=>rw[h]at this;simp at this
 | cons e r=>rfl
theorem B5(m:Msh)(i:Nat):cN 2 (ctR m (i+1))=.own 2 (ctR m (i+1)):=by
 have:(ctR m (i+1)).length=i+1:=by simp
 cases h:ctR m (i+1) with
 | nil=>rw[h]at this;simp at this
 | cons e r=>rfl
variable{C:CC}(hC:av prog C)
include hC
theorem j3(dec:Nat->List UInt8)(hI:∀n:Nat,n<100->C 127 [.int .i64 n] (.str (dec n)) [])(m:Msh)(hz:ct m=true->m.s.length<=100/\m.f.length<=100) :
  C 221 [.agg (b0 m)] (if aw m then .tup [.sl (nbA m),.int .i64 0] else .tup [.nils,.int .i64 1]) []:=by
 have k:=gU hC dec hI m hz
 refine az hC (nf:=N221) rfl rfl ?_
 simp only[af]at k
 simp[N221,af]
 refine aa k (.inl rfl) ?_
 cases hv:aw m
 ·simp
 ·have k2:=qu hC m hv
  simp only[af]at k2
  simp
  refine aa k2 (.inr rfl) ?_
  simp
set_option maxRecDepth 8000 in
set_option maxHeartbeats 2000000 in
theorem yb(dec:Nat->List UInt8)(hI:∀n:Nat,n<100->C 127 [.int .i64 n] (.str (dec n)) [])(m:Msh)(hz:ct m=true->m.s.length<=100/\m.f.length<=100) :
  C 253 [.agg (b0 m)] (if aw m then .tup [.ptr (grC m),.int .i64 0] else .tup [.nilp,.int .i64 1]) []:=by
 have k:=j3 hC dec hI m hz
 refine az hC (nf:=N253) rfl rfl ?_
 simp only[af]at k
 simp[N253,af]
 refine aa k (.inr rfl) ?_
 cases hv:aw m
 ·simp
 ·have hsz:=cK hv
  simp
  refine aC Nat (fun i=>mdE m i) (fun i=>i<=m.f.length) (fun i=>m.f.length-i) 0 (by simp) (by simp[qj,af,smR,ctR,cN]) ?_
  rintro i hi
  simp[qj,af]
  refine aj (fun g1=>?_) (fun g1=>?_)<;>simp at g1<;>simp[g1]
  ·have hw:IntKind.wrap .i64 ((i:Int)+1)=((i+1:Nat):Int):=ah (by omega) (by omega)
   obtain⟨⟨a1,a2⟩,⟨b1,b2⟩,⟨c1,c2⟩⟩:=lJ (fY hv g1)
   obtain⟨h1,h2,h3⟩:=zu hv g1
   have h1:=dA h1
   have h2:=dA h2
   have h3:=dA h3
   have wz1:IntKind.wrap .i64 ((spA m i).z+(spB m i).z)=(spA m i).z+(spB m i).z:=ah rfl (by omega)
   have wz2:IntKind.wrap .i64 ((spA m i).z+(spB m i).z+(spC m i).z)=cI m i:=ah rfl (by unfold cI;omega)
   have wx1:IntKind.wrap .i64 ((spA m i).x+(spB m i).x)=(spA m i).x+(spB m i).x:=ah rfl (by omega)
   have wx2:IntKind.wrap .i64 ((spA m i).x+(spB m i).x+(spC m i).x)=cP m i:=ah rfl (by unfold cP;omega)
   have wy1:IntKind.wrap .i64 ((spA m i).y+(spB m i).y)=(spA m i).y+(spB m i).y:=ah rfl (by omega)
   have wy2:IntKind.wrap .i64 ((spA m i).y+(spB m i).y+(spC m i).y)=cQ m i:=ah rfl (by unfold cQ;omega)
   simp[aP,a1,a2,b1,b2,c1,c2,gm,EH,EI,EJ]
   refine⟨aF (by decide +kernel),?_⟩
   cases i with
   | zero =>
    simp[smR,ctR,cN]
    refine⟨aF (by decide +kernel),aF (by decide +kernel),1,by omega,by omega,?_⟩
    simp[qj,af,smR,ctR,cN,bF,wz1,wz2,wx1,wx2,wy1,wy2]
   | succ j =>
    simp[B6,B5]
    have e1:=Bp m (j+1)
    have e2:=Ak m (j+1)
    refine⟨by omega,aF (by decide +kernel),by omega,aF (by decide +kernel),j+1+1,by omega,by omega,?_⟩
    simp[qj,af,B6,B5,wz1,wz2,wx1,wx2,wy1,wy2,e1,e2]
    exact ah rfl (by omega)
  ·have hi2:i=m.f.length:=by omega
   subst hi2
   simp[dj]
end Go.Gv

namespace Go.Gv
def mqR(s:Srs)(W i:Nat):List (List D):=(List.range i).map fun k=>[.int .i64 (mnV s W k)]
@[simp] theorem KL(s:Srs)(W i:Nat):(mqR s W i).length=i:=by simp[mqR]
theorem AV(s:Srs)(W i:Nat):mqR s W i++[[.int .i64 (mnV s W i)]]=mqR s W (i+1):=by simp[mqR,x04]
@[simp] theorem IA(s:Srs)(W i:Nat):List.take i (mqR s W i)=mqR s W i:=x0z (by simp)
theorem nM:∀{l:List Nat} {x:Nat},x∈l->x<=l.sum
 | a::l,x,h=>by
  rw[x06]
  rcases x0B.1 h with rfl|h
  ·omega
  ·have:=nM h;omega
theorem ur(s:Srs)(W i:Nat):cN 1 (mqR s W (i+1))=.own 1 (mqR s W (i+1)):=by
 have:(mqR s W (i+1)).length=i+1:=by simp
 cases h:mqR s W (i+1) with
 | nil=>rw[h]at this;simp at this
 | cons e r=>rfl
variable{C:CC}(hC:av prog C)
include hC
set_option maxHeartbeats 2000000 in
theorem C1(hF:∀(v:Int) (d:Nat),0<d->d<=4503599627370496->v.natAbs<=4194304*d->C 271 [wiS v,.int .i64 d] (.tup [.int .i64 (v/d),.int .i64 0]) [])(s:Srs)(hl:s.d.length<=30)(w:List Nat)(h0:0<w.length)(hn:w.length<=100)(hW:w.sum<=4503599627370496) :
  C 893 [.sl (List.replicate w.length (srC s)),.sl (w.map fun(x:Nat)=>[.int .i64 (x:Int)])] (if srB s then .tup [.agg [.int .i64 s.a,.int .i64 s.s,slx true (mqR s w.sum s.d.length)],.int .i64 0] else .tup [.agg [.int .i64 0,.int .i64 0,.nils],.int .i64 1]) []:=by
 have k1:=AA hC s (by omega) w.length h0 hn
 have k2:=fP hC (b:=false) (xs:=w.map fun(x:Nat)=>(x:Int)) (g:=906) (cs:=[]) wV (by simp;omega) (fun x _=>GP hC x)
 have e2:(w.map fun(x:Nat)=>(x:Int)).any wV=false:=by
  rw[x1h]
  intro x hx
  obtain⟨y,hy,rfl⟩:=x0p.1 hx
  have:=nM hy
  simp only[wV,x0E,x0b]
  omega
 rw[e2,bx,List.map_map]at k2
 have k3:=fun hs:srB s=true=>xc hC s hs w.length h0 hn
 have k4:=fun(hs:srB s=true) (k:Nat) (hk:k<s.d.length)=>DT hC hF s hs w (by omega) hW k hk
 obtain⟨xs,hxs⟩:∃xs:List (List D),xs=List.replicate w.length (srC s):=⟨_,rfl⟩
 have gl:xs.length=w.length:=by rw[hxs];simp
 have gx0:xs[0]? = some [.int .i64 s.a,.int .i64 s.s,slx s.b (s.d.map fun n=>[.int .i64 n])]:=by rw[hxs];simp[h0,cO]
 obtain⟨ws,hws⟩:∃ws:List (List D),ws=w.map fun(x:Nat)=>[.int .i64 (x:Int)]:=⟨_,rfl⟩
 have gw:ws.length=w.length:=by rw[hws];simp
 have ew:(w.map ((fun n=>[D.int .i64 n])∘fun(x:Nat)=>(x:Int)))=ws:=by rw[hws];rfl
 rw[ew]at k2
 rw[<- hxs]at k1 k3 k4 ⊢
 rw[<- hws]at k4 ⊢
 clear hxs hws ew
 refine az hC (nf:=N893) rfl rfl ?_
 simp[N893]
 refine aa k1 (.inl rfl) ?_
 cases hs:srB s
 ·simp
 obtain⟨b1,b2,b3,b4⟩:=qM hs
 have hks:∀k:Nat,k<=s.d.length->(0:Int)<=k*s.s/\k*s.s<=864000000:=fun k hk=>by
  refine⟨x1x (by omega) (by omega),?_⟩
  have h1:=Int.mul_le_mul (a:=(k:Int)) (b:=s.s) (c:=10000) (d:=86400) (by omega) (by omega) (by omega) (by omega)
  omega
 simp[gl,gw]
 refine aa k2 (.inl rfl) ?_
 simp
 refine aa (k3 hs) (.inl rfl) ?_
 simp[aD gx0]
 refine aC Nat (fun i=>[(0,.sl xs),(1,.sl ws),(4,.adr (.r 10064) 0 0),(7,.int .i64 s.a),(10,.adr (.r 10160) 0 0),(47,.int .i64 s.d.length),(48,.int .i64 i),(10064,.blk 3 [[.int .i64 0,.int .i64 0,.own 1 []]]),(10160,.blk 3 [[.int .i64 s.a,.int .i64 s.s,cN 1 (mqR s w.sum i)]])]) (fun i=>i<=s.d.length) (fun i=>s.d.length-i) 0 (by simp) (by simp[cN,mqR]) ?_
 intro i hi
 simp
 refine aj (fun h=>?_) (fun h=>?_)<;>simp at h
 ·have hw:IntKind.wrap .i64 ((i:Int)+1)=((i+1:Nat):Int):=ah (by omega) (by omega)
  have b5:=hks i hi
  have w1:IntKind.wrap .i64 ((i:Int)*s.s)=i*s.s:=ah rfl (by omega)
  have w2:IntKind.wrap .i64 (s.a+(i:Int)*s.s)=s.a+i*s.s:=ah rfl (by omega)
  have k5:=k4 hs i h
  have hc:=ur s w.sum i
  have ha:=AV s w.sum i
  simp[h,w1,w2]
  refine aa k5 (.inl rfl) ?_
  simp
  by_cases hi0:i=0
  ·subst hi0
   simp[cN,mqR]at hc ha ⊢
   exact⟨1,by omega,by omega,rfl,by simp[x04]⟩
  ·obtain⟨j,rfl⟩:∃j,i=j+1:=⟨i-1,by omega⟩
   rw[ur]
   simp[ha]
   refine⟨by omega,fun e he c hc'=>?_,j+2,by omega,by omega,hw,by rw[ur]⟩
   obtain⟨k,_,rfl⟩:=x0p.1 he
   rw[x1a]at hc'
   rw[hc']
   rfl
 ·have e:i=s.d.length:=by omega
  subst e
  cases hlen:s.d.length with
  | zero =>
   rw[show mqR s w.sum 0=[]from rfl]
   simp[cN]
   rfl
  | succ n =>
   rw[ur]
   simp
   have hl2:(mqR s w.sum (n+1)).length=n+1:=by simp
   cases hq:mqR s w.sum (n+1) with
   | nil=>rw[hq]at hl2;simp at hl2
   | cons e r=>exact oj
end Go.Gv

namespace Go.Gv
section
variable{C:CC}{hs:Option (List Nat)}{K:Env->Prop}{ns:List ay}{dst:Option Nat}{u:Tag (hs,K,ns)}{e:Env}{R:List Nat}{acc:List (List Nat×List Nat)}
end
end Go.Gv

namespace Go.Gv
section
variable{C:CC}{hs:Option (List Nat)}{K:Env->Prop}{ns:List ay}{e:Env}{R:List Nat}{acc:List (List Nat×List Nat)}
end
end Go.Gv

namespace Go.Gv
section
variable{C:CC}{hs:Option (List Nat)}{K:Env->Prop}{ns:List ay}{e:Env}{R:List Nat}{acc:List (List Nat×List Nat)}
end
end Go.Gv

namespace Go.Gv
section
variable{C:CC}{hs:Option (List Nat)}{K:Env->Prop}{ns:List ay}{dst:Option Nat}{e:Env}{R:List Nat}{acc:List (List Nat×List Nat)}{u:Tag (hs,K,ns)}
@[simp] theorem Gt:oK none=[]:=zR
@[simp] theorem Gu{x:Opd}:oK (some x)=[x]:=zR
@[simp] theorem I0{c c' k n:Nat}{q:Pa}:nZ c q (.ref (.r c') k n)=if c'=c then .ref q k n else .ref (.r c') k n:=zR
@[simp] theorem Lt{c:Nat}{q:Pa}{es}:nZ c q (.sl es)=.sl es:=zR
@[simp] theorem I7{c:Nat}{q:Pa}{b es}:nZ c q (slx b es)=slx b es:=by cases b<;>cases es<;>rfl
@[simp] theorem DH{b c i o k n:Nat}:kD b (.ref (.n c i o) k n)=(c != b||(i==0&&o==1)):=zR
@[simp] theorem DI{b c k n:Nat}:kD b (.ref (.r c) k n)=true:=zR
@[simp] theorem Ih{b:Nat}{es}:kD b (.sl es)=true:=zR
@[simp] theorem FM{b:Nat}{x es}:kD b (slx x es)=true:=by cases x<;>cases es<;>rfl
def AU(C:CC)(hs:Option (List Nat))(K:Env->Prop)(ns:List ay)(dst:Option Nat)(_:Tag (hs,K,ns))(e:Env)(R:List Nat)(acc:List (List Nat×List Nat))(T:Nat)(d:D):Prop:=match d with
 | .adr p i off=>dW C hs K ns dst ⟨⟩ e R acc (.ifa T p i off)
 | .int k n=>k=.i64/\dW C hs K ns dst ⟨⟩ e R acc (.ifi T n)
 | _=>False
@[simp] theorem Lh{T x v1}:opW C hs K ns dst (.mkI T x) v1 e R acc=AU C hs K ns dst ⟨⟩ e R acc T (vd (ab e) x):=by
 show res (ab e) _ (.mkI T x)=_
 simp only[res,AU]
 cases vd (ab e) x<;>rfl
@[simp] theorem Iy{T p i off}:AU C hs K ns dst u e R acc T (.adr p i off)=dW C hs K ns dst ⟨⟩ e R acc (.ifa T p i off):=zR
@[simp] theorem Iz{T k n}:AU C hs K ns dst u e R acc T (.int k n)=(k=.i64/\dW C hs K ns dst ⟨⟩ e R acc (.ifi T n)):=zR
def ES(C:CC)(hs:Option (List Nat))(K:Env->Prop)(ns:List ay)(dst:Option Nat)(_:Tag (hs,K,ns))(e:Env)(R:List Nat)(acc:List (List Nat×List Nat))(T:Nat)(d:D):Prop:=match d with
 | .ifi T' n=>T'=T/\dW C hs K ns dst ⟨⟩ e R acc (.int .i64 n)
 | _=>False
@[simp] theorem Ls{T x v1}:opW C hs K ns dst (.tya T x) v1 e R acc=ES C hs K ns dst ⟨⟩ e R acc T (vd (ab e) x):=by
 show res (ab e) _ (.tya T x)=_
 simp only[res,ES]
 cases vd (ab e) x<;>rfl
@[simp] theorem Jv{T T' n}:ES C hs K ns dst u e R acc T (.ifi T' n)=(T'=T/\dW C hs K ns dst ⟨⟩ e R acc (.int .i64 n)):=zR
def x8(C:CC)(g:Nat)(hs:Option (List Nat))(K:Env->Prop)(ns:List ay)(dst:Option Nat)(_:Tag (hs,K,ns))(e:Env)(R:List Nat)(acc:List (List Nat×List Nat))(b sz:Nat)(es:List (List D))(W:List D):Prop :=
 ∃d,∃es':List (List D),0<es'.length/\C g (.blk sz es::W) d [.blk sz es',.nilp]/\doW C hs K ns ⟨⟩ e R acc (bL dst d++[(b,.blk sz es')]) [(b,false)]
theorem cD{g b sz:Nat}{es es':List (List D)}{W:List D}{d:D}(h:C g (.blk sz es::W) d [.blk sz es',.nilp])(hp:0<es'.length)
  (hk:doW C hs K ns ⟨⟩ e R acc (bL dst d++[(b,.blk sz es')]) [(b,false)]):x8 C g hs K ns dst u e R acc b sz es W:=⟨d,es',hp,h,hk⟩
def G7(C:CC)(g:Nat)(hs:Option (List Nat))(K:Env->Prop)(ns:List ay)(dst:Option Nat)(_:Tag (hs,K,ns))(e:Env)(R:List Nat)(acc:List (List Nat×List Nat))(T:Nat)(xs:List Opd)(d:D):Prop:=match d with
 | .ifa T' (.r b) i off=>T'=T/\i=0/\off=0/\fZ (ab e b) (fun sz es=>0<es.length/\(∀x∈xs,isV (vd (ab e) x)=true)/\x8 C g hs K ns dst ⟨⟩ e R acc b sz es (.adr (.r 10015) 0 0::xs.map (vd (ab e)))) ⟨⟩
 | _=>False
@[simp] theorem LO{g xs T T' b i off}:G7 C g hs K ns dst u e R acc T xs (.ifa T' (.r b) i off)=(T'=T/\i=0/\off=0/\fZ (ab e b) (fun sz es=>0<es.length/\(∀x∈xs,isV (vd (ab e) x)=true)/\x8 C g hs K ns dst ⟨⟩ e R acc b sz es (.adr (.r 10015) 0 0::xs.map (vd (ab e)))) ⟨⟩):=zR
@[simp] theorem Gj{g m T x xs v1}:opW C hs K ns dst (.callI g m T x xs) v1 e R acc=G7 C g hs K ns dst ⟨⟩ e R acc T xs (vd (ab e) x):=by
 unfold opW
 simp only[aB]
 cases vd (ab e) x<;>first|rfl|skip
def G8(C:CC)(g:Nat)(hs:Option (List Nat))(K:Env->Prop)(ns:List ay)(dst:Option Nat)(_:Tag (hs,K,ns))(e:Env)(R:List Nat)(acc:List (List Nat×List Nat))(xs:List Opd)(d:D):Prop:=match d with
 | .ifa T (.r b) i off=>i=0/\off=0/\fZ (ab e b) (fun sz es=>0<es.length/\(∀x∈xs,isV (vd (ab e) x)=true)/\x8 C g hs K ns dst ⟨⟩ e R acc b sz es (.ifa T (.r 10015) 0 0::xs.map (vd (ab e)))) ⟨⟩
 | _=>False
@[simp] theorem LP{g xs T b i off}:G8 C g hs K ns dst u e R acc xs (.ifa T (.r b) i off)=(i=0/\off=0/\fZ (ab e b) (fun sz es=>0<es.length/\(∀x∈xs,isV (vd (ab e) x)=true)/\x8 C g hs K ns dst ⟨⟩ e R acc b sz es (.ifa T (.r 10015) 0 0::xs.map (vd (ab e)))) ⟨⟩):=zR
@[simp] theorem Gk{g x xs v1}:opW C hs K ns dst (.callM g x xs) v1 e R acc=G8 C g hs K ns dst ⟨⟩ e R acc xs (vd (ab e) x):=by
 unfold opW
 simp only[aB]
 cases vd (ab e) x<;>first|rfl|skip
theorem BM{x y:Opd}{v1:_}{b i off n sz0 sz:Nat}{es0 es:List (List D)}{row0:List D}(hx:vd (ab e) x=.adr (.r b) i off)(hy:vd (ab e) y=.ref (.n b i off) 0 n)(hb:ab e b=.blk sz0 es0)(h1:es0[i]? = some row0)(h2:row0[off]? = some (.own sz es))(h3:n<=es.length)
  (hk:doW C hs K ns ⟨⟩ e R acc [(b,.blk sz0 (bE es0 i off 1 [.own sz (es.take n)]))] []):opW C hs K ns none (.stL x y) v1 e R acc:=by
 unfold opW
 simp only[aB]
 refine⟨trivial,?_⟩
 rw[hx,hy]
 refine⟨rfl,rfl,rfl,rfl,?_⟩
 rw[hb]
 exact⟨row0,h1,sz,es,h2,h3,hk⟩
theorem ly{g s:Nat}{x:Opd}{xs:List Opd}{v1:_}{T b sz sz1 sz2:Nat}{fs sp fs':List (List D)}{ds:List D}{d:D}(hx:vd (ab e) x=.ifa T (.r b) 0 0)(hs0:s<10000)(hd:dst≠some s)(hxs:∀x∈xs,bq (vd (ab e) x)=true)
  (hb:ab e b=.blk sz [[.own sz1 fs,.own sz2 sp]]) (hs1:ab e s=.ptx ds) (hk1:ds.all (kD b)=true) (f1:∀e∈fs,∀c∈e,bq c=true) (f2:∀e∈sp,∀c∈e,bq c=true) (hd1:bq d=true\/d=.tup []) (f3:∀e∈fs',∀c∈e,bq c=true)
  (hc:C g (.blk sz [[.own sz1 fs,.slv 0 sp]]::.ifa T (.r 10015) 0 0::xs.map (vd (ab e))) d [.blk sz [[.own sz1 fs',.slv 0 sp]],.nils])
  (hk:doW C hs K ns ⟨⟩ e R acc (bL dst d++[(b,.blk sz [[.own sz1 fs',.own sz2 sp]]),(s,.ptx ds)]) [(b,false)]):opW C hs K ns dst (.callQ g s x xs) v1 e R acc:=by
 unfold opW
 simp only[aB]
 rw[hx]
 refine⟨rfl,rfl,hs0,hd,hxs,?_⟩
 rw[hb]
 simp only
 rw[hs1]
 exact⟨hk1,f1,f2,d,fs',hd1,f3,hc,hk⟩
theorem wW{s t:Nat}{x:Opd}{v1:_}{c n sz:Nat}{es:List (List D)}{ds:List D}(hs0:s<10000)(hst:s≠t)(hx:vd (ab e) x=.agx [.nils,.ref (.r c) 0 n])(hc:c≠rt t 0)(hcb:ab e c=.blk sz es)(hsz:0<sz)(hl:es.length=n)(h1:∀e∈es,∀c∈e,aH c=true)
  (hs1:ab e s=.ptx ds) (hm:(ds.all fun d=>!aO (rt t 0) true d)=true)
  (hk0:n=0->doW C hs K ns ⟨⟩ e R acc [(t,.adr (.r (rt t 0)) 0 0),(rt t 0,.blk 2 [[.own sz [],.any]])] [(rt t 0,true)])
  (hk:0<n->doW C hs K ns ⟨⟩ e R acc [(t,.adr (.r (rt t 0)) 0 0),(rt t 0,.blk 2 [[.own sz [],.own sz es]]),(c,.any),(s,.ptx (ds.map (nZ c (.n (rt t 0) 0 1))))] [(rt t 0,true)]):opW C hs K ns (some t) (.boxK s x) v1 e R acc:=by
 unfold opW
 simp only[aB]
 refine⟨hs0,hst,?_⟩
 rw[hx]
 refine⟨rfl,hc,?_⟩
 rw[hcb]
 refine⟨hsz,hl,h1,?_⟩
 rw[hs1]
 refine⟨hm,?_⟩
 by_cases hn:n=0
 ·rw[if_pos hn];exact hk0 hn
 ·rw[if_neg hn];exact hk (Nat.pos_of_ne_zero hn)
end
end Go.Gv

namespace Go.Gv
def LQ(n:Nat):List UInt8:=He n []
def fdL(k:Int)(l:List Nat):List (Int×List UInt8):=l.map fun i=>(k,LQ i)
def fdR(k:Int)(l:List Nat):List (List D):=fnR (fdL k l)
@[simp] theorem JY(k:Int):fdR k []=[]:=rfl
def fcR(m:Msh)(l:List Nat):List (List D):=l.map fun k=>cu (fce m k)
@[simp] theorem JX(m:Msh):fcR m []=[]:=rfl
variable{C:CC}(hC:av prog C)
include hC
end Go.Gv

namespace Go.Gv
theorem gD(m:Msh)(i:Nat):smR m i=(List.range i).map fun j=>[.int .i64 (cI m j)]:=rfl
theorem Dh(m:Msh)(i:Nat):ctR m i=(List.range i).map fun j=>[.int .i64 (cP m j),.int .i64 (cQ m j)]:=rfl
theorem tG(m:Msh):nbA m=(List.range m.f.length).map fun j=>[.int .i64 (nbF m j 0),.int .i64 (nbF m j 1),.int .i64 (nbF m j 2)]:=rfl
theorem uJ{α:Type}(p:α->Bool)(xs:List α):-1<=gA p xs/\gA p xs<xs.length:=by
 unfold gA
 split
 ·rename_i i h
  have:=(x1F.1 h).1
  omega
 ·omega
theorem eG(m:Msh)(i k:Nat):-1<=nbF m i k/\nbF m i k<m.f.length:=uJ _ _
def bsd(m:Msh)(i:Nat)(o:Int):Bool:=decide (o=nbF m i 0)||(decide (o=nbF m i 1)||decide (o=nbF m i 2))
def gJ(m:Msh)(i j:Nat):Int:=cI m i-cI m j
def lS(m:Msh)(i j:Nat):Int:=gJ m i j*(if gJ m i j < -gJ m i j then -gJ m i j else gJ m i j)
def nh(m:Msh)(i j:Nat):Int:=(cP m i-cP m j)*(cP m i-cP m j)+(cQ m i-cQ m j)*(cQ m i-cQ m j)
def rk(m:Msh)(i a b:Nat):Int:=jQ (lS m i a*nh m i b) (lS m i b*nh m i a)
def d8(m:Msh)(i:Nat)(best n:Int):Int:=if n<0\/cI m i<=cI m n.toNat then best else if best<0 then n else if 0<rk m i n.toNat best.toNat\/(rk m i n.toNat best.toNat=0/\n<best) then n else best
def upF(m:Msh)(i:Nat):Nat->Int
 | 0=>-2
 | k+1=>d8 m i (upF m i k) (nbF m i k)
def eX(m:Msh)(i:Nat):Int:=if upF m i 3=-2/\bsd m i (-1)=true then -1 else upF m i 3
theorem l6(m:Msh)(i:Nat):∀k,upF m i k=-2\/(0<=upF m i k/\upF m i k<m.f.length/\cI m (upF m i k).toNat<cI m i)
 | 0=>.inl rfl
 | k+1=>by
  have:=eG m i k
  rw[upF,d8]
  by_cases h:nbF m i k<0\/cI m i<=cI m (nbF m i k).toNat
  ·rw[if_pos h];exact l6 m i k
  ·rw[if_neg h]
   have h1:0<=nbF m i k/\nbF m i k<m.f.length/\cI m (nbF m i k).toNat<cI m i:=by omega
   split
   ·exact .inr h1
   ·split
    ·exact .inr h1
    ·exact l6 m i k
theorem qv{m:Msh}(hv:aw m=true){i j:Nat}(hi:i<m.f.length)(hj:j<m.f.length):-1125899906842624<=lS m i j/\lS m i j<=1125899906842624:=by
 have h1:=mR hv hi
 have h2:=mR hv hj
 unfold lS
 have h3:-33554432<=gJ m i j/\gJ m i j<=33554432:=by unfold gJ;omega
 exact jW (k:=33554432) (l:=33554432) (by omega) (by omega) (by split<;>omega) (by split<;>omega)
theorem CR(a:Int):0<=a*a:=by
 rcases Int.le_total 0 a with h|h
 ·exact x1x h h
 ·exact Int.mul_nonneg_of_nonpos_of_nonpos h h
theorem pV{m:Msh}(hv:aw m=true){i j:Nat}(hi:i<m.f.length)(hj:j<m.f.length):0<=nh m i j/\nh m i j<=36028797018963968:=by
 have h1:=pU hv hi
 have h2:=pU hv hj
 have h3:=jW (k:=134217728) (l:=134217728) (a:=cP m i-cP m j) (b:=cP m i-cP m j) (by omega) (by omega) (by omega) (by omega)
 have h4:=jW (k:=134217728) (l:=134217728) (a:=cQ m i-cQ m j) (b:=cQ m i-cQ m j) (by omega) (by omega) (by omega) (by omega)
 have h5:=CR (cP m i-cP m j)
 have h6:=CR (cQ m i-cQ m j)
 unfold nh
 omega
theorem uS{m:Msh}{i j:Nat}(h:cI m j<=cI m i):0<=lS m i j:=by
 unfold lS
 have:0<=gJ m i j:=by unfold gJ;omega
 exact x1x this (by split<;>omega)
variable{C:CC}(hC:av prog C)
include hC
theorem AH{b:Bool}{xs:List Int}(o:Int)(hs:xs.length<2^62):C 262 [slx b (xs.map fun x=>[.int .i64 x]),.int .i64 o] (.int .i64 (gA (fun x=>decide (o=x)) xs)) []:=by
 refine az hC (nf:=N262) rfl rfl ?_
 simp[N262]
 refine aC Nat (fun i=>[(0,slx b (xs.map fun x=>[.int .i64 x])),(1,.int .i64 o),(7,.int .i64 xs.length),(8,.int .i64 i)]) (fun i=>i<=xs.length/\∀(j:Nat) (h:j<xs.length),j<i->decide (o=xs[j])=false) (fun i=>xs.length-i) 0 (by simp) (by simp) ?_
 rintro i ⟨hi,hj⟩
 simp
 refine aj (fun h=>?_) (fun h=>?_)<;>simp[h]<;>simp at h
 ·have hw:IntKind.wrap .i64 ((i:Int)+1)=((i+1:Nat):Int):=ah (by omega) (by omega)
  simp[h,x1u]
  refine aj (fun h1=>?_) (fun h1=>?_)<;>simp at h1<;>simp[hw]
  ·rw[dT hj h (by simpa using h1)]
  ·refine⟨i+1,⟨by omega,fun j hl hjj=>?_⟩,by omega,by omega⟩
   rcases x1f.1 hjj with h2|rfl
   ·simpa using hj j hl h2
   ·exact h1
 ·rw[dS (fun j hl=>hj j hl (by omega))]
theorem uI{b:Bool}{xs:List Int}(o:Int)(hs:xs.length<2^62):C 223 [slx b (xs.map fun x=>[.int .i64 x]),.int .i64 o] (.bool (xs.any fun x=>decide (o=x))) []:=by
 refine az hC (nf:=N223) rfl rfl ?_
 simp[N223]
 refine aa (AH hC o hs) (.inl rfl) ?_
 simp[gT]
theorem wU(m:Msh)(i:Nat)(hi:i<m.f.length)(o:Int):C 263 [.ptr (grC m),.int .i64 i,.int .i64 o] (.bool (bsd m i o)) []:=by
 have k:=uI hC (b:=false) (xs:=[nbF m i 0,nbF m i 1,nbF m i 2]) o (by simp)
 simp at k
 refine az hC (nf:=N263) rfl rfl ?_
 simp[N263,dj,tG,hi,bY]
 refine aa k (.inl rfl) ?_
 simp[bsd]
set_option maxRecDepth 8000 in
set_option maxHeartbeats 1000000 in
theorem oZ(m:Msh)(hv:aw m=true)(i j:Nat)(hi:i<m.f.length)(hj:j<m.f.length):C 264 [.ptr (grC m),.int .i64 i,.int .i64 j] (.tup [.int .i64 (lS m i j),.int .i64 (nh m i j)]) []:=by
 have h1:=mR hv hi
 have h2:=mR hv hj
 have h3:=pU hv hi
 have h4:=pU hv hj
 have h5:=qv hv hi hj
 have h6:=pV hv hi hj
 have h7:=jW (k:=134217728) (l:=134217728) (a:=cP m i-cP m j) (b:=cP m i-cP m j) (by omega) (by omega) (by omega) (by omega)
 have h8:=jW (k:=134217728) (l:=134217728) (a:=cQ m i-cQ m j) (b:=cQ m i-cQ m j) (by omega) (by omega) (by omega) (by omega)
 have w1:IntKind.wrap .i64 (cI m i-cI m j)=gJ m i j:=ah rfl (by unfold gJ;omega)
 have w2:IntKind.wrap .i64 (cP m i-cP m j)=cP m i-cP m j:=ah rfl (by omega)
 have w3:IntKind.wrap .i64 (cQ m i-cQ m j)=cQ m i-cQ m j:=ah rfl (by omega)
 have w4:IntKind.wrap .i64 (-gJ m i j)=-gJ m i j:=ah rfl (by unfold gJ;omega)
 have w5:IntKind.wrap .i64 (gJ m i j*(if gJ m i j < -gJ m i j then -gJ m i j else gJ m i j))=lS m i j:=ah rfl (by omega)
 have w6:IntKind.wrap .i64 ((cP m i-cP m j)*(cP m i-cP m j))=(cP m i-cP m j)*(cP m i-cP m j):=ah rfl (by omega)
 have w7:IntKind.wrap .i64 ((cQ m i-cQ m j)*(cQ m i-cQ m j))=(cQ m i-cQ m j)*(cQ m i-cQ m j):=ah rfl (by omega)
 have w8:IntKind.wrap .i64 ((cP m i-cP m j)*(cP m i-cP m j)+(cQ m i-cQ m j)*(cQ m i-cQ m j))=nh m i j:=ah rfl (by omega)
 refine az hC (nf:=N264) rfl rfl ?_
 simp[N264,dj,gD,Dh,hi,hj,w1,w2,w3,w4,w6,w7,w8]
 exact⟨aF (by decide +kernel),aF (by decide +kernel),w5.symm⟩
theorem tu(m:Msh)(hv:aw m=true)(i a b:Nat)(hi:i<m.f.length)(ha:a<m.f.length)(hb:b<m.f.length)(sa:cI m a<=cI m i)(sb:cI m b<=cI m i) :
  C 268 [.ptr (grC m),.int .i64 i,.int .i64 a,.int .i64 b] (.int .i64 (rk m i a b)) []:=by
 have k1:=oZ hC m hv i a hi ha
 have k2:=oZ hC m hv i b hi hb
 have n1:=qv hv hi ha
 have n2:=qv hv hi hb
 have n3:=uS sa
 have n4:=uS sb
 have d1:=pV hv hi ha
 have d2:=pV hv hi hb
 obtain⟨x,hx⟩:∃x:Nat,lS m i a=x:=⟨(lS m i a).toNat,by omega⟩
 obtain⟨y,hy⟩:∃x:Nat,lS m i b=x:=⟨(lS m i b).toNat,by omega⟩
 obtain⟨p,hp⟩:∃x:Nat,nh m i a=x:=⟨(nh m i a).toNat,by omega⟩
 obtain⟨q,hq⟩:∃x:Nat,nh m i b=x:=⟨(nh m i b).toNat,by omega⟩
 have b1:x*q<=1125899906842624*36028797018963968:=Nat.mul_le_mul (by omega) (by omega)
 have b2:y*p<=1125899906842624*36028797018963968:=Nat.mul_le_mul (by omega) (by omega)
 have k3:=lq hC x q (by omega) (by omega) (by omega)
 have k4:=lq hC y p (by omega) (by omega) (by omega)
 have k5:=GA hC (x*q) (y*p) (by omega) (by omega)
 have e:rk m i a b=jQ ((x*q:Nat):Int) ((y*p:Nat):Int):=by rw[rk,hx,hy,hp,hq];simp
 rw[hx,hp]at k1
 rw[hy,hq]at k2
 rw[e]
 obtain⟨c,hc⟩:∃c,c=jQ ((x*q:Nat):Int) ((y*p:Nat):Int):=⟨_,rfl⟩
 rw[<- hc]at k5 ⊢
 obtain⟨u1,u2,eu⟩:=ua (x*q)
 obtain⟨v1,v2,ev⟩:=ua (y*p)
 rw[eu]at k3 k5
 rw[ev]at k4 k5
 obtain⟨G,hG⟩:∃G,G=grC m:=⟨_,rfl⟩
 rw[<- hG]at k1 k2 ⊢
 refine az hC (nf:=N268) rfl rfl ?_
 simp[N268]
 refine aa k1 (.inl rfl) ?_
 simp
 refine aa k2 (.inl rfl) ?_
 simp
 refine aa k3 (.inr rfl) ?_
 simp
 refine aa k4 (.inr rfl) ?_
 simp
 refine aa k5 (.inl rfl) ?_
 simp
set_option maxRecDepth 8000 in
set_option maxHeartbeats 2000000 in
theorem Ew(m:Msh)(hv:aw m=true)(i:Nat)(hi:i<m.f.length):C 256 [.ptr (grC m),.int .i64 i] (.int .i64 (eX m i)) []:=by
 have kb:=wU hC m i hi (-1)
 have kc:=fun a b ha hb sa sb=>tu hC m hv i a b hi ha hb sa sb
 refine az hC (nf:=N256) rfl rfl ?_
 simp[N256,dj,tG,hi]
 refine aC Nat (fun k=>[(0,.ptr (grC m)),(1,.int .i64 i),(5,.int .i64 (upF m i k)),(15,.agg [.int .i64 (nbF m i 0),.int .i64 (nbF m i 1),.int .i64 (nbF m i 2)]),(16,.int .i64 k)]) (fun k=>k<=3) (fun k=>3-k) 0 (by simp) (by simp[dj,tG,upF]) ?_
 rintro k hk
 rcases(by omega:k=0\/k=1\/k=2\/k=3)with rfl|rfl|rfl|rfl
 ·have step:upF m i 1=d8 m i (upF m i 0) (nbF m i 0):=rfl
  have nb:=eG m i 0
  have ub:=l6 m i 0
  obtain⟨N,hN⟩:∃N,N=nbF m i 0:=⟨_,rfl⟩
  obtain⟨B,hB⟩:∃B,B=upF m i 0:=⟨_,rfl⟩
  rw[<- hN]at step nb
  rw[<- hB]at step ub
  simp[bF,bN,bO]
  rw[<- hN,<- hB]
  refine aj (fun c1=>?_) (fun c1=>?_)<;>simp at c1
  ·simp[c1,bF,bN,bO]
   refine⟨aF (by decide +kernel),?_⟩
   refine⟨1,by omega,by omega,?_,?_⟩
   ·rw[step,d8,if_pos (.inl c1)]
   ·simp
  ·have hNl:N.toNat<m.f.length:=by omega
   simp[x1y.2 c1,c1,dj,gD,hi,hNl]
   refine⟨aF (by decide +kernel),?_⟩
   refine aj (fun c2=>?_) (fun c2=>?_)<;>simp at c2
   ·simp[c2,bF,bN,bO]
    refine⟨1,by omega,by omega,rfl,?_,?_⟩
    ·rw[step,d8,if_pos (.inr c2)]
    ·simp
   ·have hno:¬(N<0\/cI m i<=cI m N.toNat):=by omega
    simp[Int.not_le.2 c2]
    refine aj (fun c3=>?_) (fun c3=>?_)<;>simp at c3
    ·simp[c3,bF,bN,bO]
     refine⟨1,by omega,by omega,rfl,?_,?_⟩
     ·rw[step,d8,if_neg hno,if_pos c3]
     ·simp
    ·have hc:=kc N.toNat B.toNat hNl (by omega) (by omega) (by omega)
     rw[x1g c1,x1g c3]at hc
     obtain⟨c,hcc⟩:∃c,c=rk m i N.toNat B.toNat:=⟨_,rfl⟩
     rw[<- hcc]at hc
     have hB0:¬B<0:=by omega
     simp only[dj,gD]at hc
     simp[x1y.2 c3,dj,gD]
     refine aa hc (.inl rfl) ?_
     simp
     refine aj (fun c4=>?_) (fun c4=>?_)<;>simp at c4
     ·simp[c4,bF,bN,bO]
      refine⟨1,by omega,by omega,rfl,?_,?_⟩
      ·rw[step,d8,if_neg hno,if_neg hB0,if_pos (.inl (by rw[<- hcc];exact c4))]
      ·simp
     ·simp[x1y.2 c4]
      by_cases c5:c=0
      ·simp[c5]
       by_cases c6:N<B
       ·simp[c6,bF,bN,bO]
        refine⟨1,by omega,by omega,rfl,?_,?_⟩
        ·rw[step,d8,if_neg hno,if_neg hB0,if_pos (.inr ⟨by rw[<- hcc];exact c5,c6⟩)]
        ·simp
       ·simp[c6,bF,bN,bO]
        refine⟨1,by omega,by omega,rfl,?_,?_⟩
        ·rw[step,d8,if_neg hno,if_neg hB0,if_neg (by rw[<- hcc];omega)]
        ·simp
      ·simp[c5,bF,bN,bO]
       refine⟨1,by omega,by omega,rfl,?_,?_⟩
       ·rw[step,d8,if_neg hno,if_neg hB0,if_neg (by rw[<- hcc];omega)]
       ·simp
 ·have step:upF m i 2=d8 m i (upF m i 1) (nbF m i 1):=rfl
  have nb:=eG m i 1
  have ub:=l6 m i 1
  obtain⟨N,hN⟩:∃N,N=nbF m i 1:=⟨_,rfl⟩
  obtain⟨B,hB⟩:∃B,B=upF m i 1:=⟨_,rfl⟩
  rw[<- hN]at step nb
  rw[<- hB]at step ub
  simp[bF,bN,bO]
  rw[<- hN,<- hB]
  refine aj (fun c1=>?_) (fun c1=>?_)<;>simp at c1
  ·simp[c1,bF,bN,bO]
   refine⟨aF (by decide +kernel),?_⟩
   refine⟨2,by omega,by omega,?_,?_⟩
   ·rw[step,d8,if_pos (.inl c1)]
   ·simp
  ·have hNl:N.toNat<m.f.length:=by omega
   simp[x1y.2 c1,c1,dj,gD,hi,hNl]
   refine⟨aF (by decide +kernel),?_⟩
   refine aj (fun c2=>?_) (fun c2=>?_)<;>simp at c2
   ·simp[c2,bF,bN,bO]
    refine⟨2,by omega,by omega,rfl,?_,?_⟩
    ·rw[step,d8,if_pos (.inr c2)]
    ·simp
   ·have hno:¬(N<0\/cI m i<=cI m N.toNat):=by omega
    simp[Int.not_le.2 c2]
    refine aj (fun c3=>?_) (fun c3=>?_)<;>simp at c3
    ·simp[c3,bF,bN,bO]
     refine⟨2,by omega,by omega,rfl,?_,?_⟩
     ·rw[step,d8,if_neg hno,if_pos c3]
     ·simp
    ·have hc:=kc N.toNat B.toNat hNl (by omega) (by omega) (by omega)
     rw[x1g c1,x1g c3]at hc
     obtain⟨c,hcc⟩:∃c,c=rk m i N.toNat B.toNat:=⟨_,rfl⟩
     rw[<- hcc]at hc
     have hB0:¬B<0:=by omega
     simp only[dj,gD]at hc
     simp[x1y.2 c3,dj,gD]
     refine aa hc (.inl rfl) ?_
     simp
     refine aj (fun c4=>?_) (fun c4=>?_)<;>simp at c4
     ·simp[c4,bF,bN,bO]
      refine⟨2,by omega,by omega,rfl,?_,?_⟩
      ·rw[step,d8,if_neg hno,if_neg hB0,if_pos (.inl (by rw[<- hcc];exact c4))]
      ·simp
     ·simp[x1y.2 c4]
      by_cases c5:c=0
      ·simp[c5]
       by_cases c6:N<B
       ·simp[c6,bF,bN,bO]
        refine⟨2,by omega,by omega,rfl,?_,?_⟩
        ·rw[step,d8,if_neg hno,if_neg hB0,if_pos (.inr ⟨by rw[<- hcc];exact c5,c6⟩)]
        ·simp
       ·simp[c6,bF,bN,bO]
        refine⟨2,by omega,by omega,rfl,?_,?_⟩
        ·rw[step,d8,if_neg hno,if_neg hB0,if_neg (by rw[<- hcc];omega)]
        ·simp
      ·simp[c5,bF,bN,bO]
       refine⟨2,by omega,by omega,rfl,?_,?_⟩
       ·rw[step,d8,if_neg hno,if_neg hB0,if_neg (by rw[<- hcc];omega)]
       ·simp
 ·have step:upF m i 3=d8 m i (upF m i 2) (nbF m i 2):=rfl
  have nb:=eG m i 2
  have ub:=l6 m i 2
  obtain⟨N,hN⟩:∃N,N=nbF m i 2:=⟨_,rfl⟩
  obtain⟨B,hB⟩:∃B,B=upF m i 2:=⟨_,rfl⟩
  rw[<- hN]at step nb
  rw[<- hB]at step ub
  simp[bF,bN,bO]
  rw[<- hN,<- hB]
  refine aj (fun c1=>?_) (fun c1=>?_)<;>simp at c1
  ·simp[c1,bF,bN,bO]
   refine⟨aF (by decide +kernel),?_⟩
   refine⟨3,by omega,by omega,?_,?_⟩
   ·rw[step,d8,if_pos (.inl c1)]
   ·simp
  ·have hNl:N.toNat<m.f.length:=by omega
   simp[x1y.2 c1,c1,dj,gD,hi,hNl]
   refine⟨aF (by decide +kernel),?_⟩
   refine aj (fun c2=>?_) (fun c2=>?_)<;>simp at c2
   ·simp[c2,bF,bN,bO]
    refine⟨3,by omega,by omega,rfl,?_,?_⟩
    ·rw[step,d8,if_pos (.inr c2)]
    ·simp
   ·have hno:¬(N<0\/cI m i<=cI m N.toNat):=by omega
    simp[Int.not_le.2 c2]
    refine aj (fun c3=>?_) (fun c3=>?_)<;>simp at c3
    ·simp[c3,bF,bN,bO]
     refine⟨3,by omega,by omega,rfl,?_,?_⟩
     ·rw[step,d8,if_neg hno,if_pos c3]
     ·simp
    ·have hc:=kc N.toNat B.toNat hNl (by omega) (by omega) (by omega)
     rw[x1g c1,x1g c3]at hc
     obtain⟨c,hcc⟩:∃c,c=rk m i N.toNat B.toNat:=⟨_,rfl⟩
     rw[<- hcc]at hc
     have hB0:¬B<0:=by omega
     simp only[dj,gD]at hc
     simp[x1y.2 c3,dj,gD]
     refine aa hc (.inl rfl) ?_
     simp
     refine aj (fun c4=>?_) (fun c4=>?_)<;>simp at c4
     ·simp[c4,bF,bN,bO]
      refine⟨3,by omega,by omega,rfl,?_,?_⟩
      ·rw[step,d8,if_neg hno,if_neg hB0,if_pos (.inl (by rw[<- hcc];exact c4))]
      ·simp
     ·simp[x1y.2 c4]
      by_cases c5:c=0
      ·simp[c5]
       by_cases c6:N<B
       ·simp[c6,bF,bN,bO]
        refine⟨3,by omega,by omega,rfl,?_,?_⟩
        ·rw[step,d8,if_neg hno,if_neg hB0,if_pos (.inr ⟨by rw[<- hcc];exact c5,c6⟩)]
        ·simp
       ·simp[c6,bF,bN,bO]
        refine⟨3,by omega,by omega,rfl,?_,?_⟩
        ·rw[step,d8,if_neg hno,if_neg hB0,if_neg (by rw[<- hcc];omega)]
        ·simp
      ·simp[c5,bF,bN,bO]
       refine⟨3,by omega,by omega,rfl,?_,?_⟩
       ·rw[step,d8,if_neg hno,if_neg hB0,if_neg (by rw[<- hcc];omega)]
       ·simp
 ·simp
  by_cases u:upF m i 3=-2
  ·simp[u]
   refine aa kb (.inl rfl) ?_
   cases hb:bsd m i (-1)<;>simp[eX,u,hb]
  ·simp[u,eX]
end Go.Gv

namespace Go.Gv
theorem uW(m:Msh)(i:Nat):eX m i=-1\/eX m i=-2\/(0<=eX m i/\eX m i<m.f.length/\cI m (eX m i).toNat<cI m i):=by
 have:=l6 m i 3
 unfold eX
 split
 ·exact .inl rfl
 ·rcases this with h|h
  ·exact .inr (.inl h)
  ·exact .inr (.inr h)
def inR(l:List Int):List (List D):=l.map fun n=>[.int .i64 n]
theorem qg(l:List Int):inR l=l.map fun n=>[.int .i64 n]:=rfl
@[simp] theorem J2(l:List Int):(inR l).length=l.length:=by simp[inR]
@[simp] theorem nH(l:List Int):List.take l.length (inR l)=inR l:=x0z (by simp)
@[simp] theorem xW(l:List Int):List.map (fun e=>List.map bW e) (inR l)=inR l:=by simp[inR]
@[simp] theorem J3:inR []=[]:=rfl
theorem AI(l:List Int)(n:Int):inR l++[[.int .i64 n]]=inR (l++[n]):=by simp[inR]
def cp(m:Msh):List Int:=(List.range m.f.length).map fun j=>cI m j
def fw(m:Msh):List Int:=(List.range m.f.length).map fun j=>eX m j
theorem Jk(m:Msh):smR m m.f.length=inR (cp m):=by simp[smR,inR,cp]
def flT(m:Msh)(i:Nat):List Int:=(List.range i).map fun j=>eX m j
theorem uC(m:Msh)(i:Nat):(flT m i).length=i:=by simp[flT]
theorem Az(m:Msh)(i:Nat):flT m i++[eX m i]=flT m (i+1):=by simp[flT,x04]
def flB(m:Msh):Nat->List (List D)
 | 0=>List.replicate m.f.length [.int .i64 0]
 | i+1=>inR (flT m (i+1))
theorem rC(m:Msh)(i:Nat):List.take i (flB m i)=inR (flT m i):=by
 cases i with
 | zero=>simp[flB,flT]
 | succ i =>
  have:=nH (flT m (i+1))
  rw[uC]at this
  exact this
theorem Dr(m:Msh)(i:Nat):List.map (fun e=>List.map bW e) (flB m i)=flB m i:=by cases i<;>simp[flB]
theorem uA(m:Msh){i:Nat}:i<=(flB m i).length:=by
 cases i with
 | zero=>simp
 | succ i=>simp[flB,uC]
variable{C:CC}(hC:av prog C)
include hC
theorem Dt(m:Msh)(hv:aw m=true):C 254 [.ptr (grC m)] (.sl (inR (fw m))) []:=by
 have hsz:=cK hv
 have kr:=fun i hi=>Ew hC m hv i hi
 refine az hC (nf:=N254) rfl rfl ?_
 simp[N254,dj]
 refine⟨by omega,?_⟩
 refine aC Nat (fun i=>[(0,.ptr (grC m)),(3,.ref (.r 10048) 0 i),(10048,.blk 1 (flB m i)),(15,.int .i64 m.f.length),(16,.int .i64 i)]) (fun i=>i<=m.f.length) (fun i=>m.f.length-i) 0 (by simp) (by simp[dj,flB]) ?_
 rintro i hi
 simp
 refine aj (fun g1=>?_) (fun g1=>?_)<;>simp at g1<;>simp[g1]
 ·have hw:IntKind.wrap .i64 ((i:Int)+1)=((i+1:Nat):Int):=ah (by omega) (by omega)
  refine aa (kr i (by omega)) (.inl rfl) ?_
  simp
  have hl:=uA m (i:=i)
  refine⟨by omega,by omega,i+1,by omega,by omega,rfl,?_,hw⟩
  rw[rC,AI,Az]
  rfl
 ·have hi2:i=m.f.length:=by omega
  subst hi2
  refine⟨uA m,?_⟩
  rw[Dr,rC]
  rfl
theorem C2(dec:Nat->List UInt8)(hI:∀n:Nat,n<100->C 127 [.int .i64 n] (.str (dec n)) [])(m:Msh)(hz:ct m=true->m.s.length<=100/\m.f.length<=100) :
  C 220 [.agg (b0 m)] (if aw m then .tup [slx true (inR (cp m)),.int .i64 0] else .tup [.nils,.int .i64 1]) []:=by
 have k:=yb hC dec hI m hz
 refine az hC (nf:=N220) rfl rfl ?_
 simp only[af]at k
 simp[N220,af]
 refine aa k (.inr rfl) ?_
 cases hv:aw m
 ·simp
 ·simp[dj,Jk]
theorem CY(dec:Nat->List UInt8)(hI:∀n:Nat,n<100->C 127 [.int .i64 n] (.str (dec n)) [])(m:Msh)(hz:ct m=true->m.s.length<=100/\m.f.length<=100) :
  C 213 [.agg (b0 m)] (if aw m then .tup [.sl (inR (fw m)),.int .i64 0] else .tup [.nils,.int .i64 1]) []:=by
 have k:=yb hC dec hI m hz
 refine az hC (nf:=N213) rfl rfl ?_
 simp only[af]at k
 simp[N213,af]
 refine aa k (.inr rfl) ?_
 cases hv:aw m
 ·simp
 ·have kf:=Dt hC m hv
  simp
  refine aa kf (.inr rfl) ?_
  simp
end Go.Gv

namespace Go.Gv
def nfR(fs:List Nat):List (List D):=fs.map fun i:Nat=>[D.int .i64 (i:Int)]
@[simp] theorem KQ(fs:List Nat):(nfR fs).length=fs.length:=by simp[nfR]
theorem kI{fs:List Nat}{i:Nat}(h:i<fs.length):(nfR fs)[i]? = some [.int .i64 (fs[i]:Int)]:=by simp[nfR,h]
theorem Ee{fs:List Nat}{i:Nat}(h:i<(nfR fs).length):(nfR fs)[i]=[.int .i64 (fs[i]'(by simpa using h):Nat)]:=by simp[nfR]
@[simp] theorem IH(fs:List Nat)(n:Nat):List.take n (nfR fs)=nfR (fs.take n):=by simp[nfR]
theorem A1(fs:List Nat)(i x:Nat):(nfR fs).set i [.int .i64 (x:Int)]=nfR (fs.set i x):=by simp[nfR,List.map_set]
theorem A0(fs:List Nat)(x:Nat):nfR fs++[[.int .i64 (x:Int)]]=nfR (fs++[x]):=by simp[nfR]
theorem lR(fs:List Nat):∀e∈nfR fs,∀c∈e,bq c=true:=by simp[nfR]
theorem Ef(fs:List Nat):∀e∈nfR fs,∀c∈e,aH c=true:=by simp[nfR]
def qB(fs:List Nat)(sp:List Int):List (List D):=[[.own 1 (nfR fs),.slv 0 (inR sp)]]
def fAt(fs:List Nat)(i:Nat):Nat:=fs.getD i 0
def swp(fs:List Nat)(i k:Nat):List Nat:=(fs.set i (fAt fs k)).set k (fAt fs i)
@[simp] theorem Lz(fs:List Nat)(i k:Nat):(swp fs i k).length=fs.length:=by simp[swp]
theorem dF{fs:List Nat}{i:Nat}(h:i<fs.length):fAt fs i=fs[i]:=by simp[fAt,h]
theorem fO{fs:List Nat}{i:Nat}(h:i<fs.length):fAt fs i∈fs:=by rw[dF h];exact x0u _
theorem i9{sp:List Int}{i:Nat}(h:i<sp.length):(inR sp)[i]? = some [.int .i64 (sp.getD i 0)]:=by simp[inR,h]
section
variable{C:Nat->List D->D->List D->Prop}(hC:im prog C)
include hC
theorem yC(fs:List Nat)(sp:List Int):C 317 [.blk 2 (qB fs sp),.adr (.r 10015) 0 0] (.int .i64 fs.length) [.blk 2 (qB fs sp),.nilp]:=by
 unfold qB
 refine iF hC (nf:=N317) rfl rfl ?_
 simp[N317]
theorem kP(fs:List Nat)(sp:List Int)(i k:Nat)(hi:i<fs.length)(hk:k<fs.length):C 343 [.blk 2 (qB fs sp),.adr (.r 10015) 0 0,.int .i64 i,.int .i64 k] (.tup []) [.blk 2 (qB (swp fs i k) sp),.nilp]:=by
 rw[show swp fs i k=(fs.set i fs[k]).set k fs[i] by rw[<- dF hi,<- dF hk];rfl]
 unfold qB
 refine iF hC (nf:=N343) rfl rfl ?_
 simp[N343,cx (kI hi),cx (kI hk),hi,hk,Ee,A1]
 exact aF (by decide +kernel)
theorem A7(fs:List Nat)(sp:List Int)(x:Nat)(h:fs.length<2^40):C 342 [.blk 2 (qB fs sp),.adr (.r 10015) 0 0,.ifi 2 x] (.tup []) [.blk 2 (qB (fs++[x]) sp),.nilp]:=by
 unfold qB
 refine iF hC (nf:=N342) rfl rfl ?_
 simp[N342]
 refine⟨by omega,?_,aF (by decide +kernel),?_⟩
 ·rintro e (he|rfl) c hc
  ·exact Ef _ _ he _ hc
  ·simp at hc;subst hc;rfl
 ·exact A0 fs x
theorem En(fs:List Nat)(sp:List Int)(h:0<fs.length)(h2:fs.length<2^40):C 341 [.blk 2 (qB fs sp),.adr (.r 10015) 0 0] (.ifi 2 (fAt fs (fs.length-1):Nat)) [.blk 2 (qB (fs.take (fs.length-1)) sp),.nilp]:=by
 have e1:IntKind.wrap .i64 ((fs.length:Int)-1)=((fs.length-1:Nat):Int):=ah (by omega) (by omega)
 have hl:fs.length-1<fs.length:=by omega
 rw[dF hl]
 unfold qB
 refine iF hC (nf:=N341) rfl rfl ?_
 simp[N341,e1,cx (kI hl),hl]
 refine⟨aF (by decide +kernel),?_⟩
 refine BM (b:=10015) (i:=0) (off:=0) (n:=fs.length-1) rfl (by simp) rfl rfl rfl (by simp) ?_
 simp
 exact aF (by decide +kernel)
def ltF(sp:List Int)(a b:Nat):Bool:=decide (sp.getD a 0<sp.getD b 0)||(decide (sp.getD a 0=sp.getD b 0)&&decide (a<b))
theorem kO(fs:List Nat)(sp:List Int)(i k:Nat)(hi:i<fs.length)(hk:k<fs.length)(hb:∀a∈fs,a<sp.length):C 340 [.blk 2 (qB fs sp),.adr (.r 10015) 0 0,.int .i64 i,.int .i64 k] (.bool (ltF sp (fAt fs i) (fAt fs k))) [.blk 2 (qB fs sp),.nilp]:=by
 rw[dF hi,dF hk]
 unfold qB
 refine iF hC (nf:=N340) rfl rfl ?_
 have hi':fs[i]<sp.length:=hb _ (x0u _)
 have hk':fs[k]<sp.length:=hb _ (x0u _)
 simp[N340,cx (kI hi),cx (kI hk),hi,hk,aD (i9 hi'),aD (i9 hk')]
 refine⟨aF (by decide +kernel),?_⟩
 refine aj (fun g1=>?_) (fun g1=>?_)<;>simp at g1
 ·simp[g1,ltF]
  exact aF (by decide +kernel)
 ·simp[x1y.2 g1,aD (i9 hi'),aD (i9 hk')]
  refine aj (fun g2=>?_) (fun g2=>?_)<;>simp at g2
  ·simp[g2,ltF]
   exact aF (by decide +kernel)
  ·simp[g2,ltF,x1y.2 g1]
   exact aF (by decide +kernel)
end
end Go.Gv

namespace Go.Gv
def upL(sp:List Int)(fs:List Nat)(j:Nat):List Nat :=
 if j=0 then fs else if ltF sp (fAt fs j) (fAt fs ((j-1)/2)) then upL sp (swp fs ((j-1)/2) j) ((j-1)/2) else fs
termination_by j
decreasing_by omega
def dnJ(sp:List Int)(fs:List Nat)(j n:Nat):Nat:=if j+1<n/\ltF sp (fAt fs (j+1)) (fAt fs j)=true then j+1 else j
theorem ni{sp:List Int}{fs:List Nat}{j n:Nat}(h:j<n):j<=dnJ sp fs j n/\dnJ sp fs j n<n:=by
 unfold dnJ
 split<;>omega
def bJ(sp:List Int)(fs:List Nat)(i n:Nat):List Nat×Nat :=
 if h:n<=2*i+1 then(fs,i) else if ltF sp (fAt fs (dnJ sp fs (2*i+1) n)) (fAt fs i) then bJ sp (swp fs i (dnJ sp fs (2*i+1) n)) (dnJ sp fs (2*i+1) n) n else(fs,i)
termination_by n-i
decreasing_by
 have:=ni (sp:=sp) (fs:=fs) (j:=2*i+1) (n:=n) (by omega)
 omega
theorem uY{fs:List Nat}{i x a:Nat}(h:a∈fs.set i x):a=x\/a∈fs:=by
 rcases List.mem_or_eq_of_mem_set h with h|h
 ·exact .inr h
 ·exact .inl h
theorem lc{fs:List Nat}{i k a:Nat}(hi:i<fs.length)(hk:k<fs.length)(h:a∈swp fs i k):a∈fs:=by
 rcases uY h with rfl|h
 ·exact fO hi
 ·rcases uY h with rfl|h
  ·exact fO hk
  ·exact h
section
variable{C:Nat->List D->D->List D->Prop}(hC:im prog C)
include hC
theorem HJ(fs:List Nat)(sp:List Int)(j:Nat)(hj:j<fs.length)(hb:∀a∈fs,a<sp.length)(h2:fs.length<2^40):C 334 [.blk 2 (qB fs sp),.ifa 20 (.r 10015) 0 0,.int .i64 j] (.tup []) [.blk 2 (qB (upL sp fs j) sp),.nilp]:=by
 refine iF hC (nf:=N334) rfl rfl ?_
 simp[N334]
 refine aC (List Nat×Nat) (fun s=>[(0,.ifa 20 (.r 10015) 0 0),(1,.int .i64 s.2),(10015,.blk 2 (qB s.1 sp))]) (fun s=>s.2<s.1.length/\s.1.length=fs.length/\(∀a∈s.1,a<sp.length)/\upL sp s.1 s.2=upL sp fs j) (fun s=>s.2) (fs,j) ⟨hj,rfl,hb,rfl⟩ (by simp) ?_
 rintro⟨l,i⟩ ⟨k1,k2,k3,k4⟩
 simp only at k1 k2 k3 k4
 obtain⟨p,hp0⟩:∃p,p=(i-1)/2:=⟨_,rfl⟩
 have e1:IntKind.wrap .i64 ((IntKind.wrap .i64 ((i:Int)-1)).tdiv 2)=(p:Int):=by
  rw[ah (m:=(i:Int)-1) rfl (by omega),hp0]
  by_cases h0:i=0
  ·subst h0;decide
  ·rw[Int.tdiv_eq_ediv_of_nonneg (by omega)]
   exact ah (by omega) (by omega)
 have hp:p<l.length:=by omega
 have hu:upL sp l i=if i=0 then l else if ltF sp (fAt l i) (fAt l p) then upL sp (swp l p i) p else l:=by
  conv=>lhs;unfold upL
  rw[hp0]
 simp[e1]
 refine aj (fun g1=>?_) (fun g1=>?_)<;>simp at g1<;>simp[g1]
 ·have h0:i=0:=by omega
  subst h0
  rw[<- k4,hu]
  simp[qB]
 ·have hne:i≠0:=by omega
  have hl:=kO hC l sp i p k1 hp k3
  rw[if_neg hne]at hu
  refine⟨by simp[qB],?_⟩
  refine cD hl (by simp[qB]) ?_
  simp[bL]
  refine aj (fun g2=>?_) (fun g2=>?_)<;>simp at g2
  ·simp[g2]
   rw[<- k4,hu,g2]
   simp[qB]
  ·simp[g2]
   refine⟨by simp[qB],?_⟩
   refine cD (kP hC l sp p i hp k1) (by simp[qB]) ?_
   simp[bL]
   exact⟨swp l p i,p,⟨by simp;exact hp,by simp[k2],fun a ha=>k3 a (lc hp k1 ha),by rw[<- k4,hu,g2];simp⟩,by omega,rfl,rfl⟩
theorem AB(fs:List Nat)(sp:List Int)(i0 n:Nat)(hn:n<=fs.length)(hi0:i0<fs.length)(hb:∀a∈fs,a<sp.length)(h2:fs.length<2^40):C 335 [.blk 2 (qB fs sp),.ifa 20 (.r 10015) 0 0,.int .i64 i0,.int .i64 n] (.bool (decide (i0<(bJ sp fs i0 n).2))) [.blk 2 (qB (bJ sp fs i0 n).1 sp),.nilp]:=by
 refine iF hC (nf:=N335) rfl rfl ?_
 simp[N335]
 refine aC (List Nat×Nat) (fun s=>[(0,.ifa 20 (.r 10015) 0 0),(1,.int .i64 i0),(2,.int .i64 n),(7,.int .i64 s.2),(10015,.blk 2 (qB s.1 sp))]) (fun s=>s.2<s.1.length/\s.1.length=fs.length/\(∀a∈s.1,a<sp.length)/\bJ sp s.1 s.2 n=bJ sp fs i0 n) (fun s=>fs.length-s.2) (fs,i0) ⟨hi0,rfl,hb,rfl⟩ (by simp) ?_
 rintro⟨l,i⟩ ⟨k1,k2,k3,k4⟩
 simp only at k1 k2 k3 k4
 have e1:IntKind.wrap .i64 (IntKind.wrap .i64 (2*(i:Int))+1)=((2*i+1:Nat):Int):=by
  rw[ah (m:=2*(i:Int)) rfl (by omega)]
  exact ah (by omega) (by omega)
 have e2:IntKind.wrap .i64 (((2*i+1:Nat):Int)+1)=((2*i+1+1:Nat):Int):=ah (by omega) (by omega)
 obtain⟨j1,hj1⟩:∃j1,j1=2*i+1:=⟨_,rfl⟩
 rw[<- hj1]at e1 e2
 obtain⟨j2,hj2⟩:∃j2,j2=j1+1:=⟨_,rfl⟩
 rw[<- hj2]at e2
 obtain⟨jm,hjm⟩:∃jm,jm=dnJ sp l j1 n:=⟨_,rfl⟩
 have hu:bJ sp l i n=if n<=j1 then(l,i) else if ltF sp (fAt l jm) (fAt l i) then bJ sp (swp l i jm) jm n else(l,i):=by
  conv=>lhs;unfold bJ
  rw[<- hj1,<- hjm]
  rfl
 simp[e1]
 refine aj (fun g1=>?_) (fun g1=>?_)<;>simp at g1
 ·simp[g1]
  rw[<- k4,hu,if_pos g1]
  simp[qB]
 ·rw[if_neg (by omega)]at hu
  have hj:=ni (sp:=sp) (fs:=l) (j:=j1) (n:=n) g1
  rw[<- hjm]at hj
  have hjl:jm<l.length:=by omega
  simp[Nat.not_le.2 g1,show ¬((j1:Int)<0) by omega,e2]
  have hm:jm=if j2<n/\ltF sp (fAt l j2) (fAt l j1)=true then j2 else j1:=by rw[hjm,hj2];rfl
  refine aj (fun g2=>?_) (fun g2=>?_)<;>simp at g2
  ·simp[g2]
   refine⟨by simp[qB],?_⟩
   refine cD (kO hC l sp j2 j1 (by omega) (by omega) k3) (by simp[qB]) ?_
   simp[bL]
   refine aj (fun g3=>?_) (fun g3=>?_)
   ·rw[if_pos ⟨g2,g3⟩]at hm
    simp[g3]
    subst hm
    refine⟨by simp[qB],?_⟩
    refine cD (kO hC l sp _ i hjl k1 k3) (by simp[qB]) ?_
    simp[bL]
    refine aj (fun g4=>?_) (fun g4=>?_)<;>simp at g4
    ·simp[g4]
     rw[<- k4,hu,if_neg (by simp[g4])]
     simp[qB]
    ·simp[g4]
     refine⟨by simp[qB],?_⟩
     refine cD (kP hC l sp i _ k1 hjl) (by simp[qB]) ?_
     simp[bL]
     exact⟨swp l i _,_,⟨by simp;exact hjl,by simp[k2],fun a ha=>k3 a (lc k1 hjl ha),by rw[<- k4,hu,if_pos g4]⟩,by omega,rfl,rfl⟩
   ·rw[if_neg (by simp[g3])]at hm
    simp[g3]
    subst hm
    refine⟨by simp[qB],?_⟩
    refine cD (kO hC l sp _ i hjl k1 k3) (by simp[qB]) ?_
    simp[bL]
    refine aj (fun g4=>?_) (fun g4=>?_)<;>simp at g4
    ·simp[g4]
     rw[<- k4,hu,if_neg (by simp[g4])]
     simp[qB]
    ·simp[g4]
     refine⟨by simp[qB],?_⟩
     refine cD (kP hC l sp i _ k1 hjl) (by simp[qB]) ?_
     simp[bL]
     exact⟨swp l i _,_,⟨by simp;exact hjl,by simp[k2],fun a ha=>k3 a (lc k1 hjl ha),by rw[<- k4,hu,if_pos g4]⟩,by omega,rfl,rfl⟩
  ·rw[if_neg (by omega)]at hm
   simp[Nat.not_lt.2 g2]
   subst hm
   refine⟨by simp[qB],?_⟩
   refine cD (kO hC l sp _ i hjl k1 k3) (by simp[qB]) ?_
   simp[bL]
   refine aj (fun g4=>?_) (fun g4=>?_)<;>simp at g4
   ·simp[g4]
    rw[<- k4,hu,if_neg (by simp[g4])]
    simp[qB]
   ·simp[g4]
    refine⟨by simp[qB],?_⟩
    refine cD (kP hC l sp i _ k1 hjl) (by simp[qB]) ?_
    simp[bL]
    exact⟨swp l i _,_,⟨by simp;exact hjl,by simp[k2],fun a ha=>k3 a (lc k1 hjl ha),by rw[<- k4,hu,if_pos g4]⟩,by omega,rfl,rfl⟩
theorem AC(fs:List Nat)(sp:List Int)(x:Nat)(hx:x<sp.length)(hb:∀a∈fs,a<sp.length)(h2:fs.length+1<2^40):C 316 [.blk 2 (qB fs sp),.ifa 20 (.r 10015) 0 0,.ifi 2 x] (.tup []) [.blk 2 (qB (upL sp (fs++[x]) fs.length) sp),.nilp]:=by
 have hb':∀a∈fs++[x],a<sp.length:=by
  intro a ha
  rcases x0n.1 ha with ha|ha
  ·exact hb a ha
  ·simp at ha;omega
 have e1:IntKind.wrap .i64 (((fs.length+1:Nat):Int)-1)=(fs.length:Int):=ah (by omega) (by omega)
 refine iF hC (nf:=N316) rfl rfl ?_
 simp[N316]
 refine⟨by simp[qB],?_⟩
 refine cD (A7 hC fs sp x (by omega)) (by simp[qB]) ?_
 simp[bL]
 refine⟨by simp[qB],?_⟩
 refine cD (yC hC (fs++[x]) sp) (by simp[qB]) ?_
 have hup:=HJ hC (fs++[x]) sp fs.length (by simp) hb' (by simp;omega)
 simp at e1
 simp[bL,e1]
 refine⟨by simp[qB],?_⟩
 refine cD hup (by simp[qB]) ?_
 simp[bL,qB]
omit hC in
theorem vB(sp:List Int)(fs:List Nat)(i n:Nat):(bJ sp fs i n).1.length=fs.length:=by
 induction fs,i using bJ.induct sp n with
 | case1 fs i h=>unfold bJ;simp[h]
 | case2 fs i h1 h2 ih=>unfold bJ;simp only[dif_neg h1,if_pos h2];rw[ih];simp
 | case3 fs i h1 h2=>unfold bJ;simp only[dif_neg h1,if_neg h2]
theorem Dw(fs:List Nat)(sp:List Int)(h0:0<fs.length)(hb:∀a∈fs,a<sp.length)(h2:fs.length<2^40):C 318 [.blk 2 (qB fs sp),.ifa 20 (.r 10015) 0 0] (.ifi 2 (fAt (bJ sp (swp fs 0 (fs.length-1)) 0 (fs.length-1)).1 (fs.length-1):Nat)) [.blk 2 (qB ((bJ sp (swp fs 0 (fs.length-1)) 0 (fs.length-1)).1.take (fs.length-1)) sp),.nilp]:=by
 obtain⟨n,hn⟩:∃n,n=fs.length-1:=⟨_,rfl⟩
 have e1:IntKind.wrap .i64 ((fs.length:Int)-1)=(n:Int):=ah (by omega) (by omega)
 rw[<- hn]
 have hsw:=kP hC fs sp 0 n h0 (by omega)
 have hdn:=AB hC (swp fs 0 n) sp 0 n (by simp;omega) (by simp;omega) (fun a ha=>hb a (lc h0 (by omega) ha)) (by simp;omega)
 have hl:(bJ sp (swp fs 0 n) 0 n).1.length=fs.length:=by rw[vB];simp
 have hpo:=En hC (bJ sp (swp fs 0 n) 0 n).1 sp (by omega) (by omega)
 rw[hl,<- hn]at hpo
 refine iF hC (nf:=N318) rfl rfl ?_
 simp[N318]
 refine⟨by simp[qB],?_⟩
 refine cD (yC hC fs sp) (by simp[qB]) ?_
 simp[bL,e1]
 refine⟨by simp[qB],?_⟩
 refine cD hsw (by simp[qB]) ?_
 simp[bL]
 refine⟨by simp[qB],?_⟩
 refine cD hdn (by simp[qB]) ?_
 simp[bL]
 refine⟨by simp[qB],?_⟩
 refine cD hpo (by simp[qB]) ?_
 simp[bL,qB]
end
end Go.Gv

namespace Go.Gv
theorem kG{sp:List Int}{a b:Nat}:ltF sp a b=true↔sp.getD a 0<sp.getD b 0\/(sp.getD a 0=sp.getD b 0/\a<b):=by simp[ltF]
theorem fm{sp:List Int}{a b:Nat}:ltF sp a b=false↔sp.getD b 0<sp.getD a 0\/(sp.getD a 0=sp.getD b 0/\b<=a):=by
 rw[<- Bool.not_eq_true,kG]
 omega
theorem l5{fs:List Nat}{i k x:Nat}(hi:i<fs.length)(hk:k<fs.length):fAt (swp fs i k) x=if x=k then fAt fs i else if x=i then fAt fs k else fAt fs x:=by
 unfold swp
 by_cases hx:x<fs.length
 ·rw[dF (by simpa using hx)]
  simp only[List.getElem_set]
  by_cases e1:k=x
  ·subst e1;simp
  ·rw[if_neg e1,if_neg (Ne.symm e1)]
   by_cases e2:i=x
   ·subst e2;simp
   ·rw[if_neg e2,if_neg (Ne.symm e2),dF hx]
 ·rw[if_neg (by omega),if_neg (by omega)]
  simp only[fAt,x1w]
  rw[x0N (by simp;omega),x0N (by omega)]
theorem jD{fs:List Nat}{i k:Nat}(hi:i<fs.length)(hk:k<fs.length)(a:Nat):(swp fs i k).count a=fs.count a:=by
 have ha:=dF hi
 have hb:=dF hk
 unfold swp
 rw[List.count_set (by simpa using hk),List.count_set hi,ha,hb]
 have h1:fs[i]=a->0<fs.count a:=fun e=>x1b.2 (by rw[<- e];exact x0u _)
 have h2:fs[k]=a->0<fs.count a:=fun e=>x1b.2 (by rw[<- e];exact x0u _)
 simp only[List.getElem_set]
 by_cases e:i=k
 ·subst e
  simp
  by_cases e1:fs[i]=a
  ·have:=h1 e1;simp[e1];omega
  ·simp[e1]
 ·rw[if_neg e]
  by_cases e1:fs[i]=a<;>by_cases e2:fs[k]=a
  ·have:=h1 e1;simp[e1,e2];omega
  ·have:=h1 e1;simp[e1,e2];omega
  ·have:=h2 e2;simp[e1,e2]
  ·simp[e1,e2]
def i8(sp:List Int)(fs:List Nat)(n:Nat):Prop:=∀i,0<i->i<n->ltF sp (fAt fs i) (fAt fs ((i-1)/2))=false
theorem l7{sp:List Int}:∀(j:Nat) (fs:List Nat),j<fs.length->∀a,(upL sp fs j).count a=fs.count a:=by
 intro j
 induction j using Nat.strongRecOn with
 | _ j ih =>
  intro fs hj a
  unfold upL
  split
  ·rfl
  ·split
   ·rw[ih _ (by omega) _ (by simp;omega)]
    exact jD (by omega) hj a
   ·rfl
theorem li{sp:List Int}:∀(j:Nat) (fs:List Nat),(upL sp fs j).length=fs.length:=by
 intro j
 induction j using Nat.strongRecOn with
 | _ j ih =>
  intro fs
  unfold upL
  split
  ·rfl
  ·split
   ·rw[ih _ (by omega)];simp
   ·rfl
theorem zT{sp:List Int}:∀(j:Nat) (fs:List Nat),j<fs.length->(∀i,0<i->i<fs.length->i≠j->ltF sp (fAt fs i) (fAt fs ((i-1)/2))=false)->(∀i,0<i->i<fs.length->(i-1)/2=j->0<j->ltF sp (fAt fs i) (fAt fs ((j-1)/2))=false)->i8 sp (upL sp fs j) fs.length:=by
 intro j
 induction j using Nat.strongRecOn with
 | _ j ih =>
  intro fs hj h1 h2
  unfold upL
  split
  ·rename_i h0
   intro i hi hin
   exact h1 i hi hin (by omega)
  ·rename_i h0
   split
   ·rename_i hl
    have hp:(j-1)/2<fs.length:=by omega
    have hpj:(j-1)/2<j:=by omega
    have at_:=fun x=>l5 (x:=x) hp hj
    have key:=ih ((j-1)/2) hpj (swp fs ((j-1)/2) j) (by simp;omega) (fun i hi hin hne=>?_) (fun i hi hin hpi h0p=>?_)
    ·simpa using key
    ·simp at hin
     rw[at_,at_]
     by_cases e1:i=j
     ·subst e1
      rw[if_pos rfl,if_neg (by omega),if_pos rfl]
      rw[fm]
      rw[kG]at hl
      omega
     ·rw[if_neg e1,if_neg hne]
      by_cases e2:(i-1)/2=j
      ·rw[if_pos e2]
       exact h2 i hi hin e2 (by omega)
      ·rw[if_neg e2]
       by_cases e3:(i-1)/2=(j-1)/2
       ·rw[if_pos e3]
        have h4:=h1 i hi hin e1
        rw[e3]at h4
        rw[fm]at h4 ⊢
        rw[kG]at hl
        omega
       ·rw[if_neg e3]
        exact h1 i hi hin e1
    ·simp at hin
     rw[at_,at_]
     rw[if_neg (show((j-1)/2-1)/2≠j by omega),if_neg (show((j-1)/2-1)/2≠(j-1)/2 by omega)]
     have h5:=h1 ((j-1)/2) h0p hp (by omega)
     by_cases e1:i=j
     ·rw[if_pos e1]
      exact h5
     ·rw[if_neg e1,if_neg (by omega)]
      have h4:=h1 i hi hin e1
      rw[hpi]at h4
      rw[fm]at h4 h5 ⊢
      omega
   ·rename_i hl
    intro i hi hin
    by_cases e:i=j
    ·subst e;simpa using hl
    ·exact h1 i hi hin e
theorem xk{sp:List Int}{fs:List Nat}{j n x:Nat}(hx:(x-1)/2=(j-1)/2)(hj:j%2=1)(h0:0<x)(hn:x<n):ltF sp (fAt fs x) (fAt fs (dnJ sp fs j n))=false:=by
 have hxj:x=j\/x=j+1:=by omega
 unfold dnJ
 split
 ·rename_i h
  rcases hxj with rfl|rfl
  ·have:=h.2
   rw[kG]at this
   rw[fm]
   omega
  ·rw[fm];omega
 ·rename_i h
  rcases hxj with rfl|rfl
  ·rw[fm];omega
  ·cases e:ltF sp (fAt fs (j+1)) (fAt fs j)
   ·rfl
   ·exact absurd ⟨hn,e⟩ h
theorem mg{sp:List Int}{n:Nat}(fs:List Nat)(i:Nat)(hn:n<=fs.length)(a:Nat):(bJ sp fs i n).1.count a=fs.count a:=by
 induction fs,i using bJ.induct sp n with
 | case1 fs i h=>unfold bJ;simp[h]
 | case2 fs i h1 h2 ih =>
  have hb:=ni (sp:=sp) (fs:=fs) (j:=2*i+1) (n:=n) (by omega)
  unfold bJ;simp only[dif_neg h1,if_pos h2]
  rw[ih (by simpa using hn)]
  exact jD (by omega) (by omega) a
 | case3 fs i h1 h2=>unfold bJ;simp only[dif_neg h1,if_neg h2]
theorem nj{sp:List Int}{n:Nat}(fs:List Nat)(i:Nat):(bJ sp fs i n).1.length=fs.length:=by
 induction fs,i using bJ.induct sp n with
 | case1 fs i h=>unfold bJ;simp[h]
 | case2 fs i h1 h2 ih=>unfold bJ;simp only[dif_neg h1,if_pos h2];rw[ih];simp
 | case3 fs i h1 h2=>unfold bJ;simp only[dif_neg h1,if_neg h2]
theorem xm{sp:List Int}{n:Nat}(fs:List Nat)(i:Nat)(hn:n<=fs.length){x:Nat}(hx:n<=x):fAt (bJ sp fs i n).1 x=fAt fs x:=by
 induction fs,i using bJ.induct sp n with
 | case1 fs i h=>unfold bJ;simp[h]
 | case2 fs i h1 h2 ih =>
  have hb:=ni (sp:=sp) (fs:=fs) (j:=2*i+1) (n:=n) (by omega)
  unfold bJ;simp only[dif_neg h1,if_pos h2]
  rw[ih (by simpa using hn),l5 (by omega) (by omega),if_neg (by omega),if_neg (by omega)]
 | case3 fs i h1 h2=>unfold bJ;simp only[dif_neg h1,if_neg h2]
theorem sY{sp:List Int}{n:Nat}(fs:List Nat)(i:Nat)(hn:n<=fs.length)(hin:i<fs.length)(h1:∀x,0<x->x<n->(x-1)/2≠i->ltF sp (fAt fs x) (fAt fs ((x-1)/2))=false)(h2:∀x,0<x->x<n->(x-1)/2=i->0<i->ltF sp (fAt fs x) (fAt fs ((i-1)/2))=false):i8 sp (bJ sp fs i n).1 n:=by
 induction fs,i using bJ.induct sp n with
 | case1 fs i h =>
  unfold bJ;simp only[dif_pos h]
  intro x h0 hx
  exact h1 x h0 hx (by omega)
 | case2 fs i g1 g2 ih =>
  obtain⟨j,hj⟩:∃j,j=dnJ sp fs (2*i+1) n:=⟨_,rfl⟩
  have hb:=ni (sp:=sp) (fs:=fs) (j:=2*i+1) (n:=n) (by omega)
  have hpar:(j-1)/2=i:=by
   rw[hj];unfold dnJ;split<;>omega
  unfold bJ;simp only[dif_neg g1,if_pos g2]
  rw[<- hj]at hb g2 ih ⊢
  have at_:=fun x=>l5 (fs:=fs) (i:=i) (k:=j) (x:=x) (by omega) (by omega)
  refine ih (by simpa using hn) (by simp;omega) (fun x h0 hx hne=>?_) (fun x h0 hx hp hj0=>?_)
  ·rw[at_,at_]
   by_cases e1:x=j
   ·subst e1
    rw[if_pos rfl,if_neg (by omega),if_pos (by omega)]
    rw[kG]at g2
    rw[fm]
    omega
   ·rw[if_neg e1,if_neg hne]
    by_cases e2:x=i
    ·subst e2
     rw[if_pos rfl]
     rw[if_neg (by omega)]
     exact h2 j (by omega) (by omega) hpar (by omega)
    ·rw[if_neg e2]
     by_cases e3:(x-1)/2=i
     ·rw[if_pos e3,hj]
      exact xk (by omega) (by omega) h0 hx
     ·rw[if_neg e3]
      exact h1 x h0 hx e3
  ·rw[at_,at_]
   rw[if_neg (show x≠j by omega),if_neg (show x≠i by omega),if_neg (show(j-1)/2≠j by omega),if_pos hpar]
   have:=h1 x h0 hx (by omega)
   rw[hp]at this
   exact this
 | case3 fs i g1 g2 =>
  unfold bJ;simp only[dif_neg g1,if_neg g2]
  intro x h0 hx
  by_cases e:(x-1)/2=i
  ·have h3:=xk (sp:=sp) (fs:=fs) (j:=2*i+1) (n:=n) (x:=x) (by omega) (by omega) h0 hx
   have h4:ltF sp (fAt fs (dnJ sp fs (2*i+1) n)) (fAt fs i)=false:=by simpa using g2
   rw[e]
   rw[fm]at h3 h4 ⊢
   omega
  ·exact h1 x h0 hx e
theorem vN{sp:List Int}{fs:List Nat}{n:Nat}(h:i8 sp fs n):∀x,x<n->ltF sp (fAt fs x) (fAt fs 0)=false:=by
 intro x
 induction x using Nat.strongRecOn with
 | _ x ih =>
  intro hx
  by_cases h0:x=0
  ·subst h0;rw[fm];omega
  ·have h1:=h x (by omega) hx
   have h2:=ih ((x-1)/2) (by omega) (by omega)
   rw[fm]at h1 h2 ⊢
   omega
theorem yz{sp:List Int}{fs:List Nat}(h:i8 sp fs fs.length)(h0:0<fs.length) :
  let r:=(bJ sp (swp fs 0 (fs.length-1)) 0 (fs.length-1)).1
  fAt r (fs.length-1)=fAt fs 0/\r.length=fs.length/\i8 sp (r.take (fs.length-1)) (r.take (fs.length-1)).length/\(∀a,fs.count a=(r.take (fs.length-1)).count a+if a=fAt fs 0 then 1 else 0):=by
 intro r
 have hl:r.length=fs.length:=by show(bJ _ _ _ _).1.length=_;rw[nj];simp
 have hlast:fAt r (fs.length-1)=fAt fs 0:=by
  show fAt (bJ _ _ _ _).1 _=_
  rw[xm _ _ (by simp) (x0k _),l5 h0 (by omega),if_pos rfl]
 have htk:∀x,x<fs.length-1->fAt (r.take (fs.length-1)) x=fAt r x:=fun x hx=>by
  unfold fAt
  simp[x0J,hx]
 have hlt:(r.take (fs.length-1)).length=fs.length-1:=by simp;omega
 refine⟨hlast,hl,?_,fun a=>?_⟩
 ·rw[hlt]
  intro x hx hxn
  rw[htk x hxn,htk _ (by omega)]
  refine sY _ _ (by simp) (by simp;omega) (fun y hy hyn hp=>?_) (fun y _ _ _ h=>absurd h (by omega)) x hx hxn
  rw[l5 h0 (by omega),l5 h0 (by omega),if_neg (by omega),if_neg (by omega),if_neg (by omega),if_neg hp]
  exact h y hy (by omega)
 ·have h1:r.count a=fs.count a:=by
   show(bJ _ _ _ _).1.count a=_
   rw[mg _ _ (by simp),jD h0 (by omega)]
  rw[<- h1]
  have h2:r=r.take (fs.length-1)++[fAt fs 0]:=by
   have h3:r.drop (fs.length-1)=[fAt fs 0]:=by
    rw[<- hlast,dF (by omega)]
    rw[List.drop_eq_getElem_cons (by omega)]
    rw[List.drop_eq_nil_of_le (by omega)]
   rw[<- h3,List.take_append_drop]
  conv=>lhs;rw[h2]
  rw[List.count_append]
  congr 1
  simp[List.count_singleton]
  by_cases e:fAt fs 0=a
  ·simp[e]
  ·simp[e,Ne.symm e]
theorem lV{sp:List Int}{fs:List Nat}{x:Nat}(h:i8 sp fs fs.length) :
  i8 sp (upL sp (fs++[x]) fs.length) (upL sp (fs++[x]) fs.length).length/\(∀a,(upL sp (fs++[x]) fs.length).count a=fs.count a+if a=x then 1 else 0)/\(upL sp (fs++[x]) fs.length).length=fs.length+1:=by
 have hl:(upL sp (fs++[x]) fs.length).length=fs.length+1:=by rw[li];simp
 have at_:∀i,i<fs.length->fAt (fs++[x]) i=fAt fs i:=fun i hi=>by
  unfold fAt
  simp[List.getElem?_append,hi]
 refine⟨?_,fun a=>?_,hl⟩
 ·rw[hl]
  have:=zT (sp:=sp) fs.length (fs++[x]) (by simp) (fun i hi hin hne=>?_) (fun i hi hin hp _=>by simp at hin;omega)
  ·simpa using this
  ·simp at hin
   rw[at_ i (by omega),at_ _ (by omega)]
   exact h i hi (by omega)
 ·rw[l7 _ _ (by simp),List.count_append]
  congr 1
  simp[List.count_singleton]
  by_cases e:x=a
  ·simp[e]
  ·simp[e,Ne.symm e]
end Go.Gv

namespace Go.Gv
structure Fl where
 q:List Nat
 rc:List Bool
 sp:List Int
 ou:List Int
def fl0(m:Msh):Nat->List Nat×List Bool
 | 0=>([],List.replicate m.f.length false)
 | i+1=>if bsd m i (-1) then(upL (cp m) ((fl0 m i).1++[i]) (fl0 m i).1.length,(fl0 m i).2.set i true) else fl0 m i
def mxZ(a b:Int):Int:=if a<b then b else a
def oG(m:Msh)(i:Nat)(s:Fl)(k:Int):Fl :=
 if k=-1\/s.rc.getD k.toNat false=true then s else
  { q:=upL (s.sp.set k.toNat (mxZ (s.sp.getD i 0) ((cp m).getD k.toNat 0))) (s.q++[k.toNat]) s.q.length,rc:=s.rc.set k.toNat true,sp:=s.sp.set k.toNat (mxZ (s.sp.getD i 0) ((cp m).getD k.toNat 0)),ou:=s.ou.set k.toNat i }
def iL(sp:List Int)(q:List Nat):List Nat:=(bJ sp (swp q 0 (q.length-1)) 0 (q.length-1)).1
def flJ(m:Msh)(i:Nat)(s:Fl):Nat->Fl
 | 0=>s
 | j+1=>oG m i (flJ m i s j) (nbF m i j)
def eE(m:Msh)(s:Fl):Fl :=
 if s.q.length=0 then s else flJ m (fAt (iL s.sp s.q) (s.q.length-1)) { s with q:=(iL s.sp s.q).take (s.q.length-1) } 3
def flN(m:Msh):Nat->Fl->Fl
 | 0,s=>s
 | k+1,s=>flN m k (eE m s)
def dZ(m:Msh):Fl:={ q:=(fl0 m m.f.length).1,rc:=(fl0 m m.f.length).2,sp:=cp m,ou:=List.replicate m.f.length (-1) }
def bv(m:Msh):Fl:=flN m (3*m.f.length) (dZ m)
theorem uQ{m:Msh}{i:Nat}(h:i<m.f.length):(nbA m)[i]? = some [.int .i64 (nbF m i 0),.int .i64 (nbF m i 1),.int .i64 (nbF m i 2)]:=by simp[nbA,h]
@[simp] theorem KO(m:Msh):(nbA m).length=m.f.length:=by simp[nbA]
theorem kz(m:Msh):∀i,(fl0 m i).2.length=m.f.length/\(fl0 m i).1.length<=i/\(∀a∈(fl0 m i).1,a<i)
 | 0=>by simp[fl0]
 | i+1=>by
  obtain⟨h1,h2,h3⟩:=kz m i
  unfold fl0
  split
  ·refine⟨by simp[h1],by simp[li];exact h2,fun a ha=>?_⟩
   have h4:=l7 (sp:=cp m) (fl0 m i).1.length ((fl0 m i).1++[i]) (by simp) a
   have h5:0<((fl0 m i).1++[i]).count a:=by rw[<- h4];exact x1b.2 ha
   rcases x0n.1 (x1b.1 h5)with h6|h6
   ·have:=h3 a h6;omega
   ·simp at h6;omega
  ·exact⟨h1,by omega,fun a ha=>by have:=h3 a ha;omega⟩
@[simp] theorem Lx(m:Msh):(cp m).length=m.f.length:=by simp[cp]
def nx(m:Msh):D:=.ptr [.sl (nbA m),slx true (inR (cp m)),.sl (inR (bv m).sp),.sl (inR (bv m).ou)]
def rcR(l:List Bool):List (List D):=l.map fun b=>[.bool b]
theorem A8(l:List Bool):(rcR l).length=l.length:=by simp[rcR]
theorem qC{l:List Bool}{i:Nat}(h:i<l.length):(rcR l)[i]? = some [.bool (l.getD i false)]:=by simp[rcR,h]
theorem uT(l:List Bool)(i:Nat)(b:Bool):(rcR l).set i [.bool b]=rcR (l.set i b):=by simp[rcR,List.map_set]
theorem Eo{l:List Bool}{i:Nat}(h:i<(rcR l).length):(rcR l)[i]=[.bool (l[i]'(by simpa[rcR]using h))]:=by simp[rcR]
theorem DB(l:List Int)(i:Nat)(x:Int):(inR l).set i [.int .i64 x]=inR (l.set i x):=by simp[inR,List.map_set]
theorem nG(l:List Int):∀e∈inR l,∀c∈e,bq c=true:=by simp[inR]
structure FlW (m:Msh) (s:Fl):Prop where
 rc:s.rc.length=m.f.length
 sp:s.sp.length=m.f.length
 ou:s.ou.length=m.f.length
 q:∀a∈s.q,a<m.f.length
 n:s.q.length+s.rc.count false<=m.f.length
def flM(s:Fl):Nat:=s.q.length+2*s.rc.count false
theorem oh{l:List Bool}{i:Nat}(h:i<l.length)(hf:l.getD i false=false):(l.set i true).count false+1=l.count false:=by
 have h1:l[i]=false:=by simpa[h]using hf
 rw[List.count_set h,h1]
 have:0<l.count false:=x1b.2 (by rw[<- h1];exact x0u _)
 simp
 omega
theorem BU{sp:List Int}{fs:List Nat}{j a:Nat}(hj:j<fs.length)(h:a∈upL sp fs j):a∈fs:=by
 have h4:=l7 (sp:=sp) j fs hj a
 exact x1b.1 (by rw[<- h4];exact x1b.2 h)
theorem Ds{m:Msh}{i:Nat}{s:Fl}{k:Int}(h:FlW m s)(hk:-1<=k/\k<m.f.length):FlW m (oG m i s k)/\flM (oG m i s k)<=flM s:=by
 unfold oG
 split
 ·exact⟨h,x0k _⟩
 ·rename_i hn
  have hkl:k.toNat<s.rc.length:=by rw[h.rc];omega
  have hf:s.rc.getD k.toNat false=false:=by
   cases e:s.rc.getD k.toNat false
   ·rfl
   ·exact absurd (.inr e) hn
  have hst:=oh hkl hf
  have hn1:=h.n
  refine⟨⟨by simp[h.rc],by simp[h.sp],by simp[h.ou],fun a ha=>?_,?_⟩,?_⟩
  ·rcases x0n.1 (BU (by simp) ha)with h1|h1
   ·exact h.q a h1
   ·simp at h1;omega
  ·simp only[li,x0Q,List.length_singleton]
   omega
  ·simp only[flM,li,x0Q,List.length_singleton]
   omega
theorem uB{m:Msh}{i:Nat}{s:Fl}(h:FlW m s):∀j,FlW m (flJ m i s j)/\flM (flJ m i s j)<=flM s
 | 0=>⟨h,x0k _⟩
 | j+1=>by
  obtain⟨h1,h2⟩:=uB h j
  obtain⟨h3,h4⟩:=Ds (i:=i) h1 (eG m i j)
  exact⟨h3,x1v h4 h2⟩
theorem nW(sp:List Int)(q:List Nat):(iL sp q).length=q.length:=by unfold iL;rw[nj];simp
theorem sj{sp:List Int}{q:List Nat}{a:Nat}(h0:0<q.length)(h:a∈iL sp q):a∈q:=by
 have h1:=mg (sp:=sp) (n:=q.length-1) (swp q 0 (q.length-1)) 0 (by simp) a
 rw[jD h0 (by omega)]at h1
 exact x1b.1 (by rw[<- h1];exact x1b.2 h)
theorem yy{m:Msh}{s:Fl}(h:FlW m s)(h0:0<s.q.length):FlW m { s with q:=(iL s.sp s.q).take (s.q.length-1) }/\flM { s with q:=(iL s.sp s.q).take (s.q.length-1) }<flM s/\fAt (iL s.sp s.q) (s.q.length-1)<m.f.length:=by
 have hn:=h.n
 refine⟨⟨h.rc,h.sp,h.ou,fun a ha=>h.q a (sj h0 (x0G ha)),?_⟩,?_,h.q _ (sj h0 (fO (by rw[nW];omega)))⟩
 ·simp[nW];omega
 ·simp[flM,nW];omega
theorem gM{m:Msh}{s:Fl}(h:FlW m s):FlW m (eE m s)/\(0<s.q.length->flM (eE m s)<flM s):=by
 unfold eE
 split
 ·exact⟨h,fun h0=>by omega⟩
 ·rename_i h0
  obtain⟨h1,h2,_⟩:=yy h (by omega)
  obtain⟨h3,h4⟩:=uB (i:=fAt (iL s.sp s.q) (s.q.length-1)) h1 3
  exact⟨h3,fun _=>by omega⟩
theorem p9(m:Msh):∀(k j:Nat) (s:Fl),flN m (k+j) s=flN m j (flN m k s)
 | 0,j,s=>by simp[flN]
 | k+1,j,s=>by rw[Nat.succ_add];simp only[flN];exact p9 m k j _
theorem nv(m:Msh){s:Fl}(h:s.q.length=0):∀j,flN m j s=s
 | 0=>rfl
 | j+1=>by simp only[flN,eE,if_pos h];exact nv m h j
theorem Cm{m:Msh}:∀(k:Nat) {s:Fl},FlW m s->FlW m (flN m k s)
 | 0,s,h=>h
 | k+1,s,h=>Cm k (gM h).1
theorem o5(m:Msh):∀(i x:Nat),i<=x->(fl0 m i).2.getD x false=false
 | 0,x,_=>by simp[fl0,x0Z];split<;>rfl
 | i+1,x,h=>by
  unfold fl0
  split
  ·simp only[x1w,List.getElem?_set]
   rw[if_neg (by omega)]
   have:=o5 m i x (by omega)
   simpa using this
  ·exact o5 m i x (by omega)
theorem Cl(m:Msh):∀i,i<=m.f.length->(fl0 m i).1.length+(fl0 m i).2.count false=m.f.length
 | 0,_=>by simp[fl0]
 | i+1,h=>by
  have h1:=Cl m i (by omega)
  unfold fl0
  split
  ·have:=oh (l:=(fl0 m i).2) (i:=i) (by rw[(kz m i).1];omega) (o5 m i i (x0k _))
   simp only[li,x0Q,List.length_singleton]
   omega
  ·exact h1
theorem kA(m:Msh):FlW m (dZ m)/\flM (dZ m)<=2*m.f.length:=by
 obtain⟨h1,h2,h3⟩:=kz m m.f.length
 have h4:=Cl m m.f.length (x0k _)
 refine⟨⟨h1,by simp[dZ],by simp[dZ],h3,by simp only[dZ];omega⟩,?_⟩
 simp only[flM,dZ]
 omega
end Go.Gv

namespace Go.Gv
structure Fo (n:Nat) (f:List Nat):Prop where
 len:f.length=n
 le:∀i,i<n->fAt f i<=i
inductive Cn (R:Nat->Nat->Prop):Nat->Nat->Prop
 | refl (a:Nat):Cn R a a
 | step {a b c:Nat}:Cn R a b->R b c->Cn R a c
end Go.Gv

namespace Go.Gv
variable{C:CC}(hC:av prog C)
include hC
theorem ug(b:Bool)(xs:List Int)(h2:xs.length<2^40):C 42 [slx b (xs.map fun n=>[.int .i64 n])] .any [.own 1 (xs.map fun n=>[.int .i64 n])]:=by
 cases xs with
 | nil =>
  cases b with
  | true =>
   show C 42 [.nils] .any [.own 1 []]
   refine qN hC (nf:=N42) rfl rfl ?_
   simp[N42]
  | false =>
   show C 42 [.sl []] .any [.own 1 []]
   refine qN hC (nf:=N42) rfl rfl ?_
   simp[N42]
 | cons x xs =>
  have e:slx b ((x::xs).map fun n=>[D.int .i64 n])=.sl ((x::xs).map fun n=>[D.int .i64 n]):=by cases b<;>rfl
  rw[e]
  obtain⟨l,hl⟩:∃l,l=x::xs:=⟨_,rfl⟩
  rw[<- hl]at h2 ⊢
  have h:0<l.length:=by rw[hl];simp
  refine qN hC (nf:=N42) rfl rfl ?_
  simp[N42]
  refine⟨fun _=>?_,fun h0=>?_⟩
  ·have:l.length<1099511627776:=h2
   omega
  ·subst h0
   simp at h
end Go.Gv

set_option maxRecDepth 4000
namespace Go.Gv
def iB(n m:Nat)(v:Int):List (List D):=List.replicate m [.int .i64 v]++List.replicate (n-m) [.int .i64 0]
theorem sv{n m:Nat}{v:Int}(h:m<=n):(iB n m v).length=n:=by simp[iB];omega
theorem n7(n m:Nat)(v:Int):∀e∈iB n m v,e.length=1/\∀c∈e,aH c=true:=by
 intro e he
 rcases x0n.1 he with h|h<;>(rw[(List.mem_replicate.1 h).2];simp[aH])
theorem px(n m:Nat)(v:Int):∀e∈iB n m v,∀c∈e,aH c=true:=fun e he=>(n7 n m v e he).2
theorem pw(n:Nat)(v:Int):iB n n v=List.replicate n [.int .i64 v]:=by simp[iB]
theorem pz{n m:Nat}{v:Int}(h:m<=n):iY (iB n m v) m (((iB n m v).take m).take (n-m))=iB n (min n (m+m)) v:=by
 have h1:(iB n m v).take m=List.replicate m [.int .i64 v]:=by
  unfold iB
  rw[List.take_append_of_le_length (by simp)]
  simp
 rw[h1,List.take_replicate]
 unfold iY
 rw[h1,List.length_replicate]
 unfold iB
 rw[List.drop_append,List.drop_eq_nil_of_le (by simp),x03,List.length_replicate,List.drop_replicate]
 have e1:min n (m+m)=m+min (n-m) m:=by omega
 rw[e1,<- List.replicate_append_replicate]
 congr 2
 omega
theorem tL{n:Nat}{v:Int}(h:0<n):iY (List.replicate n [D.int .i64 0]) 0 ([[D.int .i64 v]].take n)=iB n 1 v:=by
 have:[[D.int .i64 v]].take n=[[.int .i64 v]]:=by
  rw[x0z (by simp;omega)]
 rw[this]
 unfold iY iB
 simp
variable{C:CC}(hC:av prog C)
include hC
theorem yD(v:Int)(n:Nat)(hn:n<2^40):C 315 [.sl [[.int .i64 v]],.int .i64 n] .any [.own 1 (List.replicate n [.int .i64 v])]:=by
 have k0:=ui hC 1 n (by omega) (by omega)
 have k1:C 333 [.int .u64 1,.int .u64 n] (.tup [.int .u64 0,.int .u64 n]) []:=by
  have e1:1*n/2^64=0:=by omega
  have e2:1*n%2^64=n:=by omega
  rw[e1,e2]at k0
  refine az hC (nf:=N333) rfl rfl ?_
  simp[N333]
  simp at k0
  refine aa k0 (.inl rfl) ?_
  simp
 have w1:IntKind.wrap .u64 (n:Int)=n:=by
  have e:(2:Int)^IntKind.bits .u64=18446744073709551616:=by decide
  have e2:IntKind.signed .u64=false:=rfl
  simp only[IntKind.wrap,e,e2,x1I,x0j,if_false]
  omega
 have w2:IntKind.wrap .i64 (n:Int)=n:=ah (by omega) (by omega)
 refine qN hC (nf:=N315) rfl rfl ?_
 have hn0:¬(n:Int)<0:=by omega
 have hn1:¬(9223372036854775807:Int)<n:=by omega
 have hn2:(n:Int)*8<=140737488355328:=by omega
 simp[N315,w1,hn0]
 refine aa k1 (.inl rfl) ?_
 simp[w2,hn1,hn2,aH]
 refine⟨fun h0=>?_,fun h0=>?_⟩
 ·refine aC Nat (fun m=>[(7,.ref (.r 10112) 0 n),(8,.int .i64 m),(10112,.blk 1 (iB n m v))]) (fun m=>m<=n/\(0<n->0<m)) (fun m=>n-m) 0 ⟨by omega,by omega⟩ (by subst h0;simp[iB]) ?_
  rintro m ⟨hm,hm0⟩
  simp
  refine aj (fun h=>?_) (fun h=>?_)<;>simp at h
  ·have hm1:0<m:=hm0 (by omega)
   have hl:=sv (v:=v) hm
   have hnx:=pz (v:=v) hm
   have hc:=n7 n m v
   have hc1:=px n m v
   have hnm:¬n-m=0:=by omega
   have hpos:0<n-m:=by omega
   have htk:∀e∈(iB n m v).take m,∀c∈e,aH c=true:=fun e he=>hc1 e (x0G he)
   have hw:IntKind.wrap .i64 ((m:Int)+((min m (n-m):Nat):Int))=((min n (m+m):Nat):Int):=ah (by omega) (by omega)
   simp[h,hl,hm,oK]
   try refine⟨htk,hm1,fun hz=>absurd hz hnm,fun _=>⟨hc1,htk,aF (by decide +kernel),min n (m+m),⟨by omega,fun _=>by omega⟩,by omega,hw,hnx⟩⟩
  ·have e:m=n:=by omega
   subst e
   simp[pw]
 ·rw[tL h0]
  have h01:min 1 n=1:=by omega
  refine aC Nat (fun m=>[(7,.ref (.r 10112) 0 n),(8,.int .i64 m),(10112,.blk 1 (iB n m v))]) (fun m=>m<=n/\(0<n->0<m)) (fun m=>n-m) 1 ⟨by omega,by omega⟩ (by simp[h01]) ?_
  rintro m ⟨hm,hm0⟩
  simp
  refine aj (fun h=>?_) (fun h=>?_)<;>simp at h
  ·have hm1:0<m:=hm0 (by omega)
   have hl:=sv (v:=v) hm
   have hnx:=pz (v:=v) hm
   have hc:=n7 n m v
   have hc1:=px n m v
   have hnm:¬n-m=0:=by omega
   have hpos:0<n-m:=by omega
   have htk:∀e∈(iB n m v).take m,∀c∈e,aH c=true:=fun e he=>hc1 e (x0G he)
   have hw:IntKind.wrap .i64 ((m:Int)+((min m (n-m):Nat):Int))=((min n (m+m):Nat):Int):=ah (by omega) (by omega)
   simp[h,hl,hm,oK]
   try refine⟨htk,hm1,fun hz=>absurd hz hnm,fun _=>⟨hc1,htk,aF (by decide +kernel),min n (m+m),⟨by omega,fun _=>by omega⟩,by omega,hw,hnx⟩⟩
  ·have e:m=n:=by omega
   subst e
   simp[pw]
end Go.Gv

namespace Go.Gv
section
variable{C:Nat->List D->D->List D->Prop}(hC:av prog C)
include hC
theorem yB(fs:List (List D))(d:D):C 317 [.ptr [.sl fs,d]] (.int .i64 fs.length) []:=by
 refine az hC (nf:=N317) rfl rfl ?_
 simp[N317]
theorem uG(fs:List Nat)(sp:List Int)(x:Nat)(hx:x<sp.length)(hb:∀a∈fs,a<sp.length)(h2:fs.length+1<2^40):C 316 [.blk 2 [[.own 1 (nfR fs),.slv 0 (inR sp)]],.ifa 20 (.r 10015) 0 0,.ifi 2 x] (.tup []) [.blk 2 [[.own 1 (nfR (upL sp (fs++[x]) fs.length)),.slv 0 (inR sp)]],.nils]:=hC.2 316 2 (qB fs sp) [.ifa 20 (.r 10015) 0 0,.ifi 2 x] (.tup []) (qB (upL sp (fs++[x]) fs.length) sp) fun C' h'=>AC h' fs sp x hx hb h2
theorem Dx(fs:List Nat)(sp:List Int)(h0:0<fs.length)(hb:∀a∈fs,a<sp.length)(h2:fs.length<2^40):C 318 [.blk 2 [[.own 1 (nfR fs),.slv 0 (inR sp)]],.ifa 20 (.r 10015) 0 0] (.ifi 2 (fAt (iL sp fs) (fs.length-1):Nat)) [.blk 2 [[.own 1 (nfR ((iL sp fs).take (fs.length-1))),.slv 0 (inR sp)]],.nils]:=hC.2 318 2 (qB fs sp) [.ifa 20 (.r 10015) 0 0] (.ifi 2 (fAt (iL sp fs) (fs.length-1):Nat)) (qB ((iL sp fs).take (fs.length-1)) sp) fun C' h'=>Dw h' fs sp h0 hb h2
set_option maxRecDepth 8000 in
set_option maxHeartbeats 2000000 in
theorem o7(dec:Nat->List UInt8)(hI:∀n:Nat,n<100->C 127 [.int .i64 n] (.str (dec n)) [])(m:Msh)(hz:ct m=true->m.s.length<=100/\m.f.length<=100) :
  C 280 [.agg (b0 m)] (if aw m then .tup [nx m,.int .i64 0] else .tup [.nilp,.int .i64 1]) []:=by
 have k1:=j3 hC dec hI m hz
 have k2:=C2 hC dec hI m hz
 simp only[af]at k1 k2
 refine az hC (nf:=N280) rfl rfl ?_
 simp[N280,af]
 refine aa k1 (.inr rfl) ?_
 cases hv:aw m
 ·simp
 ·simp
  refine aa k2 (.inr rfl) ?_
  have hsz:=(cK hv).2
  have kc:=ug hC true (cp m) (by simp;omega)
  have kr:=yD hC (-1) m.f.length (by omega)
  rw[<- qg]at kc
  have er:List.replicate m.f.length [D.int .i64 (-1)]=inR (List.replicate m.f.length (-1)):=by simp[inR]
  rw[er]at kr
  simp[hv]
  refine lw kc ?_
  simp
  refine lw kr ?_
  simp
  have hc1:∀e∈inR (cp m),∀c∈e,aH c=true:=by simp[inR]
  refine⟨by rcases jA true (inR (cp m))with h|⟨h,_⟩<;>rw[h]<;>trivial,?_⟩
  refine wW (sz:=1) (by decide) (by decide) rfl (by decide) rfl (by decide) (by simp) hc1 rfl (by simp[a7,rt]) (fun h0=>?_) (fun hn=>?_)
  ·simp[h0,rt]
   have hsm:cp m=[]:=x0x (by simpa using h0)
   have hnb:nbA m=[]:=x0x (by simpa using h0)
   refine aC Unit (fun _=>[(4,.sl (nbA m)),(7,.ptx [.sl (nbA m),slx true (inR (cp m)),.ref (.r 10544) 0 0,.ref (.r 10608) 0 0]),(8,.adr (.r 10736) 0 0),(9,.ref (.r 10144) 0 0),(50,.sl (nbA m)),(51,.int .i64 0),
    (52,.int .i64 0),(10544,.blk 1 (inR (cp m))),(10608,.blk 1 []),(10736,.blk 2 [[.own 1 [],.any]]),(10144,.blk 1 [])]) (fun _=>True) (fun _=>0) () trivial (by simp) ?_
   rintro _ _
   simp
   refine aC Unit (fun _=>[(4,.sl (nbA m)),(7,.ptx [.sl (nbA m),slx true (inR (cp m)),.ref (.r 10544) 0 0,.ref (.r 10608) 0 0]),(8,.adr (.r 10736) 0 0),(9,.ref (.r 10144) 0 0),(10544,.blk 1 (inR (cp m))),(10608,.blk 1 []),(10736,.blk 2 [[.own 1 [],.any]]),(10144,.blk 1 [])]) (fun _=>True) (fun _=>0) () trivial (by simp) ?_
   rintro _ _
   have kl:=yB hC [] .any
   simp at kl
   simp
   refine aa kl (.inl rfl) ?_
   simp
   simp[nx,bv,h0,flN,dZ,hsm]
  ·simp[rt]
   refine⟨by omega,?_⟩
   have hF:=fun e (he:e∈inR (cp m))=>hc1 e he
   have hr0:List.replicate m.f.length [D.bool false]=rcR (fl0 m 0).2:=by simp[fl0,rcR]
   rw[hr0]
   refine aC Nat (fun i=>[(4,.sl (nbA m)),(7,.ptx [.sl (nbA m),slx true (inR (cp m)),.ref (.n 10736 0 1) 0 m.f.length,.ref (.r 10608) 0 m.f.length]),(8,.adr (.r 10736) 0 0),(9,.ref (.r 10144) 0 m.f.length),(50,.sl (nbA m)),(51,.int .i64 m.f.length),(52,.int .i64 i),
    (10736,.blk 2 [[.own 1 (nfR (fl0 m i).1),.own 1 (inR (cp m))]]),(10608,.blk 1 (inR (List.replicate m.f.length (-1)))),(10144,.blk 1 (rcR (fl0 m i).2))]) (fun i=>i<=m.f.length) (fun i=>m.f.length-i) 0 (by simp) (by simp[fl0,nfR]) ?_
   rintro i hi
   obtain⟨l1,l2,l3⟩:=kz m i
   have hw:IntKind.wrap .i64 ((i:Int)+1)=((i+1:Nat):Int):=ah (by omega) (by omega)
   simp
   refine aj (fun g1=>?_) (fun g1=>?_)<;>simp at g1<;>simp[g1]
   ·have kh:=uI hC (b:=false) (xs:=[nbF m i 0,nbF m i 1,nbF m i 2]) (-1) (by simp)
    have kh2:C 223 [.sl [[.int .i64 (nbF m i 0)],[.int .i64 (nbF m i 1)],[.int .i64 (nbF m i 2)]],.int .i64 (-1)] (.bool (bsd m i (-1))) []:=by simpa[bsd]using kh
    simp[aD (uQ g1),bY]
    refine aa kh2 (.inl rfl) ?_
    simp
    have e0:fl0 m (i+1)=if bsd m i (-1) then(upL (cp m) ((fl0 m i).1++[i]) (fl0 m i).1.length,(fl0 m i).2.set i true) else fl0 m i:=rfl
    refine aj (fun g2=>?_) (fun g2=>?_)
    ·rw[if_pos g2]at e0
     simp[g2,l1,g1,qC,A8,uT,Eo]
     refine ly (b:=10736) (fs':=nfR (upL (cp m) ((fl0 m i).1++[i]) (fl0 m i).1.length)) (d:=.tup []) rfl (by decide) (by simp) (by simp) rfl rfl (by simp) (lR _) (nG _) (.inr rfl) (lR _) ?_ ?_
     ·exact uG hC (fl0 m i).1 (cp m) i (by simp;omega) (fun a ha=>by have:=l3 a ha;simp;omega) (by omega)
     ·simp[bL]
      exact⟨i+1,by omega,by omega,hw,by rw[e0],by rw[e0]⟩
    ·rw[if_neg (by simp[g2])]at e0
     simp[g2]
     exact⟨i+1,by omega,by omega,hw,by rw[e0],by rw[e0]⟩
   ·have hi2:i=m.f.length:=by omega
    subst hi2
    obtain⟨W0,M0⟩:=kA m
    refine aC (Fl×Nat) (fun s=>[(4,.sl (nbA m)),(7,.ptx [.sl (nbA m),slx true (inR (cp m)),.ref (.n 10736 0 1) 0 m.f.length,.ref (.r 10608) 0 m.f.length]),(8,.adr (.r 10736) 0 0),(9,.ref (.r 10144) 0 m.f.length),
     (10736,.blk 2 [[.own 1 (nfR s.1.q),.own 1 (inR s.1.sp)]]),(10608,.blk 1 (inR s.1.ou)),(10144,.blk 1 (rcR s.1.rc))]) (fun s=>FlW m s.1/\s.1=flN m s.2 (dZ m)/\s.2+flM s.1<=2*m.f.length) (fun s=>flM s.1) (dZ m,0) ⟨W0,rfl,by simpa using M0⟩ (by simp[dZ]) ?_
    rintro⟨s,k⟩ ⟨W,hs,hk⟩
    simp only at W hs hk
    have hn:=W.n
    have kl:=yB hC (nfR s.q) (.sl (inR s.sp))
    simp at kl
    simp
    refine aa kl (.inl rfl) ?_
    simp
    refine aj (fun g2=>?_) (fun g2=>?_)<;>simp at g2<;>simp[g2]
    ·obtain⟨Wp,Mp,hpi⟩:=yy W g2
     obtain⟨x,hx⟩:∃x,x=fAt (iL s.sp s.q) (s.q.length-1):=⟨_,rfl⟩
     obtain⟨s1,hs1⟩:∃s1:Fl,s1={ s with q:=(iL s.sp s.q).take (s.q.length-1) }:=⟨_,rfl⟩
     have hst:eE m s=flJ m x s1 3:=by
      unfold eE
      rw[if_neg (by omega),<- hx,<- hs1]
     rw[<- hs1]at Wp Mp
     rw[<- hx]at hpi
     refine ly (b:=10736) (fs':=nfR s1.q) (d:=.ifi 2 (x:Int)) rfl (by decide) (by simp) (by simp) rfl rfl (by simp) (lR _) (nG _) (.inl rfl) (lR _) ?_ ?_
     ·have:=Dx hC s.q s.sp g2 (fun a ha=>by rw[W.sp];exact W.q a ha) (by omega)
      rw[<- hx]at this
      rw[hs1]
      exact this
     ·have e1:s1.sp=s.sp:=by rw[hs1]
      have e2:s1.ou=s.ou:=by rw[hs1]
      have e3:s1.rc=s.rc:=by rw[hs1]
      simp[bL,aD (uQ hpi)]
      rw[<- e1,<- e2,<- e3]
      refine aC Nat (fun j=>[(4,.sl (nbA m)),(7,.ptx [.sl (nbA m),slx true (inR (cp m)),.ref (.n 10736 0 1) 0 m.f.length,.ref (.r 10608) 0 m.f.length]),(8,.adr (.r 10736) 0 0),(9,.ref (.r 10144) 0 m.f.length),(12,.int .i64 x),(78,.agg [.int .i64 (nbF m x 0),.int .i64 (nbF m x 1),.int .i64 (nbF m x 2)]),(79,.int .i64 j),
       (10736,.blk 2 [[.own 1 (nfR (flJ m x s1 j).q),.own 1 (inR (flJ m x s1 j).sp)]]),(10608,.blk 1 (inR (flJ m x s1 j).ou)),(10144,.blk 1 (rcR (flJ m x s1 j).rc))]) (fun j=>j<=3) (fun j=>3-j) 0 (by simp) (by simp[flJ]) ?_
      rintro j hj
      obtain⟨Wj,Mj⟩:=uB (i:=x) Wp j
      obtain⟨t,ht⟩:∃t,t=flJ m x s1 j:=⟨_,rfl⟩
      have hnx:flJ m x s1 (j+1)=oG m x t (nbF m x j):=by rw[ht];rfl
      rw[<- ht]at Wj Mj ⊢
      have htn:=Wj.n
      have hw:IntKind.wrap .i64 ((j:Int)+1)=((j+1:Nat):Int):=ah (by omega) (by omega)
      simp
      refine aj (fun g3=>?_) (fun g3=>?_)<;>simp at g3
      ·have hxj:([.int .i64 (nbF m x 0),.int .i64 (nbF m x 1),.int .i64 (nbF m x 2)]:List D)[j]?.getD .any=.int .i64 (nbF m x j):=by
        rcases(by omega:j=0\/j=1\/j=2)with rfl|rfl|rfl<;>rfl
       have hbd:=eG m x j
       obtain⟨kk,hkk⟩:∃kk,kk=nbF m x j:=⟨_,rfl⟩
       rw[<- hkk]at hxj hbd hnx
       simp[show(j:Int)<3 by omega,hxj]
       refine⟨by omega,?_⟩
       refine aj (fun g4=>?_) (fun g4=>?_)<;>simp at g4<;>simp[g4]
       ·have hst2:flJ m x s1 (j+1)=t:=by
         rw[hnx]
         unfold oG
         rw[if_pos (.inl g4)]
        exact⟨j+1,by omega,by omega,hw,by rw[hst2];exact⟨rfl,rfl⟩,by rw[hst2],by rw[hst2]⟩
       ·obtain⟨c,hc⟩:∃c:Nat,kk=c:=⟨kk.toNat,by omega⟩
        subst hc
        have hcn:c<m.f.length:=by omega
        have hcr:c<t.rc.length:=by rw[Wj.rc];exact hcn
        refine⟨by omega,by simpa using hcn,?_⟩
        simp[cx (qC hcr)]
        cases hrc:t.rc.getD c false
        ·simp at hrc
         have hxs:x<t.sp.length:=by rw[Wj.sp];exact hpi
         have hcs:c<t.sp.length:=by rw[Wj.sp];exact hcn
         have hco:c<t.ou.length:=by rw[Wj.ou];exact hcn
         have hcm:c<(cp m).length:=by simpa using hcn
         simp[hrc,qC hcr,hcn,hpi,uT,cx (i9 hxs),aD (i9 hcm),i9 hcs,i9 hco,DB]
         have hmx:(if t.sp[x]?.getD 0<(cp m)[c] then(cp m)[c] else t.sp[x]?.getD 0)=mxZ (t.sp.getD x 0) ((cp m).getD c 0):=by
          simp[mxZ,hcn]
         rw[hmx]
         obtain⟨sp',hsp'⟩:∃sp',sp'=t.sp.set c (mxZ (t.sp.getD x 0) ((cp m).getD c 0)):=⟨_,rfl⟩
         rw[<- hsp']
         have hspl:sp'.length=m.f.length:=by rw[hsp'];simp[Wj.sp]
         have hst2:flJ m x s1 (j+1)={ q:=upL sp' (t.q++[c]) t.q.length,rc:=t.rc.set c true,sp:=sp',ou:=t.ou.set c x }:=by
          rw[hnx]
          unfold oG
          rw[if_neg (fun h=>by
           rcases h with h|h
           ·omega
           ·simp at h;rw[hrc]at h;cases h),hsp']
          rfl
         have hst3:=oh hcr (by simpa using hrc)
         refine⟨aF (by decide +kernel),?_⟩
         refine ly (b:=10736) (fs':=nfR (upL sp' (t.q++[c]) t.q.length)) (d:=.tup []) rfl (by decide) (by simp) (by simp) rfl rfl (by simp) (lR _) (nG _) (.inr rfl) (lR _) ?_ ?_
         ·exact uG hC t.q sp' c (by rw[hspl];exact hcn) (fun a ha=>by rw[hspl];exact Wj.q a ha) (by omega)
         ·simp[bL]
          refine⟨j+1,by omega,by omega,hw,?_⟩
          rw[hst2]
          simp
        ·have hst2:flJ m x s1 (j+1)=t:=by
          rw[hnx]
          unfold oG
          rw[if_pos (.inr (by simpa using hrc))]
         simp at hrc
         simp[hrc]
         exact⟨j+1,by omega,by omega,hw,by rw[hst2];exact⟨rfl,rfl⟩,by rw[hst2],by rw[hst2]⟩
      ·have hj3:j=3:=by omega
       subst hj3
       rw[<- hst]at ht
       simp
       exact⟨eE m s,⟨(gM W).1,k+1,by rw[p9,<- hs];rfl,by have:=(gM W).2 g2;omega⟩,(gM W).2 g2,by rw[ht];exact⟨rfl,rfl⟩,by rw[ht],by rw[ht]⟩
    ·have h0:s.q.length=0:=by simpa using g2
     have hfl:bv m=s:=by
      unfold bv
      rw[show 3*m.f.length=k+(3*m.f.length-k) by omega,p9,<- hs]
      exact nv m h0 _
     have hsp:=nH s.sp
     have hou:=nH s.ou
     rw[W.sp]at hsp
     rw[W.ou]at hou
     refine⟨⟨by rw[W.sp];omega,by rw[W.ou];omega⟩,?_⟩
     rw[nx,hfl,hsp,hou]
end
end Go.Gv

namespace Go.Gv
section
variable{C:Nat->List D->D->List D->Prop}(hC:im prog C)
include hC
end
section
variable{C:Nat->List D->D->List D->Prop}(hC:av prog C)
include hC
end
end Go.Gv

namespace Go.Gv
structure RF where
 rc:List Bool
 lf:List Bool
 lv:List Int
 ou:List Int
def act(r:RF)(i:Nat):Bool:=r.rc.getD i false&&!r.lf.getD i false
def rat(r:RF):Nat->Int
 | 0=>-1
 | i+1=>if act r i=true/\(rat r i<0\/r.lv.getD i 0<r.lv.getD (rat r i).toNat 0) then(i:Int) else rat r i
theorem kQ(r:RF):∀i,(rat r i=-1/\∀b,b<i->act r b=false)\/∃a:Nat,rat r i=a/\a<i/\act r a=true/\∀b,b<i->act r b=true->r.lv.getD a 0<r.lv.getD b 0\/(r.lv.getD a 0=r.lv.getD b 0/\a<=b)
 | 0=>.inl ⟨rfl,fun b hb=>by omega⟩
 | i+1=>by
  rcases kQ r i with ⟨h1,h2⟩|⟨a,h1,h2,h3,h4⟩
  ·by_cases ha:act r i=true
   ·right
    refine⟨i,by simp[rat,ha,h1],by omega,ha,fun b hb hab=>?_⟩
    by_cases e:b=i
    ·subst e;exact .inr ⟨rfl,x0k _⟩
    ·rw[h2 b (by omega)]at hab;cases hab
   ·left
    refine⟨by simp[rat,ha,h1],fun b hb=>?_⟩
    by_cases e:b=i
    ·subst e;simpa using ha
    ·exact h2 b (by omega)
  ·right
   by_cases hc:act r i=true/\r.lv.getD i 0<r.lv.getD a 0
   ·refine⟨i,?_,by omega,hc.1,fun b hb hab=>?_⟩
    ·unfold rat
     rw[if_pos ⟨hc.1,.inr (by rw[h1];exact hc.2)⟩]
    ·by_cases e:b=i
     ·subst e;exact .inr ⟨rfl,x0k _⟩
     ·rcases h4 b (by omega) hab with h5|h5
      ·exact .inl (by omega)
      ·exact .inl (by omega)
   ·refine⟨a,?_,by omega,h3,fun b hb hab=>?_⟩
    ·unfold rat
     rw[if_neg,h1]
     rintro⟨k1,k2⟩
     rcases k2 with k2|k2
     ·rw[h1]at k2;omega
     ·rw[h1]at k2;exact hc ⟨k1,k2⟩
    ·by_cases e:b=i
     ·subst e
      have:¬r.lv.getD b 0<r.lv.getD a 0:=fun h=>hc ⟨hab,h⟩
      rcases Int.lt_or_eq_of_le (x1y.1 this)with h5|h5
      ·exact .inl h5
      ·exact .inr ⟨h5,by omega⟩
     ·exact h4 b (by omega) hab
def iM(m:Msh)(i:Nat)(r:RF)(k:Int):RF :=
 if 0<=k/\r.rc.getD k.toNat false=false then{ r with rc:=r.rc.set k.toNat true,lv:=r.lv.set k.toNat (if r.lv.getD i 0<(cp m).getD k.toNat 0 then(cp m).getD k.toNat 0 else r.lv.getD i 0),ou:=r.ou.set k.toNat i } else r
def rfI(m:Msh)(i:Nat)(r:RF):Nat->RF
 | 0=>r
 | j+1=>iM m i (rfI m i r j) (nbF m i j)
def gC(m:Msh)(r:RF):RF :=
 if rat r m.f.length<0 then r else rfI m (rat r m.f.length).toNat { r with lf:=r.lf.set (rat r m.f.length).toNat true } 3
def rf0(m:Msh):Nat->List Bool×List Int
 | 0=>(List.replicate m.f.length false,List.replicate m.f.length 0)
 | i+1=>if bsd m i (-1) then((rf0 m i).1.set i true,(rf0 m i).2.set i ((cp m).getD i 0)) else rf0 m i
def ft(m:Msh):RF:={ rc:=(rf0 m m.f.length).1,lf:=List.replicate m.f.length false,lv:=(rf0 m m.f.length).2,ou:=List.replicate m.f.length (-1) }
structure ip (m:Msh) (s:Fl) (r:RF):Prop where
 rc:s.rc=r.rc
 ou:s.ou=r.ou
 heap:i8 s.sp s.q s.q.length
 cnt:∀a,s.q.count a=if act r a then 1 else 0
 lv:∀a,r.rc.getD a false=true->s.sp.getD a 0=r.lv.getD a 0
 un:∀a,r.rc.getD a false=false->s.sp.getD a 0=(cp m).getD a 0
 lf:∀a,r.lf.getD a false=true->r.rc.getD a false=true
 len:r.lf.length=m.f.length/\r.lv.length=m.f.length
theorem cf{α:Type}{l:List α}{i j:Nat}{x d:α}(h:i<l.length):(l.set i x).getD j d=if j=i then x else l.getD j d:=by
 simp only[x1w,List.getElem?_set]
 by_cases e:i=j
 ·subst e;simp[h]
 ·rw[if_neg e,if_neg (Ne.symm e)]
theorem rJ{sp sp':List Int}{q:List Nat}(h:i8 sp q q.length)(he:∀a∈q,sp'.getD a 0=sp.getD a 0):i8 sp' q q.length:=by
 intro i h0 hi
 have:=h i h0 hi
 rw[fm]at this ⊢
 rw[he _ (fO hi),he _ (fO (show(i-1)/2<q.length by omega))]
 exact this
theorem ip.p1{m:Msh}{s:Fl}{r:RF}{i:Nat}{k:Int}(h:ip m s r)(W:FlW m s)(hi:r.rc.getD i false=true)(hk:-1<=k/\k<m.f.length):ip m (oG m i s k) (iM m i r k):=by
 unfold oG iM
 by_cases h1:k=-1
 ·rw[if_pos (.inl h1),if_neg (by omega)]
  exact h
 ·cases h2:r.rc.getD k.toNat false
  ·rw[if_neg (by rw[h.rc,h2];simp;exact h1),if_pos ⟨by omega,rfl⟩]
   have hkl:k.toNat<m.f.length:=by omega
   have hrl:r.rc.length=m.f.length:=by rw[<- h.rc];exact W.rc
   have hsp:=W.sp
   have hrcs:=fun j=>cf (l:=r.rc) (i:=k.toNat) (j:=j) (x:=true) (d:=false) (by omega)
   have hsps:=fun j x=>cf (l:=s.sp) (i:=k.toNat) (j:=j) (x:=x) (d:=(0:Int)) (by omega)
   have hlvs:=fun j x=>cf (l:=r.lv) (i:=k.toNat) (j:=j) (x:=x) (d:=(0:Int)) (by rw[h.len.2];omega)
   have hv:mxZ (s.sp.getD i 0) ((cp m).getD k.toNat 0)=(if r.lv.getD i 0<(cp m).getD k.toNat 0 then(cp m).getD k.toNat 0 else r.lv.getD i 0):=by rw[h.lv i hi];rfl
   have hnq:k.toNat∉s.q:=by
    intro hm
    have h3:=h.cnt k.toNat
    have h4:=x1b.2 hm
    simp only[act,h2,x1I]at h3
    simp at h3
    omega
   obtain⟨p1,p2,p3⟩:=lV (sp:=s.sp.set k.toNat (mxZ (s.sp.getD i 0) ((cp m).getD k.toNat 0))) (fs:=s.q) (x:=k.toNat) (rJ h.heap (fun a ha=>by
    rw[hsps,if_neg]
    rintro rfl
    exact hnq ha))
   have hlfk:r.lf.getD k.toNat false=false:=by
    cases e:r.lf.getD k.toNat false
    ·rfl
    ·have:=h.lf _ e;rw[h2]at this;cases this
   refine⟨by simp[h.rc],by simp[h.ou],p1,fun a=>?_,fun a ha=>?_,fun a ha=>?_,fun a ha=>?_,by simp[h.len]⟩
   ·simp only[p2,h.cnt a,act,hrcs]
    by_cases e:a=k.toNat
    ·subst e
     simp only[if_pos,h2,hlfk]
     simp
    ·simp only[if_neg e]
     simp
   ·simp only[hrcs]at ha
    simp only[hsps,hlvs]
    by_cases e:a=k.toNat
    ·rw[if_pos e,if_pos e];exact hv
    ·rw[if_neg e]at ha
     rw[if_neg e,if_neg e]
     exact h.lv a ha
   ·simp only[hrcs]at ha
    simp only[hsps]
    by_cases e:a=k.toNat
    ·rw[if_pos e]at ha;cases ha
    ·rw[if_neg e]at ha
     rw[if_neg e]
     exact h.un a ha
   ·simp only[hrcs]
    split
    ·rfl
    ·exact h.lf a ha
  ·rw[if_pos (.inr (by rw[h.rc];exact h2)),if_neg (by simp)]
   exact h
theorem qH{m:Msh}{i a:Nat}{r:RF}{k:Int}(h:r.rc.getD a false=true):(iM m i r k).rc.getD a false=true:=by
 unfold iM
 split
 ·by_cases e:k.toNat<r.rc.length
  ·rw[cf e]
   split
   ·rfl
   ·exact h
  ·rw[List.set_eq_of_length_le (by omega)]
   exact h
 ·exact h
theorem ip.stepI{m:Msh}{s:Fl}{r:RF}{i:Nat}(h:ip m s r)(W:FlW m s)(hi:r.rc.getD i false=true):∀j,ip m (flJ m i s j) (rfI m i r j)/\(rfI m i r j).rc.getD i false=true
 | 0=>⟨h,hi⟩
 | j+1=>by
  obtain⟨h1,h2⟩:=ip.stepI h W hi j
  exact⟨h1.p1 (uB W j).1 h2 (eG m i j),qH h2⟩
theorem ip.step{m:Msh}{s:Fl}{r:RF}(h:ip m s r)(W:FlW m s):ip m (eE m s) (gC m r)/\(s.q.length=0↔rat r m.f.length<0):=by
 have hact:∀a,a∈s.q↔act r a=true:=fun a=>by
  rw[<- x1b,h.cnt]
  split<;>simp_all
 rcases kQ r m.f.length with ⟨h1,h2⟩|⟨a,h1,h2,h3,h4⟩
 ·have h0:s.q.length=0:=by
   rcases x0R s.q.length with e|e
   ·exact e
   ·have h5:=fO (fs:=s.q) (i:=0) e
    have h6:=h2 _ (W.q _ h5)
    rw[(hact _).1 h5]at h6
    cases h6
  unfold eE gC
  rw[if_pos h0,if_pos (by omega)]
  exact⟨h,by rw[h1];exact⟨fun _=>by omega,fun _=>h0⟩⟩
 ·have hq:a∈s.q:=(hact a).2 h3
  have h0:0<s.q.length:=List.length_pos_of_mem hq
  obtain⟨p1,p2,p3,p4⟩:=yz h.heap h0
  have hfa:fAt s.q 0=a:=by
   have h5:=fO (fs:=s.q) (i:=0) h0
   have h6:=(hact _).1 h5
   have h7:=h4 _ (W.q _ h5) h6
   obtain⟨x,hx,hxa⟩:=x0H.1 hq
   have h8:=vN h.heap x hx
   rw[dF hx,hxa,fm]at h8
   have hra:r.rc.getD a false=true:=by simp only[act,x0a]at h3;exact h3.1
   have hr0:r.rc.getD (fAt s.q 0) false=true:=by simp only[act,x0a]at h6;exact h6.1
   rw[h.lv a hra,h.lv _ hr0]at h8
   omega
  have hral:r.rc.getD a false=true:=by simp only[act,x0a]at h3;exact h3.1
  have hlfs:=fun j=>cf (l:=r.lf) (i:=a) (j:=j) (x:=true) (d:=false) (by rw[h.len.1];exact h2)
  have hmid:ip m { s with q:=(iL s.sp s.q).take (s.q.length-1) } { r with lf:=r.lf.set a true }:=by
   refine⟨h.rc,h.ou,p3,fun b=>?_,h.lv,h.un,fun b hb=>?_,by simp[h.len]⟩
   ·have h5:=p4 b
    have h6:=h.cnt b
    have h7:(iL s.sp s.q)=(bJ s.sp (swp s.q 0 (s.q.length-1)) 0 (s.q.length-1)).1:=rfl
    rw[h7]
    rw[hfa]at h5
    simp only[act,hlfs]
    by_cases e:b=a
    ·subst e
     rw[if_pos rfl]at h5
     rw[if_pos h3]at h6
     simp
     omega
    ·rw[if_neg e]at h5
     rw[if_neg e]
     simp only[act]at h6
     refine Eq.trans ?_ h6
     omega
   ·simp only[hlfs]at hb
    split at hb
    ·rename_i e;rw[e];exact hral
    ·exact h.lf b hb
  obtain⟨W1,_,_⟩:=yy W h0
  have hpa:fAt (iL s.sp s.q) (s.q.length-1)=a:=p1.trans hfa
  refine⟨?_,by omega⟩
  unfold eE gC
  rw[if_neg (by omega),if_neg (by omega),h1,hpa]
  exact(hmid.stepI W1 hral 3).1
end Go.Gv

namespace Go.Gv
theorem qE(m:Msh):∀i,(rf0 m i).1=(fl0 m i).2
 | 0=>rfl
 | i+1=>by
  unfold rf0 fl0
  split
  ·simp only[qE m i]
  ·exact qE m i
theorem gj(m:Msh):∀i,(rf0 m i).1.length=m.f.length/\(rf0 m i).2.length=m.f.length
 | 0=>by simp[rf0]
 | i+1=>by
  obtain⟨h1,h2⟩:=gj m i
  unfold rf0
  split
  ·simp[h1,h2]
  ·exact⟨h1,h2⟩
theorem ky(m:Msh):∀i,i8 (cp m) (fl0 m i).1 (fl0 m i).1.length
 | 0=>by intro i h0 hi;simp[fl0]at hi
 | i+1=>by
  unfold fl0
  split
  ·exact(lV (ky m i)).1
  ·exact ky m i
theorem uz(m:Msh):∀i,i<=m.f.length->∀a,(fl0 m i).1.count a=if (fl0 m i).2.getD a false=true then 1 else 0
 | 0,_,a=>by
  rw[o5 m 0 a (by omega)]
  simp[fl0]
 | i+1,h,a=>by
  have ih:=uz m i (by omega) a
  have hl:=(kz m i).1
  unfold fl0
  split
  ·simp only[(lV (ky m i)).2.1,ih]
   rw[cf (by omega)]
   by_cases e:a=i
   ·subst e
    rw[o5 m a a (x0k _)]
    simp
   ·simp only[if_neg e]
    simp
  ·exact ih
theorem qD(m:Msh):∀i,i<=m.f.length->∀a,(rf0 m i).1.getD a false=true->(rf0 m i).2.getD a 0=(cp m).getD a 0
 | 0,_,a,h=>by
  have:=o5 m 0 a (by omega)
  simp only[fl0]at this
  simp only[rf0]at h
  rw[this]at h;cases h
 | i+1,hi,a,h=>by
  obtain⟨h1,h2⟩:=gj m i
  unfold rf0 at h ⊢
  split at h
  ·rename_i hb
   simp only[hb,if_true]at h ⊢
   rw[cf (by omega)]at h ⊢
   by_cases e:a=i
   ·rw[if_pos e,e]
   ·rw[if_neg e]at h ⊢
    exact qD m i (by omega) a h
  ·rename_i hb
   simp only[hb]at h ⊢
   exact qD m i (by omega) a h
theorem ip.init(m:Msh):ip m (dZ m) (ft m):=by
 have hf:∀a,(List.replicate m.f.length false).getD a false=false:=fun a=>by
  simp[x0Z]
  split<;>rfl
 refine⟨(qE m _).symm,rfl,ky m _,fun a=>?_,fun a ha=>?_,fun a _=>rfl,fun a ha=>?_,?_⟩
 ·have:=uz m m.f.length (x0k _) a
  simp only[dZ,act,ft,hf,qE]
  simpa using this
 ·exact(qD m _ (x0k _) a ha).symm
 ·simp only[ft]at ha
  rw[hf]at ha;cases ha
 ·simp[ft,(gj m _).2]
def rfN(m:Msh):Nat->RF->RF
 | 0,r=>r
 | k+1,r=>rfN m k (gC m r)
def cW(m:Msh):RF:=rfN m (3*m.f.length) (ft m)
theorem ip.run{m:Msh}:∀(k:Nat) {s:Fl} {r:RF},ip m s r->FlW m s->ip m (flN m k s) (rfN m k r)
 | 0,_,_,h,_=>h
 | k+1,_,_,h,W=>ip.run k (h.step W).1 (gM W).1
theorem rD{m:Msh}:∀(k:Nat) {s:Fl},FlW m s->flM (flN m k s)+k<=flM s\/(flN m k s).q.length=0
 | 0,s,_=>.inl (x0k _)
 | k+1,s,W=>by
  simp only[flN]
  by_cases h0:s.q.length=0
  ·right
   have:eE m s=s:=by unfold eE;rw[if_pos h0]
   rw[this,nv m h0];exact h0
  ·obtain⟨W1,h1⟩:=gM W
   have h2:=h1 (by omega)
   rcases rD k W1 with h3|h3
   ·left;omega
   ·exact .inr h3
theorem tf(m:Msh):(bv m).q.length=0:=by
 obtain⟨W,h⟩:=kA m
 rcases rD (3*m.f.length) W with h1|h1
 ·have h2:flM (bv m)+3*m.f.length<=flM (dZ m):=h1
  have h3:(bv m).q.length<=flM (bv m):=by unfold flM;omega
  omega
 ·exact h1
theorem o6(m:Msh):ip m (bv m) (cW m):=(ip.init m).run _ (kA m).1
theorem uF(m:Msh):FlW m (bv m):=Cm _ (kA m).1
theorem mA(m:Msh)(a:Nat)(h:(cW m).rc.getD a false=true):(cW m).lf.getD a false=true:=by
 have h1:=(o6 m).cnt a
 have h2:(bv m).q=[]:=x0x (tf m)
 rw[h2]at h1
 simp only[List.count_nil,act,h,x1G]at h1
 cases e:(cW m).lf.getD a false
 ·rw[e]at h1;simp at h1
 ·rfl
theorem xM(m:Msh)(hall:∀a,a<m.f.length->(cW m).rc.getD a false=true):(bv m).sp=(cW m).lv/\(bv m).ou=(cW m).ou:=by
 have h:=o6 m
 have W:=uF m
 refine⟨x1m (by rw[W.sp,h.len.2]) fun i h1 h2=>?_,h.ou⟩
 have:=h.lv i (hall i (by rw[<- W.sp];exact h1))
 simpa[h1,h2]using this
end Go.Gv

namespace Go.Gv
variable{C:CC}(hC:av prog C)
include hC
end Go.Gv

namespace Go.Gv
theorem AE{α:Type}{p:α->Bool}{xs:List α}{i:Nat}(h:gA p xs=(i:Int)):∃h:i<xs.length,p xs[i]=true:=by
 unfold gA at h
 cases e:xs.findIdx? p with
 | none=>rw[e]at h;simp at h
 | some k =>
  rw[e]at h
  have h:k=i:=by have h:(k:Int)=(i:Int):=h;omega
  subst h
  rw[x1F]at e
  exact⟨e.1,e.2.1⟩
theorem uR{m:Msh}{i k:Nat}(h:0<=nbF m i k):∃c,c<3/\crn (fce m (nbF m i k).toNat) c=crn (fce m i) (k+1)/\crn (fce m (nbF m i k).toNat) (c+1)=crn (fce m i) k:=by
 have e:nbF m i k=((nbF m i k).toNat:Int):=by omega
 have h2:gA (fun f=>cz f (crn (fce m i) (k+1)) (crn (fce m i) k)) m.f=((nbF m i k).toNat:Int):=e
 obtain⟨h3,h4⟩:=AE h2
 rw[nu]at h4
 simp only[cz,x0P,x0V,x0a,x0b]at h4
 exact h4
end Go.Gv

namespace Go.Gv
theorem qt{m:Msh}(hv:aw m=true){i k:Nat}(hi:i<m.f.length)(hk:k<3)(h:0<=nbF m i k):∃c,c<3/\nbF m (nbF m i k).toNat c=i:=by
 obtain⟨c,hc,c1,c2⟩:=uR h
 refine⟨c,hc,?_⟩
 unfold nbF at c1 c2 ⊢
 rw[c1,c2]
 have hs:cz (fce m i) (crn (fce m i) k) (crn (fce m i) (k+1))=true:=by
  simp only[cz,x0P,x0V,x0a,x0b]
  exact⟨k,hk,rfl,rfl⟩
 refine dT (fun j hj hji=>?_) hi (by rw[nu];exact hs)
 rw[nu]
 cases e:cz (fce m j) (crn (fce m i) k) (crn (fce m i) (k+1))
 ·rfl
 ·have:=lG hv hj hi e hs
  omega
def crs(a b:Pnt):Int:=a.1*b.2-a.2*b.1
theorem Aj(a b:Pnt):crs b a=-crs a b:=by
 unfold crs
 rw[x1L b.1,x1L b.2]
 omega
theorem zM(a b c:Pnt):dV a b c=crs a b+crs b c+crs c a:=by
 obtain⟨a1,a2⟩:=a
 obtain⟨b1,b2⟩:=b
 obtain⟨c1,c2⟩:=c
 simp only[dV,crs,Int.sub_mul,Int.mul_sub]
 have e1:=x1L a1 a2
 have e2:=x1L b2 a1
 have e5:=x1L a2 b1
 have e3:=x1L c1 a2
 have e4:=x1L c2 a1
 omega
def gE(m:Msh)(e:Int×Int):Int:=crs (ptS (spt m e.1.toNat)) (ptS (spt m e.2.toNat))
theorem v7{l l':List Int}(h:l.Perm l'):l.sum=l'.sum:=by
 induction h with
 | nil=>rfl
 | cons x _ ih=>simp[ih]
 | swap x y l=>simp;omega
 | trans _ _ ih1 ih2=>exact ih1.trans ih2
theorem wZ(m:Msh):∀(n:Nat) (E:List (Int×Int)),E.length<=n->E.Nodup->(∀e∈E,e.1≠e.2)->(∀e∈E,(e.2,e.1)∈E)->(E.map (gE m)).sum=0
 | _,[],_,_,_,_=>rfl
 | 0,e::T,h,_,_,_=>by simp at h
 | n+1,e::T,h,hn,hd,hs=>by
  have hne:(e.2,e.1)≠e:=fun he=>hd e (by simp) (by rw[<- he];simp at he ⊢;have:=congrArg Prod.fst he;have:=congrArg Prod.snd he;simp_all)
  have hmem:(e.2,e.1)∈T:=by
   rcases x0B.1 (hs e (by simp))with h1|h1
   ·exact absurd h1 hne
   ·exact h1
  rw[x1N]at hn
  have hp:=List.perm_cons_erase hmem
  have h1:=v7 (hp.map (gE m))
  have hel:(T.erase (e.2,e.1)).length+1=T.length:=by
   have:=hp.length_eq
   simpa using this.symm
  have h2:=wZ m n (T.erase (e.2,e.1)) (by simp at h;omega) (hn.2.erase _) (fun x hx=>hd x (List.mem_cons_of_mem _ (List.mem_of_mem_erase hx))) (fun x hx=>by
   rw[hn.2.mem_erase_iff]at hx ⊢
   have h3:=hs x (List.mem_cons_of_mem _ hx.2)
   refine⟨fun h4=>?_,?_⟩
   ·have:x=e:=by
     have a1:=congrArg Prod.fst h4
     have a2:=congrArg Prod.snd h4
     simp at a1 a2
     exact Prod.ext a2 a1
    exact hn.1 (this▸hx.2)
   ·rcases x0B.1 h3 with h4|h4
    ·exfalso
     refine hx.1 ?_
     rw[<- h4]
    ·exact h4)
  have h3:gE m (e.2,e.1)=-gE m e:=Aj _ _
  simp only[x0t,x06]at h1 ⊢
  omega
def sdE(m:Msh)(i:Nat):List (Int×Int):=[(crn (fce m i) 0,crn (fce m i) 1),(crn (fce m i) 1,crn (fce m i) 2),(crn (fce m i) 2,crn (fce m i) 3)]
theorem mP{m:Msh}{i:Nat}{e:Int×Int}:e∈sdE m i↔cz (fce m i) e.1 e.2=true:=by
 simp only[sdE,x0B,x1e,or_false,cz,x0P,x0V,x0a,x0b]
 constructor
 ·rintro(rfl|rfl|rfl)
  ·exact⟨0,by omega,rfl,rfl⟩
  ·exact⟨1,by omega,rfl,rfl⟩
  ·exact⟨2,by omega,rfl,rfl⟩
 ·rintro⟨c,hc,c1,c2⟩
  rcases(by omega:c=0\/c=1\/c=2)with rfl|rfl|rfl
  ·exact .inl (Prod.ext c1.symm c2.symm)
  ·exact .inr (.inl (Prod.ext c1.symm c2.symm))
  ·exact .inr (.inr (Prod.ext c1.symm c2.symm))
theorem rF{α β:Type}(F:α->List β)(g:β->Int):∀l:List α,((l.flatMap F).map g).sum=(l.map fun x=>((F x).map g).sum).sum
 | []=>rfl
 | x::l=>by simp[rF F g l]
theorem vb{α:Type}(g:α->Int):∀l:List α,(∀x∈l,0<g x)->l≠[]->0<(l.map g).sum
 | [],_,h=>absurd rfl h
 | [x],h,_=>by have:=h x (by simp);simpa using this
 | x::y::l,h,_=>by
  have h1:=h x (by simp)
  have h2:=vb g (y::l) (fun z hz=>h z (by simp[hz])) (by simp)
  simp only[x0t,x06]at h2 ⊢
  omega
theorem vX{m:Msh}(hv:aw m=true)(u:Nat->Bool)(hcl:∀i k,i<m.f.length->k<3->u i=true->0<=nbF m i k/\u (nbF m i k).toNat=true):∀i,i<m.f.length->u i=false:=by
 intro i hi
 cases hu:u i
 ·rfl
 exfalso
 obtain⟨U,hU⟩:∃U,U=(List.range m.f.length).filter u:=⟨_,rfl⟩
 have hmU:∀x,x∈U↔x<m.f.length/\u x=true:=fun x=>by rw[hU,List.mem_filter,x0V]
 have hnU:U.Pairwise (·≠·):=by rw[hU];exact List.Pairwise.filter _ List.nodup_range
 have hcor:∀x,x<m.f.length->(fce m x).a≠(fce m x).b/\(fce m x).b≠(fce m x).c/\(fce m x).c≠(fce m x).a:=fun x hx=>by
  have:=(fD hv hx).1
  simp only[okF,okc,x0a,x0b]at this
  exact⟨this.1.1.1.1.1.2,this.1.1.1.2.1.2,this.1.1.2.1.2⟩
 have hE:=wZ m _ (U.flatMap (sdE m)) (x0k _) (by
  rw[List.Nodup,List.pairwise_flatMap]
  refine⟨fun x hx=>?_,hnU.imp_of_mem fun{x y} hx hy hxy e he e' he' h=>?_⟩
  ·obtain⟨k1,k2,k3⟩:=hcor x ((hmU x).1 hx).1
   simp only[sdE,crn,List.pairwise_cons,x0B,x1e,or_false,forall_eq_or_imp,forall_eq,List.Pairwise.nil,and_true,ne_eq,Prod.mk.injEq,not_and,false_imp_iff,implies_true]
   exact⟨⟨fun h=>absurd h k1,fun h=>absurd h.symm k3⟩,fun h=>absurd h k2⟩
  ·subst h
   exact hxy (lG hv ((hmU x).1 hx).1 ((hmU y).1 hy).1 (mP.1 he) (mP.1 he'))) (fun e he=>by
  obtain⟨x,hx,hex⟩:=x1t.1 he
  obtain⟨k1,k2,k3⟩:=hcor x ((hmU x).1 hx).1
  simp only[sdE,crn,x0B,x1e,or_false]at hex
  rcases hex with rfl|rfl|rfl
  ·exact k1
  ·exact k2
  ·exact k3) (fun e he=>by
  obtain⟨x,hx,hex⟩:=x1t.1 he
  have hxl:=(hmU x).1 hx
  have hh:=mP.1 hex
  simp only[cz,x0P,x0V,x0a,x0b]at hh
  obtain⟨k,hk,k1,k2⟩:=hh
  obtain⟨h1,h2⟩:=hcl x k hxl.1 hk hxl.2
  obtain⟨c,hc,c1,c2⟩:=uR h1
  have hb:=eG m x k
  refine x1t.2 ⟨(nbF m x k).toNat,(hmU _).2 ⟨by omega,h2⟩,mP.2 ?_⟩
  simp only[cz,x0P,x0V,x0a,x0b]
  exact⟨c,hc,by rw[c1,k2],by rw[c2,k1]⟩)
 rw[rF]at hE
 have hpos:=vb (fun x=>((sdE m x).map (gE m)).sum) U (fun x hx=>by
  have:=(fD hv ((hmU x).1 hx).1).2
  have e:lh (aS m (fce m x))=((sdE m x).map (gE m)).sum:=by
   unfold lh
   rw[zM]
   simp only[sdE,x0t,x0I,x06,List.sum_nil,gE,aS,crn]
   omega
  rw[<- e];exact this) (by
  intro h
  have:=(hmU i).2 ⟨hi,hu⟩
  rw[h]at this;cases this)
 omega
end Go.Gv

namespace Go.Gv
theorem yI{m:Msh}{i:Nat}{r:RF}{k:Int}:(iM m i r k).rc.length=r.rc.length/\(iM m i r k).lf=r.lf:=by
 unfold iM
 split
 ·simp
 ·exact⟨rfl,rfl⟩
theorem qF{m:Msh}{i:Nat}{r:RF}:∀j,(rfI m i r j).rc.length=r.rc.length/\(rfI m i r j).lf=r.lf
 | 0=>⟨rfl,rfl⟩
 | j+1=>by
  obtain⟨h1,h2⟩:=qF (m:=m) (i:=i) (r:=r) j
  obtain⟨h3,h4⟩:=yI (m:=m) (i:=i) (r:=rfI m i r j) (k:=nbF m i j)
  exact⟨h3.trans h1,h4.trans h2⟩
theorem qG{m:Msh}{i a:Nat}{r:RF}(h:r.rc.getD a false=true):∀j,(rfI m i r j).rc.getD a false=true
 | 0=>h
 | j+1=>qH (qG h j)
theorem pA{m:Msh}{i:Nat}{r:RF}(hl:r.rc.length=m.f.length):∀j c,c<j->0<=nbF m i c->(rfI m i r j).rc.getD (nbF m i c).toNat false=true
 | 0,c,h,_=>by omega
 | j+1,c,h,h0=>by
  by_cases e:c=j
  ·subst e
   show(iM m i (rfI m i r c) (nbF m i c)).rc.getD _ false=true
   have hb:=eG m i c
   unfold iM
   cases e2:(rfI m i r c).rc.getD (nbF m i c).toNat false
   ·rw[if_pos ⟨h0,rfl⟩]
    rw[cf (by rw[(qF c).1];omega),if_pos rfl]
   ·rw[if_neg (by simp)]
    exact e2
  ·exact qH (pA hl j c (by omega) h0)
structure RCl (m:Msh) (r:RF):Prop where
 len:r.rc.length=m.f.length
 cl:∀a,r.lf.getD a false=true->∀c,c<3->0<=nbF m a c->r.rc.getD (nbF m a c).toNat false=true
 bd:∀a,a<m.f.length->bsd m a (-1)=true->r.rc.getD a false=true
theorem nA{l:List Bool}{i j:Nat}(h:(l.set i true).getD j false=true):j=i\/l.getD j false=true:=by
 by_cases e:i<l.length
 ·rw[cf e]at h
  split at h
  ·exact .inl (by assumption)
  ·exact .inr h
 ·rw[List.set_eq_of_length_le (by omega)]at h
  exact .inr h
theorem RCl.step{m:Msh}{r:RF}(h:RCl m r):RCl m (gC m r):=by
 unfold gC
 split
 ·exact h
 ·obtain⟨h1,h2⟩:=qF (m:=m) (i:=(rat r m.f.length).toNat) (r:={ r with lf:=r.lf.set (rat r m.f.length).toNat true }) 3
  refine⟨h1.trans h.len,fun a ha c hc h0=>?_,fun a ha hb=>qG (r:={ r with lf:=r.lf.set (rat r m.f.length).toNat true }) (h.bd a ha hb) 3⟩
  rw[h2]at ha
  rcases nA ha with rfl|ha
  ·exact pA (r:={ r with lf:=r.lf.set (rat r m.f.length).toNat true }) h.len 3 c hc h0
  ·exact qG (r:={ r with lf:=r.lf.set (rat r m.f.length).toNat true }) (h.cl a ha c hc h0) 3
theorem RCl.run{m:Msh}:∀(k:Nat) {r:RF},RCl m r->RCl m (rfN m k r)
 | 0,_,h=>h
 | k+1,_,h=>RCl.run k h.step
theorem tO(m:Msh):∀i,i<=m.f.length->∀a,a<i->bsd m a (-1)=true->(rf0 m i).1.getD a false=true
 | 0,_,a,h,_=>by omega
 | i+1,hi,a,h,hb=>by
  have hl:=(gj m i).1
  unfold rf0
  by_cases e:a=i
  ·subst e
   rw[if_pos hb]
   simp only
   rw[cf (by omega),if_pos rfl]
  ·have ih:=tO m i (by omega) a (by omega) hb
   split
   ·simp only
    rw[cf (by omega),if_neg e]
    exact ih
   ·exact ih
theorem RCl.init(m:Msh):RCl m (ft m):=by
 refine⟨(gj m _).1,fun a ha=>?_,fun a ha hb=>tO m _ (x0k _) a ha hb⟩
 have hf:(List.replicate m.f.length false).getD a false=false:=by
  simp[x0Z]
  split<;>rfl
 simp only[ft]at ha
 rw[hf]at ha;cases ha
theorem eM{m:Msh}(hv:aw m=true):∀a,a<m.f.length->(cW m).rc.getD a false=true:=by
 have hc:RCl m (cW m):=(RCl.init m).run _
 intro a ha
 have:=vX hv (fun i=>!(cW m).rc.getD i false) (fun i k hi hk hu=>?_) a ha
 ·simpa using this
 ·simp only[x0r]at hu ⊢
  have hb:=eG m i k
  have h0:0<=nbF m i k:=by
   by_cases e:nbF m i k=-1
   ·exfalso
    have h1:bsd m i (-1)=true:=by
     rcases(by omega:k=0\/k=1\/k=2)with rfl|rfl|rfl<;>simp[bsd,e]
    rw[hc.bd i hi h1]at hu;cases hu
   ·omega
  refine⟨h0,?_⟩
  cases e:(cW m).rc.getD (nbF m i k).toNat false
  ·rfl
  ·exfalso
   have h1:=mA m _ e
   obtain⟨c,hc1,hc2⟩:=qt hv hi hk h0
   have h2:=hc.cl _ h1 c hc1 (by omega)
   rw[hc2]at h2
   simp only[Int.toNat_natCast]at h2
   rw[h2]at hu;cases hu
theorem jr{m:Msh}(hv:aw m=true):(bv m).sp=(cW m).lv/\(bv m).ou=(cW m).ou:=xM m (eM hv)
end Go.Gv

namespace Go.Gv
def m8(n:Nat)(ou:List Int)(rc:List Bool):Nat->Nat->Prop
 | 0,a=>ou.getD a 0=-1
 | d+1,a=>∃b:Nat,b<n/\ou.getD a 0=b/\rc.getD b false=true/\m8 n ou rc d b
structure OuI (m:Msh) (r:RF):Prop where
 rc:r.rc.length=m.f.length
 ou:r.ou.length=m.f.length
 e:∀a,a<m.f.length->r.rc.getD a false=true->∃d,d<=r.rc.count true/\m8 m.f.length r.ou r.rc d a
theorem m8.mono{n:Nat}{ou ou':List Int}{rc rc':List Bool}(h1:∀a,rc.getD a false=true->rc'.getD a false=true/\ou'.getD a 0=ou.getD a 0):∀{d a:Nat},rc.getD a false=true->m8 n ou rc d a->m8 n ou' rc' d a
 | 0,a,ha,h=>by
  show ou'.getD a 0=-1
  rw[(h1 a ha).2];exact h
 | d+1,a,ha,⟨b,hb,e1,e2,e3⟩=>⟨b,hb,by rw[(h1 a ha).2];exact e1,(h1 b e2).1,m8.mono h1 e2 e3⟩
theorem rn{l:List Bool}{i:Nat}(h:i<l.length)(hf:l.getD i false=false):(l.set i true).count true=l.count true+1:=by
 have h1:l[i]=false:=by simpa[h]using hf
 rw[List.count_set h,h1]
 simp
theorem OuI.p1{m:Msh}{i:Nat}{r:RF}{k:Int}(h:OuI m r)(hi:i<m.f.length)(hr:r.rc.getD i false=true)(hk:k<m.f.length):OuI m (iM m i r k):=by
 unfold iM
 split
 ·rename_i hc
  have hkl:k.toNat<m.f.length:=by omega
  have hrc:=fun j=>cf (l:=r.rc) (i:=k.toNat) (j:=j) (x:=true) (d:=false) (by rw[h.rc];omega)
  have hou:=fun j (x:Int)=>cf (l:=r.ou) (i:=k.toNat) (j:=j) (x:=x) (d:=(0:Int)) (by rw[h.ou];omega)
  have hm:∀a,r.rc.getD a false=true->(r.rc.set k.toNat true).getD a false=true/\(r.ou.set k.toNat (i:Int)).getD a 0=r.ou.getD a 0:=fun a ha=>by
   have hne:a≠k.toNat:=fun e=>by rw[e,hc.2]at ha;cases ha
   rw[hrc,hou,if_neg hne,if_neg hne]
   exact⟨ha,rfl⟩
  have hct:=rn (l:=r.rc) (i:=k.toNat) (by rw[h.rc];omega) hc.2
  refine⟨by simp[h.rc],by simp[h.ou],fun a ha har=>?_⟩
  simp only at har ⊢
  rw[hct]
  by_cases e:a=k.toNat
  ·obtain⟨d,hd,he⟩:=h.e i hi hr
   refine⟨d+1,by omega,i,hi,?_,(hm i hr).1,m8.mono hm hr he⟩
   rw[hou,if_pos e]
  ·rw[hrc,if_neg e]at har
   obtain⟨d,hd,he⟩:=h.e a ha har
   exact⟨d,by omega,m8.mono hm har he⟩
 ·exact h
theorem OuI.i{m:Msh}{i:Nat}{r:RF}(h:OuI m r)(hi:i<m.f.length)(hr:r.rc.getD i false=true):∀j,OuI m (rfI m i r j)
 | 0=>h
 | j+1=>(OuI.i h hi hr j).p1 hi (qG hr j) (eG m i j).2
theorem OuI.step{m:Msh}{r:RF}(h:OuI m r):OuI m (gC m r):=by
 unfold gC
 split
 ·exact h
 ·rename_i h0
  rcases kQ r m.f.length with ⟨h1,_⟩|⟨a,h1,h2,h3,_⟩
  ·omega
  ·rw[h1]
   simp only[act,x0a]at h3
   exact OuI.i (r:={ r with lf:=r.lf.set a true }) ⟨h.rc,h.ou,h.e⟩ h2 h3.1 3
theorem OuI.run{m:Msh}:∀(k:Nat) {r:RF},OuI m r->OuI m (rfN m k r)
 | 0,_,h=>h
 | k+1,_,h=>OuI.run k h.step
theorem OuI.init(m:Msh):OuI m (ft m):=by
 refine⟨(gj m _).1,by simp[ft],fun a ha _=>⟨0,by omega,?_⟩⟩
 show(List.replicate m.f.length (-1:Int)).getD a 0=-1
 simp[x0Z,ha]
theorem iv{m:Msh}(hv:aw m=true){a:Nat}(ha:a<m.f.length):∃d,d<=m.f.length/\m8 m.f.length (bv m).ou (cW m).rc d a:=by
 have h:OuI m (cW m):=(OuI.init m).run _
 obtain⟨d,hd,he⟩:=h.e a ha (eM hv a ha)
 refine⟨d,?_,by rw[(jr hv).2];exact he⟩
 have:=List.count_le_length (a:=true) (l:=(cW m).rc)
 have:=h.rc
 omega
end Go.Gv

namespace Go.Gv
end Go.Gv

namespace Go.Gv
section
variable{C:Nat->List D->D->List D->Prop}(hC:av prog C)
include hC
end
end Go.Gv

namespace Go.Gv
variable{C:CC}(hC:av prog C)
include hC
end Go.Gv

namespace Go.Gv
variable{C:CC}(hC:av prog C)
include hC
end Go.Gv

namespace Go.Gv
variable{C:CC}(hC:av prog C)
include hC
end Go.Gv

namespace Go.Gv
variable{C:CC}(hC:av prog C)
include hC
end Go.Gv

namespace Go.Gv
variable{C:CC}(hC:av prog C)
include hC
end Go.Gv

namespace Go.Gv
variable{C:CC}(hC:av prog C)
include hC
end Go.Gv

namespace Go.Gv
variable{C:CC}(hC:av prog C)
include hC
end Go.Gv

namespace Go.Gv
variable{C:CC}(hC:av prog C)
include hC
end Go.Gv

namespace Go.Gv
def dE(f:Nat->Int):Nat->Int
 | 0=>0
 | n+1=>dE f n+f n
theorem mT{f:Nat->Int}:∀{n:Nat},(∀i,i<n->0<=f i)->0<=dE f n
 | 0,_=>x1K _
 | n+1,h=>by
  have h1:=mT (n:=n) fun i hi=>h i (by omega)
  have h2:=h n (by omega)
  rw[dE];omega
theorem va{f g:Nat->Int}:∀{n:Nat},(∀i,i<n->f i<=g i)->dE f n<=dE g n
 | 0,_=>x1K _
 | n+1,h=>by
  have h1:=va (n:=n) fun i hi=>h i (by omega)
  have h2:=h n (by omega)
  rw[dE,dE];omega
theorem wx{f:Nat->Int}{n k:Nat}(h:∀i,i<n->0<=f i)(hk:k<=n):dE f k<=dE f n:=by
 induction n with
 | zero=>have:k=0:=(by omega);subst this;exact x1K _
 | succ n ih =>
  rcases x1o k (n+1)with h2|h2
  ·have h1:=ih (fun i hi=>h i (by omega)) (by omega)
   have h3:=h n (by omega)
   rw[dE];omega
  ·have:k=n+1:=by omega
   subst this;exact x1K _
theorem oq(c:Int):∀n:Nat,dE (fun _=>c) n=n*c
 | 0=>by simp[dE]
 | n+1=>by
  rw[dE,oq c n,Int.natCast_succ,Int.add_mul];omega
def twF(m:Msh)(i:Nat):Int:=lh (aS m (fce m i))
def ov(m:Msh):Int:=dE (twF m) m.f.length
theorem jj{m:Msh}(hv:aw m=true){i:Nat}(hi:i<m.f.length):0<=twF m i/\twF m i<=2251799813685248:=by
 have h:=(fD hv hi).2
 have ht:=lj hv hi
 unfold okT at ht
 simp only[x0a]at ht
 have:=qR ht.1.1 ht.1.2 ht.2
 unfold twF
 unfold lh dV at *
 omega
theorem EO{m:Msh}(hv:aw m=true)(hm:m.f.length<=100):0<=ov m/\ov m<=225179981368524800:=by
 refine⟨mT fun i hi=>(jj hv hi).1,?_⟩
 have h1:=va (f:=twF m) (g:=fun _=>2251799813685248) (n:=m.f.length) fun i hi=>(jj hv hi).2
 rw[oq]at h1
 unfold ov
 omega
end Go.Gv

namespace Go.Gv
structure Ord (m:Msh) (P:List Nat):Prop where
 perm:P.Perm (List.range m.f.length)
 srt:P.Pairwise fun a b=>cI m b<=cI m a
end Go.Gv

set_option maxRecDepth 4000
namespace Go.Gv
def mvS(x y z:Int)(s:Spt):Spt:=⟨s.x+x,s.y+y,s.z+z⟩
variable{C:CC}(hC:av prog C)
include hC
end Go.Gv

namespace Go.Gv
section
variable{m:Msh}{x y z:Int}(hv:aw m=true)(hr:∀i,i<m.s.length->bG (mvS x y z (spt m i))=true)
include hv hr
omit hr
omit hv in
end
end Go.Gv

set_option maxRecDepth 4000
namespace Go.Gv
theorem mL(l:List Int):∀e∈inR l,e.length=1/\∀c∈e,aH c=true:=by
 intro e he
 obtain⟨x,_,rfl⟩:=x0p.1 he
 simp
theorem uK(l:List Int)(i:Nat)(v:Int):(inR l).set i [.int .i64 v]=inR (l.set i v):=by simp[inR]
variable{C:CC}(hC:av prog C)
include hC
theorem rZ(m:Msh)(hv:aw m=true)(i:Nat)(hi:i<m.f.length):C 376 [.agg (b0 m),.agg (cu (fce m i))] (.int .i64 (twF m i)) []:=by
 have ht:=lj hv hi
 have k1:=yf hC m (fce m i) (fY hv hi)
 unfold okT at ht
 simp only[x0a]at ht
 have k2:=qn hC ht.1.1 ht.1.2 ht.2
 have e:dV (aS m (fce m i)).1 (aS m (fce m i)).2.1 (aS m (fce m i)).2.2=twF m i:=rfl
 rw[e]at k2
 generalize aS m (fce m i)=t at *
 simp only[af,aP,cm]at k1
 simp only[ptD]at k2
 refine az hC (nf:=N376) rfl rfl ?_
 simp[N376,af,aP]
 refine aa k1 (.inl rfl) ?_
 simp
 refine aa k2 (.inl rfl) ?_
 simp
theorem x5(m:Msh)(x:Int):C 377 [.agg (b0 m),.int .i64 x] (.bool (eF m.f.length x)) []:=by
 refine az hC (nf:=N377) rfl rfl ?_
 unfold eF
 simp[N377,af]
 by_cases h:0<=x
 ·simp[h]
 ·simp[h]
theorem uk(dec:Nat->List UInt8)(hI:∀n:Nat,n<100->C 127 [.int .i64 n] (.str (dec n)) [])(m:Msh)(hz:ct m=true->m.s.length<=100/\m.f.length<=100)(hv:aw m=true)(i:Nat)(hi:i<m.f.length):C 373 [.agg (b0 m),.int .i64 i] (.tup [.int .i64 (twF m i),.int .i64 0]) []:=by
 have k1:=gU hC dec hI m hz
 rw[hv]at k1
 have k2:=x5 hC m i
 have e:eF m.f.length (i:Int)=true:=by simp[eF,hi]
 rw[e]at k2
 have k3:=rZ hC m hv i hi
 simp only[af,aP]at k1 k2 k3
 refine az hC (nf:=N373) rfl rfl ?_
 simp[N373,af]
 refine aa k1 (.inl rfl) ?_
 simp
 refine aa k2 (.inl rfl) ?_
 simp[hi,aP]
 refine aa k3 (.inl rfl) ?_
 simp
 exact aF (by decide +kernel)
theorem Af(dec:Nat->List UInt8)(hI:∀n:Nat,n<100->C 127 [.int .i64 n] (.str (dec n)) [])(m:Msh)(hz:ct m=true->m.s.length<=100/\m.f.length<=100)(hv:aw m=true)(hm:m.f.length<=100):C 372 [.agg (b0 m)] (.tup [.int .i64 (ov m),.int .i64 0]) []:=by
 have k1:=gU hC dec hI m hz
 rw[hv]at k1
 have hb:=EO hv hm
 simp only[af]at k1
 refine az hC (nf:=N372) rfl rfl ?_
 simp[N372,af]
 refine aa k1 (.inl rfl) ?_
 simp
 refine aC Nat (fun i=>[(1,.ptr (b0 m)),(4,.int .i64 (dE (twF m) i)),(11,slx m.fn (m.f.map cu)),(12,.int .i64 m.f.length),(13,.int .i64 i)]) (fun i=>i<=m.f.length) (fun i=>m.f.length-i) 0 (by simp) (by simp[af,dE]) ?_
 intro i hi
 simp
 refine aj (fun h=>?_) (fun h=>?_)<;>simp at h
 ·have hw:IntKind.wrap .i64 ((i:Int)+1)=((i+1:Nat):Int):=ah (by omega) (by omega)
  have k2:=rZ hC m hv i h
  have g1:=wx (f:=twF m) (n:=m.f.length) (k:=i+1) (fun j hj=>(jj hv hj).1) (by omega)
  have g2:=mT (f:=twF m) (n:=i+1) (fun j hj=>(jj hv (by omega)).1)
  have e1:dE (twF m) (i+1)=dE (twF m) i+twF m i:=rfl
  have w1:IntKind.wrap .i64 (dE (twF m) i+twF m i)=dE (twF m) (i+1):=ah e1.symm (by unfold ov at hb;omega)
  simp only[af,aP]at k2
  simp[h,aP,af]
  refine aa k2 (.inl rfl) ?_
  simp[w1,hw]
  exact⟨i+1,by omega,by omega,by simp[af]⟩
 ·have ei:i=m.f.length:=by omega
  subst ei
  simp[h,ov]
end Go.Gv

set_option maxRecDepth 4000
namespace Go.Gv
variable{C:CC}(hC:av prog C)
include hC
end Go.Gv

set_option maxRecDepth 4000
namespace Go.Gv
variable{C:CC}(hC:av prog C)
include hC
end Go.Gv

namespace Go.Gv
structure RFW (m:Msh) (r:RF):Prop where
 rc:r.rc.length=m.f.length
 lf:r.lf.length=m.f.length
 lv:r.lv.length=m.f.length
 ou:r.ou.length=m.f.length
section
variable{C:Nat->List D->D->List D->Prop}(hC:av prog C)
include hC
end
end Go.Gv

namespace Go.Gv
section
variable{C:Nat->List D->D->List D->Prop}(hC:av prog C)
include hC
theorem CX(dec:Nat->List UInt8)(hI:∀n:Nat,n<100->C 127 [.int .i64 n] (.str (dec n)) [])(m:Msh)(hz:ct m=true->m.s.length<=100/\m.f.length<=100) :
  C 243 [.agg (b0 m)] (if aw m then .tup [.sl (inR (bv m).sp),.int .i64 0] else .tup [.nils,.int .i64 1]) []:=by
 have k:=o7 hC dec hI m hz
 simp only[af]at k
 refine az hC (nf:=N243) rfl rfl ?_
 simp[N243,af]
 refine aa k (.inr rfl) ?_
 cases hv:aw m
 ·simp
 ·simp[nx]
theorem vm(dec:Nat->List UInt8)(hI:∀n:Nat,n<100->C 127 [.int .i64 n] (.str (dec n)) [])(m:Msh)(hz:ct m=true->m.s.length<=100/\m.f.length<=100) :
  C 244 [.agg (b0 m)] (if aw m then .tup [.sl (inR (bv m).ou),.int .i64 0] else .tup [.nils,.int .i64 1]) []:=by
 have k:=o7 hC dec hI m hz
 simp only[af]at k
 refine az hC (nf:=N244) rfl rfl ?_
 simp[N244,af]
 refine aa k (.inr rfl) ?_
 cases hv:aw m
 ·simp
 ·simp[nx]
end
end Go.Gv

namespace Go.Gv
section
variable{C:Nat->List D->D->List D->Prop}(hC:av prog C)
include hC
end
end Go.Gv

namespace Go.Gv
section
variable{C:Nat->List D->D->List D->Prop}(hC:av prog C)
include hC
end
end Go.Gv

namespace Go.Gv
structure LvI (m:Msh) (r:RF) (P:Nat->Nat->Prop):Prop where
 rcl:r.rc.length=m.f.length
 lfl:r.lf.length=m.f.length
 lvl:r.lv.length=m.f.length
 oul:r.ou.length=m.f.length
 l1:∀a,r.lf.getD a false=true->r.rc.getD a false=true
 l2:∀a b,r.lf.getD a false=true->r.rc.getD b false=true->r.lf.getD b false=false->r.lv.getD a 0<=r.lv.getD b 0
 bd:∀a,a<m.f.length->bsd m a (-1)=true->r.rc.getD a false=true
 l3:∀a,a<m.f.length->r.rc.getD a false=true->(bsd m a (-1)=true/\r.ou.getD a 0=-1/\r.lv.getD a 0=(cp m).getD a 0) \/
  (bsd m a (-1)=false/\∃z:Nat,z<m.f.length/\r.ou.getD a 0=z/\r.lf.getD z false=true/\(∃c,c<3/\nbF m a c=z)/\r.lv.getD a 0=max ((cp m).getD a 0) (r.lv.getD z 0))
 l4:∀y,r.lf.getD y false=true->∀c,c<3->P y c->∀x:Nat,nbF m y c=x->r.rc.getD x false=true/\r.lv.getD x 0<=max ((cp m).getD x 0) (r.lv.getD y 0)
theorem LvI.p1{m:Msh}(hv:aw m=true){a j:Nat}{r:RF}(ha:a<m.f.length)(hj:j<3)(hla:r.lf.getD a false=true)(hat:∀z,r.lf.getD z false=true->r.lv.getD z 0<=r.lv.getD a 0){P:Nat->Nat->Prop}(h:LvI m r P) :
  LvI m (iM m a r (nbF m a j)) (fun y c=>P y c\/(y=a/\c=j))/\(iM m a r (nbF m a j)).lf=r.lf/\∀z,r.lf.getD z false=true->(iM m a r (nbF m a j)).lv.getD z 0=r.lv.getD z 0:=by
 have hb:=eG m a j
 unfold iM
 split
 ·rename_i hc
  obtain⟨x0,hx0⟩:∃x0:Nat,nbF m a j=x0:=⟨(nbF m a j).toNat,by omega⟩
  rw[hx0]at hc hb ⊢
  simp only[Int.toNat_natCast]at hc ⊢
  have hxn:x0<m.f.length:=by omega
  obtain⟨v,hvv⟩:∃v,v=(if r.lv.getD a 0<(cp m).getD x0 0 then(cp m).getD x0 0 else r.lv.getD a 0):=⟨_,rfl⟩
  have hv1:v=max ((cp m).getD x0 0) (r.lv.getD a 0):=by rw[hvv];split<;>omega
  rw[<- hvv]
  have grc:∀i,(r.rc.set x0 true).getD i false=if i=x0 then true else r.rc.getD i false:=fun i=>cf (by rw[h.rcl];exact hxn)
  have glv:∀i,(r.lv.set x0 v).getD i 0=if i=x0 then v else r.lv.getD i 0:=fun i=>cf (by rw[h.lvl];exact hxn)
  have gou:∀i,(r.ou.set x0 (a:Int)).getD i 0=if i=x0 then(a:Int) else r.ou.getD i 0:=fun i=>cf (by rw[h.oul];exact hxn)
  have hne:∀i,r.rc.getD i false=true->i≠x0:=fun i hi e=>by rw[e,hc.2]at hi;cases hi
  have hmono:∀i,r.rc.getD i false=true->(r.rc.set x0 true).getD i false=true:=fun i hi=>by rw[grc,if_neg (hne i hi)];exact hi
  have hkeep:∀z,r.lf.getD z false=true->(r.lv.set x0 v).getD z 0=r.lv.getD z 0:=fun z hz=>by rw[glv,if_neg (hne z (h.l1 z hz))]
  refine⟨⟨by simp[h.rcl],h.lfl,by simp[h.lvl],by simp[h.oul],fun i hi=>hmono i (h.l1 i hi),fun i k hi hk hk2=>?_,fun i hi hbi=>hmono i (h.bd i hi hbi),fun i hi hir=>?_,fun y hy c hc3 hP x hx=>?_⟩,trivial,hkeep⟩
  ·simp only at hi hk hk2 ⊢
   rw[hkeep i hi,glv]
   split
   ·have:=hat i hi
    omega
   ·rename_i e
    rw[grc,if_neg e]at hk
    exact h.l2 i k hi hk hk2
  ·simp only at hir ⊢
   by_cases e:i=x0
   ·subst e
    right
    have hnb:bsd m i (-1)=false:=by
     cases hh:bsd m i (-1)
     ·rfl
     ·have:=h.bd i hi hh
      rw[hc.2]at this
      cases this
    obtain⟨c',hc',e'⟩:=qt hv ha hj (by omega)
    rw[hx0]at e'
    refine⟨hnb,a,ha,by rw[gou,if_pos rfl],hla,⟨c',hc',by simpa using e'⟩,?_⟩
    rw[glv,if_pos rfl,hkeep a hla,hv1]
   ·rw[grc,if_neg e]at hir
    rw[gou,if_neg e,glv,if_neg e]
    rcases h.l3 i hi hir with h5|⟨h5,z,hz,h6,h7,h8,h9⟩
    ·exact .inl h5
    ·exact .inr ⟨h5,z,hz,h6,h7,h8,by rw[hkeep z h7];exact h9⟩
  ·simp only at hy ⊢
   rw[hkeep y hy]
   rcases hP with hP|⟨rfl,rfl⟩
   ·obtain⟨h5,h6⟩:=h.l4 y hy c hc3 hP x hx
    rw[glv,if_neg (hne x h5)]
    exact⟨hmono x h5,h6⟩
   ·have e:x=x0:=by omega
    subst e
    rw[grc,if_pos rfl,glv,if_pos rfl,hv1]
    exact⟨by simp,x1K _⟩
 ·rename_i hc
  refine⟨⟨h.rcl,h.lfl,h.lvl,h.oul,h.l1,h.l2,h.bd,h.l3,fun y hy c hc3 hP x hx=>?_⟩,rfl,fun _ _=>rfl⟩
  rcases hP with hP|⟨rfl,rfl⟩
  ·exact h.l4 y hy c hc3 hP x hx
  ·have hxn:x<m.f.length:=by omega
   have hr:r.rc.getD x false=true:=by
    cases hh:r.rc.getD x false
    ·exact absurd ⟨by omega,by rw[hx];simpa using hh⟩ hc
    ·rfl
   refine⟨hr,?_⟩
   rcases h.l3 x hxn hr with h5|⟨h5,z,hz,h6,h7,h8,h9⟩
   ·omega
   ·have:=hat z h7
    omega
theorem LvI.weaken{m:Msh}{r:RF}{P Q:Nat->Nat->Prop}(h:LvI m r P)(hPQ:∀y c,c<3->r.lf.getD y false=true->Q y c->P y c):LvI m r Q :=
 ⟨h.rcl,h.lfl,h.lvl,h.oul,h.l1,h.l2,h.bd,h.l3,fun y hy c hc hq=>h.l4 y hy c hc (hPQ y c hc hy hq)⟩
theorem LvI.i{m:Msh}(hv:aw m=true){a:Nat}{r:RF}(ha:a<m.f.length)(hla:r.lf.getD a false=true)(hat:∀z,r.lf.getD z false=true->r.lv.getD z 0<=r.lv.getD a 0){P:Nat->Nat->Prop}(h:LvI m r P):∀j,j<=3 ->
  LvI m (rfI m a r j) (fun y c=>P y c\/(y=a/\c<j))/\(rfI m a r j).lf=r.lf/\∀z,r.lf.getD z false=true->(rfI m a r j).lv.getD z 0=r.lv.getD z 0
 | 0,_=>⟨h.weaken fun y c _ _ hq=>by rcases hq with h|h;exact h;omega,rfl,fun _ _=>rfl⟩
 | j+1,hj=>by
  obtain⟨h1,h2,h3⟩:=LvI.i hv ha hla hat h j (by omega)
  obtain⟨q1,q2,q3⟩:=h1.p1 hv ha (show j<3 by omega) (by rw[h2];exact hla) (fun z hz=>by rw[h2]at hz;rw[h3 z hz,h3 a hla];exact hat z hz)
  refine⟨q1.weaken fun y c hc _ hq=>?_,by show(iM m a (rfI m a r j) (nbF m a j)).lf=_;rw[q2,h2],fun z hz=>by show(iM m a (rfI m a r j) (nbF m a j)).lv.getD z 0=_;rw[q3 z (by rw[h2];exact hz),h3 z hz]⟩
  rcases hq with h|⟨h4,h5⟩
  ·exact .inl (.inl h)
  ·by_cases e:c=j
   ·exact .inr ⟨h4,e⟩
   ·exact .inl (.inr ⟨h4,by omega⟩)
theorem LvI.step{m:Msh}(hv:aw m=true){r:RF}(h:LvI m r fun _ _=>True):LvI m (gC m r) fun _ _=>True:=by
 unfold gC
 split
 ·exact h
 ·rename_i h0
  rcases kQ r m.f.length with ⟨h1,_⟩|⟨a,h1,h2,h3,h4⟩
  ·omega
  ·rw[h1]
   simp only[Int.toNat_natCast]
   have h3':r.rc.getD a false=true/\r.lf.getD a false=false:=by simpa[act]using h3
   have glf:∀i,(r.lf.set a true).getD i false=if i=a then true else r.lf.getD i false:=fun i=>cf (by rw[h.lfl];exact h2)
   have hat:∀z,(r.lf.set a true).getD z false=true->r.lv.getD z 0<=r.lv.getD a 0:=fun z hz=>by
    rw[glf]at hz
    split at hz
    ·rename_i e;rw[e];exact x1K _
    ·exact h.l2 z a hz h3'.1 h3'.2
   have hI:LvI m { r with lf:=r.lf.set a true } fun y _=>y≠a:=by
    refine⟨h.rcl,by simp[h.lfl],h.lvl,h.oul,fun i hi=>?_,fun i k hi hk hk2=>?_,h.bd,fun i hi hir=>?_,fun y hy c hc hne x hx=>?_⟩
    ·simp only at hi
     rw[glf]at hi
     split at hi
     ·rename_i e;rw[e];exact h3'.1
     ·exact h.l1 i hi
    ·simp only at hi hk hk2 ⊢
     rw[glf]at hk2
     split at hk2
     ·cases hk2
     ·rename_i e
      have hak:act r k=true:=by simp only[act,hk,hk2];rfl
      by_cases hkn:k<m.f.length
      ·have h5:=h4 k hkn hak
       have h6:=hat i hi
       omega
      ·have:r.rc.getD k false=false:=by
        rw[x1w,x0N (by rw[h.rcl];omega)];rfl
       rw[this]at hk;cases hk
    ·rcases h.l3 i hi hir with h5|⟨h5,z,hz,h6,h7,h8,h9⟩
     ·exact .inl h5
     ·refine .inr ⟨h5,z,hz,h6,?_,h8,h9⟩
      show(r.lf.set a true).getD z false=true
      rw[glf];split
      ·rfl
      ·exact h7
    ·simp only at hy
     rw[glf,if_neg hne]at hy
     exact h.l4 y hy c hc trivial x hx
   have:=(hI.i (a:=a) hv h2 (by show(r.lf.set a true).getD a false=true;rw[glf,if_pos rfl]) hat 3 (x0k _)).1
   refine this.weaken fun y c hc _ _=>?_
   by_cases e:y=a
   ·exact .inr ⟨e,hc⟩
   ·exact .inl e
theorem LvI.run{m:Msh}(hv:aw m=true):∀(k:Nat) {r:RF},LvI m r (fun _ _=>True)->LvI m (rfN m k r) fun _ _=>True
 | 0,_,h=>h
 | k+1,_,h=>LvI.run hv k (h.step hv)
theorem lW(m:Msh):∀i a,(rf0 m i).1.getD a false=true->bsd m a (-1)=true
 | 0,a,h=>by
  simp[rf0,x0Z]at h
  split at h<;>cases h
 | i+1,a,h=>by
  unfold rf0 at h
  split at h
  ·rename_i hb
   rcases nA h with rfl|h
   ·exact hb
   ·exact lW m i a h
  ·exact lW m i a h
theorem LvI.init(m:Msh):LvI m (ft m) fun _ _=>True:=by
 have hf:∀i,(List.replicate m.f.length false).getD i false=false:=fun i=>by simp[x0Z];split<;>rfl
 refine⟨(gj m _).1,by simp[ft],(gj m _).2,by simp[ft],fun a ha=>?_,fun a b ha _ _=>?_,fun a ha hb=>tO m _ (x0k _) a ha hb,fun a ha hr=>.inl ⟨lW m _ a hr,?_,qD m _ (x0k _) a hr⟩,fun y hy=>?_⟩
 ·exact absurd ((hf a).symm.trans ha) (by decide)
 ·exact absurd ((hf a).symm.trans ha) (by decide)
 ·show(List.replicate m.f.length (-1:Int)).getD a 0=-1
  simp[x0Z,ha]
 ·exact absurd ((hf y).symm.trans hy) (by decide)
def spF(m:Msh)(a:Nat):Int:=(bv m).sp.getD a 0
def suF(m:Msh)(a:Nat):Int:=(cp m).getD a 0
def ouF(m:Msh)(a:Nat):Int:=(bv m).ou.getD a 0
theorem lD{m:Msh}(hv:aw m=true):LvI m (cW m) fun _ _=>True:=(LvI.init m).run hv _
theorem jB{m:Msh}(hv:aw m=true){a:Nat}(ha:a<m.f.length)(hb:bsd m a (-1)=true):spF m a=suF m a/\ouF m a=-1:=by
 obtain⟨e1,e2⟩:=jr hv
 unfold spF suF ouF
 rw[e1,e2]
 rcases(lD hv).l3 a ha (eM hv a ha)with h|⟨h,_⟩
 ·exact⟨h.2.2,h.2.1⟩
 ·rw[hb]at h;cases h
theorem jC{m:Msh}(hv:aw m=true){a:Nat}(ha:a<m.f.length)(hb:bsd m a (-1)=false):∃z:Nat,z<m.f.length/\ouF m a=z/\(∃c,c<3/\nbF m a c=z)/\spF m a=max (suF m a) (spF m z):=by
 obtain⟨e1,e2⟩:=jr hv
 unfold spF suF ouF
 rw[e1,e2]
 rcases(lD hv).l3 a ha (eM hv a ha)with h|⟨_,z,h1,h2,_,h4,h5⟩
 ·rw[hb]at h;cases h.1
 ·exact⟨z,h1,h2,h4,h5⟩
theorem zz{m:Msh}(hv:aw m=true){a x c:Nat}(ha:a<m.f.length)(hc:c<3)(hx:nbF m a c=x):spF m a<=max (suF m a) (spF m x):=by
 obtain⟨e1,_⟩:=jr hv
 have hb:=eG m a c
 have hxn:x<m.f.length:=by omega
 obtain⟨c',hc',e⟩:=qt hv ha hc (by omega)
 rw[hx]at e
 unfold spF suF
 rw[e1]
 exact((lD hv).l4 x (mA m x (eM hv x hxn)) c' hc' trivial a (by simpa using e)).2
theorem Jm{m:Msh}(hv:aw m=true){a:Nat}(ha:a<m.f.length):suF m a<=spF m a:=by
 cases hb:bsd m a (-1)
 ·obtain⟨z,_,_,_,h⟩:=jC hv ha hb
  omega
 ·have:=jB hv ha hb
  omega
end Go.Gv

namespace Go.Gv
open Go.Lib
theorem mr(n b:Nat)(hb:0<b):(-(n:Int))/(b:Int)=-((if n%b=0 then n/b else n/b+1:Nat):Int):=by
 have h1:=x1k n b
 have h2:=Nat.mod_lt n hb
 obtain⟨q,hq⟩:∃q,q=n/b:=⟨_,rfl⟩
 obtain⟨r,hr⟩:∃r,r=n%b:=⟨_,rfl⟩
 rw[<- hq,<- hr]at h1
 rw[<- hr]at h2
 rw[<- hq,<- hr]
 clear hq hr
 subst h1
 split
 ·rename_i h
  subst h
  rw[x0L,Int.natCast_mul,<- Int.mul_neg]
  exact Int.mul_ediv_cancel_left _ (by omega)
 ·rename_i h
  have e:-((b*q+r:Nat):Int)=((b:Int)-r)+b*(-((q+1:Nat):Int)):=by
   rw[Int.natCast_add,Int.natCast_mul,Int.natCast_add,Int.mul_neg,Int.mul_add]
   omega
  rw[e,Int.add_mul_ediv_left _ _ (by omega),Int.ediv_eq_zero_of_lt (by omega) (by omega)]
  omega
variable{C:CC}(hC:av prog C)
include hC
end Go.Gv

namespace Go.Gv
def tn0(m:Msh)(i:Nat)(p:Pnt):Int:=dV (ptS (spA m i)) (ptS (spB m i)) p
def tn1(m:Msh)(i:Nat)(p:Pnt):Int:=dV (ptS (spB m i)) (ptS (spC m i)) p
def tn2(m:Msh)(i:Nat)(p:Pnt):Int:=dV (ptS (spC m i)) (ptS (spA m i)) p
variable{C:CC}(hC:av prog C)
include hC
end Go.Gv

namespace Go.Gv
variable{C:CC}(hC:av prog C)
include hC
end Go.Gv
