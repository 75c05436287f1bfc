/-
  Texts of the proof: S6, K15, K16, K17, K18, L1, K19, K20, L2, K23, K23c, K21, S7, S9, S10, S11, M12, S12, S13, S14, S8, S15, S16, K24, L3, S17, S18, M6p, M18, E1, A1, A4, A2, A3, A5, A6, A7, A8, A9, A10, A14, TL1, TL2, TL3, TL4.
-/
import Derived.Test.YtlipihhhgpnjmaaGreatX7
import Derived.Test.YtlipihhhgpnjmaaGreatX6
import Derived.Lib.Bytealg
import Derived.Shelf.SlSortCmp.Insertion
set_option linter.all false
set_option maxRecDepth 4000
namespace Go.Gv
def jx(f:Nat->Int)(V:List Nat)(k:Nat):List (List D):=(V.take k).map fun l=>[.int .i64 (f l)]
theorem zW(f:Nat->Int)(V:List Nat):jx f V 0=[]:=by simp[jx]
theorem kG{f:Nat->Int}{V:List Nat}{k:Nat}(h:k<V.length):jx f V (k+1)=jx f V k++[[.int .i64 (f V[k])]]:=by
 unfold jx
 rw[x0m h,x1d];rfl
theorem jL{f:Nat->Int}{V:List Nat}{k:Nat}(h:k<=V.length):(jx f V k).length=k:=by simp[jx];omega
theorem kH{f:Nat->Int}{V:List Nat}{k:Nat}(h:k<=V.length):List.take k (jx f V k)=jx f V k:=x0i (by rw[jL h];omega)
theorem Ca(f:Nat->Int)(V:List Nat)(k:Nat):∀e∈jx f V k,∀c∈e,aA c=true:=by
 intro e he
 simp only[jx,x0w]at he
 obtain⟨v,_,rfl⟩:=he
 simp[aA]
theorem BZ(f:Nat->Int)(V:List Nat):jx f V V.length=cH (V.map f):=by
 unfold jx cH
 rw[x0L,x1K];rfl
def m6(ss:List Sec)(j:Nat):List (List D):=(ss.take j).map aQ
theorem AY(ss:List Sec):m6 ss 0=[]:=by simp[m6]
theorem AX{ss:List Sec}{j:Nat}(h:j<ss.length):m6 ss (j+1)=m6 ss j++[aQ ss[j]]:=by
 unfold m6
 rw[x0m h,x1d];rfl
theorem DT{ss:List Sec}{j:Nat}(h:j<=ss.length):(m6 ss j).length=j:=by simp[m6];omega
theorem DR(ss:List Sec):m6 ss ss.length=ss.map aQ:=by unfold m6;rw[x0L]
theorem DS(ss:List Sec)(j:Nat):∀e∈m6 ss j,∀c∈e,aA c=true:=by
 intro e he
 simp only[m6,x0w]at he
 obtain⟨s,_,rfl⟩:=he
 have h1:=nJ s.areaN (s.area.map knD)
 have h2:=nJ s.convN (s.conv.map knD)
 intro c hc
 simp only[aQ,x0H,x07,or_false]at hc
 rcases hc with rfl|rfl|rfl|rfl|rfl
 all_goals first|rfl|exact h1|exact h2
def mnI(a b:Int):Int:=if b<a then b else a
def lnF(ls:List Lnk)(i:Nat):Int:=ls[i]!.len
def qvF(q:List Int)(i:Nat):Int:=q[i]!
def pFa(ls:List Lnk)(i:Nat):Int:=ls[i]!.up-ls[i]!.down
def pRm(ns:List Nod)(es:List Edg)(ls:List Lnk)(cover:Int)(i:Nat):Int:=if 0<mnI (ns[(es[i]!).1]!.ground-ls[i]!.up) (ns[(es[i]!).2]!.ground-ls[i]!.down)-cover then mnI (ns[(es[i]!).1]!.ground-ls[i]!.up) (ns[(es[i]!).2]!.ground-ls[i]!.down)-cover else 0
def iz(ns:List Nod)(es:List Edg)(ls:List Lnk)(cover:Int)(i:Nat):Bool:=!(decide (0<=pFa ls i)&&decide (pFa ls i<=4194304))||decide (4194304<pRm ns es ls cover i)
def tL(x:Int):Bool:=!(decide (0<=x)&&decide (x<=1099511627776))
def prE(ns:List Nod)(ls:List Lnk)(ss:List Sec)(q:List Int)(cover:Int):Int :=
 if !(cq ns ls&&aH ss) then 1 else if ss.length=0 then 14 else if ppE ls ns.length (ah ns ls)≠0 then ppE ls ns.length (ah ns ls) else if q.length≠ls.length then 3
 else if (!(decide (0<=cover)&&decide (cover<=4194304))||q.any tL) then 2 else if (ppL ns.length (ah ns ls)).any (iz ns (ah ns ls) ls cover) then 23 else 0
def FE:Job:=⟨⟨true,[]⟩,⟨true,[]⟩,⟨true,[]⟩,⟨true,[]⟩,⟨true,[]⟩,true,[]⟩
def bL(ns:List Nod)(es:List Edg)(ls:List Lnk)(ss:List Sec)(q:List Int)(cover:Int)(V:List Nat):Job :=
 ⟨⟨false,V.map (iC es V)⟩,⟨false,V.map (lnF ls)⟩,⟨false,V.map (qvF q)⟩,⟨false,V.map (pFa ls)⟩,⟨false,V.map (pRm ns es ls cover)⟩,false,ss⟩
def prJ(ns:List Nod)(ls:List Lnk)(ss:List Sec)(q:List Int)(cover:Int):Job :=
 if prE ns ls ss q cover=0 then bL ns (ah ns ls) ls ss q cover (ppL ns.length (ah ns ls)) else FE
theorem wV:dX FE=[.nils,.nils,.nils,.nils,.nils,.nils]:=by
 unfold dX FE slI slx
 simp
theorem tJ{ns:List Nod}{ls:List Lnk}(hv:cq ns ls=true)(hk:ls.any (fun l=>!decide (l.kind=1))=false){i:Nat}(hi:i<ls.length) :
  (-4194304<=ls[i].up/\ls[i].up<=4194304)/\(-4194304<=ls[i].down/\ls[i].down<=4194304)/\1<=ls[i].len/\ls[i].len<=16777216:=by
 have h1:=(iV hv hi).1
 have h2:ls[i].kind=1:=by
  rw[x0E]at hk
  simpa using hk _ (x0h hi)
 simp only[c8,jg,h2,if_true,x0a]at h1
 have a:=h1.1.1.2;have b:=h1.2.1.2;have c:=h1.2.1.1
 simp only[dO,cu,x0a,x0b]at a b c
 exact⟨a,b,c⟩
theorem Du{ns:List Nod}{ls:List Lnk}(hv:cq ns ls=true){i:Nat}(hi:i<ns.length):-4194304<=ns[i].ground/\ns[i].ground<=4194304:=by
 have h1:=(Az hv hi).1
 simp only[qd,x0a]at h1
 have a:=h1.1.2
 simpa only[dO,x0a,x0b]using a
theorem mV{ls:List Lnk}{n:Nat}{es:List Edg}(h:ppE ls n es=0):ls.any (fun l=>!decide (l.kind=1))=false:=by
 unfold ppE at h
 split at h
 ·cases h
 ·rename_i h1;simpa using h1
variable{C:CC}(hC:al prog C)
include hC
theorem I6(x:Int):C 606 [.int .i64 x] (.bool (tL x)) []:=by
 refine start hC (nf:=N606) rfl rfl ?_
 simp[N606]
 refine aa (ij hC x 0 1099511627776) (.inl rfl) ?_
 simp[tL]
set_option maxHeartbeats 2000000 in
theorem rk(hS:SlC C)(hL:uj C)(b1 b2 b3 b4:Bool)(ns:List Nod)(ls:List Lnk)(ss:List Sec)(q:List Int)(cover:Int)(hcv:∀l∈ls,l.curve.length<2^62)(htb:∀s∈ss,s.area.length<2^40/\s.conv.length<2^40)(hq:q.length<2^62) :
  C 565 [.agg [slx b1 (ns.map bz),slx b2 (ls.map aJ)],slx b3 (ss.map aQ),slx b4 (q.map fun x=>[.int .i64 x]),.int .i64 cover] (.tup [.agg (dX (prJ ns ls ss q cover)),.int .i64 (prE ns ls ss q cover)]) []:=by
 have k1:=mE hC b1 b2 ns ls hcv
 have k2:=gP hC b3 ss
 obtain⟨E,hE⟩:∃E,E=prE ns ls ss q cover:=⟨_,rfl⟩
 obtain⟨J,hJ⟩:∃J,J=prJ ns ls ss q cover:=⟨_,rfl⟩
 rw[<- hE,<- hJ]
 have bad:∀x:Int,x≠0->E=x->dX J=[.nils,.nils,.nils,.nils,.nils,.nils]/\E=x:=fun x hx h=>by
  have:J=FE:=by rw[hJ];unfold prJ;rw[if_neg (by rw[<- hE,h];exact hx)]
  rw[this]
  exact⟨wV,h⟩
 refine start hC (nf:=N565) rfl rfl ?_
 simp[N565]
 refine aa k1 (.inl rfl) ?_
 by_cases hv:cq ns ls=true
 ·by_cases hc:aH ss=true
  ·rw[hv]
   simp
   refine aa k2 (.inl rfl) ?_
   rw[hc]
   simp
   have hu:prE ns ls ss q cover=if ss.length=0 then 14 else if ppE ls ns.length (ah ns ls)≠0 then ppE ls ns.length (ah ns ls) else if q.length≠ls.length then 3
     else if (!(decide (0<=cover)&&decide (cover<=4194304))||q.any tL) then 2 else if (ppL ns.length (ah ns ls)).any (iz ns (ah ns ls) ls cover) then 23 else 0:=by
    unfold prE;rw[if_neg (by simp[hv,hc])]
   have hE0:=hE
   rw[hu]at hE
   clear hu
   have k3:=vA hC hS b1 b2 ns ls hcv hv
   have k4:=mq hC (b:=b4) (xs:=q) (g:=606) (cs:=[]) tL hq (fun x _=>I6 hC x)
   have k5:=jD hC b1 b2 ns ls hcv
   rw[if_pos hv]at k5
   have k6:=l8 hC hL
   have k7:=ij hC cover 0 4194304
   obtain⟨hnl,hll⟩:=cC hv
   have hg:=fS hv
   have hel:=bT ns ls
   have hss:ss.length<=40:=by simp only[aH,x0a,x0b]at hc;omega
   by_cases h1:ss=[]
   ·have hE1:E=14:=by rw[hE,if_pos (by simp[h1])]
    obtain⟨e1,e2⟩:=bad 14 (by decide) hE1
    rw[e1,e2]
    simp[h1]
   rw[if_neg (by simpa using h1)]at hE
   simp[h1]
   refine aa k3 (.inr rfl) ?_
   by_cases h2:ppE ls ns.length (ah ns ls)=0
   ·rw[h2]
    rw[if_neg (by simp[h2])]at hE
    simp
    by_cases h3:q.length=ls.length
    ·rw[if_neg (by simp[h3])]at hE
     simp[h3]
     refine aa k7 (.inl rfl) ?_
     simp
     by_cases h4:(0<=cover/\cover<=4194304)
     ·simp[h4.1,h4.2]
      refine aa k4 (.inl rfl) ?_
      by_cases h5:q.any tL=true
      ·have hE1:E=2:=by rw[hE,if_pos (by simp[h5])]
       obtain⟨e1,e2⟩:=bad 2 (by decide) hE1
       rw[e1,e2,h5]
       simp
      rw[x0U]at h5
      rw[if_neg (by simp[h5,h4.1,h4.2])]at hE
      rw[h5]
      simp
      refine aa k5 (.inr rfl) ?_
      have eV:ppV ls ns.length (ah ns ls)=ppL ns.length (ah ns ls):=by unfold ppV;rw[if_pos h2]
      have eW:ppW ls ns.length (ah ns ls)=ppB ns.length (ah ns ls):=by unfold ppW;rw[if_pos h2]
      rw[eV,eW]
      simp
      refine qM (ds:=[.sl (cH (ppB ns.length (ah ns ls))),.nils,.nils,.nils,.nils,.nils]) (b:=10240) (i:=0) (off:=0) (sz:=6) (es:=[[.own 1 [],.own 1 [],.own 1 [],.own 1 [],.own 1 [],.own 5 []]]) (r:=[.own 1 [],.own 1 [],.own 1 [],.own 1 [],.own 1 [],.own 5 []]) (by simp) (by simp[aA]) rfl rfl (by simp) (by simp) rfl (by simp) ?_
      simp[dQ,xa]
      refine ay Nat (fun j=>[(2,slx b4 (q.map fun x=>[.int .i64 x])),(3,.int .i64 cover),(4,.ptr [slx b1 (ns.map bz),slx b2 (ls.map aJ)]),(8,.adr (.r 10128) 0 0),(10,.sl (bg (ppL ns.length (ah ns ls)))),(13,.sl ((ah ns ls).map edK)),(15,.adr (.r 10240) 0 0),(75,slx b3 (ss.map aQ)),(76,.int .i64 ss.length),(77,.int .i64 j),(10128,.blk 6 [[.own 1 [],.own 1 [],.own 1 [],.own 1 [],.own 1 [],.own 5 []]]),(10240,.blk 6 [[.sl (cH (ppB ns.length (ah ns ls))),.own 1 [],.own 1 [],.own 1 [],.own 1 [],.own 5 (m6 ss j)]])]) (fun j=>j<=ss.length) (fun j=>ss.length-j) 0 (by simp) (by simp[AY]) ?_
      intro j hj
      simp
      refine ab (fun h=>?_) (fun h=>?_)<;>simp at h
      ·have hw:IntKind.wrap .i64 ((j:Int)+1)=((j+1:Nat):Int):=wrap_i64 (by omega) (by omega)
       have ht:=AX h
       have hlen:=DT hj
       have ha:=k6 ss[j].areaN ss[j].area (htb _ (x0h h)).1
       have hb:=k6 ss[j].convN ss[j].conv (htb _ (x0h h)).2
       have hc1:=DS ss j
       have htk:List.take j (m6 ss j)=m6 ss j:=x0i (by omega)
       have hb2:(j+1)*80<=140737488355328:=by omega
       rcases qL ss[j].areaN (ss[j].area.map knD)with e|e<;>rcases qL ss[j].convN (ss[j].conv.map knD)with e'|e'
       all_goals
        rw[e]at ha
        rw[e']at hb
        simp[h,aQ,e,e']
        refine aa ha (.inr rfl) ?_
        simp
        refine aa hb (.inr rfl) ?_
        simp[aQ,e,e']at ht
        simp[hlen,hb2,htk]
        refine⟨aw (by decide +kernel),fun e he=>by rcases he with he|rfl;exact hc1 e he;simp[aA],j+1,by omega,by omega,hw,?_⟩
        rw[ht]
      ·have ej:j=ss.length:=by omega
       subst ej
       have hkd:=mV h2
       have eB:ppB ns.length (ah ns ls)=(ppL ns.length (ah ns ls)).map (iC (ah ns ls) (ppL ns.length (ah ns ls))):=rfl
       have hVl:(ppL ns.length (ah ns ls)).length<=300:=x09 (kV _ _) (x09 (iW _ _) hnl)
       have hVlt:∀l∈ppL ns.length (ah ns ls),l<ls.length:=fun l hl=>by rw[<- hel];exact lH hl
       have eJ:E=0->J=bL ns (ah ns ls) ls ss q cover (ppL ns.length (ah ns ls)):=fun h=>by
        have h':prE ns ls ss q cover=0:=by rw[<- hE0];exact h
        rw[hJ];unfold prJ;rw[if_pos h']
       clear hJ k3
       generalize hVd:ppL ns.length (ah ns ls)=V at *
       generalize ppB ns.length (ah ns ls)=B at *
       generalize hes:ah ns ls=es at *
       simp[aY,DR]
       refine ay Nat (fun k=>[(2,slx b4 (q.map fun x=>[.int .i64 x])),(3,.int .i64 cover),(4,.ptr [slx b1 (ns.map bz),slx b2 (ls.map aJ)]),(8,.adr (.r 10128) 0 0),(13,.sl (es.map edK)),(15,.adr (.r 10240) 0 0),(96,.sl (bg V)),(97,.int .i64 V.length),(98,.int .i64 k),(10128,.blk 6 [[.own 1 [],.own 1 [],.own 1 [],.own 1 [],.own 1 [],.own 5 []]]),
        (10240,.blk 6 [[.sl (cH B),.own 1 (jx (lnF ls) V k),.own 1 (jx (qvF q) V k),.own 1 (jx (pFa ls) V k),.own 1 (jx (pRm ns es ls cover) V k),.own 5 (ss.map aQ)]])]) (fun k=>k<=V.length/\∀j (hj:j<V.length),j<k->iz ns es ls cover V[j]=false) (fun k=>V.length-k) 0 ⟨by omega,by omega⟩ (by simp[zW]) ?_
       rintro k ⟨hk,hok⟩
       simp
       refine ab (fun h=>?_) (fun h=>?_)<;>simp at h
       ·have hw:IntKind.wrap .i64 ((k:Int)+1)=((k+1:Nat):Int):=wrap_i64 (by omega) (by omega)
        have hi:=hVlt _ (x0h h)
        have hie:V[k]<es.length:=by omega
        obtain⟨g1,g2⟩:=hg _ (x0h hie)
        obtain⟨p1,p2,p3⟩:=tJ hv hkd hi
        have n1:=Du hv g1
        have n2:=Du hv g2
        simp[h,aD (ga h),hi,hie,edK,knD,g1,g2,aJ,bz,nJ]
        have wf:IntKind.wrap .i64 (ls[V[k]].up-ls[V[k]].down)=pFa ls V[k]:=wrap_i64 (by unfold pFa;rw[x0c ls _ hi]) (by unfold pFa;rw[x0c ls _ hi];omega)
        have w1:IntKind.wrap .i64 (ns[es[V[k]].1].ground-ls[V[k]].up)=ns[es[V[k]].1].ground-ls[V[k]].up:=wrap_i64 rfl (by omega)
        have w2:IntKind.wrap .i64 (ns[es[V[k]].2].ground-ls[V[k]].down)=ns[es[V[k]].2].ground-ls[V[k]].down:=wrap_i64 rfl (by omega)
        have hmn:-8388608<=mnI (ns[es[V[k]].1].ground-ls[V[k]].up) (ns[es[V[k]].2].ground-ls[V[k]].down)/\mnI (ns[es[V[k]].1].ground-ls[V[k]].up) (ns[es[V[k]].2].ground-ls[V[k]].down)<=8388608:=by
         unfold mnI;split<;>omega
        have w3:IntKind.wrap .i64 (mnI (ns[es[V[k]].1].ground-ls[V[k]].up) (ns[es[V[k]].2].ground-ls[V[k]].down)-cover)=mnI (ns[es[V[k]].1].ground-ls[V[k]].up) (ns[es[V[k]].2].ground-ls[V[k]].down)-cover:=wrap_i64 rfl (by omega)
        have er:(if 0<mnI (ns[es[V[k]].1].ground-ls[V[k]].up) (ns[es[V[k]].2].ground-ls[V[k]].down)-cover then mnI (ns[es[V[k]].1].ground-ls[V[k]].up) (ns[es[V[k]].2].ground-ls[V[k]].down)-cover else 0)=pRm ns es ls cover V[k]:=by
         unfold pRm
         rw[x0c ls _ hi,x0c es _ hie,x0c ns _ g1,x0c ns _ g2]
        have emn:(if ns[es[V[k]].2].ground-ls[V[k]].down<ns[es[V[k]].1].ground-ls[V[k]].up then ns[es[V[k]].2].ground-ls[V[k]].down else ns[es[V[k]].1].ground-ls[V[k]].up)=mnI (ns[es[V[k]].1].ground-ls[V[k]].up) (ns[es[V[k]].2].ground-ls[V[k]].down):=rfl
        rw[wf,w1,w2,emn,w3,er]
        refine⟨aw (by decide +kernel),aw (by decide +kernel),?_⟩
        refine aa (ij hC (pFa ls V[k]) 0 4194304) (.inl rfl) ?_
        simp
        have bad23:iz ns es ls cover V[k]=true->E=23:=fun hb=>by
         rw[hE,if_pos (x1e.2 ⟨_,x0h h,hb⟩)]
        by_cases hb1:0<=pFa ls V[k]/\pFa ls V[k]<=4194304
        ·by_cases hb2:4194304<pRm ns es ls cover V[k]
         ·obtain⟨e1,e2⟩:=bad 23 (by decide) (bad23 (by simp[iz,hb2]))
          rw[e1,e2]
          simp[hb1.1,hb1.2,hb2]
         ·have hnb:iz ns es ls cover V[k]=false:=by simp[iz,hb1.1,hb1.2,hb2]
          have c1:=jL (f:=lnF ls) hk
          have c2:=jL (f:=qvF q) hk
          have c3:=jL (f:=pFa ls) hk
          have c4:=jL (f:=pRm ns es ls cover) hk
          have s1:=kG (f:=lnF ls) h
          have s2:=kG (f:=qvF q) h
          have s3:=kG (f:=pFa ls) h
          have s4:=kG (f:=pRm ns es ls cover) h
          have t1:=kH (f:=lnF ls) hk
          have t2:=kH (f:=qvF q) hk
          have t3:=kH (f:=pFa ls) hk
          have t4:=kH (f:=pRm ns es ls cover) hk
          have hqi:V[k]<q.length:=by omega
          have hqv:q[V[k]]=qvF q V[k]:=by unfold qvF;rw[x0c q _ hqi]
          have hlv:ls[V[k]].len=lnF ls V[k]:=by unfold lnF;rw[x0c ls _ hi]
          have hb8:(k+1)*8<=140737488355328:=by omega
          have cc:∀(f:Nat->Int) (x:Int),∀e,e∈jx f V k\/e=[D.int .i64 x]->∀c∈e,aA c=true:=by
           rintro f x e (he|rfl)
           ·exact Ca _ _ _ e he
           ·simp[aA]
          simp[hb1.1,hb1.2,hb2,aD (ga h),hqi,c1,c2,c3,c4,t1,t2,t3,t4,hb8]
          refine⟨cc _ _,cc _ _,aw (by decide +kernel),cc _ _,cc _ _,aw (by decide +kernel),?_⟩
          refine⟨k+1,⟨by omega,fun j hj hjk=>by rcases x0y.1 hjk with h8|rfl;exact hok j hj h8;exact hnb⟩,by omega,hw,?_⟩
          rw[s1,s2,s3,s4,hqv,hlv]
          exact⟨rfl,rfl,rfl,rfl⟩
        ·obtain⟨e1,e2⟩:=bad 23 (by decide) (bad23 (by simp only[iz];rw[x0u];left;rw[x0t,x0W];simp only[x0x];omega))
         rw[e1,e2]
         by_cases hb3:0<=pFa ls V[k]
         ·have hb4:¬pFa ls V[k]<=4194304:=fun h7=>hb1 ⟨hb3,h7⟩
          simp[hb3,hb4]
         ·simp[hb3]
       ·have ek:k=V.length:=by omega
        subst ek
        have hnb:V.any (iz ns es ls cover)=false:=by
         rw[x0E]
         intro x hx
         obtain⟨j,hj,rfl⟩:=x0P hx
         simpa using hok j hj hj
        have hE1:E=0:=by rw[hE,if_neg (by rw[hnb];decide)]
        rw[eJ hE1,hE1]
        simp[h,BZ]
        unfold bL dX slI
        simp only[dc]
        rw[eB]
        rfl
     ·have hE1:E=2:=by rw[hE,if_pos (by rw[x0u];left;rw[x0t,x0W];simp only[x0x];omega)]
      obtain⟨e1,e2⟩:=bad 2 (by decide) hE1
      rw[e1,e2]
      by_cases h6:0<=cover
      ·have h7:¬cover<=4194304:=fun h7=>h4 ⟨h6,h7⟩
       simp[h6,h7]
      ·simp[h6]
    ·have hE1:E=3:=by rw[hE,if_pos (by simp[h3])]
     obtain⟨e1,e2⟩:=bad 3 (by decide) hE1
     rw[e1,e2]
     have h3':¬(q.length:Int)=(ls.length:Int):=by omega
     simp[h3']
   ·have hE1:E=ppE ls ns.length (ah ns ls):=by rw[hE,if_pos (by simp[h2])]
    obtain⟨e1,e2⟩:=bad _ h2 hE1
    rw[e1,<- e2]
    rw[<- e2]at h2
    simp[h2]
  ·have hE1:E=1:=by rw[hE];unfold prE;rw[if_pos (by simp[hc])]
   obtain⟨e1,e2⟩:=bad 1 (by decide) hE1
   rw[hv,e1,e2]
   simp
   refine aa k2 (.inl rfl) ?_
   simp[hc]
 ·have hE1:E=1:=by rw[hE];unfold prE;rw[if_pos (by simp[hv])]
  obtain⟨e1,e2⟩:=bad 1 (by decide) hE1
  rw[x0U]at hv
  rw[hv,e1,e2]
  simp
end Go.Gv

namespace Go.Gv
def bZ(j:Job)(i s:Nat):Bool:=((dB j.secs[s]! j.falls.l[i]! j.lengths.l[i]!).2==5||((dB j.secs[s]! j.falls.l[i]! j.lengths.l[i]!).2==0&&decide (j.flows.l[i]!<=(dB j.secs[s]! j.falls.l[i]! j.lengths.l[i]!).1)))&&decide (j.secs[s]!.height<=j.room.l[i]!)
def aI(j:Job)(i:Nat):List Nat:=(List.range j.below.l.length).filter fun a=>decide (j.below.l[a]! =(i:Int))
def bl(b:Bool):List D:=[.bool b]
def it(n:Nat):List D:=[.int .i64 (n:Int)]
def mU(j:Job)(i:Nat):List D:=[.sl ((List.range j.secs.length).map fun s=>bl (bZ j i s))]
def pw(j:Job)(i:Nat):List D:=[.sl ((aI j i).map it)]
def dH(j:Job):D:=.ptr (dX j++[.sl ((List.range j.below.l.length).map (mU j)),.sl ((List.range j.below.l.length).map (pw j))])
@[simp] theorem Ko{j}:isV (dH j)=true:=zR
@[simp] theorem Km{j}:isS (dH j)=true:=zR
@[simp] theorem Hc{j}:gm (dH j)=false:=zR
@[simp] theorem FM{j}:bV (dH j)=[]:=zR
@[simp] theorem Mf{f:Nat->D}{j}:dp f (dH j)=(dH j):=zR
@[simp] theorem H9{f:Nat->D}{j}:bW f (dH j)=True:=zR
@[simp] theorem Hf{ks}{j}:bu ks (dH j)=(dH j):=by unfold dH;exact Aq
theorem bf{j}:dH j=.ptr (dX j++[.sl ((List.range j.below.l.length).map (mU j)),.sl ((List.range j.below.l.length).map (pw j))]):=zR
theorem aB{j}:dX j=[slI j.below,slI j.lengths,slI j.flows,slI j.falls,slI j.room,slx j.secN (j.secs.map aQ)]:=zR
theorem gD{s}:aQ s=[.str s.name,.int .i64 s.height,.int .i64 s.price,slx s.areaN (s.area.map knD),slx s.convN (s.conv.map knD)]:=zR
def c7(ok:Nat->Bool)(vs:List Int)(b:Int×Int)(s:Nat):Int×Int:=if vs[s]!≠-1/\ok s=true/\(b.1=-1\/vs[s]!<b.1) then(vs[s]!,(s:Int)) else b
def gV(ok:Nat->Bool)(vs:List Int):Int×Int:=(List.range vs.length).foldl (c7 ok vs) (-1,-1)
def okF(j:Job)(pipe:Nat)(height:Int)(s:Nat):Bool:=bZ j pipe s&&decide (j.secs[s]!.height<=height)
variable{C:CC}(hC:al prog C)
include hC
theorem tr(j:Job)(b:Bool)(vs:List Int)(pipe:Nat)(height:Int)(hp:pipe<j.below.l.length)(hv:vs.length<=j.secs.length)(hs:j.secs.length<2^62) :
  C 40 [dH j,slx b (vs.map fun n=>[.int .i64 n]),.int .i64 pipe,.int .i64 height] (.tup [.int .i64 (gV (okF j pipe height) vs).1,.int .i64 (gV (okF j pipe height) vs).2]) []:=by
 obtain⟨r,hr⟩:∃r,r=gV (okF j pipe height) vs:=⟨_,rfl⟩
 rw[<- hr]
 refine start hC (nf:=N40) rfl rfl ?_
 simp[N40]
 refine ay (Nat×Int×Int) (fun s=>[(0,dH j),(2,.int .i64 pipe),(3,.int .i64 height),(10,.int .i64 s.2.1),(11,.int .i64 s.2.2),(14,slx b (vs.map fun n=>[.int .i64 n])),(15,.int .i64 vs.length),(16,.int .i64 s.1)])
  (fun s=>s.1<=vs.length/\s.2=(List.range s.1).foldl (c7 (okF j pipe height) vs) (-1,-1)) (fun s=>vs.length-s.1) (0,-1,-1) (by simp) (by simp) ?_
 rintro⟨i,best,at_⟩ ⟨hi,hst⟩
 simp only at hi hst
 simp
 refine ab (fun h=>?_) (fun h=>?_)<;>simp at h<;>simp[h]
 ·have hw:IntKind.wrap .i64 ((i:Int)+1)=((i+1:Nat):Int):=wrap_i64 (by omega) (by omega)
  have his:i<j.secs.length:=by omega
  have hstep:(List.range (i+1)).foldl (c7 (okF j pipe height) vs) (-1,-1)=c7 (okF j pipe height) vs (best,at_) i:=by
   rw[List.range_succ,List.foldl_append,<- hst];rfl
  have eo:okF j pipe height i=(bZ j pipe i&&decide (j.secs[i].height<=height)):=by simp only[okF,x0c j.secs i his]
  simp only[c7,x0c vs i h,eo]at hstep
  have next:∀(x y:Int),(x,y)=(List.range (i+1)).foldl (c7 (okF j pipe height) vs) (-1,-1)->∃a a_1 b_1,(a<=vs.length/\(a_1,b_1)=(List.range a).foldl (c7 (okF j pipe height) vs) (-1,-1))/\vs.length-a<vs.length-i/\x=a_1/\y=b_1/\(i:Int)+1=(a:Int):=fun x y e=>⟨i+1,x,y,⟨by omega,e⟩,by omega,rfl,rfl,rfl⟩
  refine ab (fun c1=>?_) (fun c1=>?_)<;>simp[h]at c1<;>simp[c1,h,bf,aB,hp,mU,his,bl,gD,hw]
  ·refine ab (fun c2=>?_) (fun c2=>?_)<;>simp[c1,c2,h,bf,aB,hp,mU,his,bl,gD,hw]
   ·refine ab (fun c3=>?_) (fun c3=>?_)<;>simp at c3<;>simp[c1,c2,c3,h,bf,aB,hp,mU,his,bl,gD,hw]
    ·refine ab (fun c4=>?_) (fun c4=>?_)<;>simp at c4<;>simp[c1,c2,c3,c4,hw,bf,aB]
     ·exact next vs[i] i (by rw[hstep];simp[c1,c2,c3,c4])
     ·refine ab (fun c5=>?_) (fun c5=>?_)<;>simp at c5<;>simp[c1,c2,c3,c4,c5,hw,bf,aB]
      ·exact next vs[i] i (by rw[hstep];simp[c1,c2,c3,c4,c5])
      ·exact next best at_ (by rw[hstep];simp[c1,c2,c3,c4,show ¬vs[i]<best by omega])
    ·exact next best at_ (by rw[hstep];simp[c1,c2,show ¬j.secs[i].height<=height by omega])
   ·exact next best at_ (by rw[hstep];simp[c1,c2])
  ·exact next best at_ (by rw[hstep];simp[c1])
 ·have:i=vs.length:=by omega
  subst this
  rw[hr,gV,<- hst]
  simp
end Go.Gv

namespace Go.Gv
def i4(v:Nat->Int):List Nat->Int->Option Int
 | [],s=>some s
 | a::l,s=>if v a=-1 then none else i4 v l (IntKind.wrap .i64 (s+v a))
def lv(j:Job)(val:Nat->List Int)(h:Int)(a:Nat):Int:=(gV (okF j a h) (val a)).1
def iN(j:Job)(val:Nat->List Int)(i s:Nat):Int:=(i4 (lv j val j.secs[s]!.height) (aI j i) (IntKind.wrap .i64 (j.lengths.l[i]!*j.secs[s]!.price))).getD (-1)
def iY(vals:List SlI)(a:Nat):List Int:=vals[a]!.l
theorem dx{j:Job}{i a:Nat}(h:a∈aI j i):a<j.below.l.length:=by
 simp only[aI,x1n,x0M]at h
 exact h.1
theorem ro(j:Job)(i:Nat):(aI j i).length<=j.below.l.length:=by
 have:=x08 (fun a=>decide (j.below.l[a]! =(i:Int))) (List.range j.below.l.length)
 simpa[aI]using this
def db(j:Job):List Nat:=(List.range j.below.l.length).filter fun a=>decide (j.below.l[a]! = -1)
def lw(j:Job)(val:Nat->List Int):Int:=(i4 (lv j val 4194304) (db j) 0).getD (-1)
variable{C:CC}(hC:al prog C)
include hC
theorem H6(j:Job)(b:Bool)(vals:List SlI)(pipe s:Nat)(hp:pipe<j.below.l.length)(hl:pipe<j.lengths.l.length)(hs:s<j.secs.length)(hn:j.below.l.length<2^62)(hm:j.secs.length<2^62)(hva:∀a∈aI j pipe,a<vals.length/\vals[a]!.l.length<=j.secs.length) :
  C 31 [dH j,slx b (vals.map fun r=>[slI r]),.int .i64 pipe,.int .i64 s] (.int .i64 (iN j (iY vals) pipe s)) []:=by
 obtain⟨r,hr⟩:∃r,r=iN j (iY vals) pipe s:=⟨_,rfl⟩
 rw[<- hr]
 have hal:=ro j pipe
 refine start hC (nf:=N31) rfl rfl ?_
 simp[N31]
 simp[bf,aB,hp,hl,hs,gD,pw]
 refine⟨aw (by decide +kernel),?_⟩
 refine ay (Nat×Int) (fun s'=>[(0,dH j),(1,slx b (vals.map fun r=>[slI r])),(3,.int .i64 s),(9,.int .i64 s'.2),(38,.sl ((aI j pipe).map it)),(39,.int .i64 (aI j pipe).length),(40,.int .i64 s'.1)])
  (fun s'=>s'.1<=(aI j pipe).length/\(i4 (lv j (iY vals) j.secs[s].height) ((aI j pipe).drop s'.1) s'.2).getD (-1)=r) (fun s'=>(aI j pipe).length-s'.1) (0,IntKind.wrap .i64 (j.lengths.l[pipe]*j.secs[s].price)) ⟨by simp,?_⟩ (by simp[bf,aB]) ?_
 ·rw[hr,iN,x0c j.secs s hs,x0c j.lengths.l pipe hl];rfl
 rintro⟨k,sum⟩ ⟨hk,hsum⟩
 simp only at hk hsum
 simp
 refine ab (fun h=>?_) (fun h=>?_)<;>simp at h<;>simp[h]
 ·have hw:IntKind.wrap .i64 ((k:Int)+1)=((k+1:Nat):Int):=wrap_i64 (by omega) (by omega)
  obtain⟨a,ha⟩:∃a,a=(aI j pipe)[k]:=⟨_,rfl⟩
  have hmem:a∈aI j pipe:=ha▸x0h h
  obtain⟨ha1,ha2⟩:=hva a hmem
  have hd:(aI j pipe).drop k=a::(aI j pipe).drop (k+1):=by rw[ha,List.drop_eq_getElem_cons h]
  rw[hd,i4]at hsum
  rw[x0c vals a ha1]at ha2
  have hlc:=tr hC j vals[a].n vals[a].l a j.secs[s].height (dx hmem) ha2 hm
  have ev:(gV (okF j a j.secs[s].height) vals[a].l).1=lv j (iY vals) j.secs[s].height a:=by simp only[lv,iY,x0c vals a ha1]
  rw[ev]at hlc
  simp[h,it,<- ha,ha1]
  simp[bf,aB,hp,hl,hs,gD,h,it,<- ha,ha1]
  simp[bf,aB]at hlc
  refine aa hlc (.inl rfl) ?_
  simp
  refine⟨aw (by decide +kernel),?_⟩
  refine ab (fun c=>?_) (fun c=>?_)<;>simp at c<;>simp[c,hw,bf,aB]
  ·rw[if_pos c]at hsum
   simp at hsum
   exact hsum
  ·rw[if_neg c]at hsum
   exact⟨k+1,_,⟨by omega,hsum⟩,by omega,rfl,rfl⟩
 ·have hk':k=(aI j pipe).length:=by omega
  subst hk'
  simp[i4]at hsum
  simp[hsum]
theorem EM(j:Job)(b:Bool)(vals:List SlI)(hn:j.below.l.length<2^62)(hm:j.secs.length<2^62)(hva:∀a∈db j,a<vals.length/\vals[a]!.l.length<=j.secs.length) :
  C 32 [dH j,slx b (vals.map fun r=>[slI r])] (.int .i64 (lw j (iY vals))) []:=by
 obtain⟨r,hr⟩:∃r,r=lw j (iY vals):=⟨_,rfl⟩
 rw[<- hr]
 refine start hC (nf:=N32) rfl rfl ?_
 simp[N32]
 simp[bf,aB]
 refine ay (Nat×Int) (fun s'=>[(0,dH j),(1,slx b (vals.map fun r=>[slI r])),(5,.int .i64 s'.2),(14,slI j.below),(15,.int .i64 j.below.l.length),(16,.int .i64 s'.1)])
  (fun s'=>s'.1<=j.below.l.length/\(i4 (lv j (iY vals) 4194304) (((List.range j.below.l.length).drop s'.1).filter fun a=>decide (j.below.l[a]! = -1)) s'.2).getD (-1)=r) (fun s'=>j.below.l.length-s'.1) (0,0) ⟨by simp,?_⟩ (by simp[bf,aB]) ?_
 ·rw[hr,lw];rfl
 rintro⟨k,sum⟩ ⟨hk,hsum⟩
 simp only at hk hsum
 simp
 refine ab (fun h=>?_) (fun h=>?_)<;>simp at h<;>simp[h]
 ·have hw:IntKind.wrap .i64 ((k:Int)+1)=((k+1:Nat):Int):=wrap_i64 (by omega) (by omega)
  have hd:(List.range j.below.l.length).drop k=k::(List.range j.below.l.length).drop (k+1):=by rw[List.drop_eq_getElem_cons (by simpa using h)];simp
  rw[hd,List.filter_cons,x0c j.below.l k h]at hsum
  refine ab (fun c1=>?_) (fun c1=>?_)<;>simp[h]at c1<;>simp[c1,hw,h]
  ·simp[c1]at hsum
   exact⟨k+1,sum,⟨by omega,by simpa using hsum⟩,by omega,rfl,rfl⟩
  ·have hmem:k∈db j:=by simp[db,h,c1]
   obtain⟨ha1,ha2⟩:=hva k hmem
   rw[x0c vals k ha1]at ha2
   have hlc:=tr hC j vals[k].n vals[k].l k 4194304 h ha2 hm
   have ev:(gV (okF j k 4194304) vals[k].l).1=lv j (iY vals) 4194304 k:=by simp only[lv,iY,x0c vals k ha1]
   rw[ev]at hlc
   simp only[c1,decide_true,if_true,i4]at hsum
   simp[bf,aB,h,ha1]
   simp[bf,aB]at hlc
   refine aa hlc (.inl rfl) ?_
   simp
   refine ab (fun c=>?_) (fun c=>?_)<;>simp at c<;>simp[c,hw,bf,aB]
   ·rw[if_pos c]at hsum
    simp at hsum
    exact hsum
   ·rw[if_neg c]at hsum
    exact⟨k+1,_,⟨by omega,by simpa using hsum⟩,by omega,rfl,rfl⟩
 ·have hk':k=j.below.l.length:=by omega
  subst hk'
  rw[List.drop_of_length_le (by simp)]at hsum
  simp[i4]at hsum
  exact hsum
end Go.Gv

namespace Go.Gv
def qC(j:Job)(val:Nat->List Int)(i:Nat):List Int:=(List.range j.secs.length).map fun s=>if bZ j i s then iN j val i s else -1
def iJ(j:Job):Nat->List (List Int)
 | 0=>[]
 | i+1=>iJ j i++[qC j (fun a=>(iJ j i)[a]!) i]
def Em(j:Job):List (List Int):=iJ j j.below.l.length
def aM(j:Job)(a:Nat):List Int:=(Em j)[a]!
def slR(r:List Int):List D:=[.sl (r.map fun v=>[.int .i64 v])]
def gr(j:Job):D:=.sl ((List.range j.below.l.length).map fun a=>slR (aM j a))
theorem jq(j:Job):∀i,(iJ j i).length=i
 | 0=>rfl
 | i+1=>by simp[iJ,jq j i]
theorem ii(j:Job)(a:Nat):∀i,a<i->(iJ j i)[a]! = qC j (fun b=>(iJ j a)[b]!) a
 | 0,h=>by omega
 | i+1,h=>by
  have hl:=jq j i
  by_cases e:a=i
  ·subst e
   rw[x0c _ a (by rw[jq];omega)]
   simp only[iJ]
   rw[List.getElem_append_right (by omega)]
   simp[hl]
  ·have:=ii j a i (by omega)
   rw[x0c _ a (by rw[jq];omega)]at this ⊢
   simp only[iJ]
   rw[List.getElem_append_left (by omega)]
   exact this
theorem lO{v v':Nat->Int}:∀{l:List Nat} {s:Int},(∀a∈l,v a=v' a)->i4 v l s=i4 v' l s
 | [],s,_=>rfl
 | a::l,s,h=>by
  simp only[i4]
  rw[h a (by simp),lO (fun b hb=>h b (by simp[hb]))]
theorem ol{j:Job}{val val':Nat->List Int}{i s:Nat}(h:∀a∈aI j i,val a=val' a):iN j val i s=iN j val' i s:=by
 unfold iN
 rw[lO (v':=lv j val' j.secs[s]!.height) (fun a ha=>by simp only[lv,h a ha])]
theorem dj{j:Job}(hv:am j=true){i:Nat}(hi:i<j.below.l.length):j.below.l[i]! = -1\/((i:Int)<j.below.l[i]!/\j.below.l[i]!<j.below.l.length):=by
 simp only[am,x0a,x0f,x0M]at hv
 have:=hv.2 i hi
 simp only[eA,x0a,x0u,x0r,x0b]at this
 exact this.1.1.1.1
theorem gO{j:Job}(hv:am j=true){i a:Nat}(h:a∈aI j i):a<i:=by
 have h1:=dx h
 simp only[aI,x1n,x0b]at h
 rcases dj hv h1 with h2|h2<;>omega
theorem yW{j:Job}(hv:am j=true){i:Nat}(hi:i<j.below.l.length):aM j i=qC j (aM j) i:=by
 unfold aM Em
 rw[ii j i _ hi]
 unfold qC
 refine x0j fun s _=>?_
 rw[ol (val':=fun a=>(iJ j j.below.l.length)[a]!)]
 intro a ha
 have h1:=gO hv ha
 rw[ii j a i h1,ii j a _ (by omega)]
theorem gi{j:Job}{i:Nat}(hi:i<j.below.l.length):(aM j i).length=j.secs.length:=by
 unfold aM Em
 rw[ii j i _ hi]
 simp[qC]
theorem fT{α:Type}(F:Nat->α)(n i:Nat)(x:α):((List.range n).map F).set i x=(List.range n).map (fun k=>if k=i then x else F k):=by
 apply x1J
 ·simp
 ·intro k h1 h2
  simp only[List.getElem_set,x0Q,List.getElem_range]
  by_cases e:i=k
  ·subst e;simp
  ·rw[if_neg e,if_neg (Ne.symm e)]
theorem gk{α:Type}(n:Nat)(x:α):List.replicate n x=(List.range n).map fun _=>x:=by
 apply x1J<;>simp
def j5(j:Job)(i s k:Nat):List Int:=if k<i then aM j k else if k=i then(aM j i).take s else []
def xd(j:Job)(i s:Nat):D:=.blk 1 ((List.range j.below.l.length).map fun k=>[.own 1 ((j5 j i s k).map fun v=>[.int .i64 v])])
theorem mO{j i s}:xd j i s=.blk 1 ((List.range j.below.l.length).map fun k=>[.own 1 ((j5 j i s k).map fun v=>[.int .i64 v])]):=zR
theorem AH{j:Job}{i s:Nat}(hi:i<j.below.l.length)(hs:s<j.secs.length) :
  D.blk 1 (((List.range j.below.l.length).map fun k=>[D.own 1 ((j5 j i s k).map fun v=>[.int .i64 v])]).set i [.own 1 (((j5 j i s i).map fun v=>[.int .i64 v])++[[.int .i64 ((aM j i)[s]!)]])])=xd j i (s+1):=by
 rw[mO,fT]
 congr 1
 refine x0j fun k _=>?_
 by_cases e:k=i
 ·subst e
  rw[if_pos rfl]
  have hl:s<(aM j k).length:=by rw[gi hi];exact hs
  simp only[j5,Nat.lt_irrefl,if_false,if_true]
  rw[x0c _ s hl,x0m hl,x1d]
  rfl
 ·rw[if_neg e]
  simp only[j5,if_neg e]
theorem AG{j:Job}{i:Nat}:xd j i j.secs.length=xd j (i+1) 0:=by
 rw[mO,mO]
 congr 1
 refine x0j fun k hk=>?_
 have hk:k<j.below.l.length:=by simpa using hk
 congr 3
 unfold j5
 by_cases e:k=i
 ·subst e
  rw[if_neg (by omega),if_pos rfl,if_pos (by omega),x0i (by rw[gi hk];exact x0k _)]
 ·by_cases e2:k<i
  ·rw[if_pos e2,if_pos (by omega)]
  ·rw[if_neg e2,if_neg e,if_neg (by omega)]
   split<;>simp
theorem ye{xs:List Int}{v:Int}(e:List D)(h:(∃a,a∈xs/\[D.int .i64 a]=e)\/e=[D.int .i64 v])(c:D)(hc:c∈e):aA c=true:=by
 rcases h with ⟨n,_,rfl⟩|rfl
 ·simp at hc;subst hc;rfl
 ·simp at hc;subst hc;rfl
variable{C:CC}(hC:al prog C)
include hC
theorem En(j:Job)(hv:am j=true):C 39 [dH j] (gr j) []:=by
 have hn:j.below.l.length<=400:=by simp only[am,x0a,x0b]at hv;omega
 have hm:j.secs.length<=40:=by simp only[am,aH,x0a,x0b]at hv;omega
 have hlen:j.lengths.l.length=j.below.l.length:=by simp only[am,x0a,x0b]at hv;omega
 refine start hC (nf:=N39) rfl rfl ?_
 simp[N39]
 simp[bf,aB]
 refine⟨by omega,?_⟩
 refine ay Nat (fun i=>[(0,dH j),(3,.ref (.r 10048) 0 j.below.l.length),(10048,xd j i 0),(15,.int .i64 j.below.l.length),(16,.int .i64 i)])
  (fun i=>i<=j.below.l.length) (fun i=>j.below.l.length-i) 0 (by simp) (by simp[bf,aB,xd,j5,gk]) ?_
 intro i hi
 simp
 refine ab (fun h=>?_) (fun h=>?_)<;>simp at h<;>simp[h]
 ·have hw:IntKind.wrap .i64 ((i:Int)+1)=((i+1:Nat):Int):=wrap_i64 (by omega) (by omega)
  simp[bf,aB]
  refine ay Nat (fun s=>[(0,dH j),(3,.ref (.r 10048) 0 j.below.l.length),(10048,xd j i s),(4,.int .i64 i),(15,.int .i64 j.below.l.length),(16,.int .i64 i),(24,.int .i64 j.secs.length),(25,.int .i64 s)])
   (fun s=>s<=j.secs.length) (fun s=>j.secs.length-s) 0 (by simp) (by simp[bf,aB]) ?_
  intro s hs
  simp
  refine ab (fun h2=>?_) (fun h2=>?_)<;>simp at h2<;>simp[h2]
  ·have hw2:IntKind.wrap .i64 ((s:Int)+1)=((s+1:Nat):Int):=wrap_i64 (by omega) (by omega)
   simp[bf,aB,h,mU,h2,bl]
   have hval:(aM j i)[s]! = if bZ j i s then iN j (aM j) i s else -1:=by
    rw[yW hv h,qC,x0c _ s (by simpa using h2)]
    simp
   have hst:=AH h h2
   have ht:List.take (j5 j i s i).length (List.map (fun n=>[D.int IntKind.i64 n]) (j5 j i s i))=List.map (fun n=>[D.int IntKind.i64 n]) (j5 j i s i):=x0i (by simp)
   have hol:(j5 j i s i).length<=40:=by simp[j5];omega
   refine ab (fun h3=>?_) (fun h3=>?_)<;>simp[h3,mO]
   ·have hc:=H6 hC j false ((List.range j.below.l.length).map fun k=>⟨false,j5 j i s k⟩) i s h (by omega) h2 (by omega) (by omega) (fun a ha=>by
     have h4:=gO hv ha
     have h5:=dx ha
     rw[x0c _ a (by simpa using h5)]
     simp[h5,j5,h4,gi h5])
    rw[ol (val':=aM j) (fun a ha=>by
     have h4:=gO hv ha
     have h5:=dx ha
     rw[iY,x0c _ a (by simpa using h5)]
     simp[j5,h4])]at hc
    rw[h3,if_pos rfl]at hval
    rw[hval]at hst
    simp[bf,aB]at hc
    refine aa (d:=.int .i64 (iN j (aM j) i s)) ?_ (.inl rfl) ?_
    ·rw[x0i (by simp)]
     exact hc
    ·simp[h,ht,hw2]
     exact⟨by omega,ye,s+1,by omega,by omega,by simp[bf,aB],hst,rfl⟩
   ·simp[h,ht,hw2]
    rw[h3,if_neg Bool.false_ne_true]at hval
    rw[hval]at hst
    exact⟨by omega,ye,s+1,by omega,by omega,by simp[bf,aB],hst,rfl⟩
  ·have:s=j.secs.length:=by omega
   subst this
   simp[hw]
   exact⟨i+1,by omega,by omega,AG,rfl⟩
 ·have:i=j.below.l.length:=by omega
  subst this
  simp[mO,gr,slR]
  rw[x0i (by simp)]
  refine x0j fun k hk=>?_
  simp at hk
  simp[j5,hk]
end Go.Gv

namespace Go.Gv
def iy(j:Job)(i:Nat):List Bool:=(List.range j.secs.length).map (bZ j i)
def fG(j:Job)(i s k:Nat):List Bool:=if k<i then iy j k else if k=i then(iy j i).take s else []
def j9(j:Job)(i s:Nat):D:=.blk 1 ((List.range j.below.l.length).map fun k=>[.own 1 ((fG j i s k).map bl)])
def gN(j:Job)(i k:Nat):List Nat:=(List.range i).filter fun a=>decide (j.below.l[a]! =(k:Int))
def lU(j:Job)(i:Nat):D:=.blk 1 ((List.range j.below.l.length).map fun k=>[.own 1 ((gN j i k).map it)])
theorem iX{j i s}:j9 j i s=.blk 1 ((List.range j.below.l.length).map fun k=>[.own 1 ((fG j i s k).map bl)]):=zR
theorem iK{j i}:lU j i=.blk 1 ((List.range j.below.l.length).map fun k=>[.own 1 ((gN j i k).map it)]):=zR
@[simp] theorem OD{j:Job}:List.flatMap bE (dX j)=[]:=by simp[dX]
@[simp] theorem MJ{j:Job}{b:Nat}{all:Bool}:List.any (dX j) (aT b all)=false:=by simp[dX]
@[simp] theorem He{ks j i s}:bu ks (j9 j i s)=j9 j i s:=by unfold j9;exact rQ
@[simp] theorem Hd{ks j i}:bu ks (lU j i)=lU j i:=by unfold lU;exact rQ
@[simp] theorem Kj{j i s}:isB (j9 j i s)=true:=zR
theorem xm{j:Job}{i s:Nat}(hs:s<j.secs.length) :
  D.blk 1 (((List.range j.below.l.length).map fun k=>[D.own 1 ((fG j i s k).map bl)]).set i [.own 1 (((fG j i s i).map bl)++[[.bool (bZ j i s)]])])=j9 j i (s+1):=by
 rw[iX,fT]
 congr 1
 refine x0j fun k _=>?_
 by_cases e:k=i
 ·subst e
  rw[if_pos rfl]
  have hl:s<(iy j k).length:=by simpa[iy]using hs
  simp only[fG,Nat.lt_irrefl,if_false,if_true]
  rw[x0m hl,x1d]
  simp[iy,bl]
 ·rw[if_neg e]
  simp only[fG,if_neg e]
theorem xk{j:Job}{i:Nat}:j9 j i j.secs.length=j9 j (i+1) 0:=by
 rw[iX,iX]
 congr 1
 refine x0j fun k _=>?_
 congr 3
 unfold fG
 by_cases e:k=i
 ·subst e
  rw[if_neg (by omega),if_pos rfl,if_pos (by omega),x0i (by simp[iy])]
 ·by_cases e2:k<i
  ·rw[if_pos e2,if_pos (by omega)]
  ·rw[if_neg e2,if_neg e,if_neg (by omega)]
   split<;>simp
theorem pv{j:Job}{i k:Nat}:gN j (i+1) k=gN j i k++(if j.below.l[i]! =(k:Int) then [i] else []):=by
 unfold gN
 rw[List.range_succ,List.filter_append]
 congr 1
 rw[List.filter_cons,List.filter_nil]
 by_cases e:j.below.l[i]! =(k:Int)
 ·rw[if_pos e,if_pos (by simp only[x0b];exact e)]
 ·rw[if_neg e,if_neg (by simp only[x0b];exact e)]
theorem wh{j:Job}{i:Nat}(h:j.below.l[i]! = -1):lU j i=lU j (i+1):=by
 rw[iK,iK]
 congr 1
 refine x0j fun k _=>?_
 rw[pv,if_neg (by omega),x1M]
theorem wi{j:Job}{i b:Nat}(h:j.below.l[i]! =(b:Int)) :
  D.blk 1 (((List.range j.below.l.length).map fun k=>[D.own 1 ((gN j i k).map it)]).set b [.own 1 (((gN j i b).map it)++[[.int .i64 (i:Int)]])])=lU j (i+1):=by
 rw[iK,fT]
 congr 1
 refine x0j fun k _=>?_
 rw[pv]
 by_cases e:k=b
 ·subst e
  rw[if_pos rfl,if_pos h,x1d]
  rfl
 ·rw[if_neg e,if_neg (by omega),x1M]
theorem y7{j:Job}{i k:Nat}:(gN j i k).length<=i:=by
 have:=x08 (fun a=>decide (j.below.l[a]! =(k:Int))) (List.range i)
 simpa[gN]using this
variable{C:CC}(hC:al prog C)
include hC
set_option maxRecDepth 4000 in
set_option maxHeartbeats 4000000 in
theorem vV(j:Job)(hv:am j=true):C 30 [.agg (dX j)] (dH j) []:=by
 have hn:j.below.l.length<=400:=by simp only[am,x0a,x0b]at hv;omega
 have hm:j.secs.length<=40:=by simp only[am,aH,x0a,x0b]at hv;omega
 have hlen:j.lengths.l.length=j.below.l.length:=by simp only[am,x0a,x0b]at hv;omega
 have hlen2:j.flows.l.length=j.below.l.length:=by simp only[am,x0a,x0b]at hv;omega
 have hlen3:j.falls.l.length=j.below.l.length:=by simp only[am,x0a,x0b]at hv;omega
 have hlen4:j.room.l.length=j.below.l.length:=by simp only[am,x0a,x0b]at hv;omega
 refine start hC (nf:=N30) rfl rfl ?_
 simp[N30,aB]
 refine⟨by omega,aw (by decide +kernel),?_⟩
 refine ay Nat (fun i=>[(1,.ptr (dX j)),(3,.ptx (dX j++[.ref (.r 10224) 0 j.below.l.length,.ref (.r 10288) 0 j.below.l.length])),(10224,j9 j i 0),(10288,lU j i),(22,slI j.below),(23,.int .i64 j.below.l.length),(24,.int .i64 i)])
  (fun i=>i<=j.below.l.length) (fun i=>j.below.l.length-i) 0 (by simp) (by simp[aB,iX,iK,fG,gN,gk]) ?_
 intro i hi
 simp
 refine ab (fun h=>?_) (fun h=>?_)<;>simp at h<;>simp[h]
 ·have hw:IntKind.wrap .i64 ((i:Int)+1)=((i+1:Nat):Int):=wrap_i64 (by omega) (by omega)
  have hb:=dj hv h
  have hbs:j.below.l[i]! = j.below.l[i]:=x0c j.below.l i h
  rw[hbs]at hb
  have inner:∀{Q:bS->Env->Prop},True:=fun{Q}=>trivial
  refine ab (fun c1=>?pa) (fun c1=>?pb)<;>simp at c1<;>simp[c1]
  case' pa =>
   obtain⟨bn,hbn⟩:∃bn:Nat,j.below.l[i]=(bn:Int):=⟨j.below.l[i].toNat,by omega⟩
   have hb1:bn<j.below.l.length:=by omega
   have hst:=wi (j:=j) (i:=i) (b:=bn) (by rw[hbs,hbn])
   have hol:(gN j i bn).length<=i:=y7
   have ht:List.take (gN j i bn).length (List.map it (gN j i bn))=List.map it (gN j i bn):=x0i (by simp)
   simp[iK,aB,hbn,hb1,ht]
   refine⟨by omega,?_,aw (by decide +kernel),?_⟩
   ·rintro e (⟨a,_,rfl⟩|rfl) c hc
    ·simp[it]at hc;subst hc;rfl
    ·simp at hc;subst hc;rfl
   simp[hst]
  case' pb =>
   have hst:=wh (j:=j) (i:=i) (by rw[hbs,c1])
   simp[aB,hst]
  all_goals
   refine ay Nat (fun s=>[(1,.ptr (dX j)),(3,.ptx (dX j++[.ref (.r 10224) 0 j.below.l.length,.ref (.r 10288) 0 j.below.l.length])),(10224,j9 j i s),(10288,lU j (i+1)),(4,.int .i64 i),(22,slI j.below),(23,.int .i64 j.below.l.length),(24,.int .i64 i),(48,slx j.secN (j.secs.map aQ)),(49,.int .i64 j.secs.length),(50,.int .i64 s)])
    (fun s=>s<=j.secs.length) (fun s=>j.secs.length-s) 0 (by simp) (by simp[aB]) ?_
   intro s hs
   simp
   refine ab (fun h2=>?_) (fun h2=>?_)<;>simp at h2<;>simp[h2]
   ·have hw2:IntKind.wrap .i64 ((s:Int)+1)=((s+1:Nat):Int):=wrap_i64 (by omega) (by omega)
    have g3:i<j.falls.l.length:=by omega
    have g2:i<j.lengths.l.length:=by omega
    have g4:i<j.flows.l.length:=by omega
    have g5:i<j.room.l.length:=by omega
    have hF:=HH hC j.secs[s] j.falls.l[i] j.lengths.l[i]
    have hp:bZ j i s=(((dB j.secs[s] j.falls.l[i] j.lengths.l[i]).2==5||((dB j.secs[s] j.falls.l[i] j.lengths.l[i]).2==0&&decide (j.flows.l[i]<=(dB j.secs[s] j.falls.l[i] j.lengths.l[i]).1)))&&decide (j.secs[s].height<=j.room.l[i])):=by
     simp only[bZ,x0c j.secs s h2,x0c j.falls.l i g3,x0c j.lengths.l i g2,x0c j.flows.l i g4,x0c j.room.l i g5]
    obtain⟨q,hq⟩:∃q,q=(dB j.secs[s] j.falls.l[i] j.lengths.l[i]).1:=⟨_,rfl⟩
    obtain⟨e,he⟩:∃e,e=(dB j.secs[s] j.falls.l[i] j.lengths.l[i]).2:=⟨_,rfl⟩
    rw[<- hq,<- he]at hF hp
    have hst2:=xm (i:=i) h2
    rw[hp]at hst2
    have hol2:(fG j i s i).length<=40:=by simp[fG,iy];omega
    have ht2:List.take (fG j i s i).length (List.map bl (fG j i s i))=List.map bl (fG j i s i):=x0i (by simp)
    simp[aB,h,h2,gD,g2,g3]
    simp[gD]at hF
    refine aa hF (.inl rfl) ?_
    simp
    refine⟨aw (by decide +kernel),?_⟩
    simp[iX,h,ht2,aB]
    have fin:∀b:Bool,bZ j i s=b->∃s',s'<=j.secs.length/\j.secs.length-s'<j.secs.length-s/\D.blk 1 (((List.range j.below.l.length).map fun k=>[D.own 1 ((fG j i s k).map bl)]).set i [.own 1 (((fG j i s i).map bl)++[[.bool b]])])=j9 j i s'/\(s:Int)+1=s':=fun b hb=>⟨s+1,by omega,by omega,by rw[<- hb,hp];exact hst2,rfl⟩
    rw[hp]at fin
    have bls:∀(b:Bool) (e:List D),(false∈fG j i s i/\bl false=e\/true∈fG j i s i/\bl true=e)\/e=[D.bool b]->∀c,c∈e->aA c=true:=by
     rintro b e ((⟨_,rfl⟩|⟨_,rfl⟩)|rfl) c hc
     ·simp[bl]at hc;subst hc;rfl
     ·simp[bl]at hc;subst hc;rfl
     ·simp at hc;subst hc;rfl
    refine ab (fun d1=>?_) (fun d1=>?_)<;>simp at d1<;>simp[d1,aB,g5,h,ht2,hw2]
    ·refine⟨by omega,bls _,aw (by decide +kernel),fin _ (by simp[d1])⟩
    ·refine ab (fun d2=>?_) (fun d2=>?_)<;>simp at d2<;>simp[d2,aB,g4,g5,h,ht2,hw2]
     ·refine ab (fun d3=>?_) (fun d3=>?_)
      ·simp at d3
       simp[d3,aB,g4,g5,h,ht2,hw2]
       refine⟨by omega,bls _,aw (by decide +kernel),fin _ (by simp[d2,d3])⟩
      ·have d3':¬j.flows.l[i]<=q:=by simpa using d3
       simp[d3',aB,g4,g5,h,ht2,hw2]
       refine⟨by omega,bls _,aw (by decide +kernel),fin _ (by simp[d2,d3'])⟩
     ·refine⟨by omega,bls _,aw (by decide +kernel),fin _ (by simp[d1,d2])⟩
   ·have:s=j.secs.length:=by omega
    subst this
    simp[hw,aB]
    exact⟨i+1,by omega,by omega,xk,rfl,rfl⟩
 ·have:i=j.below.l.length:=by omega
  subst this
  simp[aB,or_imp,forall_and,iX,iK,bf]
  rw[x0i (by simp),x0i (by simp)]
  constructor
  ·refine x0j fun k hk=>?_
   simp at hk
   simp[fG,hk,mU,iy]
  ·refine x0j fun k hk=>?_
   simp[pw,gN,aI]
end Go.Gv

namespace Go.Gv
theorem pU(ok:Nat->Bool)(vs:List Int):(gV ok vs=(-1,-1)/\∀s,s<vs.length->vs[s]!≠-1->ok s=false) \/
  ∃s,s<vs.length/\gV ok vs=(vs[s]!,(s:Int))/\vs[s]!≠-1/\ok s=true/\∀s',s'<vs.length->vs[s']!≠-1->ok s'=true->vs[s]!<=vs[s']!:=by
 have key:∀n,n<=vs.length->((List.range n).foldl (c7 ok vs) (-1,-1)=(-1,-1)/\∀s,s<n->vs[s]!≠-1->ok s=false) \/
   ∃s,s<n/\(List.range n).foldl (c7 ok vs) (-1,-1)=(vs[s]!,(s:Int))/\vs[s]!≠-1/\ok s=true/\∀s',s'<n->vs[s']!≠-1->ok s'=true->vs[s]!<=vs[s']!:=by
  intro n
  induction n with
  | zero=>intro _;exact .inl ⟨rfl,fun s h=>by omega⟩
  | succ n ih =>
   intro hn
   rw[List.range_succ,List.foldl_append]
   simp only[List.foldl_cons,List.foldl_nil]
   rcases ih (by omega)with ⟨h1,h2⟩|⟨s,h1,h2,h3,h4,h5⟩
   ·rw[h1]
    unfold c7
    by_cases hc:vs[n]!≠-1/\ok n=true
    ·rw[if_pos ⟨hc.1,hc.2,.inl rfl⟩]
     refine .inr ⟨n,by omega,rfl,hc.1,hc.2,fun s' hs' hv ho=>?_⟩
     rcases x0y.1 hs' with h|rfl
     ·rw[h2 s' h hv]at ho;cases ho
     ·exact x00 _
    ·rw[if_neg (fun h=>hc ⟨h.1,h.2.1⟩)]
     refine .inl ⟨rfl,fun s hs hv=>?_⟩
     rcases x0y.1 hs with h|rfl
     ·exact h2 s h hv
     ·cases ho:ok s with
      | false=>rfl
      | true=>exact absurd ⟨hv,ho⟩ hc
   ·rw[h2]
    unfold c7
    by_cases hc:vs[n]!≠-1/\ok n=true/\vs[n]!<vs[s]!
    ·rw[if_pos ⟨hc.1,hc.2.1,.inr hc.2.2⟩]
     refine .inr ⟨n,by omega,rfl,hc.1,hc.2.1,fun s' hs' hv ho=>?_⟩
     rcases x0y.1 hs' with h|rfl
     ·have:=h5 s' h hv ho
      omega
     ·exact x00 _
    ·rw[if_neg (fun h=>hc ⟨h.1,h.2.1,h.2.2.resolve_left h3⟩)]
     refine .inr ⟨s,by omega,rfl,h3,h4,fun s' hs' hv ho=>?_⟩
     rcases x0y.1 hs' with h|rfl
     ·exact h5 s' h hv ho
     ·exact Int.not_lt.1 fun hlt=>hc ⟨hv,ho,hlt⟩
 exact key vs.length (x0k _)
theorem oc{v:Nat->Int}:∀{l:List Nat} {s t:Int},i4 v l s=some t->∀a∈l,v a≠-1
 | [],s,t,_,a,ha=>by cases ha
 | x::l,s,t,h,a,ha=>by
  simp only[i4]at h
  split at h
  ·cases h
  ·rename_i hx
   rcases x0H.1 ha with rfl|ha
   ·exact hx
   ·exact oc h a ha
theorem ya{x:Option Int}(h:x.getD (-1)≠-1):∃t,x=some t/\x.getD (-1)=t:=by
 cases x with
 | none=>exact absurd rfl h
 | some t=>exact⟨t,rfl,rfl⟩
def hgt(j:Job)(ch:Nat->Int)(i:Nat):Int:=if j.below.l[i]! = -1 then 4194304 else j.secs[(ch (j.below.l[i]!).toNat).toNat]!.height
def qm(j:Job)(ch:Nat->Int)(i:Nat):Int:=(gV (okF j i (hgt j ch i)) (aM j i)).2
def fK(j:Job):Nat->Nat->Int
 | 0=>fun _=>0
 | k+1=>fun i=>if i+(k+1)=j.below.l.length then qm j (fK j k) i else fK j k i
def bF(j:Job):List Int:=(List.range j.below.l.length).map (fK j j.below.l.length)
def b9(j:Job):Int:=lw j (aM j)
def iI(j:Job):Int×(Bool×List Int)×Int:=if am j then(if b9 j=-1 then(0,(true,[]),28) else(b9 j,(false,bF j),0)) else(0,(true,[]),1)
def mz(x:Bool×List Int):D:=slx x.1 (x.2.map fun n=>[.int .i64 n])
structure HI (j:Job) (ch:Nat->Int) (i:Nat):Prop where
 sec:∃s:Nat,ch i=s/\s<j.secs.length/\(aM j i)[s]!≠-1/\okF j i (hgt j ch i) s=true/\lv j (aM j) (hgt j ch i) i=(aM j i)[s]!
theorem ua{j:Job}(hv:am j=true){i s:Nat}(hi:i<j.below.l.length)(hs:s<j.secs.length):(aM j i)[s]! = if bZ j i s then iN j (aM j) i s else -1:=by
 rw[yW hv hi,qC,x0c _ s (by simpa using hs)]
 simp
theorem Aw{j:Job}{i b:Nat}(hi:i<j.below.l.length)(h:j.below.l[i]! =(b:Int)):i∈aI j b:=by
 simp[aI,hi]
 rw[x0c j.below.l i hi]at h
 simp[hi,h]
theorem ny{j:Job}{k i:Nat}(h:i+(k+1)≠j.below.l.length):fK j (k+1) i=fK j k i:=by
 simp only[fK];rw[if_neg h]
theorem xT{j:Job}{k i:Nat}(h:i+(k+1)=j.below.l.length):fK j (k+1) i=qm j (fK j k) i:=by
 simp only[fK];rw[if_pos h]
theorem Ah{j:Job}(hv:am j=true)(hc:b9 j≠-1){ch:Nat->Int}{i:Nat}(hi:i<j.below.l.length)(hb:∀b:Nat,j.below.l[i]! =(b:Int)->HI j ch b) :
  ∃s:Nat,qm j ch i=s/\s<j.secs.length/\(aM j i)[s]!≠-1/\okF j i (hgt j ch i) s=true/\lv j (aM j) (hgt j ch i) i=(aM j i)[s]!:=by
 have hlv:lv j (aM j) (hgt j ch i) i≠-1:=by
  by_cases e:j.below.l[i]! = -1
  ·obtain⟨t,h1,_⟩:=ya hc
   have:=oc h1 i (by
    rw[x0c j.below.l i hi]at e
    simp[db,hi,e])
   rw[hgt,if_pos e]
   exact this
  ·rcases dj hv hi with h1|⟨h1,h2⟩
   ·exact absurd h1 e
   ·obtain⟨b,hbn⟩:∃b:Nat,j.below.l[i]! =(b:Int):=⟨(j.below.l[i]!).toNat,by omega⟩
    obtain⟨s,g1,g2,g3,_⟩:=(hb b hbn).sec
    rw[hgt,if_neg e,hbn,x1S,g1,x1S]
    have hbl:b<j.below.l.length:=by omega
    rw[ua hv hbl g2]at g3
    split at g3
    ·obtain⟨t,h3,_⟩:=ya g3
     exact oc h3 i (Aw hi hbn)
    ·exact absurd rfl g3
 unfold qm
 unfold lv at hlv ⊢
 rcases pU (okF j i (hgt j ch i)) (aM j i)with ⟨h1,_⟩|⟨s,h1,h2,h3,h4,_⟩
 ·rw[h1]at hlv;exact absurd rfl hlv
 ·rw[h2]
  exact⟨s,rfl,by rw[gi hi]at h1;exact h1,h3,h4,rfl⟩
theorem Al{j:Job}{ch ch':Nat->Int}{i:Nat}(h:∀b:Nat,j.below.l[i]! =(b:Int)->ch b=ch' b)(hv:j.below.l[i]! = -1\/0<=j.below.l[i]!):hgt j ch i=hgt j ch' i:=by
 unfold hgt
 by_cases e:j.below.l[i]! = -1
 ·rw[if_pos e,if_pos e]
 ·rw[if_neg e,if_neg e,h _ (by omega)]
theorem o4{j:Job}(hv:am j=true)(hc:b9 j≠-1):∀k,k<=j.below.l.length->∀i,i<j.below.l.length->j.below.l.length<=i+k->HI j (fK j k) i
 | 0,_,i,hi,h=>by omega
 | k+1,hk,i,hi,h=>by
  have hbv:=dj hv hi
  have same:∀b:Nat,j.below.l[i]! =(b:Int)->fK j k b=fK j (k+1) b:=fun b hb=>(ny (by rcases hbv with h1|h1<;>omega)).symm
  have he:hgt j (fK j k) i=hgt j (fK j (k+1)) i:=Al same (by rcases hbv with h1|h1<;>omega)
  by_cases e:i+(k+1)=j.below.l.length
  ·obtain⟨s,g1,g2⟩:=Ah (ch:=fK j k) hv hc hi (fun b hb=>o4 hv hc k (by omega) b (by rcases hbv with h1|h1<;>omega) (by rcases hbv with h1|h1<;>omega))
   rw[he]at g2
   exact⟨⟨s,by rw[xT e];exact g1,g2⟩⟩
  ·obtain⟨s,g1,g2⟩:=(o4 hv hc k (by omega) i hi (by omega)).sec
   rw[he]at g2
   exact⟨⟨s,by rw[ny e];exact g1,g2⟩⟩
end Go.Gv

namespace Go.Gv
theorem qR{j}:gr j=.sl ((List.range j.below.l.length).map fun a=>slR (aM j a)):=zR
theorem DZ{r}:slR r=[.sl (r.map fun v=>[.int .i64 v])]:=zR
@[simp] theorem Kp{j}:isV (gr j)=true:=zR
@[simp] theorem Kn{j}:isS (gr j)=true:=zR
@[simp] theorem FN{j}:bV (gr j)=[]:=zR
@[simp] theorem Mg{f:Nat->D}{j}:dp f (gr j)=(gr j):=zR
@[simp] theorem Ia{f:Nat->D}{j}:bW f (gr j)=True:=zR
@[simp] theorem Hg{ks}{j}:bu ks (gr j)=(gr j):=by unfold gr;exact C3
@[simp] theorem HT{C:CC}{hs:Option (List Nat)}{K:Env->Prop}{ns:List au}{u:Tag (hs,K,ns)}{e:Env}{R:List Nat}{acc:List (List Nat×List Nat)}{t j}:uv C hs K ns t u e R acc (gr j)=doW C hs K ns ⟨⟩ e R acc [(t,gr j)] []:=by unfold gr;exact EJ
def I0(j:Job)(k:Nat):D:=.blk 1 ((List.range j.below.l.length).map fun i=>[.int .i64 (fK j k i)])
theorem mP{j k}:I0 j k=.blk 1 ((List.range j.below.l.length).map fun i=>[.int .i64 (fK j k i)]):=zR
theorem AI{j:Job}{k i:Nat}(h:i+(k+1)=j.below.l.length):D.blk 1 (((List.range j.below.l.length).map fun i=>[.int .i64 (fK j k i)]).set i [.int .i64 (qm j (fK j k) i)])=I0 j (k+1):=by
 rw[mP,fT]
 congr 1
 refine x0j fun x _=>?_
 by_cases e:x=i
 ·subst e;rw[if_pos rfl,xT h]
 ·rw[if_neg e,ny (by omega)]
variable{C:CC}(hC:al prog C)
include hC
set_option maxRecDepth 2000 in
set_option maxHeartbeats 1000000 in
theorem xL(j:Job):C 15 [.agg (dX j)] (.tup [.int .i64 (iI j).1,mz (iI j).2.1,.int .i64 (iI j).2.2]) []:=by
 refine start hC (nf:=N15) rfl rfl ?_
 simp[N15]
 have hv:=sH hC j
 cases h:am j
 ·rw[h]at hv
  simp[aB]
  simp[aB]at hv
  refine aa hv (.inl rfl) ?_
  simp[iI,h,mz,slx]
 have hn:j.below.l.length<=400:=by simp only[am,x0a,x0b]at h;omega
 have hm:j.secs.length<=40:=by simp only[am,aH,x0a,x0b]at h;omega
 rw[h]at hv
 have ht:=vV hC j h
 have hvals:=En hC j h
 have hb:=EM hC j false ((List.range j.below.l.length).map fun a=>⟨false,aM j a⟩) (by omega) (by omega) (fun a ha=>by
  have h5:a<j.below.l.length:=by simp only[db,x1n,x0M]at ha;exact ha.1
  rw[x0c _ a (by simpa using h5)]
  simp[h5,gi h5])
 have eb:lw j (iY ((List.range j.below.l.length).map fun a=>⟨false,aM j a⟩))=b9 j:=by
  unfold b9 lw
  rw[lO (v':=lv j (aM j) 4194304) (fun a ha=>by
   have h5:a<j.below.l.length:=by simp only[db,x1n,x0M]at ha;exact ha.1
   rw[lv,iY,x0c _ a (by simpa using h5)]
   simp[lv])]
 rw[eb]at hb
 obtain⟨c,hc⟩:∃c,c=b9 j:=⟨_,rfl⟩
 rw[<- hc]at hb
 simp[aB]
 simp[aB]at hv ht
 refine aa hv (.inl rfl) ?_
 simp
 refine aa ht (.inr rfl) ?_
 simp
 refine aa hvals (.inr rfl) ?_
 simp
 refine aa (d:=.int .i64 c) ?_ (.inl rfl) ?_
 ·rw[qR]
  simp at hb
  exact hb
 simp
 refine ab (fun h1=>?_) (fun h1=>?_)<;>simp at h1<;>simp[h1]
 ·simp[iI,h,<- hc,h1,mz,slx]
 refine⟨by omega,?_⟩
 refine ay Nat (fun k=>[(1,.ptr (dX j)),(5,dH j),(6,gr j),(7,.int .i64 c),(8,.ref (.r 10128) 0 j.below.l.length),(10128,I0 j k),(9,.int .i64 ((j.below.l.length:Int)-1-k))])
  (fun k=>k<=j.below.l.length) (fun k=>j.below.l.length-k) 0 (by simp) (by simp[aB,mP,fK,gk];exact wrap_i64 rfl (by omega)) ?_
 intro k hk
 rcases x1q k j.below.l.length with hkl|hkl
 ·obtain⟨i,hi⟩:∃i,i+(k+1)=j.below.l.length:=⟨j.below.l.length-(k+1),by omega⟩
  have e9:(j.below.l.length:Int)-1-k=(i:Int):=by omega
  have hil:i<j.below.l.length:=by omega
  have hw:IntKind.wrap .i64 ((i:Int)-1)=(j.below.l.length:Int)-1-((k+1:Nat):Int):=wrap_i64 (by omega) (by omega)
  have hbv:=dj h hil
  have hg:∀b:Nat,j.below.l[i]! =(b:Int)->HI j (fK j k) b:=fun b hb=>o4 h (by rw[<- hc];exact h1) k hk b (by rcases hbv with h2|h2<;>omega) (by rcases hbv with h2|h2<;>omega)
  have hst:=AI hi
  have hlc:∀y,hgt j (fK j k) i=y->C 40 [dH j,.sl ((aM j i).map fun n=>[.int .i64 n]),.int .i64 i,.int .i64 y] (.tup [.int .i64 (gV (okF j i y) (aM j i)).1,.int .i64 (qm j (fK j k) i)]) []:=fun y hy=>by
   have:=tr hC j false (aM j i) i y hil (by rw[gi hil];exact x0k _) (by omega)
   rw[dc]at this
   rw[qm,hy]
   exact this
  rw[e9]
  simp[hil,aB]
  refine ab (fun c1=>?_) (fun c1=>?_)<;>simp[hil]at c1<;>simp[c1,hil]
  ·obtain⟨b,hb⟩:∃b:Nat,j.below.l[i]=(b:Int):=⟨(j.below.l[i]).toNat,by rw[x0c j.below.l i hil]at hbv;rcases hbv with h2|h2<;>omega⟩
   have hb!:j.below.l[i]! =(b:Int):=by rw[x0c j.below.l i hil,hb]
   have hbl:b<j.below.l.length:=by rcases hbv with h2|h2<;>omega
   obtain⟨s,g1,g2,_⟩:=(hg b hb!).sec
   have hh:hgt j (fK j k) i=j.secs[s].height:=by
    rw[hgt,if_neg (by rw[hb!];omega),hb!,x1S,g1,x1S,x0c j.secs s g2]
   simp[hb,mP,hbl,g1,g2,gD]
   refine⟨aw (by decide +kernel),?_⟩
   simp[qR,hil,DZ]
   refine aa (hlc _ hh) (.inl rfl) ?_
   simp[hil,hst,hw]
   exact⟨k+1,by omega,by omega,by simp[aB],rfl,rfl,by omega⟩
  ·have hh:hgt j (fK j k) i=4194304:=by rw[hgt,if_pos (by rw[x0c j.below.l i hil,c1])]
   simp[mP,qR,hil,DZ]
   refine aa (hlc _ hh) (.inl rfl) ?_
   simp[hil,hst,hw]
   exact⟨k+1,by omega,by omega,by simp[aB],rfl,rfl,by omega⟩
 ·have:k=j.below.l.length:=by omega
  subst this
  have e9:(j.below.l.length:Int)-1-j.below.l.length=-1:=by omega
  rw[e9]
  simp[mP]
  rw[iI,if_pos h,<- hc,if_neg h1]
  refine⟨rfl,?_,rfl⟩
  rw[x0i (by simp)]
  simp[mz,bF]
end Go.Gv

namespace Go.Gv
end Go.Gv

namespace Go.Gv
def S(g:Nat->Int):Nat->Int
 | 0=>0
 | n+1=>S g n+g n
theorem lR{g g':Nat->Int}:∀n,(∀a,a<n->g a=g' a)->S g n=S g' n
 | 0,_=>rfl
 | n+1,h=>by simp only[S];rw[lR n (fun a ha=>h a (by omega)),h n (by omega)]
theorem HL{g g':Nat->Int}:∀n,(∀a,a<n->g a<=g' a)->S g n<=S g' n
 | 0,_=>x00 _
 | n+1,h=>by
  simp only[S]
  have:=HL n (fun a ha=>h a (by omega))
  have:=h n (by omega)
  omega
theorem GW{g g':Nat->Int}:∀n,S (fun a=>g a+g' a) n=S g n+S g' n
 | 0=>rfl
 | n+1=>by simp only[S];rw[GW n];omega
theorem BC:∀n,S (fun _=>0) n=0
 | 0=>rfl
 | n+1=>by simp only[S];rw[BC n];rfl
theorem um{g:Nat->Int}(n:Nat)(h:∀a,a<n->0<=g a):0<=S g n:=by
 have:=HL (g:=fun _=>0) (g':=g) n h
 rw[BC]at this
 exact this
theorem GX{g:Nat->Int}{m:Nat}:∀n,m<=n->(∀a,m<=a->a<n->g a=0)->S g n=S g m
 | 0,h,_=>by
  have:m=0:=by omega
  subst this;rfl
 | n+1,h,hz=>by
  by_cases e:m=n+1
  ·subst e;rfl
  ·simp only[S]
   rw[GX n (by omega) (fun a h1 h2=>hz a h1 (by omega)),hz n (by omega) (by omega)]
   omega
theorem lP(f:Nat->Int)(p:Nat->Bool):∀n,(((List.range n).filter p).map f).sum=S (fun a=>if p a then f a else 0) n
 | 0=>rfl
 | n+1=>by
  rw[List.range_succ,List.filter_append,x1d,List.sum_append,lP f p n]
  simp only[S,List.filter_cons,List.filter_nil]
  cases p n<;>simp
theorem tW{v:Nat->Int}:∀{l:List Nat} {s:Int},(∀a∈l,v a≠-1)->(∀a∈l,0<=v a)->0<=s->s+(l.map v).sum<9223372036854775808->i4 v l s=some (s+(l.map v).sum)
 | [],s,_,_,_,_=>by simp[i4]
 | a::l,s,h1,h2,h3,h4=>by
  have h5:=h2 a (by simp)
  have h6:0<=(l.map v).sum:=by
   have:∀l:List Nat,(∀a∈l,0<=v a)->0<=(l.map v).sum:=by
    intro l
    induction l with
    | nil=>intro _;simp
    | cons x l ih=>intro h;simp only[x0F,List.sum_cons];have:=h x (by simp);have:=ih (fun a ha=>h a (by simp[ha]));omega
   exact this l (fun a ha=>h2 a (by simp[ha]))
  simp only[x0F,List.sum_cons]at h4 ⊢
  simp only[i4]
  rw[if_neg (h1 a (by simp)),wrap_i64 rfl (by omega),tW (fun b hb=>h1 b (by simp[hb])) (fun b hb=>h2 b (by simp[hb])) (by omega) (by omega)]
  congr 1
  omega
theorem qP{v:Nat->Int}:∀{l:List Nat} {s:Int} {a:Nat},a∈l->v a=-1->i4 v l s=none
 | x::l,s,a,h,ha=>by
  simp only[i4]
  by_cases hx:v x=-1
  ·rw[if_pos hx]
  ·rw[if_neg hx]
   rcases x0H.1 h with rfl|h
   ·exact absurd ha hx
   ·exact qP h ha
def B:Int:=18014398509481984
theorem qV:B=18014398509481984:=rfl
theorem ky{j:Job}(hv:am j=true):j.below.l.length<=400/\j.lengths.l.length=j.below.l.length/\j.secs.length<=40:=by
 simp only[am,aH,x0a,x0b]at hv
 omega
def j6(j:Job)(i s:Nat):Int:=j.lengths.l[i]!*j.secs[s]!.price
theorem tD{j:Job}(hv:am j=true){i s:Nat}(hi:i<j.below.l.length)(hs:s<j.secs.length):0<=j6 j i s/\j6 j i s<=B:=by
 have h1:1<=j.lengths.l[i]!/\j.lengths.l[i]!<=16777216:=by
  simp only[am,x0a,x0f,x0M]at hv
  have:=hv.2 i hi
  simp only[eA,fq,x0a,x0b]at this
  exact this.1.1.1.2
 have h2:0<=j.secs[s]!.price/\j.secs[s]!.price<=1073741824:=by
  rw[x0c j.secs s hs]
  simp only[am,aH,x0a,x0f]at hv
  have:=hv.1.2.1.2 _ (x0h hs)
  simp only[aL,x0a,x0b]at this
  omega
 have h3:=Int.mul_nonneg (show 0<=j.lengths.l[i]! by omega) h2.1
 have h4:=Int.mul_le_mul h1.2 h2.2 h2.1 (by omega)
 refine⟨h3,?_⟩
 unfold j6 B
 omega
def fr(j:Job)(i a:Nat):Bool:=decide (j.below.l[a]! = -1)||decide ((i:Int)<=j.below.l[a]!)
def zfs(j:Job)(f:Nat->Int)(i:Nat):Int:=S (fun a=>if fr j i a then f a else 0) i
def AS(j:Job)(f:Nat->Int)(i:Nat):Int:=S (fun a=>if j.below.l[a]! =(i:Int) then f a else 0) i
theorem kD{j:Job}(hv:am j=true)(f:Nat->Int){i:Nat}(hi:i<j.below.l.length):((aI j i).map f).sum=AS j f i:=by
 unfold aI AS
 rw[lP,GX (m:=i) _ (by omega)]
 ·exact lR _ (fun a _=>by simp)
 ·intro a h1 h2
  rw[if_neg]
  intro h3
  have h3:j.below.l[a]! =(i:Int):=by simpa using h3
  rcases dj hv h2 with h4|h4<;>omega
theorem sD{j:Job}(hv:am j=true)(f:Nat->Int){i:Nat}(hi:i<j.below.l.length):zfs j f (i+1)+AS j f i=zfs j f i+f i:=by
 unfold zfs AS
 simp only[S]
 have h1:fr j (i+1) i=true:=by
  unfold fr
  rcases dj hv hi with h|h
  ·simp[h]
  ·simp only[x0u,x0b];right;omega
 rw[if_pos h1]
 have h2:S (fun a=>if fr j i a=true then f a else 0) i=S (fun a=>(if fr j (i+1) a=true then f a else 0)+(if j.below.l[a]! =(i:Int) then f a else 0)) i:=by
  refine lR _ (fun a ha=>?_)
  unfold fr
  by_cases e1:j.below.l[a]! =(i:Int)
  ·rw[if_pos e1,if_pos (by simp only[x0u,x0b];omega),if_neg (by simp only[x0u,x0b];omega)]
   omega
  ·rw[if_neg e1]
   by_cases e2:j.below.l[a]! = -1
   ·rw[if_pos (by simp only[x0u,x0b];omega),if_pos (by simp only[x0u,x0b];omega)]
    omega
   ·by_cases e3:(i:Int)<=j.below.l[a]!
    ·rw[if_pos (by simp only[x0u,x0b];omega),if_pos (by simp only[x0u,x0b];omega)]
     omega
    ·rw[if_neg (by simp only[x0u,x0b];omega),if_neg (by simp only[x0u,x0b];omega)]
     omega
 rw[h2,GW]
 omega
theorem uf{j:Job}{f:Nat->Int}{i:Nat}(h:∀a,a<i->0<=f a):AS j f i<=zfs j f i:=by
 unfold AS zfs
 refine HL _ (fun a ha=>?_)
 have:=h a ha
 by_cases e:j.below.l[a]! =(i:Int)
 ·rw[if_pos e,if_pos (by simp only[fr,x0u,x0b];omega)]
  exact x00 _
 ·rw[if_neg e]
  split<;>omega
theorem nV{j:Job}(hv:am j=true)(f:Nat->Int):((db j).map f).sum=zfs j f j.below.l.length:=by
 unfold db zfs
 rw[lP]
 refine lR _ (fun a ha=>?_)
 have e:fr j j.below.l.length a=decide (j.below.l[a]! = -1):=by
  unfold fr
  rcases dj hv ha with h|h
  ·rw[h];rfl
  ·rw[show decide (((j.below.l.length:Nat):Int)<=j.below.l[a]!)=false by simp only[x0x];omega,Bool.or_false]
 rw[e]
theorem ic{j:Job}{a:Nat}(h:a∈db j):a<j.below.l.length/\j.below.l[a]! = -1:=by
 simp only[db,x1n,x0M,x0b]at h
 exact h
theorem yk(j:Job)(val:Nat->List Int)(h:Int)(a:Nat):(lv j val h a=-1/\∀s,s<(val a).length->(val a)[s]!≠-1->okF j a h s=false) \/
  ∃s,s<(val a).length/\lv j val h a=(val a)[s]!/\(val a)[s]!≠-1/\okF j a h s=true/\∀s',s'<(val a).length->(val a)[s']!≠-1->okF j a h s'=true->(val a)[s]!<=(val a)[s']!:=by
 unfold lv
 rcases pU (okF j a h) (val a)with ⟨h1,h2⟩|⟨s,h1,h2,h3,h4,h5⟩
 ·exact .inl ⟨by rw[h1],h2⟩
 ·exact .inr ⟨s,h1,by rw[h2],h3,h4,h5⟩
def mx(l:List Int):Int:=l.foldl max 0
theorem pd:∀(l:List Int) (b:Int),b<=l.foldl max b/\∀x∈l,x<=l.foldl max b
 | [],b=>⟨x00 _,by simp⟩
 | y::l,b=>by
  obtain⟨h1,h2⟩:=pd l (max b y)
  simp only[List.foldl_cons]
  refine⟨by omega,fun x hx=>?_⟩
  rcases x0H.1 hx with rfl|hx
  ·omega
  ·exact h2 x hx
theorem M8{l:List Int}{t:Int}(ht:0<=t)(h:∀x∈l,x<=t):mx l<=t:=by
 unfold mx
 have:∀(l:List Int) (b:Int),b<=t->(∀x∈l,x<=t)->l.foldl max b<=t:=by
  intro l
  induction l with
  | nil=>intro b hb _;exact hb
  | cons y l ih =>
   intro b hb h
   simp only[List.foldl_cons]
   exact ih _ (by have:=h y (by simp);omega) (fun x hx=>h x (by simp[hx]))
 exact this l 0 ht h
theorem Fl{l:List Int}{s:Nat}(h:s<l.length):l[s]!∈l:=by
 rw[x0c l s h];exact x0h h
theorem Hh{j:Job}{val:Nat->List Int}{h:Int}{a:Nat}(hp:∀x∈val a,-1<=x):lv j val h a=-1\/(0<=lv j val h a/\lv j val h a<=mx (val a)):=by
 rcases yk j val h a with ⟨h1,_⟩|⟨s,h1,h2,h3,_⟩
 ·exact .inl h1
 ·right
  have h4:=Fl h1
  have h5:=hp _ h4
  have h6:=(pd (val a) 0).2 _ h4
  rw[h2]
  exact⟨by omega,h6⟩
theorem uE{j:Job}(hv:am j=true){val:Nat->List Int}{i s:Nat}(hi:i<j.below.l.length)(hs:s<j.secs.length)(hp:∀a∈aI j i,lv j val j.secs[s]!.height a=-1\/0<=lv j val j.secs[s]!.height a)
  (hb:(∀a∈aI j i,lv j val j.secs[s]!.height a≠-1)->((aI j i).map (lv j val j.secs[s]!.height)).sum<=9000000000000000000) :
  ((∃a∈aI j i,lv j val j.secs[s]!.height a=-1)/\iN j val i s=-1)\/((∀a∈aI j i,lv j val j.secs[s]!.height a≠-1)/\iN j val i s=j6 j i s+((aI j i).map (lv j val j.secs[s]!.height)).sum):=by
 obtain⟨h1,h2⟩:=tD hv hi hs
 rw[qV]at h2
 by_cases hx:∃a∈aI j i,lv j val j.secs[s]!.height a=-1
 ·obtain⟨a,ha,h3⟩:=hx
  exact .inl ⟨⟨a,ha,h3⟩,by unfold iN;rw[qP ha h3];rfl⟩
 ·right
  have hx':∀a∈aI j i,lv j val j.secs[s]!.height a≠-1:=fun a ha e=>hx ⟨a,ha,e⟩
  refine⟨hx',?_⟩
  have:=hb hx'
  show(i4 _ _ (IntKind.wrap .i64 (j6 j i s))).getD (-1)=_
  rw[wrap_i64 (m:=j6 j i s) rfl (by omega),tW hx' (fun a ha=>(hp a ha).resolve_left (hx' a ha)) h1 (by omega)]
  rfl
theorem jV{l:List Nat}{f:Nat->Int}(h:∀a∈l,0<=f a):0<=(l.map f).sum:=by
 induction l with
 | nil=>simp
 | cons x l ih =>
  simp only[x0F,List.sum_cons]
  have:=h x (by simp)
  have:=ih (fun a ha=>h a (by simp[ha]))
  omega
theorem gd{l:List Nat}{f g:Nat->Int}(h:∀a∈l,f a<=g a):(l.map f).sum<=(l.map g).sum:=by
 induction l with
 | nil=>simp
 | cons x l ih =>
  simp only[x0F,List.sum_cons]
  have:=h x (by simp)
  have:=ih (fun a ha=>h a (by simp[ha]))
  omega
theorem pq{j:Job}(hv:am j=true):∀i,i<=j.below.l.length->(∀a,a<i->∀x∈aM j a,-1<=x)/\zfs j (fun a=>mx (aM j a)) i<=i*B
 | 0,_=>⟨fun a h=>by omega,by simp[zfs,S]⟩
 | i+1,hi=>by
  obtain⟨h1,h2⟩:=pq hv i (by omega)
  have hil:i<j.below.l.length:=by omega
  have hn:=(ky hv).1
  have hm0:∀a,a<i->0<=mx (aM j a):=fun a _=>(pd (aM j a) 0).1
  have h3:=uf (j:=j) (f:=fun a=>mx (aM j a)) hm0
  have hsum:=kD hv (fun a=>mx (aM j a)) hil
  have hB:(i:Int)*B<=400*B:=Int.mul_le_mul_of_nonneg_right (by omega) (by rw[qV];omega)
  have hcell:∀s,s<j.secs.length->(-1<=(aM j i)[s]!/\(aM j i)[s]!<=B+AS j (fun a=>mx (aM j a)) i):=by
   intro s hs
   have hAS0:0<=AS j (fun a=>mx (aM j a)) i:=um _ (fun a ha=>by split;exact hm0 a ha;exact x00 _)
   rw[ua hv hil hs]
   split
   ·have hlv:∀a∈aI j i,lv j (aM j) j.secs[s]!.height a=-1\/(0<=lv j (aM j) j.secs[s]!.height a/\lv j (aM j) j.secs[s]!.height a<=mx (aM j a)):=fun a ha=>Hh (h1 a (gO hv ha))
    have hle:(∀a∈aI j i,lv j (aM j) j.secs[s]!.height a≠-1)->((aI j i).map (lv j (aM j) j.secs[s]!.height)).sum<=AS j (fun a=>mx (aM j a)) i:=fun hne=>by
     rw[<- hsum]
     exact gd (fun a ha=>((hlv a ha).resolve_left (hne a ha)).2)
    have hnn:(∀a∈aI j i,lv j (aM j) j.secs[s]!.height a≠-1)->0<=((aI j i).map (lv j (aM j) j.secs[s]!.height)).sum:=fun hne=>by
     exact jV (fun a ha=>((hlv a ha).resolve_left (hne a ha)).1)
    obtain⟨o1,o2⟩:=tD hv hil hs
    rw[qV]at *
    rcases uE hv hil hs (fun a ha=>(hlv a ha).imp id (fun h=>h.1)) (fun hne=>by have:=hle hne;omega)with ⟨_,h4⟩|⟨hne,h4⟩
    ·rw[h4];omega
    ·rw[h4]
     have:=hle hne
     have:=hnn hne
     omega
   ·rw[qV];omega
  have hrow:∀x∈aM j i,∃s,s<j.secs.length/\x=(aM j i)[s]!:=fun x hx=>by
   obtain⟨s,hs,rfl⟩:=x0K.1 hx
   exact⟨s,by rw[gi hil]at hs;exact hs,by rw[x0c _ s hs]⟩
  constructor
  ·intro a ha x hx
   rcases x0y.1 ha with h|rfl
   ·exact h1 a h x hx
   ·obtain⟨s,hs,rfl⟩:=hrow x hx
    exact(hcell s hs).1
  ·have h5:=sD hv (fun a=>mx (aM j a)) hil
   have hAS0:0<=AS j (fun a=>mx (aM j a)) i:=um _ (fun a ha=>by split;exact hm0 a ha;exact x00 _)
   have h6:mx (aM j i)<=B+AS j (fun a=>mx (aM j a)) i:=M8 (by rw[qV];omega) (fun x hx=>by
    obtain⟨s,hs,rfl⟩:=hrow x hx
    exact(hcell s hs).2)
   rw[qV]at *
   push_cast
   omega
end Go.Gv
namespace Go.Gv
theorem Bk{j:Job}(hv:am j=true){i:Nat}(hi:i<j.below.l.length):∀x∈aM j i,-1<=x:=(pq hv (i+1) (by omega)).1 i (by omega)
theorem tu{j:Job}(hv:am j=true){h:Int}{a:Nat}(ha:a<j.below.l.length):lv j (aM j) h a=-1\/(0<=lv j (aM j) h a/\lv j (aM j) h a<=mx (aM j a)):=Hh (Bk hv ha)
theorem tX{j:Job}(hv:am j=true){h:Int}{i:Nat}(hi:i<j.below.l.length)(hne:∀a∈aI j i,lv j (aM j) h a≠-1):((aI j i).map (lv j (aM j) h)).sum<=7205759403792793600:=by
 have h1:=gd (fun a ha=>((tu hv (dx ha)).resolve_left (hne a ha)).2)
 rw[kD hv (fun a=>mx (aM j a)) hi]at h1
 have h2:=uf (j:=j) (i:=i) (f:=fun a=>mx (aM j a)) (fun a _=>(pd (aM j a) 0).1)
 have h3:=(pq hv i (by omega)).2
 have hn:=(ky hv).1
 have h4:(i:Int)*B<=400*B:=Int.mul_le_mul_of_nonneg_right (by omega) (by rw[qV];omega)
 rw[qV]at h4 h3
 omega
theorem vW{j:Job}(hv:am j=true){i s:Nat}(hi:i<j.below.l.length)(hs:s<j.secs.length)(hp:bZ j i s=true) :
  ((∃a∈aI j i,lv j (aM j) j.secs[s]!.height a=-1)/\(aM j i)[s]! = -1)\/((∀a∈aI j i,lv j (aM j) j.secs[s]!.height a≠-1)/\(aM j i)[s]! = j6 j i s+((aI j i).map (lv j (aM j) j.secs[s]!.height)).sum):=by
 rw[ua hv hi hs,if_pos hp]
 exact uE hv hi hs (fun a ha=>(tu hv (dx ha)).imp id (fun h=>h.1)) (fun hne=>by have:=tX hv hi hne;omega)
theorem uD{j:Job}(hv:am j=true):((∃a∈db j,lv j (aM j) 4194304 a=-1)/\b9 j=-1)\/((∀a∈db j,lv j (aM j) 4194304 a≠-1)/\b9 j=((db j).map (lv j (aM j) 4194304)).sum/\0<=b9 j):=by
 unfold b9 lw
 by_cases hx:∃a∈db j,lv j (aM j) 4194304 a=-1
 ·obtain⟨a,ha,h3⟩:=hx
  exact .inl ⟨⟨a,ha,h3⟩,by rw[qP ha h3];rfl⟩
 ·right
  have hx':∀a∈db j,lv j (aM j) 4194304 a≠-1:=fun a ha e=>hx ⟨a,ha,e⟩
  have h1:∀a∈db j,0<=lv j (aM j) 4194304 a/\lv j (aM j) 4194304 a<=mx (aM j a):=fun a ha=>(tu hv (ic ha).1).resolve_left (hx' a ha)
  have h2:=gd (fun a ha=>(h1 a ha).2)
  rw[nV hv (fun a=>mx (aM j a))]at h2
  have h3:=(pq hv _ (x0k _)).2
  have hn:=(ky hv).1
  have h4:(j.below.l.length:Int)*B<=400*B:=Int.mul_le_mul_of_nonneg_right (by omega) (by rw[qV];omega)
  rw[qV]at h4 h3
  refine⟨hx',?_⟩
  rw[tW hx' (fun a ha=>(h1 a ha).1) (x00 _) (by omega)]
  simp only[x1p,Int.zero_add]
  exact⟨trivial,jV (fun a ha=>(h1 a ha).1)⟩
end Go.Gv

namespace Go.Gv
def ju(j:Job)(s:Int):Bool:=decide (s<0)||decide ((j.secs.length:Int)<=s)
def bv(j:Job)(ch:List Int):Int:=if am j=false then 1 else if ch.length≠j.below.l.length then 3 else if ch.any (ju j)=true then 2 else 0
def bJ(j:Job)(ch:List Int)(i:Nat):Nat:=(ch[i]!).toNat
def i5(j:Job)(ch:List Int)(i:Nat)(a:Nat):Bool:=decide (j.secs[bJ j ch i]!.height<j.secs[bJ j ch a]!.height)
def gw(j:Job)(ch:List Int)(i:Nat):Bool:=!bZ j i (bJ j ch i)||(aI j i).any (i5 j ch i)
def bi(j:Job)(ch:List Int):Bool×Int×Int:=if bv j ch≠0 then(false,0,bv j ch) else
 match (List.range j.below.l.length).find? (gw j ch) with
 | some i=>(false,i,0)
 | none=>(true,-1,0)
def costC(j:Job)(ch:List Int):Int:=S (fun i=>j6 j i (bJ j ch i)) j.below.l.length
def sT(j:Job)(ch:List Int):Int×Int:=if bv j ch≠0 then(0,bv j ch) else(costC j ch,0)
theorem fL{j:Job}{ch:List Int}(h:bv j ch=0):am j=true/\ch.length=j.below.l.length/\∀i,i<j.below.l.length->∃s:Nat,ch[i]! = s/\s<j.secs.length/\bJ j ch i=s:=by
 unfold bv at h
 split at h
 ·cases h
 rename_i h1
 split at h
 ·cases h
 rename_i h2
 split at h
 ·cases h
 rename_i h3
 have hl:ch.length=j.below.l.length:=Classical.byContradiction fun e=>h2 e
 refine⟨by simpa using h1,hl,fun i hi=>?_⟩
 rw[x0U,x0E]at h3
 have h4:=h3 ch[i]! (by rw[x0c ch i (by omega)];exact x0h _)
 simp only[ju,x0u,x0b,not_or]at h4
 exact⟨(ch[i]!).toNat,by omega,by omega,rfl⟩
end Go.Gv

namespace Go.Gv
variable{C:CC}(hC:al prog C)
include hC
theorem FX(j:Job)(s:Int):C 122 [.int .i64 s,.ptr (dX j)] (.bool (ju j s)) []:=by
 refine start hC (nf:=N122) rfl rfl ?_
 simp[N122,aB]
 refine ab (fun h=>?_) (fun h=>?_)<;>simp at h<;>simp[h,ju]
 omega
theorem uB(j:Job)(b:Bool)(ch:List Int)(hl:ch.length<2^62):C 120 [.agg (dX j),slx b (ch.map fun n=>[.int .i64 n])] (.int .i64 (bv j ch)) []:=by
 refine start hC (nf:=N120) rfl rfl ?_
 simp[N120]
 have hv:=sH hC j
 have hh:=mq hC (b:=b) (xs:=ch) (g:=122) (cs:=[.ptr (dX j)]) (ju j) hl (fun s _=>FX hC j s)
 simp[aB]
 simp[aB]at hv hh
 refine aa hv (.inl rfl) ?_
 cases h:am j
 ·simp[bv,h]
 simp
 refine ab (fun h1=>?_) (fun h1=>?_)<;>simp at h1<;>simp[h1]
 ·rw[bv,if_neg (by rw[h];simp),if_pos (by omega)]
 refine aa hh (.inl rfl) ?_
 cases h2:ch.any (ju j)
 ·simp[bv,h,h2];omega
 ·simp[bv,h,h2];omega
theorem GP(j:Job)(b:Bool)(ch:List Int)(a i:Nat)(hc:bv j ch=0)(ha:a<j.below.l.length)(hi:i<j.below.l.length):C 121 [.int .i64 a,.ptr (dX j),.ptr [slx b (ch.map fun n=>[.int .i64 n])],.ptr [.int .i64 ch[i]!]] (.bool (i5 j ch i a)) []:=by
 obtain⟨hv,hl,hs⟩:=fL hc
 obtain⟨s,e1,e2,e3⟩:=hs i hi
 obtain⟨t,f1,f2,f3⟩:=hs a ha
 rw[x0c ch a (by omega)]at f1
 have hal:a<ch.length:=by omega
 refine start hC (nf:=N121) rfl rfl ?_
 rw[e1,i5,e3,f3,x0c j.secs s e2,x0c j.secs t f2]
 simp[N121,aB,hal,f1,f2,e2,gD]
 exact aw (by decide +kernel)
end Go.Gv

namespace Go.Gv
variable{C:CC}(hC:al prog C)
include hC
theorem Cz(b b':Bool)(xs ys:List Int)(hx:xs.length<2^62)(hy:ys.length<2^62):C 19 [slx b (xs.map fun n=>[.int .i64 n]),slx b' (ys.map fun n=>[.int .i64 n])] (.bool (decide (xs=ys))) []:=by
 refine start hC (nf:=N19) rfl rfl ?_
 simp[N19]
 refine ab (fun h=>?_) (fun h=>?_)<;>simp at h<;>simp[h]
 ·rintro rfl;exact h rfl
 have h':xs.length=ys.length:=by omega
 refine ay Nat (fun i=>[(0,slx b (xs.map fun n=>[.int .i64 n])),(1,slx b' (ys.map fun n=>[.int .i64 n])),(12,.int .i64 ys.length),(13,.int .i64 i)])
  (fun i=>i<=ys.length/\∀k,k<i->xs[k]? = ys[k]?) (fun i=>ys.length-i) 0 (by simp) (by simp) ?_
 rintro i ⟨hi,hok⟩
 simp
 refine ab (fun h1=>?_) (fun h1=>?_)<;>simp at h1<;>simp[h1]
 ·have hw:IntKind.wrap .i64 ((i:Int)+1)=((i+1:Nat):Int):=wrap_i64 (by omega) (by omega)
  have hx1:i<xs.length:=by omega
  simp[h1,hx1]
  refine⟨aw (by decide +kernel),?_⟩
  refine ab (fun h2=>?_) (fun h2=>?_)<;>simp[h1,hx1]at h2<;>simp[h1,hx1,h2,hw]
  ·rintro rfl
   exact h2 rfl
  ·refine⟨i+1,⟨by omega,fun k hk=>?_⟩,by omega,rfl⟩
   rcases x0y.1 hk with h5|rfl
   ·exact hok k h5
   ·rw[x0e h1,x0e hx1,h2]
 ·refine List.ext_getElem? fun k=>?_
  rcases x1q k i with h2|h2
  ·exact hok k h2
  ·rw[x01 (by omega),x01 (by omega)]
end Go.Gv

set_option maxRecDepth 4000
namespace Go.Gv
def kg(a b:Sec):Bool:=decide (a.name=b.name)&&decide (a.height=b.height)&&decide (a.price=b.price)&&decide (a.area=b.area)&&decide (a.conv=b.conv)
def fQ:List Sec->List Sec->Bool
 | [],[]=>true
 | a::us,b::bs=>kg a b&&fQ us bs
 | _,_=>false
theorem lK:∀{xs ys:List Sec},xs.length≠ys.length->fQ xs ys=false
 | [],[],h=>by simp at h
 | [],_::_,_=>rfl
 | _::_,[],_=>rfl
 | a::us,b::bs,h=>by
  unfold fQ
  rw[lK (xs:=us) (ys:=bs) (by simpa using h)]
  simp
theorem jm:∀{xs ys:List Sec} (hl:xs.length=ys.length),fQ xs ys=true↔∀j (h:j<xs.length),kg xs[j] (ys[j]'(by omega))=true
 | [],[],_=>by simp[fQ]
 | [],_::_,h=>by simp at h
 | _::_,[],h=>by simp at h
 | a::us,b::bs,hl=>by
  have ih:=jm (xs:=us) (ys:=bs) (by simpa using hl)
  unfold fQ
  rw[x0a,ih]
  constructor
  ·rintro⟨h1,h2⟩ j hj
   cases j with
   | zero=>exact h1
   | succ j=>exact h2 j (by simpa using hj)
  ·intro h
   exact⟨h 0 (by simp),fun j hj=>h (j+1) (by simpa using hj)⟩
structure EE (C:CC):Prop where
 nil:∀ds,C 609 ds .any [.own 11 []]->C 609 ds (.sl []) []
variable{C:CC}(hC:al prog C)
include hC
theorem Jb(a b:Sec)(h1:a.area.length<2^62)(h2:b.area.length<2^62)(h3:a.conv.length<2^62)(h4:b.conv.length<2^62):C 608 [.agg (aQ a),.agg (aQ b)] (.bool (kg a b)) []:=by
 have k1:=wC hC a.areaN b.areaN a.area b.area h1 h2
 have k2:=wC hC a.convN b.convN a.conv b.conv h3 h4
 refine start hC (nf:=N608) rfl rfl ?_
 simp[N608,aQ]
 by_cases e1:a.name=b.name
 ·by_cases e2:a.height=b.height
  ·by_cases e3:a.price=b.price
   ·simp[e1,e2,e3]
    refine aa k1 (.inl rfl) ?_
    by_cases e4:a.area=b.area
    ·simp[e4]
     refine aa k2 (.inl rfl) ?_
     simp[kg,e1,e2,e3,e4]
    ·simp[e4,kg]
   ·simp[e1,e2,e3,kg]
  ·simp[e1,e2,kg]
 ·simp[e1,kg]
theorem Cy(b b':Bool)(xs ys:List Sec)(hx:xs.length<2^62)(hy:ys.length<2^62)(h1:∀s∈xs,s.area.length<2^62/\s.conv.length<2^62)(h2:∀s∈ys,s.area.length<2^62/\s.conv.length<2^62) :
  C 607 [slx b (xs.map aQ),slx b' (ys.map aQ),.fn 608 []] (.bool (fQ xs ys)) []:=by
 have key:=fun(j:Nat) (h:j<xs.length) (h':j<ys.length)=>Jb hC xs[j] ys[j] (h1 _ (x0h h)).1 (h2 _ (x0h h')).1 (h1 _ (x0h h)).2 (h2 _ (x0h h')).2
 obtain⟨r,hr⟩:∃r,r=fQ xs ys:=⟨_,rfl⟩
 rw[<- hr]
 refine start hC (nf:=N607) rfl rfl ?_
 simp[N607]
 by_cases hl:xs.length=ys.length
 ·have hl':(xs.length:Int)=ys.length:=by omega
  simp[hl']
  refine ay Nat (fun j=>[(1,slx b' (ys.map aQ)),(2,.fn 608 []),(15,slx b (xs.map aQ)),(16,.int .i64 ys.length),(17,.int .i64 j)]) (fun j=>j<=xs.length/\∀i (h:i<xs.length),i<j->kg xs[i] (ys[i]'(by omega))=true) (fun j=>xs.length-j) 0 ⟨by omega,by omega⟩ (by simp) ?_
  rintro j ⟨hj,hok⟩
  simp
  refine ab (fun h=>?_) (fun h=>?_)<;>simp at h
  ·have hw:IntKind.wrap .i64 ((j:Int)+1)=((j+1:Nat):Int):=wrap_i64 (by omega) (by omega)
   have hjx:j<xs.length:=by omega
   have k:=key j hjx h
   simp only[aQ]at k
   simp[h,hjx,aQ]
   refine aa k (.inl rfl) ?_
   by_cases e:kg xs[j] ys[j]=true
   ·simp[e]
    exact⟨j+1,⟨by omega,fun i hi hij=>by rcases x0y.1 hij with h8|rfl;exact hok i hi h8;exact e⟩,by omega,hw⟩
   ·have e1:r=false:=by
     rw[hr,Bool.eq_false_iff]
     exact fun h9=>e ((jm hl).1 h9 j hjx)
    simp[e,e1]
  ·have e1:r=true:=by
    rw[hr,jm hl]
    exact fun i hi=>hok i hi (by omega)
   simp[h,e1]
 ·have e1:r=false:=by rw[hr];exact lK hl
  have hl':¬(xs.length:Int)=ys.length:=by omega
  simp[hl',e1]
omit hC in
theorem C7(ls:List Lnk):∀e∈ls.map aJ,∀c∈e,aA c=true:=fun e he=>(yh ls e he).2
theorem BV(l:List Lnk)(h:0<l.length)(h2:l.length<=400)(b:Bool):C 609 [slx b (l.map aJ)] (.own 11 (l.map aJ)) [.nils]:=by
 have e:slx b (l.map aJ)=.sl (l.map aJ):=by
  cases b with
  | false=>simp
  | true =>
   unfold slx
   cases l with
   | nil=>simp at h
   | cons x xs=>simp
 have hu:=yh l
 have hb:l.length*136<=140737488355328:=by omega
 rw[e]
 obtain⟨R,hR⟩:∃R,R=l.map aJ:=⟨_,rfl⟩
 have hRl:R.length=l.length:=by rw[hR,x0S]
 rw[<- hR]at hu ⊢
 refine Jr hC (nf:=N609) rfl rfl rfl ?_
 simp[N609,hRl,hb]
 exact⟨fun _=>hu,fun e=>by subst e;simp at h⟩
theorem zT(hP:EE C)(b:Bool):∃d,(d=.nils\/d=.sl [])/\C 609 [slx b (([]:List Lnk).map aJ)] d []:=by
 cases b with
 | true =>
  refine⟨.nils,.inl rfl,?_⟩
  show C 609 [.nils] .nils []
  refine start hC (nf:=N609) rfl rfl ?_
  simp[N609]
 | false =>
  refine⟨.sl [],.inr rfl,?_⟩
  show C 609 [.sl []] (.sl []) []
  refine hP.nil _ ?_
  refine jp hC (nf:=N609) rfl rfl ?_
  simp[N609]
end Go.Gv

set_option maxRecDepth 4000
namespace Go.Gv
variable{C:CC}(hC:al prog C)
include hC
end Go.Gv

set_option maxRecDepth 4000
namespace Go.Gv
variable{C:CC}(hC:al prog C)
include hC
end Go.Gv

set_option maxRecDepth 4000
namespace Go.Gv
theorem FQ{O:List Nat}{n:Nat}(hnd:O.Nodup)(hlt:∀v∈O,v<n)(hlen:O.length=n){v:Nat}(hv:v<n):v∈O:=by
 apply Classical.byContradiction
 intro hn
 have hnd2:(v::O).Nodup:=List.nodup_cons.2 ⟨hn,hnd⟩
 have hsub:(v::O) ⊆ List.range n:=by
  intro u hu
  rcases x0H.1 hu with rfl|hu
  ·simpa using hv
  ·simpa using hlt u hu
 have:=List.Nodup.length_le_of_subset hnd2 hsub
 simp at this
 omega
theorem I3{es:List Edg}{vs:List Nat}(h:vs.Nodup):(ppT es vs).Nodup:=by
 unfold ppT List.Nodup
 rw[List.pairwise_filterMap]
 refine h.imp ?_
 intro a b hab x hx y hy e
 subst e
 obtain⟨_,h2,_⟩:=eO hx
 obtain⟨_,h4,_⟩:=eO hy
 exact hab (by rw[<- h2,<- h4])
theorem vz{es:List Edg}{n:Nat}(hlen:(bk n es).length=n){v x:Nat}(hv:v<n)(h:fE es v=some x):x∈ppL n es:=by
 unfold ppL ppT
 rw[List.mem_filterMap]
 exact⟨v,FQ (pf n es) (fun _ h=>yp h) hlen hv,h⟩
variable{C:CC}(hC:al prog C)
include hC
end Go.Gv

namespace Go.Gv
variable{C:CC}(hC:al prog C)
include hC
end Go.Gv

set_option maxRecDepth 4000
namespace Go.Gv
def qT(n:Nod):Bool:=decide (20<n.shape.length)||decide (60<n.name.length)
def nj(l:Lnk):Bool:=decide (20<l.curve.length)||decide (60<l.name.length)||decide (60<l.src.length)||decide (60<l.dst.length)||decide (60<l.sect.length)
def ni(ns:List Nod)(ls:List Lnk):Bool:=decide (12<ns.length)||decide (12<ls.length)||ns.any qT||ls.any nj
theorem vL(xs:List Sec):fQ xs xs=true:=(jm rfl).2 fun j h=>by simp[kg]
variable{C:CC}(hC:al prog C)
include hC
end Go.Gv

set_option maxRecDepth 4000
namespace Go.Gv
variable{C:CC}(hC:al prog C)
include hC
end Go.Gv

set_option maxRecDepth 4000
namespace Go.Gv
variable{C:CC}(hC:al prog C)
include hC
end Go.Gv

set_option maxRecDepth 4000
namespace Go.Gv
def i7(l:Lnk)(nm:List UInt8):Lnk:={ l with sect:=nm }
def gz(ls:List Lnk)(ss:List Sec)(V:List Nat)(ch:List Int):Nat->List Lnk
 | 0=>ls
 | k+1=>(gz ls ss V ch k).set (V[k]!) (i7 ((gz ls ss V ch k)[V[k]!]!) ss[(ch[k]!).toNat]!.name)
theorem ib(ls:List Lnk)(ss:List Sec)(V:List Nat)(ch:List Int):∀k,(gz ls ss V ch k).length=ls.length
 | 0=>rfl
 | k+1=>by unfold gz;rw[List.length_set,ib ls ss V ch k]
def ka(ls:List Lnk)(ss:List Sec)(V:List Nat)(ch:List Int)(k:Nat):List (List D):=(gz ls ss V ch k).map aJ
theorem Dy(ls:List Lnk)(ss:List Sec)(V:List Nat)(ch:List Int)(k:Nat):(ka ls ss V ch k).length=ls.length:=by unfold ka;rw[x0S,ib]
theorem Dx{ls:List Lnk}(ss:List Sec)(V:List Nat)(ch:List Int)(k:Nat){i:Nat}(h:i<ls.length):(ka ls ss V ch k)[i]? = some (aJ ((gz ls ss V ch k)[i]!)):=by
 have h':i<(gz ls ss V ch k).length:=by rw[ib];exact h
 unfold ka
 rw[x0z,x0e h',x0c _ i h'];rfl
theorem GR(l:Lnk)(nm:List UInt8):aJ (i7 l nm)=(aJ l).take 7++[.str nm]++(aJ l).drop 8:=by
 simp[i7,aJ]
theorem Dz{ls:List Lnk}{ss:List Sec}{V:List Nat}{ch:List Int}{k:Nat}(hk:k<V.length)(hc:k<ch.length)(hs:(ch[k]).toNat<ss.length):(ka ls ss V ch k).set V[k] ((aJ ((gz ls ss V ch k)[V[k]]!)).take 7++[.str ss[(ch[k]).toNat].name]++(aJ ((gz ls ss V ch k)[V[k]]!)).drop 8)=ka ls ss V ch (k+1):=by
 unfold ka
 rw[show gz ls ss V ch (k+1)=(gz ls ss V ch k).set (V[k]!) (i7 ((gz ls ss V ch k)[V[k]!]!) ss[(ch[k]!).toNat]!.name)from rfl]
 rw[List.map_set,GR,x0c V k hk,x0c ch k hc,x0c ss _ hs]
def qu(ns:List Nod)(ls:List Lnk)(ss:List Sec)(j:Job)(ch:List Int):Int :=
 if !(cq ns ls&&aH ss&&am j) then 1 else if ppE ls ns.length (ah ns ls)≠0 then ppE ls ns.length (ah ns ls)
 else if !(decide (ppB ns.length (ah ns ls)=j.below.l)&&fQ ss j.secs) then 25 else bv j ch
def AM(ns:List Nod)(ls:List Lnk)(ss:List Sec)(j:Job)(ch:List Int):D :=
 if qu ns ls ss j ch=0 then .agg [.sl (ns.map bz),.sl (ka ls ss (ppL ns.length (ah ns ls)) ch (ppL ns.length (ah ns ls)).length)] else .agg [.nils,.nils]
variable{C:CC}(hC:al prog C)
include hC
set_option maxHeartbeats 2000000 in
theorem Lj(hS:SlC C)(hL:uj C)(hP:EE C)(b1 b2 b3 b4:Bool)(ns:List Nod)(ls:List Lnk)(ss:List Sec)(j:Job)(ch:List Int)(hcv:∀l∈ls,l.curve.length<2^40)(hsh:∀n∈ns,n.shape.length<2^40)(h1:∀s∈ss,s.area.length<2^62/\s.conv.length<2^62)(h2:∀s∈j.secs,s.area.length<2^62/\s.conv.length<2^62)(hch:ch.length<2^62) :
  C 566 [.agg [slx b1 (ns.map bz),slx b2 (ls.map aJ)],slx b3 (ss.map aQ),.agg (dX j),slx b4 (ch.map fun x=>[.int .i64 x])] (.tup [AM ns ls ss j ch,.int .i64 (qu ns ls ss j ch)]) []:=by
 have k1:=mE hC b1 b2 ns ls (fun l h=>by have:=hcv l h;omega)
 have k2:=gP hC b3 ss
 have k3:=sH hC j
 obtain⟨E,hE⟩:∃E,E=qu ns ls ss j ch:=⟨_,rfl⟩
 obtain⟨X,hX⟩:∃X,X=AM ns ls ss j ch:=⟨_,rfl⟩
 rw[<- hE,<- hX]
 have bad:∀x:Int,x≠0->E=x->X=.agg [.nils,.nils]/\E=x:=fun x hx h=>by
  refine⟨?_,h⟩
  rw[hX];unfold AM;rw[if_neg (by rw[<- hE,h];exact hx)]
 refine start hC (nf:=N566) rfl rfl ?_
 simp[N566,aB]
 simp[aB]at k3
 refine aa k1 (.inl rfl) ?_
 by_cases hv:cq ns ls=true
 ·rw[hv]
  simp
  refine aa k2 (.inl rfl) ?_
  by_cases hc:aH ss=true
  ·rw[hc]
   simp
   refine aa k3 (.inl rfl) ?_
   by_cases hj:am j=true
   ·rw[hj]
    simp
    have hu:qu ns ls ss j ch=if ppE ls ns.length (ah ns ls)≠0 then ppE ls ns.length (ah ns ls) else if !(decide (ppB ns.length (ah ns ls)=j.below.l)&&fQ ss j.secs) then 25 else bv j ch:=by
     unfold qu;rw[if_neg (by simp[hv,hc,hj])]
    have hE0:=hE
    rw[hu]at hE
    clear hu
    have k4:=vA hC hS b1 b2 ns ls (fun l h=>by have:=hcv l h;omega) hv
    obtain⟨hnl,hll⟩:=cC hv
    have hel:=bT ns ls
    have hjb:j.below.l.length<=400:=by simp only[am,x0a,x0b]at hj;omega
    have hjs:j.secs.length<=40:=by simp only[am,aH,x0a,x0b]at hj;omega
    have hss:ss.length<=40:=by simp only[aH,x0a,x0b]at hc;omega
    refine aa k4 (.inr rfl) ?_
    by_cases h3:ppE ls ns.length (ah ns ls)=0
    ·have eV:ppV ls ns.length (ah ns ls)=ppL ns.length (ah ns ls):=by unfold ppV;rw[if_pos h3]
     have eW:ppW ls ns.length (ah ns ls)=ppB ns.length (ah ns ls):=by unfold ppW;rw[if_pos h3]
     rw[if_neg (by simp[h3])]at hE
     have hBl:(ppB ns.length (ah ns ls)).length=(ppL ns.length (ah ns ls)).length:=by unfold ppB;rw[x0S]
     have hVl:(ppL ns.length (ah ns ls)).length<=300:=x09 (kV _ _) (x09 (iW _ _) hnl)
     have hVlt:∀l∈ppL ns.length (ah ns ls),l<ls.length:=fun l hl=>by rw[<- hel];exact lH hl
     have eX:E=0->X=.agg [.sl (ns.map bz),.sl (ka ls ss (ppL ns.length (ah ns ls)) ch (ppL ns.length (ah ns ls)).length)]:=fun h=>by
      rw[hX];unfold AM;rw[if_pos (by rw[<- hE0];exact h)]
     rw[h3,eV,eW]
     clear hE0 hX k4
     have k5:=Cz hC false j.below.n (ppB ns.length (ah ns ls)) j.below.l (by omega) (by omega)
     have k6:=Cy hC b3 j.secN ss j.secs (by omega) (by omega) h1 h2
     have k7:=uB hC j b4 ch hch
     generalize ppL ns.length (ah ns ls)=V at *
     generalize ppB ns.length (ah ns ls)=B at *
     rw[dc]at k5
     simp[aY]
     by_cases h4:V.length=j.below.l.length
     ·simp[h4]
      refine aa k5 (.inl rfl) ?_
      by_cases h5:B=j.below.l
      ·simp[h5]
       refine aa k6 (.inl rfl) ?_
       by_cases h6:fQ ss j.secs=true
       ·rw[if_neg (by simp[h5,h6])]at hE
        simp[h6]
        simp[aB]at k7
        refine aa k7 (.inl rfl) ?_
        rw[<- hE]
        by_cases h7:E=0
        ·rw[eX h7,h7]
         simp
         have hch0:bv j ch=0:=by rw[<- hE,h7]
         have hsl:ss.length=j.secs.length:=by
          apply Classical.byContradiction
          intro h8
          rw[lK h8]at h6
          cases h6
         have hchl:ch.length=V.length:=by
          unfold bv at hch0
          rw[if_neg (by rw[hj];decide)]at hch0
          split at hch0
          ·cases hch0
          ·omega
         have hrange:∀k (h:k<ch.length),0<=ch[k]/\(ch[k]).toNat<ss.length:=by
          intro k hk
          unfold bv at hch0
          rw[if_neg (by rw[hj];decide),if_neg (by omega)]at hch0
          split at hch0
          ·cases hch0
          ·rename_i h8
           rw[x0U,x0E]at h8
           have h9:=h8 _ (x0h hk)
           simp[ju]at h9
           omega
         rcases x0X ls.length with hl0|hl0
         ·have hl00:ls=[]:=x0G hl0
          have hV0:V=[]:=by
           cases V with
           | nil=>rfl
           | cons v V=>have:=hVlt v (by simp);omega
          subst hl00
          obtain⟨d,hd,hcl⟩:=zT hC hP b2
          refine zK hcl ?_
          rcases hd with rfl|rfl
          ·simp
           refine qM (ds:=[.nils,.nils]) (b:=10224) (i:=0) (off:=0) (sz:=2) (es:=[[.own 9 [],.own 11 []]]) (r:=[.own 9 [],.own 11 []]) (by simp) (by simp[aA]) rfl rfl (by simp) (by simp) rfl (by simp) ?_
           simp[dQ,xa]
           refine ay Nat (fun i=>[(1,slx b3 (ss.map aQ)),(3,slx b4 (ch.map fun n=>[.int .i64 n])),(8,.adr (.r 10128) 0 0),(10,.sl (bg V)),(14,.adr (.r 10224) 0 0),(76,slx b1 (ns.map bz)),(77,.int .i64 ns.length),(78,.int .i64 i),(10128,.blk 2 [[.own 9 [],.own 11 []]]),(10224,.blk 2 [[.own 9 (nT ns i),.own 11 []]])]) (fun i=>i<=ns.length) (fun i=>ns.length-i) 0 (by simp) (by simp[tz]) ?_
           intro i hi
           simp
           refine ab (fun h=>?_) (fun h=>?_)<;>simp at h
           ·have hw:IntKind.wrap .i64 ((i:Int)+1)=((i+1:Nat):Int):=wrap_i64 (by omega) (by omega)
            have ht:=tx h
            have hlen:=w8 hi
            have hk:=l8 hC hL ns[i].shapeN ns[i].shape (hsh _ (x0h h))
            have hcc:=w7 ns i
            have htk:List.take i (nT ns i)=nT ns i:=x0i (by omega)
            have hb2:(i+1)*96<=140737488355328:=by omega
            rcases qL ns[i].shapeN (ns[i].shape.map knD)with e|e
            all_goals
             rw[e]at hk
             simp[h,bz,e]
             refine aa hk (.inr rfl) ?_
             simp[bz,e]at ht
             simp[hlen,hb2,htk]
             refine⟨fun e he=>by rcases he with he|rfl;exact(hcc e he).2;simp[aA],i+1,by omega,by omega,hw,?_⟩
             rw[ht]
           ·have ei:i=ns.length:=by omega
            subst ei
            simp[h,w6,aY]
            subst hV0
            simp
            refine ay Nat (fun i=>[(1,slx b3 (ss.map aQ)),(3,slx b4 (ch.map fun n=>[.int .i64 n])),(8,.adr (.r 10128) 0 0),(14,.adr (.r 10224) 0 0),(93,.sl (bg [])),(94,.int .i64 0),(95,.int .i64 i),(10128,.blk 2 [[.own 9 [],.own 11 []]]),(10224,.blk 2 [[.own 9 (ns.map bz),.own 11 []]])]) (fun i=>i=0) (fun i=>0) 0 rfl (by simp[bg]) ?_
            rintro i rfl
            simp[ka,gz]
          ·simp
           refine qM (ds:=[.nils,.sl []]) (b:=10224) (i:=0) (off:=0) (sz:=2) (es:=[[.own 9 [],.own 11 []]]) (r:=[.own 9 [],.own 11 []]) (by simp) (by simp[aA]) rfl rfl (by simp) (by simp) rfl (by simp) ?_
           simp[dQ,xa]
           refine ay Nat (fun i=>[(1,slx b3 (ss.map aQ)),(3,slx b4 (ch.map fun n=>[.int .i64 n])),(8,.adr (.r 10128) 0 0),(10,.sl (bg V)),(14,.adr (.r 10224) 0 0),(76,slx b1 (ns.map bz)),(77,.int .i64 ns.length),(78,.int .i64 i),(10128,.blk 2 [[.own 9 [],.own 11 []]]),(10224,.blk 2 [[.own 9 (nT ns i),.sl []]])]) (fun i=>i<=ns.length) (fun i=>ns.length-i) 0 (by simp) (by simp[tz]) ?_
           intro i hi
           simp
           refine ab (fun h=>?_) (fun h=>?_)<;>simp at h
           ·have hw:IntKind.wrap .i64 ((i:Int)+1)=((i+1:Nat):Int):=wrap_i64 (by omega) (by omega)
            have ht:=tx h
            have hlen:=w8 hi
            have hk:=l8 hC hL ns[i].shapeN ns[i].shape (hsh _ (x0h h))
            have hcc:=w7 ns i
            have htk:List.take i (nT ns i)=nT ns i:=x0i (by omega)
            have hb2:(i+1)*96<=140737488355328:=by omega
            rcases qL ns[i].shapeN (ns[i].shape.map knD)with e|e
            all_goals
             rw[e]at hk
             simp[h,bz,e]
             refine aa hk (.inr rfl) ?_
             simp[bz,e]at ht
             simp[hlen,hb2,htk]
             refine⟨fun e he=>by rcases he with he|rfl;exact(hcc e he).2;simp[aA],i+1,by omega,by omega,hw,?_⟩
             rw[ht]
           ·have ei:i=ns.length:=by omega
            subst ei
            simp[h,w6,aY]
            subst hV0
            simp
            refine ay Nat (fun i=>[(1,slx b3 (ss.map aQ)),(3,slx b4 (ch.map fun n=>[.int .i64 n])),(8,.adr (.r 10128) 0 0),(14,.adr (.r 10224) 0 0),(93,.sl (bg [])),(94,.int .i64 0),(95,.int .i64 i),(10128,.blk 2 [[.own 9 [],.own 11 []]]),(10224,.blk 2 [[.own 9 (ns.map bz),.sl []]])]) (fun i=>i=0) (fun i=>0) 0 rfl (by simp[bg]) ?_
            rintro i rfl
            simp[ka,gz]
         ·refine zM (BV hC ls hl0 hll b2) rfl ?_
          simp
          refine Ed (ds:=[.nils,.ref (.r 11169) 0 ls.length]) (cs:=[.nils,.own 11 (ls.map aJ)]) (bs:=[11169]) (b:=10224) (i:=0) (off:=0) (sz:=2) (es:=[[.own 9 [],.own 11 []]]) (r:=[.own 9 [],.own 11 []]) (by simp) rfl ?_ (by simp) (by simp) rfl (by simp) (by simp) rfl (by simp) ?_
          ·intro Q hQ
           simp[jG,eC,aA]
           exact⟨fun a ha=>C7 ls _ (List.mem_map_of_mem ha),hQ⟩
          simp[dQ,xa]
          refine ay Nat (fun i=>[(1,slx b3 (ss.map aQ)),(3,slx b4 (ch.map fun n=>[.int .i64 n])),(8,.adr (.r 10128) 0 0),(10,.sl (bg V)),(14,.adr (.r 10224) 0 0),(76,slx b1 (ns.map bz)),(77,.int .i64 ns.length),(78,.int .i64 i),(10128,.blk 2 [[.own 9 [],.own 11 []]]),(10224,.blk 2 [[.own 9 (nT ns i),.own 11 (ls.map aJ)]])]) (fun i=>i<=ns.length) (fun i=>ns.length-i) 0 (by simp) (by simp[tz]) ?_
          intro i hi
          simp
          refine ab (fun h=>?_) (fun h=>?_)<;>simp at h
          ·have hw:IntKind.wrap .i64 ((i:Int)+1)=((i+1:Nat):Int):=wrap_i64 (by omega) (by omega)
           have ht:=tx h
           have hlen:=w8 hi
           have hk:=l8 hC hL ns[i].shapeN ns[i].shape (hsh _ (x0h h))
           have hcc:=w7 ns i
           have htk:List.take i (nT ns i)=nT ns i:=x0i (by omega)
           have hb2:(i+1)*96<=140737488355328:=by omega
           rcases qL ns[i].shapeN (ns[i].shape.map knD)with e|e
           all_goals
            rw[e]at hk
            simp[h,bz,e]
            refine aa hk (.inr rfl) ?_
            simp[bz,e]at ht
            simp[hlen,hb2,htk]
            refine⟨fun e he=>by rcases he with he|rfl;exact(hcc e he).2;simp[aA],i+1,by omega,by omega,hw,?_⟩
            rw[ht]
          ·have ei:i=ns.length:=by omega
           subst ei
           simp[h,w6,aY]
           refine ay Nat (fun k=>[(1,slx b3 (ss.map aQ)),(3,slx b4 (ch.map fun n=>[.int .i64 n])),(8,.adr (.r 10128) 0 0),(14,.adr (.r 10224) 0 0),(93,.sl (bg V)),(94,.int .i64 V.length),(95,.int .i64 k),(10128,.blk 2 [[.own 9 [],.own 11 []]]),(10224,.blk 2 [[.own 9 (ns.map bz),.own 11 (ka ls ss V ch k)]])]) (fun k=>k<=V.length) (fun k=>V.length-k) 0 (by simp) (by simp[ka,gz]) ?_
           intro k hk
           simp
           refine ab (fun h=>?_) (fun h=>?_)<;>simp at h
           ·have hw:IntKind.wrap .i64 ((k:Int)+1)=((k+1:Nat):Int):=wrap_i64 (by omega) (by omega)
            have hi:=hVlt _ (x0h h)
            have hkc:k<ch.length:=by omega
            obtain⟨hs0,hs1⟩:=hrange k hkc
            have hget:=Dx (ls:=ls) ss V ch k hi
            have hpl:=Dy ls ss V ch k
            have hset:=Dz (ls:=ls) h hkc hs1
            have hrow:(ka ls ss V ch k)[V[k]]'(by rw[hpl];exact hi)=aJ ((gz ls ss V ch k)[V[k]]!):=by
             have h':V[k]<(gz ls ss V ch k).length:=by rw[ib];exact hi
             simp only[ka,x0Q]
             rw[x0c (gz ls ss V ch k) V[k] h']
            simp[h,aD (ga h),hkc,hs0,hs1,aQ,hpl,hi]
            refine⟨by rw[hrow];simp[aJ],aw (by decide +kernel),k+1,by omega,by omega,hw,?_⟩
            rw[hrow,<- hset]
            simp
           ·have ek:k=V.length:=by omega
            subst ek
            simp[h]
        ·obtain⟨e1,e2⟩:=bad E h7 rfl
         rw[e1]
         simp[h7]
       ·obtain⟨e1,e2⟩:=bad 25 (by decide) (by rw[hE,if_pos (by simp[h6])])
        rw[e1,e2]
        simp[h6]
      ·obtain⟨e1,e2⟩:=bad 25 (by decide) (by rw[hE,if_pos (by simp[h5])])
       rw[e1,e2]
       simp[h5]
     ·have h5:¬B=j.below.l:=fun h=>h4 (by rw[<- hBl,h])
      obtain⟨e1,e2⟩:=bad 25 (by decide) (by rw[hE,if_pos (by simp[h5])])
      have h4':¬(V.length:Int)=(j.below.l.length:Int):=by omega
      rw[e1,e2]
      simp[h4']
    ·obtain⟨e1,e2⟩:=bad _ h3 (by rw[hE,if_pos h3])
     rw[e1,<- e2]
     rw[<- e2]at h3
     simp[h3]
   ·obtain⟨e1,e2⟩:=bad 1 (by decide) (by rw[hE];unfold qu;rw[if_pos (by simp[hj])])
    rw[e1,e2]
    simp[hj]
  ·obtain⟨e1,e2⟩:=bad 1 (by decide) (by rw[hE];unfold qu;rw[if_pos (by simp[hc])])
   rw[e1,e2]
   simp[hc]
 ·obtain⟨e1,e2⟩:=bad 1 (by decide) (by rw[hE];unfold qu;rw[if_pos (by simp[hv])])
  rw[e1,e2]
  simp[hv]
end Go.Gv

set_option maxRecDepth 4000
namespace Go.Gv
variable{C:CC}(hC:al prog C)
include hC
end Go.Gv

set_option maxRecDepth 4000
namespace Go.Gv
theorem GQ{ns:List Nod}{ls:List Lnk}(h:ni ns ls=false):(∀n∈ns,n.shape.length<=20)/\∀l∈ls,l.curve.length<=20:=by
 simp only[ni,x0N,x0x,x0E]at h
 refine⟨fun n hn=>?_,fun l hl=>?_⟩
 ·have:=h.1.2 n hn
  simp only[qT,x0u,x0b,not_or]at this
  omega
 ·have:=h.2 l hl
  simp only[nj,x0u,x0b,not_or]at this
  omega
variable{C:CC}(hC:al prog C)
include hC
end Go.Gv

namespace Go.Gv
theorem jd{j:Job}{ch:List Int}(hc:bv j ch=0)(h:∀k,k<j.below.l.length->gw j ch k=false):bi j ch=(true,-1,0):=by
 unfold bi
 rw[if_neg (by rw[hc];simp)]
 have:(List.range j.below.l.length).find? (gw j ch)=none:=by
  rw[List.find?_eq_none]
  intro k hk
  rw[x0M]at hk
  rw[h k hk];simp
 rw[this]
theorem sK{j:Job}{ch:List Int}{i:Nat}(hc:bv j ch=0)(hi:i<j.below.l.length)(h:∀k,k<i->gw j ch k=false)(hb:gw j ch i=true):bi j ch=(false,(i:Int),0):=by
 unfold bi
 rw[if_neg (by rw[hc];simp)]
 have:(List.range j.below.l.length).find? (gw j ch)=some i:=by
  rw[List.find?_eq_some_iff_getElem]
  refine⟨hb,i,by simpa using hi,by simp,fun k hk=>?_⟩
  simp[h k hk]
 rw[this]
end Go.Gv

namespace Go.Gv
theorem BM{j:Job}{i:Nat}(hi:i<j.below.l.length):(bF j)[i]! = fK j j.below.l.length i:=by
 rw[x0c _ i (by simpa[bF]using hi)]
 simp[bF]
theorem mK{j:Job}{a s:Nat}{h:Int}:okF j a h s=true↔bZ j a s=true/\j.secs[s]!.height<=h:=by
 simp[okF]
theorem y8{j:Job}{i a:Nat}(h:a∈aI j i):j.below.l[a]! =(i:Int):=by
 simp only[aI,x1n,x0M,x0b]at h
 exact h.2
theorem lW{j:Job}(hv:am j=true)(hc:b9 j≠-1):bi j (bF j)=(true,-1,0)/\sT j (bF j)=(b9 j,0):=by
 have hG:=fun i hi=>(o4 hv hc j.below.l.length (x0k _) i hi (by omega)).sec
 obtain⟨ch,hch⟩:∃ch,ch=fK j j.below.l.length:=⟨_,rfl⟩
 rw[<- hch]at hG
 have hat:∀i,i<j.below.l.length->(bF j)[i]! = ch i:=fun i hi=>by rw[BM hi,hch]
 have hlen:(bF j).length=j.below.l.length:=by simp[bF]
 have hsec:∀i s,i<j.below.l.length->ch i=((s:Nat):Int)->bJ j (bF j) i=s:=fun i s hi e=>by rw[bJ,hat i hi,e];rfl
 have h0:bv j (bF j)=0:=by
  rw[bv,if_neg (by rw[hv];simp),if_neg (by omega),if_neg]
  rw[x0U,x0E]
  intro x hx
  obtain⟨i,hi,rfl⟩:=x0P hx
  obtain⟨s,e1,e2,_⟩:=hG i (by omega)
  have:=hat i (by omega)
  rw[x0c _ i hi,e1]at this
  rw[this]
  simp[ju]
  omega
 have hh:∀i a s,i<j.below.l.length->ch i=((s:Nat):Int)->a∈aI j i->hgt j ch a=j.secs[s]!.height:=fun i a s hi e ha=>by
  have:=y8 ha
  rw[hgt,if_neg (by omega),this]
  simp[e]
 refine⟨jd h0 (fun i hi=>?_),?_⟩
 ·obtain⟨s,e1,e2,e3,e4,e5⟩:=hG i hi
  rw[gw,hsec i s hi e1,(mK.1 e4).1,Bool.not_true,Bool.false_or,x0E]
  intro a ha
  have hal:=dx ha
  obtain⟨t,f1,f2,f3,f4,f5⟩:=hG a hal
  rw[i5,hsec i s hi e1,hsec a t hal f1,x0b]
  have:=(mK.1 f4).2
  rw[hh i a s hi e1 ha]at this
  omega
 rw[sT,if_neg (by rw[h0];simp)]
 have hstep:∀i,i<j.below.l.length->lv j (aM j) (hgt j ch i) i=j6 j i (bJ j (bF j) i)+AS j (fun a=>lv j (aM j) (hgt j ch a) a) i:=fun i hi=>by
  obtain⟨s,e1,e2,e3,e4,e5⟩:=hG i hi
  rw[hsec i s hi e1,e5]
  rcases vW hv hi e2 (mK.1 e4).1 with ⟨_,f⟩|⟨_,f⟩
  ·exact absurd f e3
  rw[f,<- kD hv _ hi]
  have:(aI j i).map (lv j (aM j) j.secs[s]!.height)=(aI j i).map (fun a=>lv j (aM j) (hgt j ch a) a):=x0j fun a ha=>by rw[hh i a s hi e1 ha]
  rw[this]
 have hF:∀i,i<=j.below.l.length->zfs j (fun a=>lv j (aM j) (hgt j ch a) a) i=S (fun i=>j6 j i (bJ j (bF j) i)) i:=by
  intro i
  induction i with
  | zero=>intro _;simp[zfs,S]
  | succ i ih =>
   intro hi
   have h1:=sD hv (fun a=>lv j (aM j) (hgt j ch a) a) (i:=i) (by omega)
   have h2:=hstep i (by omega)
   have h3:=ih (by omega)
   simp only[S]
   omega
 rcases uD hv with ⟨_,e⟩|⟨e1,e2,e3⟩
 ·exact absurd e hc
 have hr:(db j).map (lv j (aM j) 4194304)=(db j).map (fun a=>lv j (aM j) (hgt j ch a) a):=x0j fun a ha=>by rw[hgt,if_pos (ic ha).2]
 rw[hr,nV hv,hF _ (x0k _)]at e2
 rw[e2,costC]
theorem Gh{j:Job}(hv:am j=true){i s:Nat}(hi:i<j.below.l.length)(hp:bZ j i s=true):j.secs[s]!.height<=4194304:=by
 have h1:j.room.l[i]!<=4194304:=by
  simp only[am,x0a,x0f,x0M]at hv
  have:=hv.2 i hi
  simp only[eA,fq,x0a,x0b]at this
  omega
 simp only[bZ,x0a,x0b]at hp
 omega
theorem xQ{j:Job}{ch:List Int}(h0:bv j ch=0)(ha:(bi j ch).1=true):b9 j≠-1/\b9 j<=costC j ch:=by
 obtain⟨hv,hlen,hs⟩:=fL h0
 have hbad:∀i,i<j.below.l.length->gw j ch i=false:=fun i hi=>by
  unfold bi at ha
  rw[if_neg (by rw[h0];simp)]at ha
  cases hf:(List.range j.below.l.length).find? (gw j ch) with
  | some k=>rw[hf]at ha;cases ha
  | none =>
   rw[List.find?_eq_none]at hf
   simpa using hf i (by simpa using hi)
 have hsl:∀i,i<j.below.l.length->bJ j ch i<j.secs.length:=fun i hi=>by obtain⟨s,_,e2,e3⟩:=hs i hi;omega
 have hpos:∀i,i<j.below.l.length->bZ j i (bJ j ch i)=true:=fun i hi=>by
  have:=hbad i hi
  rw[gw,x0N]at this
  simpa using this.1
 have hle:∀i a,i<j.below.l.length->a∈aI j i->okF j a j.secs[bJ j ch i]!.height (bJ j ch a)=true:=fun i a hi ha=>by
  refine mK.2 ⟨hpos a (dx ha),?_⟩
  have:=hbad i hi
  rw[gw,x0N,x0E]at this
  have:=this.2 a ha
  rw[i5,x0b]at this
  omega
 have hlv:∀a h,a<j.below.l.length->(aM j a)[bJ j ch a]!≠-1->okF j a h (bJ j ch a)=true->lv j (aM j) h a≠-1/\lv j (aM j) h a<=(aM j a)[bJ j ch a]!:=fun a h hal hne hok=>by
  have hl:bJ j ch a<(aM j a).length:=by rw[gi hal];exact hsl a hal
  rcases yk j (aM j) h a with ⟨_,f⟩|⟨s,f1,f2,f3,f4,f5⟩
  ·rw[f _ hl hne]at hok;cases hok
  ·have:=f5 _ hl hne hok
   rw[f2]
   exact⟨f3,this⟩
 have key:∀i,i<j.below.l.length->(aM j i)[bJ j ch i]!≠-1/\(aM j i)[bJ j ch i]!<=j6 j i (bJ j ch i)+AS j (fun a=>(aM j a)[bJ j ch a]!) i:=by
  intro i
  induction i using Nat.strongRecOn with
  | _ i ih =>
   intro hi
   have hl:∀a∈aI j i,lv j (aM j) j.secs[bJ j ch i]!.height a≠-1/\lv j (aM j) j.secs[bJ j ch i]!.height a<=(aM j a)[bJ j ch a]!:=fun a ha =>
    hlv a _ (dx ha) (ih a (gO hv ha) (dx ha)).1 (hle i a hi ha)
   rcases vW hv hi (hsl i hi) (hpos i hi)with ⟨⟨a,ha,f⟩,_⟩|⟨f1,f2⟩
   ·exact absurd f (hl a ha).1
   have h1:=(tD hv hi (hsl i hi)).1
   have h2:=gd (fun a ha=>(hl a ha).2)
   have h3:0<=((aI j i).map (lv j (aM j) j.secs[bJ j ch i]!.height)).sum:=jV (fun a ha=>((tu hv (dx ha)).resolve_left (hl a ha).1).1)
   rw[kD hv (fun a=>(aM j a)[bJ j ch a]!) hi]at h2
   rw[f2]
   omega
 have hF:∀i,i<=j.below.l.length->zfs j (fun a=>(aM j a)[bJ j ch a]!) i<=S (fun i=>j6 j i (bJ j ch i)) i:=by
  intro i
  induction i with
  | zero=>intro _;simp[zfs,S]
  | succ i ih =>
   intro hi
   have h1:=sD hv (fun a=>(aM j a)[bJ j ch a]!) (i:=i) (by omega)
   have h2:=(key i (by omega)).2
   have h3:=ih (by omega)
   simp only[S]
   omega
 have hr:∀a∈db j,lv j (aM j) 4194304 a≠-1/\lv j (aM j) 4194304 a<=(aM j a)[bJ j ch a]!:=fun a ha =>
  hlv a _ (ic ha).1 (key a (ic ha).1).1 (mK.2 ⟨hpos a (ic ha).1,Gh hv (ic ha).1 (hpos a (ic ha).1)⟩)
 rcases uD hv with ⟨⟨a,ha,e⟩,_⟩|⟨e1,e2,e3⟩
 ·exact absurd e (hr a ha).1
 have h1:=gd (fun a ha=>(hr a ha).2)
 rw[nV hv (fun a=>(aM j a)[bJ j ch a]!)]at h1
 have h2:=hF _ (x0k _)
 rw[costC]
 omega
end Go.Gv

set_option maxRecDepth 4000
namespace Go.Gv
theorem Ir{O:List Nat}(h:O.Nodup):O.Pairwise fun a b=>O.idxOf a<O.idxOf b:=by
 rw[x1w]
 intro i j hi hj hij
 rw[List.Nodup.idxOf_getElem h i hi,List.Nodup.idxOf_getElem h j hj]
 exact hij
theorem I4{es:List Edg}{O:List Nat}(h:O.Nodup):(ppT es O).Pairwise fun a b=>O.idxOf (es[a]!).1<O.idxOf (es[b]!).1:=by
 unfold ppT
 rw[List.pairwise_filterMap]
 refine(Ir h).imp ?_
 intro a b hab x hx y hy
 obtain⟨h1,h2,_⟩:=eO hx
 obtain⟨h3,h4,_⟩:=eO hy
 rw[x0c es x h1,x0c es y h3,h2,h4]
 exact hab
structure oL (ns:List Nod) (ls:List Lnk) (ss:List Sec) (q:List Int) (cover:Int):Prop where
 hv:cq ns ls=true
 hc:aH ss=true
 ss0:0<ss.length
 pe:ppE ls ns.length (ah ns ls)=0
 ql:q.length=ls.length
 cv:0<=cover/\cover<=4194304
 qr:∀x∈q,0<=x/\x<=1099511627776
 ok:∀l∈ppL ns.length (ah ns ls),iz ns (ah ns ls) ls cover l=false
theorem yx{ns:List Nod}{ls:List Lnk}{ss:List Sec}{q:List Int}{cover:Int}(h:prE ns ls ss q cover=0):oL ns ls ss q cover:=by
 unfold prE at h
 split at h
 ·cases h
 rename_i h1
 split at h
 ·cases h
 rename_i h2
 split at h
 ·rename_i h3;exact absurd h h3
 rename_i h3
 split at h
 ·cases h
 rename_i h4
 split at h
 ·cases h
 rename_i h5
 split at h
 ·cases h
 rename_i h6
 simp only[x0U,x1A,x0a]at h1
 simp only[x0u,not_or,x0t,x0W,x0x,Classical.not_not,x0U,x0E]at h5
 rw[x0U,x0E]at h6
 refine⟨h1.1,h1.2,by omega,by simpa using h3,by simpa using h4,?_,fun x hx=>?_,fun l hl=>by simpa using h6 l hl⟩
 ·have:=h5.1;omega
 ·have:=h5.2 x hx
  simp only[tL,x0t,x0W,x0x,not_or,Classical.not_not,x1A,x0a,x0b]at this
  exact this
theorem qp{ls:List Lnk}{n:Nat}{es:List Edg}(h:ppE ls n es=0):(∀i (h:i<ls.length),ls[i].kind=1)/\(es.map (·.1)).Nodup/\(bk n es).length=n:=by
 unfold ppE at h
 split at h
 ·cases h
 rename_i h1
 split at h
 ·cases h
 rename_i h2
 split at h
 ·cases h
 rename_i h3
 rw[x1e]at h1
 refine⟨fun i hi=>?_,Classical.not_not.1 h2,?_⟩
 ·apply Classical.byContradiction
  intro hk
  exact h1 ⟨ls[i],x0h hi,by simp[hk]⟩
 ·have:=iW n es;omega
variable{ns:List Nod}{ls:List Lnk}{ss:List Sec}{q:List Int}{cover:Int}
theorem xn(h:oL ns ls ss q cover){i:Nat}(hi:i<ls.length):i∈ppL ns.length (ah ns ls):=by
 obtain⟨_,hnd,hfull⟩:=qp h.pe
 have hel:=bT ns ls
 have hie:i<(ah ns ls).length:=by omega
 obtain⟨g1,_⟩:=fS h.hv _ (x0h hie)
 cases hx:fE (ah ns ls) (ah ns ls)[i].1 with
 | none=>exact absurd (List.mem_map_of_mem (x0h hie)) (tc.1 hx)
 | some x =>
  obtain⟨h1,h2,_⟩:=eO hx
  have:=kq hnd h1 hie h2
  subst this
  exact vz hfull g1 hx
theorem I5(h:oL ns ls ss q cover){i:Nat}(hi:i<(ppL ns.length (ah ns ls)).length) :
  iC (ah ns ls) (ppL ns.length (ah ns ls)) (ppL ns.length (ah ns ls))[i]=-1\/((i:Int)<iC (ah ns ls) (ppL ns.length (ah ns ls)) (ppL ns.length (ah ns ls))[i]/\iC (ah ns ls) (ppL ns.length (ah ns ls)) (ppL ns.length (ah ns ls))[i]<(ppL ns.length (ah ns ls)).length):=by
 obtain⟨_,hnd,hfull⟩:=qp h.pe
 have hg:=fS h.hv
 have hr:=fun(u v:Nat) (he:(u,v)∈ah ns ls)=>qh hg hfull he
 have hpw:=I4 (es:=ah ns ls) (pf ns.length (ah ns ls))
 have hVl:∀l∈ppL ns.length (ah ns ls),l<(ah ns ls).length:=fun l hl=>lH hl
 have hlt:=hVl _ (x0h hi)
 have hfu:=fun(v x:Nat) (h1:v<ns.length) (h2:fE (ah ns ls) v=some x)=>vz hfull h1 h2
 change (ppL ns.length (ah ns ls)).Pairwise _ at hpw
 generalize hV:ppL ns.length (ah ns ls)=V at *
 generalize ah ns ls=es at *
 generalize bk ns.length es=O at *
 unfold iC
 rw[x0e hlt]
 simp only[x1p]
 cases hx:fE es es[V[i]].2 with
 | none=>exact .inl rfl
 | some x =>
  right
  obtain⟨h1,h2,_⟩:=eO hx
  have hxV:=hfu _ _ (hg _ (x0h hlt)).2 hx
  have hk:=List.idxOf_lt_length_iff.2 hxV
  have hxk:V[V.idxOf x]=x:=List.getElem_idxOf hk
  have hrk:=(hr es[V[i]].1 es[V[i]].2 (x0h hlt)).1
  simp only[tA,if_pos hxV]
  refine⟨?_,by omega⟩
  apply Classical.byContradiction
  intro hle
  rcases Nat.lt_or_eq_of_le (show V.idxOf x<=i by omega)with h8|h8
  ·have:=x1w.1 hpw _ _ hk hi h8
   rw[hxk,x0c es x h1,x0c es _ hlt,h2]at this
   omega
  ·have e:V[i]=x:=by rw[<- hxk];congr 1;omega
   have e2:es[V[i]].1=es[V[i]].2:=by rw[<- h2];simp only[e]
   rw[e2]at hrk
   omega
theorem kW(h:oL ns ls ss q cover):am (bL ns (ah ns ls) ls ss q cover (ppL ns.length (ah ns ls)))=true:=by
 obtain⟨hnl,hll⟩:=cC h.hv
 have hkd:=mV h.pe
 have hb:=fun(i:Nat) hi=>I5 h (i:=i) hi
 have hok:=h.ok
 have hel:=bT ns ls
 have hVl:(ppL ns.length (ah ns ls)).length<=300:=x09 (kV _ _) (x09 (iW _ _) hnl)
 have hVlt:∀l∈ppL ns.length (ah ns ls),l<ls.length:=fun l hl=>by rw[<- hel];exact lH hl
 have hpl:=fun(i:Nat) (hi:i<ls.length)=>tJ h.hv hkd hi
 have hql:=h.ql
 have hqr:=h.qr
 generalize ppL ns.length (ah ns ls)=V at *
 generalize ah ns ls=es at *
 have hpipe:∀i,i<V.length->eA (bL ns es ls ss q cover V) i=true:=by
  intro i hi
  have hl:=hVlt _ (x0h hi)
  have h1:=hb i hi
  have h2:=hok _ (x0h hi)
  obtain⟨_,_,h3⟩:=hpl _ hl
  have h4:=hqr _ (x0h (show V[i]<q.length by omega))
  simp only[iz,x0N,x1A,x0a,x0b,x0x]at h2
  have h5:0<=pRm ns es ls cover V[i]:=by unfold pRm;split<;>omega
  have e1:lnF ls V[i]=ls[V[i]].len:=by unfold lnF;rw[x0c ls _ hl]
  have e2:qvF q V[i]=q[V[i]]:=by unfold qvF;rw[x0c q _ (by omega)]
  have g0:(bL ns es ls ss q cover V).below.l.length=V.length:=by simp[bL]
  have g1:(bL ns es ls ss q cover V).below.l[i]! = iC es V V[i]:=by
   show(V.map (iC es V))[i]! = _
   rw[x0c _ i (by simpa using hi),x0Q]
  have g2:(bL ns es ls ss q cover V).lengths.l[i]! = ls[V[i]].len:=by
   show(V.map (lnF ls))[i]! = _
   rw[x0c _ i (by simpa using hi),x0Q,e1]
  have g3:(bL ns es ls ss q cover V).flows.l[i]! = q[V[i]]:=by
   show(V.map (qvF q))[i]! = _
   rw[x0c _ i (by simpa using hi),x0Q,e2]
  have g4:(bL ns es ls ss q cover V).falls.l[i]! = pFa ls V[i]:=by
   show(V.map (pFa ls))[i]! = _
   rw[x0c _ i (by simpa using hi),x0Q]
  have g5:(bL ns es ls ss q cover V).room.l[i]! = pRm ns es ls cover V[i]:=by
   show(V.map (pRm ns es ls cover))[i]! = _
   rw[x0c _ i (by simpa using hi),x0Q]
  simp only[eA,fq,g0,g1,g2,g3,g4,g5]
  simp only[x0a,x0u,x0r,x0b]
  refine⟨⟨⟨⟨h1,by omega⟩,by omega⟩,by omega⟩,by omega⟩
 simp only[am,x0a,x0b,x0f,x0M]
 refine⟨⟨⟨⟨⟨⟨⟨?_,?_⟩,?_⟩,?_⟩,?_⟩,h.ss0⟩,h.hc⟩,fun i hi=>hpipe i (by simpa[bL]using hi)⟩
 all_goals simp only[bL,x0S]
 omega
end Go.Gv

set_option maxRecDepth 4000
namespace Go.Gv
def secN(ss:List Sec)(V:List Nat)(ch:List Int)(i:Nat):List UInt8:=ss[(ch[V.idxOf i]!).toNat]!.name
theorem tK{ls:List Lnk}{ss:List Sec}{V:List Nat}{ch:List Int}(hn:V.Nodup)(hV:∀l∈V,l<ls.length):∀k,k<=V.length->∀i,i<ls.length->(gz ls ss V ch k)[i]! = if i∈V.take k then i7 ls[i]! (secN ss V ch i) else ls[i]!
 | 0,_,i,hi=>by simp[gz]
 | k+1,hk,i,hi=>by
  have ih:=tK (ss:=ss) (ch:=ch) hn hV k (by omega)
  have hkV:k<V.length:=by omega
  have hVk:=hV _ (x0h hkV)
  have hl:=ib ls ss V ch k
  rw[show gz ls ss V ch (k+1)=(gz ls ss V ch k).set (V[k]!) (i7 ((gz ls ss V ch k)[V[k]!]!) ss[(ch[k]!).toNat]!.name)from rfl]
  rw[x0c V k hkV,x0c _ i (by rw[List.length_set,hl];exact hi),List.getElem_set,x0m hkV]
  by_cases e:V[k]=i
  ·subst e
   have hnot:V[k]∉V.take k:=by
    intro hm
    obtain⟨j,hj,hj2⟩:=x0P hm
    rw[List.getElem_take]at hj2
    have:=(List.getElem_inj hn).1 hj2
    simp at hj
    omega
   have h1:=ih _ hVk
   rw[if_neg hnot]at h1
   rw[if_pos rfl,if_pos (x0n.2 (.inr (x1h.2 rfl))),h1]
   unfold secN
   rw[List.Nodup.idxOf_getElem hn k hkV]
  ·rw[if_neg e]
   have h1:=ih i hi
   rw[x0c _ i (by rw[hl];exact hi)]at h1
   rw[h1]
   have:(i∈V.take k++[V[k]])↔i∈V.take k:=⟨fun hm=>by
    rcases x0n.1 hm with hm|hm
    ·exact hm
    ·exact absurd (x1h.1 hm).symm e,fun hm=>x0n.2 (.inl hm)⟩
   simp only[this]
theorem Ao{α β:Type}{p:α->Bool}{p':β->Bool}{xs:List α}{ys:List β}(hl:xs.length=ys.length)(h:∀i (h1:i<xs.length) (h2:i<ys.length),p xs[i]=p' ys[i]):ct p xs=ct p' ys:=by
 have:xs.findIdx? p=ys.findIdx? p':=by
  cases e:ys.findIdx? p' with
  | none =>
   rw[x1F]at e ⊢
   intro x hx
   obtain⟨i,hi,rfl⟩:=x0P hx
   rw[h i hi (by omega)]
   exact e _ (x0h _)
  | some i =>
   rw[x0Z]at e ⊢
   obtain⟨h1,h2,h3⟩:=e
   refine⟨by omega,by rw[h i (by omega) h1];exact h2,fun j hj=>?_⟩
   rw[h j (by omega) (by omega)]
   exact h3 j hj
 unfold ct
 rw[this]
theorem vb{l:Lnk}{nm:List UInt8}(h:c8 l=true)(hk:l.kind=1)(hn:ck nm=true):c8 (i7 l nm)=true:=by
 simp only[c8,ig,j8,jg,i7,hk,if_true,x0a,x0b,true_or]at h ⊢
 simp only[hn,and_true,true_and]at h ⊢
 exact⟨⟨h.1.1,h.1.2⟩,h.2.1⟩
theorem w9{ns:List Nod}{ls T:List Lnk}{f:Nat->List UInt8}(h:cq ns ls=true)(hk:∀i (h:i<ls.length),ls[i].kind=1)(hl:T.length=ls.length)(hT:∀i,i<ls.length->T[i]! = i7 ls[i]! (f i))(hf:∀i,i<ls.length->ck (f i)=true):cq ns T=true:=by
 have hx:∀nm,ct (pV nm) T=ct (pV nm) ls:=fun nm=>Ao hl fun i h1 h2=>by
  have:=hT i h2
  rw[x0c T i h1,x0c ls i h2]at this
  rw[this];rfl
 simp only[cq,x0a,x0b,x0f,x0M]at h ⊢
 refine⟨⟨⟨h.1.1.1,by omega⟩,h.1.2⟩,fun i hi=>?_⟩
 have hi':i<ls.length:=by omega
 have h1:=h.2 i hi'
 have h2:=hT i hi'
 have hk':=hk i hi'
 simp only[lp,h2,hx]at h1 ⊢
 simp only[x0a]at h1 ⊢
 refine⟨⟨⟨vb h1.1.1.1 (by rw[x0c ls i hi'];exact hk') (hf i hi'),h1.1.1.2⟩,h1.1.2⟩,h1.2⟩
structure Carry (ns:List Nod) (ls:List Lnk) (ss:List Sec) (q:List Int) (cover:Int):Prop where
 jv:am (bL ns (ah ns ls) ls ss q cover (ppL ns.length (ah ns ls)))=true
 pe:qu ns ls ss (bL ns (ah ns ls) ls ss q cover (ppL ns.length (ah ns ls))) (bF (bL ns (ah ns ls) ls ss q cover (ppL ns.length (ah ns ls))))=0
 ok:∃(T:List Lnk) (f:Nat->Nat),ka ls ss (ppL ns.length (ah ns ls)) (bF (bL ns (ah ns ls) ls ss q cover (ppL ns.length (ah ns ls)))) (ppL ns.length (ah ns ls)).length=T.map aJ/\T.length=ls.length/\cq ns T=true /\
  (∀i (h:i<ls.length) (h':i<T.length),∃(hf:f i<ss.length),T[i]=i7 ls[i] ss[f i].name/\pC ss ss[f i].name=(((f i:Nat):Int),0)/\((dB ss[f i] (pFa ls i) ls[i].len).2=5\/((dB ss[f i] (pFa ls i) ls[i].len).2=0/\q[i]!<=(dB ss[f i] (pFa ls i) ls[i].len).1))) /\
  b9 (bL ns (ah ns ls) ls ss q cover (ppL ns.length (ah ns ls)))=S (fun i=>ls[i]!.len*ss[f i]!.price) ls.length
end Go.Gv

namespace Go.Gv
theorem yw{j:Job}(hv:am j=true){i s:Nat}(hi:i<j.below.l.length)(hs:s<j.secs.length) :
  bZ j i s=(decide (j.secs[s]!.height<=j.room.l[i]!)&&decide (j.flows.l[i]!<=(nv j.secs[s]! j.falls.l[i]! j.lengths.l[i]!:Int))):=by
 have hp:fq j.lengths.l[i]! 1 16777216=true/\fq j.flows.l[i]! 0 1099511627776=true/\fq j.falls.l[i]! 0 4194304=true:=by
  simp only[am,x0a,x0f,x0M]at hv
  have:=hv.2 i hi
  simp only[eA,x0a]at this
  exact⟨this.1.1.1.2,this.1.1.2,this.1.2⟩
 simp only[fq,x0a,x0b]at hp
 have hsv:aL j.secs[s]! = true:=by
  simp only[am,aH,x0a,x0f]at hv
  rw[x0c j.secs s hs]
  exact hv.1.2.1.2 _ (x0h hs)
 have hsl:cT j.falls.l[i]! j.lengths.l[i]! = true:=by
  simp only[cT,x0a,x0b];omega
 rw[bZ,dB,if_pos hsv,if_pos hsl]
 by_cases hc:1099511627776<nv j.secs[s]! j.falls.l[i]! j.lengths.l[i]!
 ·rw[if_pos hc]
  have:decide (j.flows.l[i]!<=(nv j.secs[s]! j.falls.l[i]! j.lengths.l[i]!:Int))=true:=by rw[x0b];omega
  rw[this]
  simp
 ·rw[if_neg hc]
  simp
  rw[Bool.and_comm]
end Go.Gv


namespace Go.Gv
end Go.Gv

namespace Go.Gv
structure ft (j k:Job):Prop where
 below:k.below=j.below
 lengths:k.lengths=j.lengths
 falls:k.falls=j.falls
 secs:k.secs=j.secs
 flowsN:k.flows.l.length=j.flows.l.length
 roomN:k.room.l.length=j.room.l.length
 flow:∀i,i<j.flows.l.length->0<=k.flows.l[i]!/\k.flows.l[i]!<=j.flows.l[i]!
 room:∀i,i<j.room.l.length->j.room.l[i]!<=k.room.l[i]!/\k.room.l[i]!<=4194304
theorem ft.valid{j k:Job}(h:ft j k)(hv:am j=true):am k=true:=by
 simp only[am,x0a,x0b,x0f,x0M]at hv ⊢
 obtain⟨⟨⟨⟨⟨⟨⟨a1,a2⟩,a3⟩,a4⟩,a5⟩,a6⟩,a7⟩,a8⟩:=hv
 rw[h.below,h.lengths,h.falls,h.secs,h.flowsN,h.roomN]
 refine⟨⟨⟨⟨⟨⟨⟨a1,a2⟩,a3⟩,a4⟩,a5⟩,a6⟩,a7⟩,fun i hi=>?_⟩
 have h1:=a8 i hi
 have h2:=h.flow i (by omega)
 have h3:=h.room i (by omega)
 simp only[eA,fq,x0a,x0b,h.below,h.lengths,h.falls]at h1 ⊢
 refine⟨⟨⟨⟨h1.1.1.1.1,h1.1.1.1.2⟩,?_⟩,h1.1.2⟩,?_⟩<;>omega
theorem ft.poss{j k:Job}(h:ft j k)(hv:am j=true){i s:Nat}(hi:i<j.below.l.length)(hs:s<j.secs.length)(hp:bZ j i s=true):bZ k i s=true:=by
 rw[yw hv hi hs]at hp
 rw[yw (h.valid hv) (by rw[h.below];exact hi) (by rw[h.secs];exact hs),h.secs,h.falls,h.lengths]
 have hl:j.flows.l.length=j.below.l.length/\j.room.l.length=j.below.l.length:=by simp only[am,x0a,x0b]at hv;omega
 have h2:=h.flow i (by omega)
 have h3:=h.room i (by omega)
 simp only[x0a,x0b]at hp ⊢
 omega
theorem ft.choice{j k:Job}(h:ft j k)(hv:am j=true){ch:List Int}(h0:bv j ch=0):bv k ch=0:=by
 have e:ju k=ju j:=by funext x;simp only[ju,h.secs]
 rw[bv,if_neg (by rw[h.valid hv];simp),h.below,e]
 rw[bv,if_neg (by rw[hv];simp)]at h0
 exact h0
theorem sJ{j:Job}{ch:List Int}(h0:bv j ch=0)(ha:(bi j ch).1=true):∀i,i<j.below.l.length->gw j ch i=false:=fun i hi=>by
 unfold bi at ha
 rw[if_neg (by rw[h0];simp)]at ha
 cases hf:(List.range j.below.l.length).find? (gw j ch) with
 | some k=>rw[hf]at ha;cases ha
 | none =>
  rw[List.find?_eq_none]at hf
  simpa using hf i (by simpa using hi)
theorem dF{j:Job}{ch:List Int}(ha:(bi j ch).1=true):bv j ch=0:=Classical.byContradiction fun e=>by
 rw[bi,if_pos e]at ha
 cases ha
theorem ft.allowed{j k:Job}(h:ft j k)(hv:am j=true){ch:List Int}(ha:(bi j ch).1=true):(bi k ch).1=true:=by
 have h0:=dF ha
 have hg:=sJ h0 ha
 obtain⟨_,hlen,hs⟩:=fL h0
 rw[jd (h.choice hv h0) (fun i hi=>?_)]
 rw[h.below]at hi
 have hb:=hg i hi
 rw[gw,x0N]at hb
 obtain⟨s,_,e2,e3⟩:=hs i hi
 have hp:bZ j i (bJ j ch i)=true:=by simpa using hb.1
 have hp2:bZ k i (bJ k ch i)=true:=h.poss hv hi (show(ch[i]!).toNat<j.secs.length by rw[show(ch[i]!).toNat=s from e3];exact e2) hp
 have ea:aI k i=aI j i:=by simp only[aI,h.below]
 have eu:i5 k ch i=i5 j ch i:=by
  funext a
  simp only[i5,bJ,h.secs]
  congr
 rw[gw,hp2,ea,eu,hb.2]
 rfl
theorem ft.costC{j k:Job}(h:ft j k)(ch:List Int):costC k ch=costC j ch:=by
 simp only[Go.Gv.costC,j6,bJ,h.below,h.lengths,h.secs]
theorem ft.cost{j k:Job}(h:ft j k)(hv:am j=true)(hc:b9 j≠-1):b9 k≠-1/\b9 k<=b9 j:=by
 obtain⟨h1,h2⟩:=lW hv hc
 have ha:(bi j (bF j)).1=true:=by rw[h1]
 have h0:=dF ha
 have:=xQ (h.choice hv h0) (h.allowed hv ha)
 rw[h.costC]at this
 rw[sT,if_neg (by rw[h0];simp)]at h2
 have e:Go.Gv.costC j (bF j)=b9 j:=congrArg Prod.fst h2
 rw[e]at this
 exact this
theorem GY{g g':Nat->Int}{p:Nat}:∀n,p<n->(∀a,a≠p->g' a=g a)->S g' n=S g n+(g' p-g p)
 | 0,h,_=>absurd h (by omega)
 | n+1,h,he=>by
  simp only[S]
  by_cases e:p=n
  ·subst e
   rw[lR p (fun a ha=>he a (by omega))]
   omega
  ·rw[GY n (by omega) he,he n (fun e'=>e e'.symm)]
   omega
theorem wl{j:Job}(hv:am j=true)(hc:b9 j≠-1){i s:Nat}(hi:i<j.below.l.length)(ha:(bi j ((bF j).set i (s:Int))).1=true):j.secs[bJ j (bF j) i]!.price<=j.secs[s]!.price:=by
 obtain⟨h1,h2⟩:=lW hv hc
 have h0:=dF (show(bi j (bF j)).1=true by rw[h1])
 obtain⟨_,hlen,hs⟩:=fL h0
 have h3:=(xQ (dF ha) ha).2
 rw[sT,if_neg (by rw[h0];simp)]at h2
 have e:costC j (bF j)=b9 j:=congrArg Prod.fst h2
 have hat:∀a,((bF j).set i (s:Int))[a]! = if i=a/\i<(bF j).length then(s:Int) else(bF j)[a]!:=fun a=>by
  by_cases hal:a<(bF j).length
  ·rw[x0c _ a (by simpa using hal),List.getElem_set,x0c _ a hal]
   by_cases ea:i=a
   ·rw[if_pos ea,if_pos ⟨ea,by omega⟩]
   ·rw[if_neg ea,if_neg (fun h=>ea h.1)]
  ·rw[getElem!_neg _ a (by simpa using hal),getElem!_neg _ a hal,if_neg (fun h=>by omega)]
 have e2:costC j ((bF j).set i (s:Int))=costC j (bF j)+(j6 j i s-j6 j i (bJ j (bF j) i)):=by
  unfold costC
  rw[GY (g:=fun a=>j6 j a (bJ j (bF j) a)) (p:=i) _ hi (fun a hne=>by
   simp only[bJ]
   rw[hat a,if_neg (fun h=>hne h.1.symm)])]
  have:bJ j ((bF j).set i (s:Int)) i=s:=by
   rw[bJ,hat i,if_pos ⟨rfl,by omega⟩];rfl
  rw[this]
 rw[e2,e]at h3
 have hl:1<=j.lengths.l[i]!:=by
  simp only[am,x0a,x0f,x0M]at hv
  have:=hv.2 i hi
  simp only[eA,fq,x0a,x0b]at this
  omega
 apply Classical.byContradiction
 intro hn
 have hlt:j.secs[s]!.price+1<=j.secs[bJ j (bF j) i]!.price:=by omega
 have:=Int.mul_le_mul_of_nonneg_left hlt (show 0<=j.lengths.l[i]! by omega)
 rw[Int.mul_add,Int.mul_one]at this
 simp only[j6]at h3
 omega
end Go.Gv

namespace Go.Gv
open Go.Lib Go.Sort Go.Proofs
abbrev Fnd:=Int×List UInt8
def jR(x:Fnd):List D:=[.int .i64 x.1,.str x.2]
structure TC {α:Type} (c:α->α->Int):Prop where
 eq0:∀x y,c x y=0->x=y
 anti:∀x y,c y x=- c x y
 trans:∀x y z,c x y<0->c y z<0->c x z<0
section
variable{α:Type}{c:α->α->Int}
theorem TC.refl(h:TC c)(x:α):c x x=0:=by have:=h.anti x x;omega
theorem TC.swo(h:TC c):SWO (ltOf c) where
 irrefl x:=by simp[ltOf,h.refl x]
 trans x y z h1 h2:=by
  simp only[ltOf,x0b]at *
  exact h.trans x y z h1 h2
 ntrans x y z h1 h2:=by
  simp only[ltOf,x0x]at *
  by_cases e1:c x y=0
  ·rw[h.eq0 _ _ e1];exact h2
  by_cases e2:c y z=0
  ·rw[<- h.eq0 _ _ e2];exact h1
  have a1:=h.anti x y
  have a2:=h.anti y z
  have a3:=h.anti x z
  have:=h.trans z y x (by omega) (by omega)
  omega
theorem TC.tot(h:TC c)(x y:α)(h1:(ltOf c) x y=false)(h2:(ltOf c) y x=false):x=y:=by
 simp only[ltOf,x0x]at *
 have:=h.anti x y
 exact h.eq0 x y (by omega)
end
theorem Ek{a b:UInt8}:(a<b)↔a.toNat<b.toNat:=UInt8.lt_iff_toNat_lt
theorem NJ{a b:UInt8}(h:a.toNat=b.toNat):a=b:=UInt8.toNat_inj.1 h
theorem xS:∀a b:List UInt8,compareBytes b a=- compareBytes a b
 | [],[]=>rfl
 | [],_::_=>rfl
 | _::_,[]=>rfl
 | a::xs,b::ys=>by
  simp only[compareBytes,Ek]
  by_cases h1:a.toNat<b.toNat
  ·rw[if_neg (show ¬b.toNat<a.toNat by omega),if_pos h1,if_pos h1];rfl
  ·by_cases h2:b.toNat<a.toNat
   ·rw[if_pos h2,if_neg h1,if_pos h2]
   ·rw[if_neg h2,if_neg h1,if_neg h1,if_neg h2,xS xs ys]
theorem BN:∀a b:List UInt8,compareBytes a b=0->a=b
 | [],[],_=>rfl
 | [],_::_,h=>by simp[compareBytes]at h
 | _::_,[],h=>by simp[compareBytes]at h
 | a::xs,b::ys,h=>by
  simp only[compareBytes,Ek]at h
  by_cases h1:a.toNat<b.toNat
  ·rw[if_pos h1]at h;cases h
  ·by_cases h2:b.toNat<a.toNat
   ·rw[if_neg h1,if_pos h2]at h;cases h
   ·rw[if_neg h1,if_neg h2]at h
    rw[BN xs ys h,NJ (show a.toNat=b.toNat by omega)]
theorem uz:∀a b d:List UInt8,compareBytes a b<0->compareBytes b d<0->compareBytes a d<0
 | [],_,[],_,h2=>by
  rename_i b _
  cases b with
  | nil=>exact h2
  | cons x xs=>simp[compareBytes]at h2
 | [],_,_::_,_,_=>by simp[compareBytes]
 | _::_,[],_,h1,_=>by simp[compareBytes]at h1
 | _::_,_::_,[],_,h2=>by simp[compareBytes]at h2
 | a::xs,b::ys,d::zs,h1,h2=>by
  simp only[compareBytes,Ek]at h1 h2 ⊢
  by_cases e1:a.toNat<b.toNat
  ·by_cases e2:b.toNat<d.toNat
   ·rw[if_pos (show a.toNat<d.toNat by omega)];decide
   ·by_cases e3:d.toNat<b.toNat
    ·rw[if_neg e2,if_pos e3]at h2;exact absurd h2 (by decide)
    ·rw[if_pos (show a.toNat<d.toNat by omega)];decide
  ·by_cases e4:b.toNat<a.toNat
   ·rw[if_neg e1,if_pos e4]at h1;exact absurd h1 (by decide)
   ·rw[if_neg e1,if_neg e4]at h1
    by_cases e2:b.toNat<d.toNat
    ·rw[if_pos (show a.toNat<d.toNat by omega)];decide
    ·by_cases e3:d.toNat<b.toNat
     ·rw[if_neg e2,if_pos e3]at h2;exact absurd h2 (by decide)
     ·rw[if_neg e2,if_neg e3]at h2
      rw[if_neg (show ¬a.toNat<d.toNat by omega),if_neg (show ¬d.toNat<a.toNat by omega)]
      exact uz xs ys zs h1 h2
def pR(a b:Int):Int:=if a<b then -1 else if b<a then 1 else 0
def lA(x y:Fnd):Int:=if pR x.1 y.1=0 then compareBytes x.2 y.2 else pR x.1 y.1
theorem mw:TC pR:=by
 refine⟨fun x y h=>?_,fun x y=>?_,fun x y z h1 h2=>?_⟩<;>unfold pR at *<;>(repeat' split at *)<;>first|omega|(simp at *;done)|(simp at *;omega)
theorem td:TC lA:=by
 refine⟨fun x y h=>?_,fun x y=>?_,fun x y z h1 h2=>?_⟩
 ·unfold lA at h
  split at h
  ·rename_i e
   exact Prod.ext (mw.eq0 _ _ e) (BN _ _ h)
  ·rename_i e;exact absurd h e
 ·unfold lA
  rw[mw.anti x.1 y.1,xS x.2 y.2]
  by_cases e:pR x.1 y.1=0
  ·rw[if_pos e,if_pos (by omega)]
  ·rw[if_neg e,if_neg (by omega)]
 ·unfold lA at *
  by_cases e1:pR x.1 y.1=0
  ·rw[if_pos e1]at h1
   rw[<- mw.eq0 _ _ e1]at h2
   by_cases e2:pR x.1 z.1=0
   ·rw[if_pos e2]at h2 ⊢
    exact uz _ _ _ h1 h2
   ·rw[if_neg e2]at h2 ⊢
    exact h2
  ·rw[if_neg e1]at h1
   by_cases e2:pR y.1 z.1=0
   ·rw[if_pos e2]at h2
    rw[<- mw.eq0 _ _ e2,if_neg e1]
    exact h1
   ·rw[if_neg e2]at h2
    have h3:=mw.trans _ _ _ h1 h2
    rw[if_neg (by omega)]
    exact h3
section
variable{α:Type}{c:α->α->Int}
def ddL[DecidableEq α]:List α->List α
 | []=>[]
 | [x]=>[x]
 | x::y::r=>if x=y then ddL (y::r) else x::ddL (y::r)
theorem jO[DecidableEq α](x y:α)(r:List α):ddL (x::y::r)=if x=y then ddL (y::r) else x::ddL (y::r):=rfl
theorem xV[DecidableEq α]:∀(l:List α) (x:α),x∈ddL l↔x∈l
 | [],x=>by simp[ddL]
 | [y],x=>by simp[ddL]
 | y::z::r,x=>by
  rw[jO]
  have ih:=xV (z::r) x
  by_cases e:y=z
  ·rw[if_pos e,ih];subst e;simp
  ·rw[if_neg e,x0H,ih];simp
def tT(c:α->α->Int)(l:List α):List α:=l.mergeSort fun x y=>!(ltOf c) y x
theorem Ec{l:List α}{x:α}:x∈tT c l↔x∈l:=by unfold tT;exact List.mem_mergeSort
theorem kr{l:List α}:(tT c l).length=l.length:=by unfold tT;exact List.length_mergeSort l
def BP[DecidableEq α](c:α->α->Int)(l:List α):List α:=ddL (tT c l)
theorem BQ[DecidableEq α]{l:List α}{x:α}:x∈BP c l↔x∈l:=by unfold BP;rw[xV,Ec]
end
end Go.Gv

namespace Go.Gv
open Go.Lib
def cK(L:List Fnd):List (List D):=L.map jR
theorem bI(L:List Fnd):(cK L).length=L.length:=by simp[cK]
theorem pG{L:List Fnd}{j:Nat}(h:j<L.length):(cK L)[j]? = some [.int .i64 L[j].1,.str L[j].2]:=by simp[cK,h,jR]
theorem CR{L:List Fnd}{j:Nat}(x:Fnd):(cK L).set j [.int .i64 x.1,.str x.2]=cK (L.set j x):=by simp[cK,jR]
theorem Ae(L:List Fnd)(k:Nat):(cK L).take k=cK (L.take k):=by simp[cK]
theorem mm(L:List Fnd):∀e∈cK L,∀c∈e,aA c=true:=by
 intro e he c hc
 obtain⟨x,_,rfl⟩:=x0w.1 he
 simp[jR]at hc
 rcases hc with rfl|rfl<;>rfl
theorem fY(L:List Fnd):∀e∈cK L,∀c∈e,bP c=true:=by
 intro e he c hc
 obtain⟨x,_,rfl⟩:=x0w.1 he
 simp[jR]at hc
 rcases hc with rfl|rfl<;>rfl
theorem pF(L:List Fnd):∀e∈cK L,e.length=2:=by
 intro e he
 obtain⟨x,_,rfl⟩:=x0w.1 he
 rfl
structure ug (C:CC):Prop where
 scmp:∀a b:List UInt8,C 632 [.str a,.str b] (.int .i64 (compareBytes a b)) []
 sort:∀L:List Fnd,L.length<2^62->(∀x y:Fnd,C 631 [.agg (jR x),.agg (jR y)] (.int .i64 (lA x y)) [])->C 630 [.own 2 (cK L),.fn 631 []] .any [.own 2 (cK (tT lA L)),.nilp]
section
variable{α:Type}[DecidableEq α]
theorem uF:∀(l:List α) (x:α),ddL (l++[x])=if l.getLast? = some x then ddL l else ddL l++[x]
 | [],x=>by simp[ddL]
 | [y],x=>by
  simp only[x1o,x1v,jO,List.getLast?_singleton,x0s]
  by_cases e:y=x
  ·rw[if_pos e,if_pos e];subst e;rfl
  ·rw[if_neg e,if_neg e];rfl
 | y::z::r,x=>by
  have ih:=uF (z::r) x
  have e0:y::z::r++[x]=y::z::(r++[x]):=rfl
  have e1:z::r++[x]=z::(r++[x]):=rfl
  have e2:(y::z::r).getLast? =(z::r).getLast?:=rfl
  rw[e0,jO,<- e1,ih,e2,jO]
  by_cases e:y=z
  ·rw[if_pos e,if_pos e]
  ·rw[if_neg e,if_neg e]
   split
   ·rfl
   ·rfl
theorem uG(l:List α){m:Nat}(hm:m<l.length)(h0:0<m):ddL (l.take (m+1))=if l[m-1]=l[m] then ddL (l.take m) else ddL (l.take m)++[l[m]]:=by
 have e:l.take (m+1)=l.take m++[l[m]]:=by rw[x0m hm]
 have e2:(l.take m).getLast? = some l[m-1]:=by
  rw[List.getLast?_eq_getElem?]
  simp only[x06,Nat.min_eq_left (Nat.le_of_lt hm)]
  rw[x0D (by omega),x0e (by omega)]
 rw[e,uF,e2]
 simp only[x0s]
theorem EV(l:List α):(ddL l).length<=l.length:=by
 induction l with
 | nil=>simp[ddL]
 | cons x l ih =>
  cases l with
  | nil=>simp[ddL]
  | cons y r =>
   rw[jO]
   split
   ·simp at ih ⊢;omega
   ·simp at ih ⊢;omega
end
variable{C:CC}(hC:al prog C)
include hC
theorem Lx(L:List Fnd)(k:Int)(nm:List UInt8)(hl:L.length<2^40):C 628 [.blk 1 [[.own 2 (cK L)]],.int .i64 k,.str nm] (.tup []) [.blk 1 [[.own 2 (cK (L++[(k,nm)]))]]]:=by
 refine Ef hC (nf:=N628) rfl rfl ?_
 simp[N628,bI]
 have e:List.take L.length (cK L)=cK L:=x0i (by rw[bI];exact x0k _)
 refine⟨by omega,fun e' he c hc=>?_,by rw[e];simp[cK,jR]⟩
 rw[e]at he
 rcases he with he|rfl
 ·exact mm L e' he c hc
 ·simp at hc;rcases hc with rfl|rfl<;>rfl
theorem HY(a b:Int):C 267 [.int .i64 a,.int .i64 b] (.int .i64 (pR a b)) []:=by
 have k1:=wm hC a
 have k2:=wm hC b
 refine start hC (nf:=N267) rfl rfl ?_
 simp[N267]
 refine aa k1 (.inl rfl) ?_
 simp
 refine aa k2 (.inl rfl) ?_
 simp
 unfold pR
 refine ab (fun h=>?_) (fun h=>?_)<;>simp at h
 ·simp[h]
 ·have h':¬a<b:=by omega
  simp[h']
  refine ab (fun h2=>?_) (fun h2=>?_)<;>simp at h2
  ·simp[h2];omega
  ·have h2':¬b<a:=by omega
   simp[h2'];omega
theorem LT(a b:Int):C 266 [.sl [[.int .i64 a],[.int .i64 b]]] (.int .i64 (if a=0 then b else a)) []:=by
 refine start hC (nf:=N266) rfl rfl ?_
 simp[N266]
 refine ay Nat (fun j=>[(3,.int .i64 0),(6,.sl [[.int .i64 a],[.int .i64 b]]),(7,.int .i64 2),(8,.int .i64 j)]) (fun j=>j<=2/\(j=1->a=0)/\(j=2->a=0/\b=0)) (fun j=>2-j) 0 (by simp) (by simp) ?_
 rintro j ⟨hj,h1,h2⟩
 simp
 rcases(show j=0\/j=1\/j=2 by omega)with rfl|rfl|rfl
 ·simp[aD (show [[D.int .i64 a],[D.int .i64 b]][0]? = some [D.int .i64 a]from rfl)]
  refine ab (fun h=>?_) (fun h=>?_)<;>simp at h
  ·simp[h]
  ·simp[h]
   have hw:IntKind.wrap .i64 (1:Int)=1:=wrap_i64 (by omega) (by omega)
   simp[hw]
   exact⟨1,by simp,by simp⟩
 ·have ha:=h1 rfl
  simp[aD (show [[D.int .i64 a],[D.int .i64 b]][1]? = some [D.int .i64 b]from rfl)]
  refine ab (fun h=>?_) (fun h=>?_)<;>simp at h
  ·simp[h,ha]
  ·simp[h,ha]
   have hw:IntKind.wrap .i64 (2:Int)=2:=wrap_i64 (by omega) (by omega)
   simp[hw]
   exact⟨2,by simp,by simp⟩
 ·obtain⟨ha,hb⟩:=h2 rfl
  simp[ha,hb]
theorem CG(hK:ug C)(x y:Fnd):C 631 [.agg (jR x),.agg (jR y)] (.int .i64 (lA x y)) []:=by
 have k1:=HY hC x.1 y.1
 have k2:=hK.scmp x.2 y.2
 have k3:=LT hC (pR x.1 y.1) (compareBytes x.2 y.2)
 refine start hC (nf:=N631) rfl rfl ?_
 simp[N631,jR]
 refine aa k1 (.inl rfl) ?_
 simp
 refine aa k2 (.inl rfl) ?_
 simp
 refine aa k3 (.inl rfl) ?_
 simp
 refine⟨aw (by decide +kernel),?_⟩
 unfold lA
 split<;>rfl
set_option maxHeartbeats 1000000 in
theorem EU(L:List Fnd)(hl:L.length<2^40):C 633 [.own 2 (cK L)] .any [.own 2 (cK (ddL L)),.nils,.nils]:=by
 refine Ee hC (nf:=N633) rfl rfl (by simp) (by omega) ?_
 simp[N633,bI]
 refine ab (fun h=>?_) (fun h=>?_)<;>simp at h
 ·simp[h,bI]
  have e:ddL L=L:=by
   match L,h with
   | [],_=>rfl
   | [x],_=>rfl
   | x::y::r,h=>simp at h;omega
  rw[e]
  exact⟨fY L,x0i (by rw[bI];exact x0k _)⟩
 ·simp[h]
  refine ay Nat (fun k=>[(0,.ref (.r 10015) 0 L.length),(3,.int .i64 k),(10015,.blk 2 (cK L))]) (fun k=>1<=k/\k<=L.length/\ddL (L.take k)=L.take k) (fun k=>L.length-k) 1 ⟨by omega,by omega,?_⟩ (by simp) ?_
  ·match L,h with
   | x::r,h=>simp[ddL]
  rintro k ⟨h1,h2,h3⟩
  simp
  refine ab (fun h4=>?_) (fun h4=>?_)<;>simp at h4
  ·have hw:IntKind.wrap .i64 ((k:Int)-1)=((k-1:Nat):Int):=by
    rw[show(k:Int)-1=((k-1:Nat):Int) by omega]
    exact wrap_i64 (by omega) (by omega)
   have hw2:IntKind.wrap .i64 ((k:Int)+1)=((k+1:Nat):Int):=wrap_i64 (by omega) (by omega)
   simp[h4,hw,bj (pG h4),bj (pG (show k-1<L.length by omega))]
   refine⟨by omega,aw (by decide +kernel),?_⟩
   have ht:=uG L h4 (by omega)
   refine ab (fun h5=>?_) (fun h5=>?_)
   ·have h6:L[k-1]=L[k]:=by
     simp only[x0a,x0b]at h5
     exact Prod.ext h5.1.symm h5.2.symm
    rw[if_pos h6,h3]at ht
    have h5':(decide (L[k].1=L[k-1].1)&&decide (L[k].2=L[k-1].2))=true:=h5
    rw[h5']
    clear h5 h5'
    simp[h4,h2,bI]
    refine ay (Nat×Nat×List Fnd) (fun s=>[(0,.ref (.r 10015) 0 L.length),(3,.int .i64 s.2.1),(4,.ref (.r 10015) k (L.length-k)),(5,.int .i64 s.1),(10015,.blk 2 (cK s.2.2))])
     (fun s=>1<=s.1/\s.1+k<=L.length/\k<=s.2.1/\s.2.1+1<=k+s.1/\s.2.2.length=L.length/\s.2.2.take s.2.1=ddL (L.take (k+s.1))/\∀j,k+s.1<=j+1->s.2.2[j]? = L[j]?)
     (fun s=>L.length-s.1) (1,k,L) ⟨by simp,by simp;omega,by simp,by simp,rfl,by simp[ht],by simp⟩ (by simp) ?_
    rintro⟨j,q,W⟩ ⟨a1,a2,a3,a4,a5,a6,a7⟩
    simp only at a1 a2 a3 a4 a5 a6 a7
    simp
    refine ab (fun h7=>?_) (fun h7=>?_)<;>simp at h7
    ·have hkj:k+j<L.length:=by omega
     have w1:W[k+j]? = L[k+j]?:=a7 _ (by omega)
     have w2:W[k+(j-1)]? = L[k+(j-1)]?:=a7 _ (by omega)
     have g1:(cK W)[k+j]? = some [.int .i64 L[k+j].1,.str L[k+j].2]:=by
      unfold cK
      rw[x0z,w1,x0e hkj];rfl
     have g2:(cK W)[k+(j-1)]? = some [.int .i64 L[k+(j-1)].1,.str L[k+(j-1)].2]:=by
      unfold cK
      rw[x0z,w2,x0e (show k+(j-1)<L.length by omega)];rfl
     have hv:IntKind.wrap .i64 ((j:Int)-1)=((j-1:Nat):Int):=wrap_i64 (by omega) (by omega)
     have hv2:IntKind.wrap .i64 ((j:Int)+1)=((j+1:Nat):Int):=wrap_i64 (by omega) (by omega)
     have hv3:IntKind.wrap .i64 ((q:Int)+1)=((q+1:Nat):Int):=wrap_i64 (by omega) (by omega)
     simp[h7,hv,bj g1,bj g2]
     refine⟨by omega,aw (by decide +kernel),?_⟩
     have ht2:=uG L hkj (by omega)
     refine ab (fun h8=>?_) (fun h8=>?_)
     ·have hne:L[k+j-1]≠L[k+j]:=fun e=>by
       have e2:L[k+(j-1)]=L[k+j]:=by
        rw[<- e]
        congr 1
        omega
       rw[e2]at h8
       simp at h8
      rw[if_neg hne]at ht2
      rw[h8]
      have hq:q<L.length:=by omega
      have hqW:q<W.length:=by omega
      have e9:(cK W)[q]'(by rw[bI];exact hqW)=[.int .i64 W[q].1,.str W[q].2]:=(x0d.1 (pG hqW)).2
      simp[h7,hv,hv2,hv3,bj g1,bI,a5,hq,e9]
      refine⟨j+1,q+1,W.set q L[k+j],⟨by omega,by omega,by omega,by omega,by simp[a5],?_,fun i hi=>?_⟩,by omega,by omega,by omega,CR _⟩
      ·rw[x0m (by simp;exact hqW),List.take_set_of_le (x0k _),a6,show k+(j+1)=k+j+1 by omega,ht2]
       simp
      ·rw[List.getElem?_set,if_neg (by omega)]
       exact a7 i (by omega)
     ·have heq:L[k+j-1]=L[k+j]:=by
       have e2:L[k+j]=L[k+(j-1)]:=by
        simp only[x0N,x1A,x0b]at h8
        exact Prod.ext h8.1 h8.2
       rw[e2]
       congr 1
       omega
      rw[if_pos heq]at ht2
      rw[h8]
      simp[h7,hv2]
      exact⟨j+1,q,W,⟨by omega,by omega,by omega,by omega,a5,by rw[a6,show k+(j+1)=k+j+1 by omega,ht2],fun i hi=>a7 i (by omega)⟩,by omega,rfl,by omega,rfl⟩
    ·have hj:k+j=L.length:=by omega
     have a6':W.take q=ddL L:=by rw[a6,hj,x0L]
     have hq:q<L.length:=by omega
     have hqW:q<=W.length:=by omega
     simp[h7,bI,a5]
     have hz:(eM (cK W) q (L.length-q) [.int .i64 0,.str []]).length=L.length:=by rw[lf (by rw[bI];omega),bI,a5]
     refine⟨by omega,by omega,mm W,by omega,fY _,by omega,?_⟩
     unfold eM
     rw[x1L,List.take_append_of_le_length (by simp[bI];omega),List.take_take,Nat.min_self,Ae,a6']
   ·have h6:L[k-1]≠L[k]:=fun e=>by
     rw[e]at h5
     simp at h5
    rw[if_neg h6,h3]at ht
    rw[h5]
    simp[h4,hw2]
    exact⟨k+1,by refine⟨by omega,by omega,?_⟩;rw[ht,x0m h4],by omega,rfl⟩
  ·have ek:k=L.length:=by omega
   subst ek
   rw[x0L]at h3
   simp[h3,bI]
   exact⟨fY L,x0i (by rw[bI];exact x0k _)⟩
theorem GE(hK:ug C)(L:List Fnd)(hl:L.length<2^40):C 590 [.own 2 (cK L)] .any [.own 2 (cK (BP lA L)),.nils,.nils]:=by
 have k1:=hK.sort L (by omega) (CG hC hK)
 have k2:=EU hC (tT lA L) (by rw[kr];exact hl)
 refine Ee hC (nf:=N590) rfl rfl (by simp) (by omega) ?_
 simp[N590,bI]
 refine⟨mm L,?_⟩
 refine zN k1 (.inl rfl) (by simp[bI,kr]) (fun e he=>⟨pF _ e he,mm _ e he⟩) ?_
 simp[bI,kr]
 have e:List.take L.length (cK (tT lA L))=cK (tT lA L):=x0i (by rw[bI,kr];exact x0k _)
 rw[e]
 refine⟨fY _,?_⟩
 refine oY k2 (fun e he=>⟨pF _ e he,fY _ e he⟩) ?_
 simp[bI]
 exact⟨fY _,x0i (by rw[bI];exact x0k _)⟩
end Go.Gv

namespace Go.Gv
section
variable(n:Nat)(R:Nat->Nat->Bool)
variable{n R}
end
end Go.Gv

namespace Go.Gv
end Go.Gv

namespace Go.Gv
variable{C:CC}(hC:al prog C)
include hC
theorem Id(b1 b2:Bool)(ns:List Nod)(ls:List Lnk)(hv:cq ns ls=true)(hcv:∀l∈ls,l.curve.length<2^62):C 627 [.agg [slx b1 (ns.map bz),slx b2 (ls.map aJ)]] (.sl ((ah ns ls).map edK)) []:=by
 have k1:=jD hC b1 b2 ns ls hcv
 rw[hv]at k1
 simp only[if_true]at k1
 refine start hC (nf:=N627) rfl rfl ?_
 simp[N627]
 refine aa k1 (.inr rfl) ?_
 simp
end Go.Gv

namespace Go.Gv
variable{C:CC}(hC:al prog C)
include hC
end Go.Gv

namespace Go.Gv
theorem An{α:Type}{p:α->Bool}{xs:List α}(h:0<=ct p xs):∃h:(ct p xs).toNat<xs.length,p xs[(ct p xs).toNat]=true:=by
 have key:∀i:Nat,ct p xs=(i:Int)->∃h:i<xs.length,p xs[i]=true:=by
  intro i h
  unfold ct at h
  cases e:xs.findIdx? p with
  | none=>rw[e]at h;simp at h
  | some k =>
   rw[e]at h
   obtain⟨h1,h2,_⟩:=x0Z.1 e
   have ek:k=i:=by have h:(k:Int)=(i:Int):=h;omega
   subst ek
   exact⟨h1,h2⟩
 exact key _ (by omega)
variable{C:CC}(hC:al prog C)
include hC
end Go.Gv

namespace Go.Gv
def kj(s:Sec):Bool:=ck s.name&&decide (1<=s.height)&&decide (s.height<=32768)
def oW(l:List Sec):Bool:=decide (l.length<=40)&&l.all kj&&decide ((l.map (·.name)).Nodup)
def hgF(l:List Sec)(k:Lnk):Int:=if k.kind=1 then(match l.find? (fun s=>s.name==k.sect) with|some s=>s.height|none=>-1) else -1
def hgA(l:List Sec)(ls:List Lnk):List (List D):=ls.map fun k=>[.int .i64 (hgF l k)]
theorem bD(l:List Sec)(ls:List Lnk):(hgA l ls).length=ls.length:=by simp[hgA]
theorem o6(l:List Sec){ls:List Lnk}{i:Nat}(h:i<ls.length):(hgA l ls)[i]? = some [.int .i64 (hgF l ls[i])]:=by simp[hgA,h]
def hgI(l:List Sec)(ls:List Lnk)(j:Nat):List (List D):=(List.range ls.length).map fun i=>[.int .i64 (if i<j then((ls[i]?).map (hgF l)).getD 0 else 0)]
theorem mt(l:List Sec)(ls:List Lnk)(j:Nat):(hgI l ls j).length=ls.length:=by simp[hgI]
theorem Fs{l:List Sec}{ls:List Lnk}{j i:Nat}(h:i<ls.length):(hgI l ls j)[i]? = some [.int .i64 (if i<j then((ls[i]?).map (hgF l)).getD 0 else 0)]:=by simp[hgI,h]
theorem CZ(l:List Sec)(ls:List Lnk):List.replicate ls.length [D.int .i64 0]=hgI l ls 0:=by simp[hgI,List.map_const']
theorem Fu{l:List Sec}{ls:List Lnk}{j:Nat}(h:j<ls.length):(hgI l ls j).set j [D.int .i64 (hgF l ls[j])]=hgI l ls (j+1):=by
 unfold hgI
 rw[km]
 apply x0j
 intro v _
 by_cases e:v=j
 ·subst e;simp[h]
 ·have:(v<j)=(v<j+1):=by apply propext;omega
  simp only[if_neg e,this]
theorem Fr(l:List Sec)(ls:List Lnk):hgI l ls ls.length=hgA l ls:=by
 apply x1J (by simp[hgI,hgA])
 intro i h1 h2
 have h:i<ls.length:=by simpa[hgA]using h2
 simp[hgI,hgA,h]
def ki(nm:List UInt8)(s:Sec):Bool:=s.name==nm
theorem yb(l:List Sec){k:Lnk}(hk:k.kind=1):hgF l k=if h:0<=ct (ki k.sect) l then(l[(ct (ki k.sect) l).toNat]?.map (·.height)).getD (-1) else -1:=by
 unfold hgF
 rw[if_pos hk]
 have hf:l.find? (fun s=>s.name==k.sect)=l.find? (ki k.sect):=rfl
 rw[hf]
 unfold ct
 cases e:l.findIdx? (ki k.sect) with
 | none =>
  have:l.find? (ki k.sect)=none:=by
   rw[List.find?_eq_none]
   exact fun x hx=>by have:=x1F.1 e x hx;simp[this]
  rw[this];simp
 | some i =>
  obtain⟨h1,h2,h3⟩:=x0Z.1 e
  have:l.find? (ki k.sect)=some l[i]:=by
   rw[List.find?_eq_some_iff_getElem]
   exact⟨h2,i,h1,rfl,fun j hj=>by have:=h3 j hj;simpa using this⟩
  rw[this]
  have e1:((some i).map (fun i:Nat=>(i:Int))).getD (-1)=(i:Int):=rfl
  simp[h1]
variable{C:CC}(hC:al prog C)
include hC
theorem Cf(b1 b2 b3:Bool)(ns:List Nod)(ls:List Lnk)(l:List Sec)(hcv:∀l∈ls,l.curve.length<2^62):C 587 [.agg [slx b1 (ns.map bz),slx b2 (ls.map aJ)],slx b3 (l.map aQ)] (.bool (cq ns ls&&oW l)) []:=by
 have k0:=mE hC b1 b2 ns ls hcv
 refine start hC (nf:=N587) rfl rfl ?_
 simp[N587]
 refine aa k0 (.inl rfl) ?_
 cases hv:cq ns ls
 ·simp
 simp
 refine ab (fun h=>?_) (fun h=>?_)<;>simp at h
 ·simp[oW];omega
 simp
 refine ay Nat (fun i=>[(5,.mrf 10256),(10256,.mp 0 1 (c9 (l.take i)) (List.replicate i (.bool true))),(17,slx b3 (l.map aQ)),(18,.int .i64 l.length),(19,.int .i64 i)])
  (fun i=>i<=l.length/\(∀x∈l.take i,kj x=true)/\((l.map (·.name)).take i).Nodup) (fun i=>l.length-i) 0 (by simp) (by simp[c9]) ?_
 rintro i ⟨hi,hv,hn⟩
 simp
 refine ab (fun h3=>?_) (fun h3=>?_)<;>simp at h3
 ·have ht:l.take (i+1)=l.take i++[l[i]]:=x0m h3
  have hg:=nO ((l.take i).map (·.name)).reverse i (by simp;omega) l[i].name
  rw[show((l.take i).map (·.name)).reverse.map D.str=c9 (l.take i)from rfl]at hg
  have hk:D.str l[i].name::c9 (l.take i)=c9 (l.take (i+1)):=by
   rw[c9,c9,ht]
   simp only[x1d,x0F,x02,List.reverse_append,List.reverse_cons,List.reverse_nil,x1v,x1o]
  have hlen:(c9 (l.take i)).length<maxLen:=by
   have:(c9 (l.take i)).length<=40:=by simp[c9];omega
   unfold maxLen;omega
  have hw:IntKind.wrap .i64 ((i:Int)+1)=((i+1:Nat):Int):=wrap_i64 (by omega) (by omega)
  have bad1:kj l[i]=false->oW l=false:=fun e=>by
   simp only[oW,x0W,List.all_eq_false]
   exact .inl (.inr ⟨l[i],x0h h3,by simp[e]⟩)
  have h5:(l.map (·.name)).take (i+1)=(l.map (·.name)).take i++[l[i].name]:=by
   rw[x0m (by simpa using h3)];simp
  have bad2:l[i].name∈(l.map (·.name)).take i->oW l=false:=fun e=>by
   simp only[oW,x0W,x0x]
   right
   intro hnd
   have h6:=(List.take_sublist (i+1) _).nodup hnd
   rw[h5,x1x]at h6
   exact h6.2.2 _ e _ (by simp) rfl
  simp[h3,aQ]
  refine aa (gM hC l[i].name) (.inl rfl) ?_
  cases hvi:ck l[i].name
  ·have:=bad1 (by simp[kj,hvi])
   simp[this]
  ·have hnm:l[i].name.length<=maxLen:=by
    simp only[ck,x0a,x0b]at hvi
    unfold maxLen;omega
   simp[hg,hnm]
   refine ab (fun h4=>?_) (fun h4=>?_)
   ·have:=bad2 (by simpa using h4)
    simp[h4,this]
   ·have h4b:l[i].name∉(l.map (·.name)).take i:=by simpa using h4
    simp[h4]
    by_cases h6:l[i].height<1
    ·have:=bad1 (by simp[kj];omega)
     simp[h6,this]
    by_cases h7:32768<l[i].height
    ·have:=bad1 (by simp[kj];omega)
     simp[h6,h7,this]
    simp[h6,h7,hlen,hnm,hw]
    refine⟨i+1,⟨by omega,?_,?_⟩,by omega,?_⟩
    ·intro x hx
     rw[ht]at hx
     rcases x0n.1 hx with hx|hx
     ·exact hv x hx
     ·simp at hx;subst hx;simp[kj,hvi];omega
    ·rw[h5,x1x]
     refine⟨hn,by simp,fun a ha b hb=>?_⟩
     simp at hb
     subst hb
     rintro rfl
     exact h4b ha
    ·rw[List.replicate_succ]
     exact⟨⟨hk,rfl⟩,by omega⟩
 ·have hil:i=l.length:=by omega
  subst hil
  rw[x0i (by simp)]at hn
  simp at hv
  simp[oW,hn]
  exact⟨by omega,hv⟩
theorem Iq(s:Sec)(k:Lnk):C 647 [.agg (aQ s),.ptr (aJ k)] (.bool (ki k.sect s)) []:=by
 refine start hC (nf:=N647) rfl rfl ?_
 simp[N647,aQ,aJ,ki]
 rw[x0J];simp
theorem Ak(b1 b2 b3:Bool)(ns:List Nod)(ls:List Lnk)(l:List Sec)(hls:ls.length<=400)(hl:l.length<=40):C 629 [.agg [slx b1 (ns.map bz),slx b2 (ls.map aJ)],slx b3 (l.map aQ)] (.sl (hgA l ls)) []:=by
 refine start hC (nf:=N629) rfl rfl ?_
 simp[N629]
 rw[CZ l]
 refine⟨by omega,?_⟩
 refine ay Nat (fun i=>[(1,slx b3 (l.map aQ)),(5,.ref (.r 10080) 0 ls.length),(10080,.blk 1 (hgI l ls i)),(14,slx b2 (ls.map aJ)),(15,.int .i64 ls.length),(16,.int .i64 i)]) (fun i=>i<=ls.length) (fun i=>ls.length-i) 0 (by simp) (by simp) ?_
 intro i hi
 simp
 refine ab (fun h=>?_) (fun h=>?_)<;>simp at h
 ·have hw:IntKind.wrap .i64 ((i:Int)+1)=((i+1:Nat):Int):=wrap_i64 (by omega) (by omega)
  have hset:=Fu (l:=l) h
  have hg1:=Fs (l:=l) (j:=i) h
  rw[if_neg (Nat.lt_irrefl i)]at hg1
  have hm1:=fun x=>show(hgI l ls i).set i [D.int .i64 x]=(hgI l ls i).set i [D.int .i64 x]from rfl
  have hg1E:(hgI l ls i)[i]'(by rw[mt];exact h)=[D.int .i64 0]:=(x0d.1 hg1).2
  have k1:=pQ hC (b:=b3) (xs:=l) (g:=647) (cs:=[.ptr (aJ ls[i])]) (ki ls[i].sect) (by omega) (fun x _=>Iq hC x ls[i])
  have hx:=yb l (k:=ls[i])
  simp[h,aJ,mt,hg1,hg1E]
  refine ab (fun h2=>?_) (fun h2=>?_)<;>simp at h2
  ·have hf:hgF l ls[i]=-1:=by unfold hgF;rw[if_neg h2]
   rw[hf]at hset
   simp[h2,hw,hset]
   exact⟨i+1,by omega,by omega,rfl,by omega⟩
  ·have hf:=hx h2
   simp[h2,aJ]at k1 ⊢
   refine aa k1 (.inl rfl) ?_
   simp
   refine ab (fun h3=>?_) (fun h3=>?_)<;>simp at h3
   ·obtain⟨hi1,_⟩:=An h3
    have hf':hgF l ls[i]=l[(ct (ki ls[i].sect) l).toNat].height:=by rw[hf,dif_pos h3,x0e hi1];rfl
    rw[hf']at hset
    have hs1:((hgI l ls i).set i [D.int .i64 (-1)])[i]? = some [D.int .i64 (-1)]:=List.getElem?_set_self (by rw[mt];exact h)
    simp[h3,hi1,aQ,hs1,h,hw,hset,mt]
    exact⟨i+1,by omega,by omega,rfl,by omega⟩
   ·have hf':hgF l ls[i]=-1:=by rw[hf,dif_neg (by omega)]
    rw[hf']at hset
    simp[h3,hw,hset]
    exact⟨i+1,by omega,by omega,rfl,by omega⟩
 ·have ei:i=ls.length:=by omega
  subst ei
  simp[h,mt,Fr,bD]
  rw[x0i (by simp[bD])]
  unfold hgA
  rw[x1K]
  apply x0j
  intro v _
  simp[bq]
end Go.Gv

namespace Go.Gv
def di{α:Type}(f:Nat->List α)(j:Nat):List α:=(List.range j).flatMap f
theorem pE{α:Type}(f:Nat->List α):di f 0=[]:=rfl
theorem lB{α:Type}(f:Nat->List α)(j:Nat):di f (j+1)=di f j++f j:=by simp[di,List.range_succ]
theorem kP{α:Type}{f:Nat->List α}{k:Nat}(h:∀i,(f i).length<=k)(j:Nat):(di f j).length<=k*j:=by
 induction j with
 | zero=>simp[di]
 | succ j ih =>
  rw[lB,x0C,Nat.mul_succ]
  have:=h j
  omega
theorem rV{α:Type}{f:Nat->List α}{j:Nat}{x:α}:x∈di f j↔∃i,i<j/\x∈f i:=by simp[di]
def one{α:Type}(b:Bool)(x:α):List α:=if b=true then [x] else []
theorem kR{α:Type}(b:Bool)(x:α):(one b x).length<=1:=by cases b<;>simp[one]
theorem yl{α:Type}{b:Bool}{x y:α}:y∈one b x↔b=true/\y=x:=by cases b<;>simp[one]
def mB(ls:List Lnk)(k:Nat):List UInt8:=(ls[k]?.map (·.name)).getD []
theorem rT{ls:List Lnk}{k:Nat}(h:k<ls.length):mB ls k=ls[k].name:=by simp[mB,h]
variable{C:CC}(hC:al prog C)
include hC
end Go.Gv

set_option maxRecDepth 4000
namespace Go.Gv
def edG(es:List Edg)(i:Nat):Edg:=es[i]?.getD (0,0)
def lnG(ls:List Lnk)(i:Nat):Lnk:=ls[i]?.getD ⟨[],[],[],0,0,0,0,[],0,0,true,[]⟩
def oQ(ns:List Nod)(i:Nat):Nod:=ns[i]?.getD ⟨[],0,0,0,0,0,true,[],false,0⟩
theorem me{es:List Edg}{i:Nat}(h:i<es.length):edG es i=es[i]:=by simp[edG,h]
theorem mA{ls:List Lnk}{i:Nat}(h:i<ls.length):lnG ls i=ls[i]:=by simp[lnG,h]
theorem mH{ns:List Nod}{i:Nat}(h:i<ns.length):oQ ns i=ns[i]:=by simp[oQ,h]
def oP(k:Lnk)(a b:Nod):Bool:=if k.kind=4 then decide (k.down<a.invert) else decide (k.up<a.invert)||(decide (k.kind=1)&&decide (k.down<b.invert))
def mD(k:Lnk)(a b:Nod)(h:Int)(known:Bool):Bool :=
 if k.kind=1 then known&&(decide (a.ground<IntKind.wrap .i64 (k.up+h))||decide (b.ground<IntKind.wrap .i64 (k.down+h)))
 else if k.kind=3 then decide (a.ground<IntKind.wrap .i64 (k.up+k.height)) else decide (a.ground<k.up)
def qb(es:List Edg)(l:List Sec)(ls:List Lnk)(i j:Nat):List Fnd:=one (decide ((edG es j).2=(edG es i).1)&&decide (hgF l (lnG ls i)<hgF l (lnG ls j))) (7,mB ls i)
def jy(ns:List Nod)(es:List Edg)(l:List Sec)(ls:List Lnk)(i:Nat):List Fnd :=
 one (oP (lnG ls i) (oQ ns (edG es i).1) (oQ ns (edG es i).2)) (4,mB ls i)++one (mD (lnG ls i) (oQ ns (edG es i).1) (oQ ns (edG es i).2) (hgF l (lnG ls i)) (decide (0<=hgF l (lnG ls i)))) (5,mB ls i) ++
 one (decide ((lnG ls i).kind=1)&&decide (hgF l (lnG ls i)<0)) (6,mB ls i)++(if hgF l (lnG ls i)<0 then [] else di (qb es l ls i) ls.length)
theorem vn(es:List Edg)(l:List Sec)(ls:List Lnk)(i j:Nat):(qb es l ls i j).length<=1:=kR _ _
theorem va(ns:List Nod)(es:List Edg)(l:List Sec)(ls:List Lnk)(i:Nat):(jy ns es l ls i).length<=3+ls.length:=by
 unfold jy
 have:=kR (oP (lnG ls i) (oQ ns (edG es i).1) (oQ ns (edG es i).2)) ((4,mB ls i):Fnd)
 have:=kR (mD (lnG ls i) (oQ ns (edG es i).1) (oQ ns (edG es i).2) (hgF l (lnG ls i)) (decide (0<=hgF l (lnG ls i)))) ((5,mB ls i):Fnd)
 have:=kR (decide ((lnG ls i).kind=1)&&decide (hgF l (lnG ls i)<0)) ((6,mB ls i):Fnd)
 have h4:(if hgF l (lnG ls i)<0 then [] else di (qb es l ls i) ls.length).length<=ls.length:=by
  split
  ·simp
  ·have:=kP (vn es l ls i) ls.length;omega
 simp only[x0C];omega
noncomputable def vh(ns:List Nod)(ls:List Lnk)(l:List Sec):List Fnd:=di (jy ns (ah ns ls) l ls) ls.length
def tv:cL:=match N589.body with
 | .seq _ (.seq _ (.seq _ (.seq _ (.block _ (.loop (.seq _ (.seq _ (.seq (.block _ (.seq _ (.seq _ (.seq _ (.seq _ t))))) _))))))))=>t
 | _=>.skip
def yj:cL:=match tv with
 | .seq _ (.seq _ (.seq _ (.seq _ t)))=>t
 | _=>.skip
variable{C:CC}(hC:al prog C)
include hC
set_option maxHeartbeats 4000000 in
theorem C4(b1 b2 b3:Bool)(ns:List Nod)(ls:List Lnk)(l:List Sec)(hv:cq ns ls=true)(hcv:∀l∈ls,l.curve.length<2^62)(hll:l.length<=40)(L:List Fnd)(hL:L.length<2^30):C 589 [.blk 1 [[.own 2 (cK L)]],.agg [slx b1 (ns.map bz),slx b2 (ls.map aJ)],slx b3 (l.map aQ)] (.tup []) [.blk 1 [[.own 2 (cK (L++vh ns ls l))]]]:=by
 have hn:=(cC hv).1
 have hl:=(cC hv).2
 have hg:=fS hv
 have hel:=bT ns ls
 have k1:=Ak hC b1 b2 b3 ns ls l hl hll
 have k2:=Id hC b1 b2 ns ls hv hcv
 have k4:=Lx hC
 have hknd:∀(i:Nat) (h:i<ls.length),ls[i].kind=1\/ls[i].kind=2\/ls[i].kind=3\/ls[i].kind=4:=fun i h=>by
  have h0:=(iV hv h).1
  simp only[c8,x0a]at h0
  have h1:=h0.2
  unfold jg at h1
  by_cases e1:ls[i].kind=1
  ·exact .inl e1
  by_cases e2:ls[i].kind=2
  ·exact .inr (.inl e2)
  by_cases e3:ls[i].kind=3
  ·exact .inr (.inr (.inl e3))
  by_cases e4:ls[i].kind=4
  ·exact .inr (.inr (.inr e4))
  simp[e1,e2,e3,e4]at h1
 unfold vh
 generalize ah ns ls=es at *
 obtain⟨T,hT⟩:∃T,T=tv:=⟨_,rfl⟩
 obtain⟨T7,hT7⟩:∃T,T=yj:=⟨_,rfl⟩
 simp[yj,tv,N589]at hT7
 simp[tv,N589]at hT
 have tail7:∀(j:Nat) (h:j<ls.length) (Q:bS->Env->Prop) (kd:Int) (M1 M':List Fnd),M1.length<=2^31+2 ->
   M'=M1++di (qb es l ls j) ls.length ->
   (dA Q ⟨⟩ .nrm [(0,.adr (.r 10015) 0 0),(4,.ptr [slx b1 (ns.map bz),slx b2 (ls.map aJ)]),(6,.sl (hgA l ls)),(7,.sl (es.map edK)),(8,.int .i64 j),(9,.adr (.r 10144) 0 0),(21,slx b2 (ls.map aJ)),(22,.int .i64 ls.length),(23,.int .i64 j),(161,.int .i64 ls.length),(162,.int .i64 ls.length),(163,.bool false),(10015,.blk 1 [[.own 2 (cK M')]]),(10144,.blk 11 [[.str ls[j].name,.str ls[j].src,.str ls[j].dst,.int .i64 kd,.int .i64 ls[j].len,.int .i64 ls[j].up,.int .i64 ls[j].down,.str ls[j].sect,.int .i64 ls[j].width,.int .i64 ls[j].height,slx ls[j].curveN (ls[j].curve.map knD)]])]) ->
   wN C T7 Q ⟨⟩ [(0,.adr (.r 10015) 0 0),(4,.ptr [slx b1 (ns.map bz),slx b2 (ls.map aJ)]),(6,.sl (hgA l ls)),(7,.sl (es.map edK)),(8,.int .i64 j),(9,.adr (.r 10144) 0 0),(21,slx b2 (ls.map aJ)),(22,.int .i64 ls.length),(23,.int .i64 j),(158,.bool false),(10015,.blk 1 [[.own 2 (cK M1)]]),(10144,.blk 11 [[.str ls[j].name,.str ls[j].src,.str ls[j].dst,.int .i64 kd,.int .i64 ls[j].len,.int .i64 ls[j].up,.int .i64 ls[j].down,.str ls[j].sect,.int .i64 ls[j].width,.int .i64 ls[j].height,slx ls[j].curveN (ls[j].curve.map knD)]])]:=by
  intro j h Q kd M1 M' hM1l hM' hQ
  have hgj:=o6 l h
  have hje:j<es.length:=by omega
  rw[hT7]
  simp
  refine ay Nat (fun k=>[(0,.adr (.r 10015) 0 0),(4,.ptr [slx b1 (ns.map bz),slx b2 (ls.map aJ)]),(6,.sl (hgA l ls)),(7,.sl (es.map edK)),(8,.int .i64 j),(9,.adr (.r 10144) 0 0),(21,slx b2 (ls.map aJ)),(22,.int .i64 ls.length),(23,.int .i64 j),(161,.int .i64 ls.length),(162,.int .i64 k),(10015,.blk 1 [[.own 2 (cK (M1++di (qb es l ls j) k))]]),(10144,.blk 11 [[.str ls[j].name,.str ls[j].src,.str ls[j].dst,.int .i64 kd,.int .i64 ls[j].len,.int .i64 ls[j].up,.int .i64 ls[j].down,.str ls[j].sect,.int .i64 ls[j].width,.int .i64 ls[j].height,slx ls[j].curveN (ls[j].curve.map knD)]])]) (fun k=>k<=ls.length) (fun k=>ls.length-k) 0 (by simp) (by simp[pE]) ?_
  intro k hk
  simp
  refine ab (fun h8=>?_) (fun h8=>?_)<;>simp at h8
  ·have hke:k<es.length:=by omega
   have hw8:IntKind.wrap .i64 ((k:Int)+1)=((k+1:Nat):Int):=wrap_i64 (by omega) (by omega)
   have hfk:=lB (qb es l ls j) k
   have hsk:qb es l ls j k=one (decide (es[k].2=es[j].1)&&decide (hgF l ls[j]<hgF l ls[k])) (7,ls[j].name):=by unfold qb;rw[rT h,me hje,me hke,mA h,mA h8]
   have hlk:=kP (vn es l ls j) k
   rw[hsk]at hfk
   have hgk:=o6 l h8
   simp[h8,hke,hje,edK,knD,bD,h]
   by_cases c1:es[k].2=es[j].1
   ·simp[c1,h8,h,hke,hje,edK,knD,bD,aD hgj,aD hgk]
    refine⟨aw (by decide +kernel),?_⟩
    refine ab (fun c2=>?_) (fun c2=>?_)
    ·rw[c2]
     simp at c2
     simp[c2]
     refine gx (k4 _ 7 _ (by(try simp only[x0C,x0T,x1E]);omega)) (by simp) ?_
     simp[hw8]
     exact⟨k+1,by omega,by omega,by omega,by rw[hfk];simp[one,c1,c2]⟩
    ·rw[c2]
     simp at c2
     simp[c2,hw8]
     exact⟨k+1,by omega,by omega,by omega,by rw[hfk];simp[one,c1,Int.not_lt.2 c2]⟩
   ·have c1':¬(es[k].2:Int)=es[j].1:=by omega
    simp[c1,c1',hw8]
    exact⟨aw (by decide +kernel),k+1,by omega,by omega,by omega,by rw[hfk];simp[one,c1]⟩
  ·have ek:k=ls.length:=by omega
   subst ek
   simp[h8]
   subst hM'
   simpa using hQ
 have tail:∀(lo hi:Bool) (j:Nat) (h:j<ls.length) (Q:bS->Env->Prop) (kd:Int) (M M':List Fnd),M.length<=2^31 ->
   M'=M++one lo (4,ls[j].name)++one hi (5,ls[j].name)++one (decide (kd=1)&&decide (hgF l ls[j]<0)) (6,ls[j].name)++(if hgF l ls[j]<0 then [] else di (qb es l ls j) ls.length) ->
   (dA Q ⟨⟩ .nrm [(0,.adr (.r 10015) 0 0),(4,.ptr [slx b1 (ns.map bz),slx b2 (ls.map aJ)]),(6,.sl (hgA l ls)),(7,.sl (es.map edK)),(8,.int .i64 j),(9,.adr (.r 10144) 0 0),(21,slx b2 (ls.map aJ)),(22,.int .i64 ls.length),(23,.int .i64 j),(161,.int .i64 ls.length),(162,.int .i64 ls.length),(163,.bool false),(10015,.blk 1 [[.own 2 (cK M')]]),(10144,.blk 11 [[.str ls[j].name,.str ls[j].src,.str ls[j].dst,.int .i64 kd,.int .i64 ls[j].len,.int .i64 ls[j].up,.int .i64 ls[j].down,.str ls[j].sect,.int .i64 ls[j].width,.int .i64 ls[j].height,slx ls[j].curveN (ls[j].curve.map knD)]])]) ->
   (dA Q ⟨⟩ (.ext 1) [(0,.adr (.r 10015) 0 0),(4,.ptr [slx b1 (ns.map bz),slx b2 (ls.map aJ)]),(6,.sl (hgA l ls)),(7,.sl (es.map edK)),(8,.int .i64 j),(9,.adr (.r 10144) 0 0),(21,slx b2 (ls.map aJ)),(22,.int .i64 ls.length),(23,.int .i64 j),(158,.bool true),(10015,.blk 1 [[.own 2 (cK M')]]),(10144,.blk 11 [[.str ls[j].name,.str ls[j].src,.str ls[j].dst,.int .i64 kd,.int .i64 ls[j].len,.int .i64 ls[j].up,.int .i64 ls[j].down,.str ls[j].sect,.int .i64 ls[j].width,.int .i64 ls[j].height,slx ls[j].curveN (ls[j].curve.map knD)]])]) ->
   wN C T Q ⟨⟩ [(0,.adr (.r 10015) 0 0),(4,.ptr [slx b1 (ns.map bz),slx b2 (ls.map aJ)]),(6,.sl (hgA l ls)),(7,.sl (es.map edK)),(8,.int .i64 j),(9,.adr (.r 10144) 0 0),(12,.bool lo),(13,.bool hi),(21,slx b2 (ls.map aJ)),(22,.int .i64 ls.length),(23,.int .i64 j),(10015,.blk 1 [[.own 2 (cK M)]]),(10144,.blk 11 [[.str ls[j].name,.str ls[j].src,.str ls[j].dst,.int .i64 kd,.int .i64 ls[j].len,.int .i64 ls[j].up,.int .i64 ls[j].down,.str ls[j].sect,.int .i64 ls[j].width,.int .i64 ls[j].height,slx ls[j].curveN (ls[j].curve.map knD)]])]:=by
  intro lo hi j h Q kd M M' hM hM' hQ hX
  have hgj:=o6 l h
  have hje:j<es.length:=by omega
  obtain⟨M1,hM1⟩:∃M1,M1=M++one lo (4,ls[j].name)++one hi (5,ls[j].name):=⟨_,rfl⟩
  have hM1l:M1.length<=2^31+2:=by
   rw[hM1]
   have:=kR lo ((4,ls[j].name):Fnd)
   have:=kR hi ((5,ls[j].name):Fnd)
   simp only[x0C];omega
  rw[hT,<- hT7]
  simp
  refine ab (fun q1=>?_) (fun q1=>?_)
  ·simp[q1]
   refine gx (k4 _ 4 _ (by(try simp only[x0C,x0T,x1E]);omega)) (by simp) ?_
   simp
   refine ab (fun q2=>?_) (fun q2=>?_)
   ·simp[q2]
    refine gx (k4 _ 5 _ (by(try simp only[x0C,x0T,x1E]);omega)) (by simp) ?_
    simp
    by_cases q3:kd=1
    ·simp[q3,h,bD,aD hgj]
     by_cases q4:hgF l ls[j]<0
     ·simp[q4]
      refine gx (k4 _ 6 _ (by(try simp only[x0C,x0T,x1E]);omega)) (by simp) ?_
      simp[h,bD,aD hgj,q4]
      subst hM'
      simpa[one,q3,q4,q1,q2]using hX
     ·simp[q4,h,bD,aD hgj]
      refine tail7 j h _ kd M1 M' hM1l (by rw[hM',hM1];simp[one,q3,q4]) (by simpa[q3]using hQ) |> fun x=>?_
      simpa[hM1,one,q1,q2,q3,q4]using x
    ·simp[q3,h,bD,aD hgj]
     by_cases q4:hgF l ls[j]<0
     ·simp[q4];subst hM';simpa[one,q3,q4,q1,q2]using hX
     ·simp[q4]
      refine tail7 j h _ kd M1 M' hM1l (by rw[hM',hM1];simp[one,q3,q4]) (by simpa[q3]using hQ) |> fun x=>?_
      simpa[hM1,one,q1,q2,q3,q4]using x
   ·simp[q2]
    by_cases q3:kd=1
    ·simp[q3,h,bD,aD hgj]
     by_cases q4:hgF l ls[j]<0
     ·simp[q4]
      refine gx (k4 _ 6 _ (by(try simp only[x0C,x0T,x1E]);omega)) (by simp) ?_
      simp[h,bD,aD hgj,q4]
      subst hM'
      simpa[one,q3,q4,q1,q2]using hX
     ·simp[q4,h,bD,aD hgj]
      refine tail7 j h _ kd M1 M' hM1l (by rw[hM',hM1];simp[one,q3,q4]) (by simpa[q3]using hQ) |> fun x=>?_
      simpa[hM1,one,q1,q2,q3,q4]using x
    ·simp[q3,h,bD,aD hgj]
     by_cases q4:hgF l ls[j]<0
     ·simp[q4];subst hM';simpa[one,q3,q4,q1,q2]using hX
     ·simp[q4]
      refine tail7 j h _ kd M1 M' hM1l (by rw[hM',hM1];simp[one,q3,q4]) (by simpa[q3]using hQ) |> fun x=>?_
      simpa[hM1,one,q1,q2,q3,q4]using x
  ·simp[q1]
   refine ab (fun q2=>?_) (fun q2=>?_)
   ·simp[q2]
    refine gx (k4 _ 5 _ (by(try simp only[x0C,x0T,x1E]);omega)) (by simp) ?_
    simp
    by_cases q3:kd=1
    ·simp[q3,h,bD,aD hgj]
     by_cases q4:hgF l ls[j]<0
     ·simp[q4]
      refine gx (k4 _ 6 _ (by(try simp only[x0C,x0T,x1E]);omega)) (by simp) ?_
      simp[h,bD,aD hgj,q4]
      subst hM'
      simpa[one,q3,q4,q1,q2]using hX
     ·simp[q4,h,bD,aD hgj]
      refine tail7 j h _ kd M1 M' hM1l (by rw[hM',hM1];simp[one,q3,q4]) (by simpa[q3]using hQ) |> fun x=>?_
      simpa[hM1,one,q1,q2,q3,q4]using x
    ·simp[q3,h,bD,aD hgj]
     by_cases q4:hgF l ls[j]<0
     ·simp[q4];subst hM';simpa[one,q3,q4,q1,q2]using hX
     ·simp[q4]
      refine tail7 j h _ kd M1 M' hM1l (by rw[hM',hM1];simp[one,q3,q4]) (by simpa[q3]using hQ) |> fun x=>?_
      simpa[hM1,one,q1,q2,q3,q4]using x
   ·simp[q2]
    by_cases q3:kd=1
    ·simp[q3,h,bD,aD hgj]
     by_cases q4:hgF l ls[j]<0
     ·simp[q4]
      refine gx (k4 _ 6 _ (by(try simp only[x0C,x0T,x1E]);omega)) (by simp) ?_
      simp[h,bD,aD hgj,q4]
      subst hM'
      simpa[one,q3,q4,q1,q2]using hX
     ·simp[q4,h,bD,aD hgj]
      refine tail7 j h _ kd M1 M' hM1l (by rw[hM',hM1];simp[one,q3,q4]) (by simpa[q3]using hQ) |> fun x=>?_
      simpa[hM1,one,q1,q2,q3,q4]using x
    ·simp[q3,h,bD,aD hgj]
     by_cases q4:hgF l ls[j]<0
     ·simp[q4];subst hM';simpa[one,q3,q4,q1,q2]using hX
     ·simp[q4]
      refine tail7 j h _ kd M1 M' hM1l (by rw[hM',hM1];simp[one,q3,q4]) (by simpa[q3]using hQ) |> fun x=>?_
      simpa[hM1,one,q1,q2,q3,q4]using x
 refine Ef hC (nf:=N589) rfl rfl ?_
 simp[N589]
 refine aa k1 (.inr rfl) ?_
 simp
 refine aa k2 (.inr rfl) ?_
 simp
 refine ay Nat (fun j=>[(0,.adr (.r 10015) 0 0),(10015,.blk 1 [[.own 2 (cK (L++di (jy ns es l ls) j))]]),(4,.ptr [slx b1 (ns.map bz),slx b2 (ls.map aJ)]),(6,.sl (hgA l ls)),(7,.sl (es.map edK)),(21,slx b2 (ls.map aJ)),(22,.int .i64 ls.length),(23,.int .i64 j)]) (fun j=>j<=ls.length) (fun j=>ls.length-j) 0 (by simp) (by simp[pE]) ?_
 intro j hj
 simp
 refine ab (fun h=>?_) (fun h=>?_)<;>simp at h
 ·have hje:j<es.length:=by omega
  have hin:=hg es[j] (x0h _)
  obtain⟨a,b,hab⟩:∃a b,es[j]=(a,b):=⟨_,_,rfl⟩
  rw[hab]at hin
  simp at hin
  simp[h,hje,aJ,hab,edK,knD,hin.1,hin.2,bz]
  refine⟨aw (by decide +kernel),?_⟩
  rw[<- hT]
  have hw:IntKind.wrap .i64 ((j:Int)+1)=((j+1:Nat):Int):=wrap_i64 (by omega) (by omega)
  have hgj:=o6 l h
  have hfs:=lB (jy ns es l ls) j
  have hfl:=kP (va ns es l ls) j
  have hjm:(3+ls.length)*j<=403*400:=x1B (by omega) (by omega)
  have hlv:jy ns es l ls j=one (oP ls[j] ns[a] ns[b]) (4,ls[j].name)++one (mD ls[j] ns[a] ns[b] (hgF l ls[j]) (decide (0<=hgF l ls[j]))) (5,ls[j].name)++one (decide (ls[j].kind=1)&&decide (hgF l ls[j]<0)) (6,ls[j].name)++(if hgF l ls[j]<0 then [] else di (qb es l ls j) ls.length):=by
   unfold jy
   rw[rT h,me hje,mA h,hab]
   simp only
   rw[mH hin.1,mH hin.2]
  have hM0:(L++di (jy ns es l ls) j).length<=2^31:=by rw[x0C];omega
  have hk4:=hknd j h
  refine ab (fun c1=>?_) (fun c1=>?_)<;>simp at c1
  ·simp[c1]
   by_cases p1:ls[j].up<ns[a].invert
   ·simp[p1,c1,h,bD,aD hgj]
    by_cases p2:0<=hgF l ls[j]
    ·simp[p2,h,bD,aD hgj]
     by_cases p3:ns[a].ground<IntKind.wrap .i64 (ls[j].up+hgF l ls[j])
     ·simp[p3,p2,h,bD,aD hgj]
      refine⟨aw (by decide +kernel),?_⟩
      refine tail _ _ j h _ 1 _ (L++di (jy ns es l ls) (j+1)) hM0 (by rw[hfs,hlv];simp[oP,mD, *]) ?_ ?_<;>(simp[hw];exact⟨j+1,by omega,by omega,rfl,by omega⟩)
     ·simp[p3,p2,h,bD,aD hgj]
      refine⟨aw (by decide +kernel),?_⟩
      refine tail _ _ j h _ 1 _ (L++di (jy ns es l ls) (j+1)) hM0 (by rw[hfs,hlv];simp[oP,mD, *]) ?_ ?_<;>(simp[hw];exact⟨j+1,by omega,by omega,rfl,by omega⟩)
    ·simp[p2]
     refine⟨aw (by decide +kernel),?_⟩
     refine tail _ _ j h _ 1 _ (L++di (jy ns es l ls) (j+1)) hM0 (by rw[hfs,hlv];simp[oP,mD, *]) ?_ ?_<;>(simp[hw];exact⟨j+1,by omega,by omega,rfl,by omega⟩)
   ·simp[p1,c1,h,bD,aD hgj]
    by_cases p2:0<=hgF l ls[j]
    ·simp[p2,h,bD,aD hgj]
     by_cases p3:ns[a].ground<IntKind.wrap .i64 (ls[j].up+hgF l ls[j])
     ·simp[p3,p2,h,bD,aD hgj]
      refine⟨aw (by decide +kernel),?_⟩
      refine tail _ _ j h _ 1 _ (L++di (jy ns es l ls) (j+1)) hM0 (by rw[hfs,hlv];simp[oP,mD, *]) ?_ ?_<;>(simp[hw];exact⟨j+1,by omega,by omega,rfl,by omega⟩)
     ·simp[p3,p2,h,bD,aD hgj]
      refine⟨aw (by decide +kernel),?_⟩
      refine tail _ _ j h _ 1 _ (L++di (jy ns es l ls) (j+1)) hM0 (by rw[hfs,hlv];simp[oP,mD, *]) ?_ ?_<;>(simp[hw];exact⟨j+1,by omega,by omega,rfl,by omega⟩)
    ·simp[p2]
     refine⟨aw (by decide +kernel),?_⟩
     refine tail _ _ j h _ 1 _ (L++di (jy ns es l ls) (j+1)) hM0 (by rw[hfs,hlv];simp[oP,mD, *]) ?_ ?_<;>(simp[hw];exact⟨j+1,by omega,by omega,rfl,by omega⟩)
  ·simp[c1]
   refine ab (fun c2=>?_) (fun c2=>?_)<;>simp at c2
   ·simp[c1,c2]
    refine⟨aw (by decide +kernel),?_⟩
    refine tail _ _ j h _ 2 _ (L++di (jy ns es l ls) (j+1)) hM0 (by rw[hfs,hlv];simp[oP,mD, *]) ?_ ?_<;>(simp[hw];exact⟨j+1,by omega,by omega,rfl,by omega⟩)
   ·simp[c2]
    refine ab (fun c3=>?_) (fun c3=>?_)<;>simp at c3
    ·simp[c1,c2,c3]
     refine⟨aw (by decide +kernel),?_⟩
     refine tail _ _ j h _ 3 _ (L++di (jy ns es l ls) (j+1)) hM0 (by rw[hfs,hlv];simp[oP,mD, *]) ?_ ?_<;>(simp[hw];exact⟨j+1,by omega,by omega,rfl,by omega⟩)
    ·have c4:ls[j].kind=4:=by omega
     simp[c1,c2,c3,c4]
     refine⟨aw (by decide +kernel),?_⟩
     refine tail _ _ j h _ 4 _ (L++di (jy ns es l ls) (j+1)) hM0 (by rw[hfs,hlv];simp[oP,mD, *]) ?_ ?_<;>(simp[hw];exact⟨j+1,by omega,by omega,rfl,by omega⟩)
 ·have ej:j=ls.length:=by omega
  subst ej
  simp[h]
end Go.Gv

set_option maxRecDepth 4000
namespace Go.Gv
theorem Io(L:List Fnd):List.map (fun e=>List.map bq e) (cK L)=cK L:=by
 unfold cK
 rw[x1K]
 apply x0j
 intro v _
 simp[jR,bq]
theorem vi(ns:List Nod)(ls:List Lnk)(l:List Sec):(vh ns ls l).length<=(3+ls.length)*ls.length:=kP (va ns (ah ns ls) l ls) ls.length
noncomputable def pW(ns:List Nod)(ls:List Lnk)(l:List Sec):List Fnd:=BP lA (vh ns ls l)
variable{C:CC}(hC:al prog C)
include hC
set_option maxHeartbeats 2000000 in
theorem Bt(hK:ug C)(b1 b2 b3:Bool)(ns:List Nod)(ls:List Lnk)(l:List Sec)(hcv:∀l∈ls,l.curve.length<2^62):C 544 [.agg [slx b1 (ns.map bz),slx b2 (ls.map aJ)],slx b3 (l.map aQ)] (.tup (if cq ns ls&&oW l then [.sl (cK (pW ns ls l)),.int .i64 0] else [.nils,.int .i64 1])) []:=by
 have k0:=Cf hC b1 b2 b3 ns ls l hcv
 refine start hC (nf:=N544) rfl rfl ?_
 simp[N544]
 refine aa k0 (.inl rfl) ?_
 cases hv:(cq ns ls&&oW l)
 ·simp
 obtain⟨hv1,hv2⟩:=Bool.and_eq_true_iff.1 hv
 obtain⟨l1,l2⟩:=cC hv1
 have hll:l.length<=40:=by
  simp only[oW,x0a,x0b]at hv2
  exact hv2.1.1
 have hvl:=vi ns ls l
 have hml:(3+ls.length)*ls.length<=403*400:=x1B (by omega) (by omega)
 have k2:=C4 hC b1 b2 b3 ns ls l hv1 hcv hll [] (by simp)
 have e0:cK []=[]:=rfl
 rw[e0,x1v]at k2
 have k3:=GE hC hK (vh ns ls l) (by omega)
 unfold pW
 generalize vh ns ls l=B at *
 simp
 refine gx k2 (by simp) ?_
 simp
 refine⟨fY _,?_⟩
 refine oY k3 (fun e he=>⟨pF _ e he,fY _ e he⟩) ?_
 simp[bI,Io]
 exact(x0i (by rw[bI];exact x0k _)).symm
end Go.Gv

set_option maxRecDepth 4000
namespace Go.Gv
theorem CQ{n:Nat}{es:List Edg}(hn:n<=300)(hg:inG n es)(ht:gq n es=true){q:List Sp}(hq:q.length=n)(hqr:∀s∈q,0<=s.1/\s.1<=s.2/\s.2<=1099511627776){k:Nat}(hk:k<es.length):0<=(aV n es q)[k]!.1/\(aV n es q)[k]!.1<=(aV n es q)[k]!.2:=by
 have hl1:∀v,v<n->0<=q[v]!.1/\q[v]!.1<=q[v]!.2/\q[v]!.2<=1099511627776:=fun v hv=>by
  rw[LG (by omega)]
  exact hqr _ (x0h _)
 rw[Fh hn hg ht hl1 hk]
 have r1:=od (n:=n) (es:=es) (g:=fun v=>q[v]!.1) (B:=1099511627776) (by omega) (fun v hv=>by have:=hl1 v hv;omega) es[k].1
 exact⟨r1.1,Jv (fun v hv=>(hl1 v hv).2.1) _⟩
theorem CP{n:Nat}{es:List Edg}{q:List Sp}(hb:sN (aV n es q)=false){k:Nat}(hk:k<es.length):(aV n es q)[k]!.2<=1099511627776:=by
 have hl:k<(aV n es q).length:=by rw[lC];exact hk
 rw[LG hl]
 simp only[sN,x0E,x0b]at hb
 have:=hb _ (x0h hl)
 omega
theorem rM{ns:List Nod}{ls:List Lnk}{q:List Sp}(h:jC ns ls q=0):∀k,k<ls.length->0<=(aV ns.length (ah ns ls) q)[k]!.1/\(aV ns.length (ah ns ls) q)[k]!.1<=(aV ns.length (ah ns ls) q)[k]!.2/\(aV ns.length (ah ns ls) q)[k]!.2<=1099511627776:=by
 intro k hk
 obtain⟨h1,h2,h3⟩:=rj h
 simp only[fI,x0a]at h1
 obtain⟨⟨hv,_⟩,htf⟩:=h1
 obtain⟨l1,_⟩:=cC hv
 have hel:=bT ns ls
 have hb:sN (aV ns.length (ah ns ls) q)=false:=by
  unfold iH at h3
  split at h3
  ·cases h3
  ·rename_i e;simpa using e
 have hql:q.length=ns.length:=by
  have hx:=h2
  unfold kp at hx
  split at hx
  ·cases hx
  ·split at hx
   ·omega
   ·cases hx
 have a:=CQ l1 (fS hv) htf hql (GH h2) (k:=k) (by omega)
 exact⟨a.1,a.2,CP hb (by omega)⟩
def cz(f:Sp->Int)(fl:List Sp):List Int:=fl.map f
theorem sW{f:Sp->Int}{fl:List Sp}{k:Nat}(h:k<fl.length):(cz f fl)[k]! = f fl[k]!:=by
 unfold cz
 rw[x0c _ k (by simpa using h),x0c fl k h,x0Q]
theorem Dw{ns:List Nod}{ls:List Lnk}{ss:List Sec}{fl:List Sp}{cover:Int}(hl:fl.length=ls.length)(h:∀k,k<ls.length->0<=fl[k]!.1/\fl[k]!.1<=fl[k]!.2/\fl[k]!.2<=1099511627776):prE ns ls ss (cz (·.2) fl) cover=prE ns ls ss (cz (·.1) fl) cover:=by
 have a:∀f:Sp->Int,(∀k,k<ls.length->0<=f fl[k]!/\f fl[k]!<=1099511627776)->(cz f fl).any tL=false:=fun f hf=>by
  rw[x0E]
  intro x hx
  obtain⟨k,hk,rfl⟩:=x0P hx
  have hk':k<fl.length:=by simpa[cz]using hk
  have:=hf k (by omega)
  rw[x0c fl k hk']at this
  simp[cz,tL,this]
 have a1:=a (·.1) (fun k hk=>by have:=h k hk;exact⟨this.1,by omega⟩)
 have a2:=a (·.2) (fun k hk=>by have:=h k hk;exact⟨by omega,this.2.2⟩)
 unfold prE
 rw[a1,a2]
 simp[cz,hl]
theorem uL{ns:List Nod}{ls:List Lnk}{ss:List Sec}{fl:List Sp}{cover:Int}(hl:fl.length=ls.length)(h:∀k,k<ls.length->0<=fl[k]!.1/\fl[k]!.1<=fl[k]!.2/\fl[k]!.2<=1099511627776)(hp:oL ns ls ss (cz (·.2) fl) cover) :
  ft (bL ns (ah ns ls) ls ss (cz (·.2) fl) cover (ppL ns.length (ah ns ls))) (bL ns (ah ns ls) ls ss (cz (·.1) fl) cover (ppL ns.length (ah ns ls))) where
 below:=rfl
 lengths:=rfl
 falls:=rfl
 secs:=rfl
 flowsN:=by simp[bL]
 roomN:=rfl
 flow i hi:=by
  have hi':i<(ppL ns.length (ah ns ls)).length:=by simpa[bL]using hi
  have hel:=bT ns ls
  have hlt:(ppL ns.length (ah ns ls))[i]<ls.length:=by rw[<- hel];exact lH (x0h hi')
  have e:∀q:List Int,(bL ns (ah ns ls) ls ss q cover (ppL ns.length (ah ns ls))).flows.l[i]! = q[(ppL ns.length (ah ns ls))[i]]!:=fun q=>by
   show((ppL ns.length (ah ns ls)).map (qvF q))[i]! = _
   rw[x0c _ i (by simpa using hi'),x0Q];rfl
  rw[e,e,sW (by omega),sW (by omega)]
  have:=h _ hlt
  omega
 room i hi:=by
  have hi':i<(ppL ns.length (ah ns ls)).length:=by simpa[bL]using hi
  refine⟨x00 _,?_⟩
  show((ppL ns.length (ah ns ls)).map (pRm ns (ah ns ls) ls cover))[i]!<=_
  rw[x0c _ i (by simpa using hi'),x0Q]
  have:=hp.ok _ (x0h hi')
  simp only[iz,x0N,x0x]at this
  omega
theorem z8{ns:List Nod}{ls:List Lnk}{ss:List Sec}{fl:List Sp}{cover:Int}(hl:fl.length=ls.length)(h:∀k,k<ls.length->0<=fl[k]!.1/\fl[k]!.1<=fl[k]!.2/\fl[k]!.2<=1099511627776)(hp:oL ns ls ss (cz (·.2) fl) cover)
  (hc:b9 (bL ns (ah ns ls) ls ss (cz (·.2) fl) cover (ppL ns.length (ah ns ls)))≠-1) :
  b9 (bL ns (ah ns ls) ls ss (cz (·.1) fl) cover (ppL ns.length (ah ns ls)))≠-1/\b9 (bL ns (ah ns ls) ls ss (cz (·.1) fl) cover (ppL ns.length (ah ns ls)))<=b9 (bL ns (ah ns ls) ls ss (cz (·.2) fl) cover (ppL ns.length (ah ns ls))) :=
 (uL hl h hp).cost (kW hp) hc
end Go.Gv

set_option maxRecDepth 4000
namespace Go.Gv
structure Fit (ns:List Nod) (ls:List Lnk) (ss:List Sec) (q:List Int) (cover:Int) (T:List Lnk) (f:Nat->Nat):Prop where
 len:T.length=ls.length
 net:cq ns T=true
 lt:∀i,i<ls.length->f i<ss.length
 eq:∀i,i<ls.length->T[i]! = i7 ls[i]! ss[f i]!.name
 idx:∀i,i<ls.length->lL ss ss[f i]!.name=((f i:Nat):Int)
 full:∀i,i<ls.length->(dB ss[f i]! (pFa ls i) ls[i]!.len).2=5\/((dB ss[f i]! (pFa ls i) ls[i]!.len).2=0/\q[i]!<=(dB ss[f i]! (pFa ls i) ls[i]!.len).1)
 room:∀i,i<ls.length->ss[f i]!.height<=pRm ns (ah ns ls) ls cover i
 nar:∀i j,i<ls.length->j<ls.length->((ah ns ls)[j]!).2=((ah ns ls)[i]!).1->ss[f j]!.height<=ss[f i]!.height
theorem jJ{j:Job}{ch:List Int}(h:bi j ch=(true,-1,0)):bv j ch=0/\∀i,i<j.below.l.length->gw j ch i=false:=by
 unfold bi at h
 split at h
 ·cases h
 rename_i h1
 refine⟨Classical.not_not.1 h1,fun i hi=>?_⟩
 split at h
 ·cases h
 ·rename_i h2
  have:=List.find?_eq_none.1 h2 i (x0M.2 hi)
  simpa using this
theorem Im{ns:List Nod}{ls:List Lnk}{ss:List Sec}{q:List Int}{cover:Int}(h:oL ns ls ss q cover)(hcst:b9 (bL ns (ah ns ls) ls ss q cover (ppL ns.length (ah ns ls)))≠-1) :
  qu ns ls ss (bL ns (ah ns ls) ls ss q cover (ppL ns.length (ah ns ls))) (bF (bL ns (ah ns ls) ls ss q cover (ppL ns.length (ah ns ls))))=0 /\
  ∃(T:List Lnk) (f:Nat->Nat),ka ls ss (ppL ns.length (ah ns ls)) (bF (bL ns (ah ns ls) ls ss q cover (ppL ns.length (ah ns ls)))) (ppL ns.length (ah ns ls)).length=T.map aJ/\Fit ns ls ss q cover T f:=by
 have hj:=kW h
 obtain⟨b1,_⟩:=lW hj hcst
 obtain⟨b3,b4⟩:=jJ b1
 obtain⟨c1,c2,c3⟩:=fL b3
 refine⟨?_,?_⟩
 ·unfold qu
  rw[if_neg (by simp[h.hv,h.hc,hj]),if_neg (by simp[h.pe]),if_neg,b3]
  have e1:ppB ns.length (ah ns ls)=(bL ns (ah ns ls) ls ss q cover (ppL ns.length (ah ns ls))).below.l:=rfl
  have e2:fQ ss (bL ns (ah ns ls) ls ss q cover (ppL ns.length (ah ns ls))).secs=true:=vL ss
  rw[e2,e1]
  simp
 obtain⟨hkd,hnd,hfull⟩:=qp h.pe
 have hall:=fun(i:Nat) (hi:i<ls.length)=>xn h hi
 have hel:=bT ns ls
 have hVn:(ppL ns.length (ah ns ls)).Nodup:=I3 (pf _ _)
 have hVlt:∀l∈ppL ns.length (ah ns ls),l<ls.length:=fun l hl=>by rw[<- hel];exact lH hl
 have hnm:(ss.map (·.name)).Nodup:=by
  have:=h.hc
  simp only[aH,x0a,x0b]at this
  exact this.2
 have hsv:∀s (hs:s<ss.length),ck ss[s].name=true:=fun s hs=>by
  have:=h.hc
  simp only[aH,x0a,x0b,x0f]at this
  have:=this.1.2 _ (x0h hs)
  simp only[aL,x0a]at this
  exact this.1.1.1.1.1.1
 have hql:=h.ql
 have hcat:=h.hc
 have hv:=h.hv
 generalize hVd:ppL ns.length (ah ns ls)=V at *
 generalize hes:ah ns ls=es at *
 have hbl:(bL ns es ls ss q cover V).below.l.length=V.length:=by simp[bL]
 have hsl:(bL ns es ls ss q cover V).secs=ss:=rfl
 have j0:∀k (hk:k<V.length),(bL ns es ls ss q cover V).below.l[k]! = iC es V V[k]:=fun k hk=>by
  show(V.map (iC es V))[k]! = _
  rw[x0c _ k (by simpa using hk),x0Q]
 have j1:∀k (hk:k<V.length),(bL ns es ls ss q cover V).lengths.l[k]! = ls[V[k]]!.len:=fun k hk=>by
  show(V.map (lnF ls))[k]! = _
  rw[x0c _ k (by simpa using hk),x0Q]
  rfl
 have j2:∀k (hk:k<V.length),(bL ns es ls ss q cover V).flows.l[k]! = q[V[k]]!:=fun k hk=>by
  show(V.map (qvF q))[k]! = _
  rw[x0c _ k (by simpa using hk),x0Q];rfl
 have j3:∀k (hk:k<V.length),(bL ns es ls ss q cover V).falls.l[k]! = pFa ls V[k]:=fun k hk=>by
  show(V.map (pFa ls))[k]! = _
  rw[x0c _ k (by simpa using hk),x0Q]
 have j4:∀k (hk:k<V.length),(bL ns es ls ss q cover V).room.l[k]! = pRm ns es ls cover V[k]:=fun k hk=>by
  show(V.map (pRm ns es ls cover))[k]! = _
  rw[x0c _ k (by simpa using hk),x0Q]
 generalize bF (bL ns es ls ss q cover V)=ch at *
 obtain⟨f,hf⟩:∃f:Nat->Nat,∀i,f i=(ch[V.idxOf i]!).toNat:=⟨_,fun _=>rfl⟩
 have hfi:∀i,i<ls.length->∃k,∃hk:k<V.length,V[k]=i/\V.idxOf i=k/\f i<ss.length/\bJ (bL ns es ls ss q cover V) ch k=f i:=by
  intro i hi
  have hm:=hall i hi
  have hk:=List.idxOf_lt_length_iff.2 hm
  obtain⟨s,d1,d2,d3⟩:=c3 (V.idxOf i) (by rw[hbl];exact hk)
  refine⟨V.idxOf i,hk,List.getElem_idxOf hk,rfl,?_,?_⟩
  ·rw[hf,d1,x1S];exact d2
  ·rw[d3,hf,d1];simp
 have hposs:∀i,i<ls.length->bZ (bL ns es ls ss q cover V) (V.idxOf i) (f i)=true:=fun i hi=>by
  obtain⟨k,hk,e1,e2,e3,e4⟩:=hfi i hi
  have hp:=b4 k (by rw[hbl];exact hk)
  rw[gw,x0N,e4]at hp
  rw[e2]
  simpa using hp.1
 refine⟨gz ls ss V ch V.length,f,rfl,ib _ _ _ _ _,?_,?_,?_,?_,?_,?_,?_⟩
 ·refine w9 (f:=secN ss V ch) hv hkd (ib _ _ _ _ _) (fun i hi=>?_) (fun i hi=>?_)
  ·rw[tK hVn hVlt V.length (x0k _) i hi,x0L,if_pos (hall i hi)]
  ·obtain⟨k,hk,e1,e2,e3,e4⟩:=hfi i hi
   unfold secN
   rw[<- hf,x0c ss _ e3]
   exact hsv _ e3
 ·intro i hi
  obtain⟨k,hk,e1,e2,e3,e4⟩:=hfi i hi
  exact e3
 ·intro i hi
  rw[tK (ss:=ss) (ch:=ch) hVn hVlt V.length (x0k _) i hi,x0L,if_pos (hall i hi)]
  unfold secN
  rw[<- hf]
 ·intro i hi
  obtain⟨k,hk,e1,e2,e3,e4⟩:=hfi i hi
  rw[x0c ss _ e3]
  unfold lL
  refine dE (fun j hj hji=>?_) e3 (by simp[fO])
  have:=x1w.1 hnm j (f i) (by simpa using hj) (by simpa using e3) hji
  simpa[fO]using this
 ·intro i hi
  obtain⟨k,hk,e1,e2,e3,e4⟩:=hfi i hi
  have hp:=hposs i hi
  rw[e2]at hp
  simp only[bZ,hsl,j1 k hk,j2 k hk,j3 k hk,e1,x0a,x0u,x0r,x0b]at hp
  exact hp.1
 ·intro i hi
  obtain⟨k,hk,e1,e2,e3,e4⟩:=hfi i hi
  have hp:=hposs i hi
  rw[e2]at hp
  simp only[bZ,hsl,j4 k hk,e1,x0a,x0b]at hp
  rw[hes]
  exact hp.2
 ·intro i j hi hj hij
  rw[hes]at hij
  obtain⟨k,hk,e1,e2,e3,e4⟩:=hfi i hi
  obtain⟨k',hk',e1',e2',e3',e4'⟩:=hfi j hj
  have hp:=b4 k (by rw[hbl];exact hk)
  rw[gw,x0N]at hp
  have hie:i<es.length:=by omega
  have hje:j<es.length:=by omega
  rw[x0c es j hje,x0c es i hie]at hij
  have hbel:iC es V V[k']=(k:Int):=by
   rw[e1']
   unfold iC
   rw[x0e hje]
   simp only[x1p]
   rw[hij]
   cases hx:fE es es[i].1 with
   | none=>exact absurd (List.mem_map_of_mem (x0h hie)) (tc.1 hx)
   | some x =>
    obtain⟨h1,h2,_⟩:=eO hx
    have hxi:=kq hnd h1 hie h2
    subst hxi
    show(tA V x:Int)=_
    unfold tA
    rw[if_pos (hall x hi),e2]
  have hm:k'∈aI (bL ns es ls ss q cover V) k:=by
   unfold aI
   rw[x1n,hbl,x0M,j0 k' hk',hbel]
   exact⟨hk',by simp⟩
  have:=x0E.1 hp.2 k' hm
  simp only[i5,hsl,e4,e4',x0b]at this
  omega
end Go.Gv

set_option maxRecDepth 4000
namespace Go.Gv
theorem Fit.edg{ns:List Nod}{ls:List Lnk}{ss:List Sec}{q:List Int}{cover:Int}{T:List Lnk}{f:Nat->Nat}(h:Fit ns ls ss q cover T f):ah ns T=ah ns ls:=by
 apply x1J
 ·simp[ah,h.len]
 ·intro i h1 h2
  have hl:i<ls.length:=by simpa[ah]using h2
  have hT:i<T.length:=by simpa[ah]using h1
  have e:=h.eq i hl
  rw[x0c T i hT,x0c ls i hl]at e
  simp only[ah,x0Q,e]
  rfl
theorem Fit.hg{ns:List Nod}{ls:List Lnk}{ss:List Sec}{q:List Int}{cover:Int}{T:List Lnk}{f:Nat->Nat}(h:Fit ns ls ss q cover T f)(hk:∀i (h:i<ls.length),ls[i].kind=1){i:Nat}(hi:i<ls.length):hgF ss T[i]! = ss[f i]!.height:=by
 have e:=h.eq i hi
 have k1:T[i]!.kind=1:=by rw[e,x0c ls i hi];exact hk i hi
 have hs:T[i]!.sect=ss[f i]!.name:=by rw[e];rfl
 have hx:ct (ki T[i]!.sect) ss=((f i:Nat):Int):=by rw[hs];exact h.idx i hi
 have hlt:=h.lt i hi
 rw[yb ss k1,hx,dif_pos (by omega)]
 simp[hlt,x0c ss (f i) hlt]
theorem Fit.noFind{ns:List Nod}{ls:List Lnk}{ss:List Sec}{q:List Int}{cover:Int}{T:List Lnk}{f:Nat->Nat}(h:Fit ns ls ss q cover T f)(hp:oL ns ls ss q cover):∀x∈pW ns T ss,x.1<=4:=by
 obtain⟨hkd,_,_⟩:=qp hp.pe
 have hel:=bT ns ls
 have hsv:∀s (hs:s<ss.length),1<=ss[s].height/\ss[s].height<=32768:=fun s hs=>by
  have:=hp.hc
  simp only[aH,x0a,x0b,x0f]at this
  have:=this.1.2 _ (x0h hs)
  simp only[aL,x0a,x0b]at this
  omega
 intro x hx
 unfold pW at hx
 rw[BQ]at hx
 unfold vh at hx
 rw[rV]at hx
 obtain⟨i,hi,hx⟩:=hx
 rw[h.len]at hi
 rw[h.edg]at hx
 have hT:i<T.length:=by rw[h.len];exact hi
 have hg:=h.hg hkd hi
 have hfi:=h.lt i hi
 have hh:=hsv _ hfi
 have hr:=h.room i hi
 have hcv:=hp.cv
 have hie:i<(ah ns ls).length:=by omega
 have hE:edG (ah ns ls) i=(ah ns ls)[i]!:=by rw[me hie,x0c _ i hie]
 have hL:lnG T i=T[i]!:=by rw[mA hT,x0c _ i hT]
 obtain⟨g1,g2⟩:=fS hp.hv _ (x0h hie)
 rw[x0c ss (f i) hfi]at hg hr
 have hr2:ss[f i].height<=mnI (ns[((ah ns ls)[i]!).1]!.ground-ls[i]!.up) (ns[((ah ns ls)[i]!).2]!.ground-ls[i]!.down):=by
  unfold pRm at hr
  split at hr<;>omega
 have hr3:ls[i]!.up+ss[f i].height<=ns[((ah ns ls)[i]!).1]!.ground/\ls[i]!.down+ss[f i].height<=ns[((ah ns ls)[i]!).2]!.ground:=by
  unfold mnI at hr2
  split at hr2<;>omega
 have hkx:ls.any (fun l=>!decide (l.kind=1))=false:=mV hp.pe
 obtain⟨p1,p2,_⟩:=tJ hp.hv hkx hi
 have kT:T[i]!.kind=1:=by rw[h.eq i hi,x0c ls i hi];exact hkd i hi
 have uT:T[i]!.up=ls[i].up:=by rw[h.eq i hi,x0c ls i hi];rfl
 have dT:T[i]!.down=ls[i].down:=by rw[h.eq i hi,x0c ls i hi];rfl
 rw[x0c ls i hi]at hr3
 have n1:oQ ns ((ah ns ls)[i]!).1=ns[((ah ns ls)[i]!).1]!:=by
  rw[x0c _ i hie,mH g1,x0c ns _ g1]
 have n2:oQ ns ((ah ns ls)[i]!).2=ns[((ah ns ls)[i]!).2]!:=by
  rw[x0c _ i hie,mH g2,x0c ns _ g2]
 unfold jy at hx
 rw[hE,hL,hg,n1,n2]at hx
 have hh0:¬ss[f i].height<0:=by omega
 rw[if_neg hh0]at hx
 have w1:IntKind.wrap .i64 (ls[i].up+ss[f i].height)=ls[i].up+ss[f i].height:=wrap_i64 rfl (by omega)
 have w2:IntKind.wrap .i64 (ls[i].down+ss[f i].height)=ls[i].down+ss[f i].height:=wrap_i64 rfl (by omega)
 have hH:mD T[i]! ns[((ah ns ls)[i]!).1]! ns[((ah ns ls)[i]!).2]! ss[f i].height (decide (0<=ss[f i].height))=false:=by
  unfold mD
  rw[if_pos kT,uT,dT,w1,w2,x0W]
  right
  rw[x0N,x0x,x0x]
  omega
 rw[hH]at hx
 simp only[x0n,yl,hh0,decide_false,Bool.and_false,x0o,false_and,or_false]at hx
 rcases hx with ⟨_,rfl⟩|hx
 ·exact x00 _
 ·rw[rV]at hx
  obtain⟨j,hj,hx⟩:=hx
  rw[h.len]at hj
  unfold qb at hx
  rw[yl]at hx
  have hTj:j<T.length:=by rw[h.len];exact hj
  have hje:j<(ah ns ls).length:=by omega
  have hEj:edG (ah ns ls) j=(ah ns ls)[j]!:=by rw[me hje,x0c _ j hje]
  have hLj:lnG T j=T[j]!:=by rw[mA hTj,x0c _ j hTj]
  obtain⟨c,_⟩:=hx
  rw[hE,hEj,hL,hLj,hg,h.hg hkd hj]at c
  simp only[x0a,x0b]at c
  have:=h.nar i j hi hj c.1
  rw[x0c ss (f i) hfi]at this
  omega
theorem xD{ss:List Sec}(h:aH ss=true):oW ss=true:=by
 simp only[aH,oW,x0a,x0b,x0f]at h ⊢
 refine⟨⟨h.1.1,fun s hs=>?_⟩,h.2⟩
 have:=h.1.2 s hs
 simp only[aL,kj,x0a,x0b]at this ⊢
 exact⟨⟨this.1.1.1.1.1.1,this.1.1.1.1.1.2⟩,this.1.1.1.1.2⟩
theorem Fj{s:Sec}{fall len:Int}(hv:aL s=true)(hs:cT fall len=true):lX s s.height fall len=dB s fall len:=by
 have h1:1<=s.height:=by
  simp only[aL,x0a,x0b]at hv;omega
 unfold lX dB
 rw[if_pos hv,if_pos hv,if_pos ⟨by omega,by omega,hs⟩,if_pos hs,HX hv]
 by_cases c:1099511627776<nv s fall len
 ·rw[if_pos c,if_pos (by omega)]
 ·rw[if_neg c,if_neg (by omega)]
theorem Fit.over{ns:List Nod}{ls:List Lnk}{ss:List Sec}{q:List Int}{cover:Int}{T:List Lnk}{f:Nat->Nat}(h:Fit ns ls ss q cover T f)(hp:oL ns ls ss q cover){i:Nat}(hi:i<ls.length):q[i]!<=qZ ss T[i]!:=by
 have hkx:ls.any (fun l=>!decide (l.kind=1))=false:=mV hp.pe
 obtain⟨p1,p2,p3⟩:=tJ hp.hv hkx hi
 have hlt:=h.lt i hi
 have hs:T[i]!.sect=ss[f i]!.name:=by rw[h.eq i hi];rfl
 have hx:lL ss T[i]!.sect=((f i:Nat):Int):=by rw[hs];exact h.idx i hi
 have hS:kh ss T[i]! = ss[f i]!:=by
  unfold kh
  rw[hx,x1S,x0e hlt,x0c ss (f i) hlt];rfl
 have hm:=hp.ok i (xn hp hi)
 simp only[iz,x0N,x1A,x0a,x0b]at hm
 have hf:io T[i]! = pFa ls i:=by
  have e:io T[i]! = io ls[i]!:=by rw[h.eq i hi];rfl
  rw[e]
  have e2:pFa ls i=ls[i]!.up-ls[i]!.down:=rfl
  unfold io
  rw[e2]at hm
  rw[if_neg (by omega),e2]
 have hl:T[i]!.len=ls[i]!.len:=by rw[h.eq i hi];rfl
 have hv:aL ss[f i]! = true:=by rw[x0c ss (f i) hlt];exact lZ hp.hc hlt
 have hsl:cT (pFa ls i) ls[i]!.len=true:=by
  rw[x0c ls i hi]
  simp only[cT,x0a,x0b]
  omega
 have hc:=Fj (s:=ss[f i]!) hv hsl
 have hq:q[i]!<=1099511627776:=by
  have hql:=hp.ql
  rw[x0c q i (by omega)]
  exact(hp.qr _ (x0h _)).2
 unfold qZ
 rw[hS,hf,hl,hc]
 rcases h.full i hi with e|⟨e,e2⟩
 ·rw[if_pos e];exact hq
 ·rw[if_neg (by omega)];exact e2
theorem Fit.tree{ns:List Nod}{ls:List Lnk}{ss:List Sec}{q:List Int}{cover:Int}{T:List Lnk}{f:Nat->Nat}(h:Fit ns ls ss q cover T f)(hp:oL ns ls ss q cover)(ht:fI ns ls=true):fI ns T=true:=by
 obtain⟨hkd,_,_⟩:=qp hp.pe
 simp only[fI,x0a]at ht ⊢
 refine⟨⟨h.net,?_⟩,by rw[h.edg];exact ht.2⟩
 rw[x0f]
 intro l hl
 obtain⟨i,hi,rfl⟩:=x0P hl
 have hi':i<ls.length:=by rw[<- h.len];exact hi
 have e:=h.eq i hi'
 rw[x0c T i hi,x0c ls i hi']at e
 rw[e]
 have:=hkd i hi'
 simpa[i7]using this
theorem Fit.pip{ns:List Nod}{ls:List Lnk}{ss:List Sec}{q:List Int}{cover:Int}{T:List Lnk}{f:Nat->Nat}(h:Fit ns ls ss q cover T f)(hp:oL ns ls ss q cover):tH T ss=0:=by
 have hT:∀l∈T,mG ss l=false/\kx l=false:=fun l hl=>by
  obtain⟨i,hi,rfl⟩:=x0P hl
  have hi':i<ls.length:=by rw[<- h.len];exact hi
  have e:=h.eq i hi'
  rw[x0c T i hi]at e
  have hm:=hp.ok i (xn hp hi')
  simp only[iz,x0N,x1A,x0a,x0b]at hm
  rw[e]
  constructor
  ·simp only[mG,x0x]
   have:lL ss (i7 ls[i]! ss[f i]!.name).sect=((f i:Nat):Int):=h.idx i hi'
   rw[this];omega
  ·simp only[kx,x0x]
   show ¬ls[i]!.up<ls[i]!.down
   have h7:0<=ls[i]!.up-ls[i]!.down:=hm.1.1
   omega
 unfold tH
 rw[if_neg,if_neg]
 ·simp only[x0U,x0E]
  intro l hl;simp[(hT l hl).2]
 ·simp only[x0U,x0E]
  intro l hl;simp[(hT l hl).1]
theorem Fit.ov{ns:List Nod}{ls:List Lnk}{ss:List Sec}{w:List Sp}{cover:Int}{T:List Lnk}{f:Nat->Nat}(hE:jC ns ls w=0)(h:Fit ns ls ss (cz (·.2) (aV ns.length (ah ns ls) w)) cover T f)(hp:oL ns ls ss (cz (·.2) (aV ns.length (ah ns ls) w)) cover) :
  OvE ns T ss w=0/\jz ss (·.1) T (aV ns.length (ah ns T) w) T.length=[]/\jz ss (·.2) T (aV ns.length (ah ns T) w) T.length=[]:=by
 obtain⟨h1,h2,h3⟩:=rj hE
 have hr:=rM hE
 have hel:=bT ns ls
 have hfl:=lC ns.length (ah ns ls) w
 rw[h.edg]
 have hlen:(aV ns.length (ah ns ls) w).length=T.length:=by rw[hfl,hel,h.len]
 have none:∀g:Sp->Int,(∀k,k<ls.length->g (aV ns.length (ah ns ls) w)[k]!<=((aV ns.length (ah ns ls) w)[k]!).2)->jz ss g T (aV ns.length (ah ns ls) w) T.length=[]:=fun g hg=>by
  apply List.eq_nil_iff_forall_not_mem.2
  intro x hx
  obtain⟨i,a,b,c,_⟩:=(FJ hlen).1 hx
  have hi:i<ls.length:=by rw[<- h.len];exact a
  have o:=h.over hp hi
  rw[sW b,x0c T i a]at o
  have:=hg i hi
  rw[x0c (aV ns.length (ah ns ls) w) i b]at this o
  omega
 refine⟨?_,none _ (fun k hk=>(hr k hk).2.1),none _ (fun k _=>x00 _)⟩
 unfold OvE
 have g:pK ns T ss w ns.length=0:=by
  unfold pK
  rw[if_pos (by rw[h.tree hp h1,hp.hc];rfl),if_pos h2]
  exact h.pip hp
 rw[if_pos g,h.edg]
 exact h3
end Go.Gv

namespace Go.Gv
theorem zz{j:Job}(hv:am j=true)(hc:b9 j≠-1){p s:Nat}(hp:p<j.below.l.length)(hs:s<j.secs.length)(hpr:j.secs[s]!.price<j.secs[bJ j (bF j) p]!.price):(bi j ((bF j).set p (s:Int))).1=false/\(bi j ((bF j).set p (s:Int))).2.2=0:=by
 obtain⟨h1,_⟩:=lW hv hc
 obtain⟨h0,_⟩:=jJ h1
 constructor
 ·cases ha:(bi j ((bF j).set p (s:Int))).1 with
  | false=>rfl
  | true =>
   have:=wl hv hc hp ha
   omega
 ·have hch:bv j ((bF j).set p (s:Int))=0:=by
   unfold bv at h0 ⊢
   rw[if_neg (by rw[hv];simp)]at h0 ⊢
   rw[List.length_set]
   split at h0
   ·cases h0
   ·rename_i h2
    rw[if_neg h2]
    split at h0
    ·cases h0
    ·rename_i h3
     rw[if_neg]
     rw[x0U,x0E]at h3 ⊢
     intro x hx
     rcases List.mem_or_eq_of_mem_set hx with hx|rfl
     ·exact h3 x hx
     ·simp[ju];omega
  unfold bi
  rw[if_neg (by rw[hch];simp)]
  split<;>rfl
end Go.Gv
