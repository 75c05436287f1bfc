/-
  Texts of the proof: Q35, BT4, BT5, BD2, BP1, BD3, BD4, B10a, BT6, BD5.
-/
import Derived.Test.YtakhehpeefjcnaaGreatX8
import Derived.Test.YtakhehpeefjcnaaGreatX7
set_option linter.all false
namespace Go.Gv
variable{C:CC}(hC:ay prog C)
include hC
theorem zB(b1 b2 b:Bool)(ns:List Nod)(ls:List Lnk)(q:List Sp)(hq:q.length<2^62):C 431 [.agg [slx b1 (ns.map aO),slx b2 (ls.map aA)],slx b (q.map knD)] (.tup [lF ns ls q,.int .i64 (ix ns ls q)]) []:=by
 have k1:=vb hC b1 b2 ns ls
 have k2:=sE hC b q ns.length hq
 refine ai hC (nf:=N431) rfl rfl ?_
 simp[N431]
 refine aa k1 (.inl rfl) ?_
 unfold lF ix
 cases ht:cB ns ls
 ·simp
 simp
 refine aa k2 (.inl rfl) ?_
 by_cases h0:fC q ns.length=0
 ·obtain⟨hql,hqr⟩:=lu h0
  have k3:=F2 hC b1 b2 b ns ls q ht hql hqr
  unfold bM
  simp[h0]
  refine aa k3 (.inr rfl) ?_
  cases hb:iZ (aE ns.length (av ns ls) q)<;>simp[h0]
 ·simp[h0]
end Go.Gv

set_option maxRecDepth 4000
namespace Go.Gv
def CkV(ns:List Nod)(ls:List Lnk)(ss:List Sec)(q:List Sp)(o:Sp):D:=if gl ns ls ss q o=true then .sl ((aE ns.length (av ns ls) q).map knD) else .nils
theorem xg{ns:List Nod}{ls:List Lnk}{ss:List Sec}{q:List Sp}:eG ns ls ss q ns.length=0\/eG ns ls ss q ns.length=1\/eG ns ls ss q ns.length=2\/eG ns ls ss q ns.length=3\/eG ns ls ss q ns.length=9\/eG ns ls ss q ns.length=23:=by
 unfold eG
 split
 ·split
  ·rcases og (ls:=ls) (ss:=ss)with h|h|h<;>simp[h]
  ·unfold fC
   split
   ·simp
   ·split
    ·split<;>simp
    ·simp
 ·simp
variable{C:CC}(hC:ay prog C)
include hC
theorem u4(b1 b2:Bool)(ns:List Nod)(ls:List Lnk)(hv:bG ns ls=true){v:Nat}(hvn:v<ns.length):C 645 [.agg [slx b1 (ns.map aO),slx b2 (ls.map aA)],.int .i64 v] (.int .i64 (frI (fE (av ns ls) v))) []:=by
 obtain⟨hnl,hll⟩:=bR hv
 rw[<- Cd hv hvn]
 obtain⟨r,hr⟩:∃r,r=bj (jz ns[v].name) ls:=⟨_,rfl⟩
 rw[<- hr]
 refine ai hC (nf:=N645) rfl rfl ?_
 simp[N645]
 refine au Nat (fun i=>[(1,.int .i64 v),(2,.ptr [slx b1 (ns.map aO),slx b2 (ls.map aA)]),(5,.int .i64 i)]) (fun i=>i<=ls.length/\∀(j:Nat) (h:j<ls.length),j<i->jz ns[v].name ls[j]=false) (fun i=>ls.length-i) 0 ⟨by omega,fun j _ h=>absurd h (Nat.not_lt_zero _)⟩ (by simp) ?_
 rintro i ⟨hi,hj⟩
 simp
 refine ac (fun h=>?_) (fun h=>?_)<;>simp at h
 ·have hw:IntKind.wrap .i64 ((i:Int)+1)=((i+1:Nat):Int):=wrap_i64 (by omega) (by omega)
  simp[h,aA,aO,hvn]
  refine⟨ao (by decide +kernel),?_⟩
  by_cases e:ls[i].src=ns[v].name
  ·have e1:r=(i:Int):=by rw[hr];exact cC hj h (by simp[jz,e])
   simp[e,e1]
  ·simp[e]
   exact⟨i+1,⟨by omega,fun j hl hij=>by rcases x0k.1 hij with h8|rfl;exact hj j hl h8;simp[jz,e]⟩,by omega,hw⟩
 ·have e1:r=-1:=by rw[hr];exact cJ (fun j hl=>hj j hl (by omega))
  simp[h,e1]
theorem mL(b:Bool)(ss:List Sec)(l:Lnk)(hss:ss.length<2^62)(hP:gQ ss l):C 646 [.agg (aA l),slx b (ss.map aS)] (.agg (aS (cV ss l))) []:=by
 obtain⟨k,h1,hk,h2⟩:=hP.sec
 have k1:=qN hC b ss l.sect hss
 change bj (cy l.sect) ss=_ at h1
 rw[h1]at k1
 rw[h2]
 refine ai hC (nf:=N646) rfl rfl ?_
 simp[N646,aA]
 refine aa k1 (.inl rfl) ?_
 simp[hk,aS]
set_option maxHeartbeats 2000000 in
theorem ze(b1 b2 b b':Bool)(ns:List Nod)(ls:List Lnk)(ss:List Sec)(q:List Sp)(o:Sp)(hls:ls.length<2^62)(hss:ss.length<2^62)(hq:q.length<2^62) :
  C 620 [.agg [slx b1 (ns.map aO),slx b2 (ls.map aA)],slx b (ss.map aS),slx b' (q.map knD),.agg (knD o)] (.tup [CkV ns ls ss q o,.int .i64 (cN ns ls ss q o)]) []:=by
 have k1:=zD hC b1 b2 b b' true ns ls ss q hls hss hq
 simp only[if_true]at k1
 have k2:=qS hC o
 have k3:=zB hC b1 b2 b' ns ls q hq
 refine ai hC (nf:=N620) rfl rfl ?_
 simp[N620,knD]
 refine aa (by simpa[knD]using k1) (.inl rfl) ?_
 have hg:=xg (ns:=ns) (ls:=ls) (ss:=ss) (q:=q)
 have nilV:∀e:Int,e=cN ns ls ss q o->¬(e=0\/e=5)->CkV ns ls ss q o=.nils/\cN ns ls ss q o=e:=fun e h1 h2=>by
  refine⟨?_,h1.symm⟩
  unfold CkV
  rw[if_neg (by rw[vz h1 h2];decide)]
 simp
 by_cases g1:eG ns ls ss q ns.length=1
 ·obtain⟨e1,e2⟩:=nilV 1 (by unfold cN;rw[if_pos (.inl g1)]) (by decide)
  simp[g1,e1,e2]
 simp[g1]
 refine aa (by simpa[knD]using k2) (.inl rfl) ?_
 by_cases g2:cl o=true
 case neg =>
  have g2':cl o=false:=by simpa using g2
  obtain⟨e1,e2⟩:=nilV 1 (by unfold cN;rw[if_pos (.inr g2')]) (by decide)
  simp[g2,e1,e2]
 have n1:¬(eG ns ls ss q ns.length=1\/cl o=false):=by simp[g1,g2]
 simp[g2]
 by_cases g3:eG ns ls ss q ns.length=3
 ·obtain⟨e1,e2⟩:=nilV 3 (by unfold cN;rw[if_neg n1,if_pos g3]) (by decide)
  simp[g3,e1,e2]
 simp[g3]
 by_cases g4:eG ns ls ss q ns.length=2
 ·obtain⟨e1,e2⟩:=nilV 2 (by unfold cN;rw[if_neg n1,if_neg g3,if_pos (.inl g4)]) (by decide)
  simp[g4,e1,e2]
 by_cases g5:de o=true
 ·obtain⟨e1,e2⟩:=nilV 2 (by unfold cN;rw[if_neg n1,if_neg g3,if_pos (.inr g5)]) (by decide)
  have h7':=g5
  simp only[de,x0E,x0c]at h7'
  by_cases h8:o.1 < -4194304
  ·simp[g4,h8,e1,e2]
  ·have h9:4194304<o.2:=by omega
   simp[g4,h8,h9,e1,e2]
 have n2:¬(eG ns ls ss q ns.length=2\/de o=true):=by simp[g4,g5]
 obtain⟨o1,o2⟩:¬(o.1 < -4194304)/\¬(4194304<o.2):=by
  simp only[de,x0E,x0c]at g5
  omega
 simp[g4,o1,o2]
 by_cases g0:eG ns ls ss q ns.length=0
 case neg =>
  obtain⟨e1,e2⟩:=nilV (eG ns ls ss q ns.length) (by unfold cN;rw[if_neg n1,if_neg g3,if_neg n2,if_pos g0]) (by omega)
  simp[g0,e1,e2]
 simp[g0]
 obtain⟨ht,hc,hsp,hp⟩:=qz g0
 have hv:bG ns ls=true:=by simp only[cB,x0a]at ht;exact ht.1.1
 have htf:cP ns.length (av ns ls)=true:=by simp only[cB,x0a]at ht;exact ht.2
 obtain⟨hnl,hll⟩:=bR hv
 have hge:=fj hv
 have hel:=aM ns ls
 have hpo:=qM ht hp
 obtain⟨hq1,hq2⟩:=lu hsp
 have hq1':q.length=ns.length:=by omega
 have k4:∀v,v<ns.length->_:=fun v hvn=>u4 hC b1 b2 ns ls hv hvn
 have k5:=fun l hl=>mL hC b ss l hss (hpo l hl)
 have hFE:ix ns ls q=bM ns.length (av ns ls) q:=by
  unfold ix
  rw[if_pos ht,if_pos hsp]
 unfold lF at k3
 rw[hFE]at k3
 have htE:cN ns ls ss q o=if lT ns (av ns ls) then 24 else if bM ns.length (av ns ls) q≠0 then bM ns.length (av ns ls) q else jl ls ss (aE ns.length (av ns ls) q):=by
  unfold cN
  rw[if_neg n1,if_neg g3,if_neg n2,if_neg (by simp[g0])]
 have htM:gl ns ls ss q o=(!lT ns (av ns ls)&&decide (bM ns.length (av ns ls) q=0)&&!decide (jl ls ss (aE ns.length (av ns ls) q)=16)):=by
  have ho:de o=false:=by simpa using g5
  unfold gl
  rw[g0,g2,ho]
  simp
 unfold CkV
 have nilW:gl ns ls ss q o=false->(if gl ns ls ss q o=true then D.sl ((aE ns.length (av ns ls) q).map knD) else .nils)=.nils:=fun h=>by rw[if_neg (by rw[h];decide)]
 clear nilV k1 k2 hg g1 g3 g4 n1 n2
 generalize av ns ls=es at *
 refine au Nat (fun j=>[(1,slx b (ss.map aS)),(2,slx b' (q.map knD)),(4,.ptr [slx b1 (ns.map aO),slx b2 (ls.map aA)]),(11,.int .i64 j)]) (fun j=>j<=ns.length/\∀k (hk:k<ns.length),k<j->ns[k].kind≠3->fE es k≠none) (fun j=>ns.length-j) 0 ⟨by omega,fun k _ h=>absurd h (Nat.not_lt_zero _)⟩ (by simp) ?_
 rintro j ⟨hj2,hgp⟩
 simp
 refine ac (fun h2=>?_) (fun h2=>?_)<;>simp at h2
 ·have hw:IntKind.wrap .i64 ((j:Int)+1)=((j+1:Nat):Int):=wrap_i64 (by omega) (by omega)
  simp[h2,aO]
  by_cases c1:ns[j].kind=3
  ·simp[c1]
   refine⟨j+1,⟨by omega,fun k hk hkj h3=>?_⟩,by omega,hw⟩
   rcases x0k.1 hkj with h8|rfl
   ·exact hgp k hk h8 h3
   ·exact absurd c1 h3
  ·simp[c1]
   refine aa (k4 j h2) (.inl rfl) ?_
   cases hf:fE es j with
   | none =>
    have e1:cN ns ls ss q o=24:=by rw[htE,m4 h2 c1 hf,if_pos rfl]
    have e2:=nilW (by rw[htM,m4 h2 c1 hf];rfl)
    simp only[frI]
    rw[e1,e2]
    simp
   | some x =>
    have hx0:¬((x:Int)<0):=by omega
    simp[frI,hx0]
    refine⟨j+1,⟨by omega,fun k hk hkj h3=>?_⟩,by omega,hw⟩
    rcases x0k.1 hkj with h8|rfl
    ·exact hgp k hk h8 h3
    ·rw[hf];simp
 ·have ej:j=ns.length:=by omega
  subst ej
  have hgap:lT ns es=false:=uM fun k hk h3=>hgp k hk hk h3
  rw[hgap,if_neg (by decide)]at htE
  rw[hgap]at htM
  simp[h2]
  refine aa k3 (.inr (by simp)) ?_
  have hF5:bM ns.length es q=0\/bM ns.length es q=5:=by
   unfold bM;split<;>simp
  by_cases hf0:bM ns.length es q=0
  case neg =>
   have hf5:bM ns.length es q=5:=by rcases hF5 with h|h;exact absurd h hf0;exact h
   have e1:cN ns ls ss q o=5:=by rw[htE,hf5,if_pos (by decide)]
   have e2:=nilW (by rw[htM,hf5];rfl)
   rw[if_neg hf0,hf5,e1,e2]
   simp
  have hbig:iZ (aE ns.length es q)=false:=by
   unfold bM at hf0
   split at hf0
   ·cases hf0
   ·rename_i h;simpa using h
  have hfr:∀k,k<es.length->(0<=(aE ns.length es q)[k]!.1/\(aE ns.length es q)[k]!.1<=(aE ns.length es q)[k]!.2)/\(aE ns.length es q)[k]!.2<=1099511627776:=fun k hk=>⟨qw hnl hge htf hq1' hq2 hk,qv hbig hk⟩
  have hfl:=iA ns.length es q
  rw[if_pos hf0,hf0]
  rw[hf0]at htM
  rw[if_neg (by simp[hf0])]at htE
  clear hF5 hbig k3
  rw[htE,htM]
  rw[htM]at nilW
  generalize aE ns.length es q=fl at *
  simp
  refine au Nat (fun j=>[(1,slx b (ss.map aS)),(4,.ptr [slx b1 (ns.map aO),slx b2 (ls.map aA)]),(12,.sl (fl.map knD)),(13,.int .i64 (j7 ls ss fl j)),(14,.int .i64 j)])
   (fun j=>j<=ls.length/\∀k,k<j->fL ls ss fl k≠16) (fun j=>ls.length-j) 0 ⟨by omega,fun k h=>absurd h (Nat.not_lt_zero _)⟩ (by simp[j7]) ?_
  rintro j ⟨hj3,h16⟩
  simp
  refine ac (fun g3=>?_) (fun g3=>?_)<;>simp at g3
  ·have hw:IntKind.wrap .i64 ((j:Int)+1)=((j+1:Nat):Int):=wrap_i64 (by omega) (by omega)
   have hP:=hpo _ (x0h g3)
   have hje:j<es.length:=by omega
   have hjf:j<fl.length:=by omega
   obtain⟨⟨f0,f1⟩,f2⟩:=hfr j hje
   have hlK:fL ls ss fl j=(cf ls[j] (cV ss ls[j]) fl[j].2).2:=by
    unfold fL
    rw[x0f ls j g3,oU hjf]
   rw[oU hjf]at f0 f1 f2
   have k11:=yP hC ls[j] (cV ss ls[j]) fl[j].2 (hP.valid hc) hP.len ⟨by omega,f2⟩
   rw[sj,<- hlK]at k11
   have k12:=k5 _ (x0h g3)
   generalize hr:(cf ls[j] (cV ss ls[j]) fl[j].2).1=r at *
   generalize hLe:fL ls ss fl j=e at *
   simp[g3,aA]
   refine aa (by simpa[aA]using k12) (.inr rfl) ?_
   simp[hjf,knD]
   refine aa (by simpa[aA]using k11) (.inr rfl) ?_
   have ext:∀e',e'≠16->fL ls ss fl j=e'->∀k,k<j+1->¬fL ls ss fl k=16:=fun e' h1 h2 k hk=>by
    rcases x0k.1 hk with h8|rfl
    ·exact h16 k h8
    ·rw[h2];exact h1
   have he:e=0\/e=5\/e=16:=by
    rw[<- hLe]
    unfold fL cf fw
    split
    ·simp
    ·split
     ·simp
     ·split<;>simp
   have hw0:j7 ls ss fl j=0\/j7 ls ss fl j=5:=by
    unfold j7;split<;>simp
   rcases he with rfl|rfl|rfl
   ·have hn:=AR (ls:=ls) (ss:=ss) (fl:=fl) (j:=j) (by rw[hLe];decide)
    rcases hw0 with h0|h0
    ·rw[h0]at hn ⊢
     simp
     exact⟨ao (by decide +kernel),j+1,⟨by omega,ext 0 (by decide) hLe⟩,by omega,hn.symm,hw⟩
    ·rw[h0]at hn ⊢
     simp
     exact⟨ao (by decide +kernel),j+1,⟨by omega,ext 0 (by decide) hLe⟩,by omega,hn.symm,hw⟩
   ·have hn:=AQ hLe
    rcases hw0 with h0|h0
    ·rw[h0]
     simp
     exact⟨ao (by decide +kernel),j+1,⟨by omega,ext 5 (by decide) hLe⟩,by omega,hn.symm,hw⟩
    ·rw[h0]
     simp
     exact⟨ao (by decide +kernel),j+1,⟨by omega,ext 5 (by decide) hLe⟩,by omega,hn.symm,hw⟩
   ·have h5:=uV g3 hLe
    rw[h5]
    simp
    exact ao (by decide +kernel)
  ·have ej:j=ls.length:=by omega
   subst ej
   have hw:=yN h16
   rw[hw]
   simp[g3,vD]
end Go.Gv

set_option maxRecDepth 4000
namespace Go.Gv
def hlO(hi:Bool)(s:Sp):Int:=if hi then s.2 else s.1
variable{C:CC}(hC:ay prog C)
include hC
set_option maxHeartbeats 2000000 in
theorem pT(b1 b2 b:Bool){ns:List Nod}{ls:List Lnk}{ss:List Sec}{fl:List Sp}{o:Sp}(hv:bG ns ls=true)(T:TrX ns ls ss (av ns ls) fl)(ho:-4194304<=o.1/\o.1<=o.2/\o.2<=4194304)(hss:ss.length<2^62)(hi:Bool):∀(r i:Nat),i<ns.length->ns.length<=r+rkO ns.length (av ns ls) i ->
  C 621 [.agg [slx b1 (ns.map aO),slx b2 (ls.map aA)],slx b (ss.map aS),.sl (fl.map knD),.agg (knD o),.int .i64 i,.bool hi] (.int .i64 (hlO hi (lvX ns ls ss (av ns ls) fl o i))) []
 | 0,i,hi',hr=>by
  have:=vf T.trs.full hi'
  omega
 | r+1,i,hi',hr=>by
  have k1:=u4 hC b1 b2 ns ls hv hi'
  have hh:(if hi=true then o.2 else o.1)=hlO hi o:=by cases hi<;>rfl
  cases hf:fE (av ns ls) i with
  | none =>
   rw[hf]at k1
   have hs:hlO hi (lvX ns ls ss (av ns ls) fl o i)=grI ns[i].invert (hlO hi o):=by
    unfold lvX
    rw[pE (show j5 (av ns ls) i=none from hf)]
    unfold ro
    rw[x0f ns i hi',tJ]
    cases hi<;>rfl
   rw[hs]
   have k2:=lU hC ns[i].invert (hlO hi o)
   refine ai hC (nf:=N621) rfl rfl ?_
   cases hi
   ·simp[N621,knD]
    refine aa k1 (.inl rfl) ?_
    simp[frI,hi',aO]
    refine aa (by simpa[hlO]using k2) (.inl rfl) ?_
    simp[hlO]
   ·simp[N621,knD]
    refine aa k1 (.inl rfl) ?_
    simp[frI,hi',aO]
    refine aa (by simpa[hlO]using k2) (.inl rfl) ?_
    simp[hlO]
  | some k =>
   rw[hf]at k1
   obtain⟨hk,hek⟩:=fV (show j5 (av ns ls) i=some k from hf)
   have hkl:k<ls.length:=by rw[<- aM ns ls];exact hk
   have hfl:=T.fln
   have hkf:k<fl.length:=by omega
   obtain⟨w,hw,r1,r2,e1,e2,hS⟩:=pF (ns:=ns) (o:=o) T.trs T.inv ⟨ho.2.1,ho.2.2⟩ (vf T.trs.full hi') (show j5 (av ns ls) i=some k from hf)
   rw[x0f (av ns ls) k hk]at hw
   have hwn:w<ns.length:=by rw[hw];exact(T.trs.ing _ (x0h hk)).2
   obtain⟨b1',b2',b3'⟩:=qF (ns:=ns) (o:=o) T.trs T.inv ⟨ho.2.1,ho.2.2⟩ w
   have hP:=T.lnk _ (x0h hkl)
   obtain⟨f0,f1⟩:=T.trs.low k hkl
   have f2:=T.trs.tro.flow k hkl
   rw[ne hkl,x0f ls k hkl,x0f fl k hkf]at hS e1 e2
   rw[x0f fl k hkf]at f0 f1 f2
   have hsm:=T.trs.small
   have kr:=pT b1 b2 b hv T ho hss hi r w hwn (by omega)
   have hS2:lvX ns ls ss (av ns ls) fl o i=((bV ls[k] (cV ss ls[k]) fl[k].1 (lvX ns ls ss (av ns ls) fl o w).1).1,(bV ls[k] (cV ss ls[k]) fl[k].2 (lvX ns ls ss (av ns ls) fl o w).2).1):=hS
   change lp ns.length (lvX ns ls ss (av ns ls) fl o w).1 at b1'
   change lp ns.length (lvX ns ls ss (av ns ls) fl o w).2 at b2'
   obtain⟨_,_,_,_,_,a2⟩:=rJ hv hkl
   rw[<- hw]at a2
   have kn:=fk hC b1 b2 ns ls ls[k].dst (by omega)
   rw[a2]at kn
   have hu:bn ls[k].up=true:=by
    have:=hP.up
    simp only[bn,x0a,x0c]
    exact this
   have hdw:bn ls[k].down=true:=by
    have:=hP.down
    simp only[bn,x0a,x0c]
    exact this
   have ks:=mL hC b ss ls[k] hss hP
   generalize lvX ns ls ss (av ns ls) fl o=sp at *
   have hb1:-4194304<=(sp w).1/\(sp w).1<=1099511627776:=⟨b1'.1,by have:=b1'.2;omega⟩
   have hb2:-4194304<=(sp w).2/\(sp w).2<=1099511627776:=⟨b2'.1,by have:=b2'.2;omega⟩
   have hqb:0<=hlO hi fl[k]/\hlO hi fl[k]<=1099511627776:=by
    cases hi<;>simp only[hlO,if_true,x0m,if_false]<;>omega
   have hsb:-4194304<=hlO hi (sp w)/\hlO hi (sp w)<=1099511627776:=by
    cases hi
    ·exact hb1
    ·exact hb2
   have ka:=xI hC ls[k] (cV ss ls[k]) (hlO hi fl[k]) (hlO hi (sp w)) (hP.valid T.cat) hP.len hu hdw hqb hsb
   rw[vI (hP.valid T.cat) hP.len hP.le hqb]at ka
   have s1:hlO hi (sp i)=(bV ls[k] (cV ss ls[k]) (hlO hi fl[k]) (hlO hi (sp w))).1:=by
    rw[hS2]
    cases hi<;>rfl
   rw[<- s1]at ka
   clear hS hS2 e1 e2 s1 b1' b2' b3' hb1 hb2 hqb hsb
   generalize (bV ls[k] (cV ss ls[k]) (hlO hi fl[k]) (hlO hi (sp w))).2=er at ka
   refine ai hC (nf:=N621) rfl rfl ?_
   have hk0:¬((k:Int)<0):=by omega
   cases hi
   ·have ka':C 193 [.agg (aA ls[k]),.agg (aS (cV ss ls[k])),.int .i64 fl[k].1,.int .i64 (hlO false (sp w))] (.tup [.int .i64 (hlO false (sp i)),.int .i64 er]) []:=ka
    simp only[aA]at ka' ks
    simp[N621,knD]
    refine aa k1 (.inl rfl) ?_
    simp[frI,hk0,hkf,hkl,aA,knD]
    refine aa kn (.inl rfl) ?_
    simp
    refine aa (by simpa[knD]using kr) (.inl rfl) ?_
    simp[hkl,aA]
    refine⟨ao (by decide +kernel),?_⟩
    refine aa ks (.inr rfl) ?_
    simp
    refine aa ka' (.inl rfl) ?_
    simp
    exact ao (by decide +kernel)
   ·have ka':C 193 [.agg (aA ls[k]),.agg (aS (cV ss ls[k])),.int .i64 fl[k].2,.int .i64 (hlO true (sp w))] (.tup [.int .i64 (hlO true (sp i)),.int .i64 er]) []:=ka
    simp only[aA]at ka' ks
    simp[N621,knD]
    refine aa k1 (.inl rfl) ?_
    simp[frI,hk0,hkf,hkl,aA,knD]
    refine aa kn (.inl rfl) ?_
    simp
    refine aa (by simpa[knD]using kr) (.inl rfl) ?_
    simp[hkl,aA]
    refine⟨ao (by decide +kernel),?_⟩
    refine aa ks (.inr rfl) ?_
    simp
    refine aa ka' (.inl rfl) ?_
    simp
    exact ao (by decide +kernel)
end Go.Gv

set_option maxRecDepth 4000
namespace Go.Gv
def mS(s:Sp):Bool:=decide (s.1 < -4194304)||decide (1099511627776<s.2)
def oX(ns:List Nod)(ls:List Lnk)(lv:List Sp):Int :=
 if bG ns ls=false\/(lv.any fun s=>!cl s)=true then 1 else if lv.length≠ns.length then 3 else if (lv.any mS)=true then 2 else 0
def fbS(ns:List Nod)(lv:List Sp)(i:Nat):Sp:=(ns[i]!.ground-lv[i]!.2,ns[i]!.ground-lv[i]!.1)
def fbV(ns:List Nod)(ls:List Lnk)(lv:List Sp):D:=if oX ns ls lv=0 then .sl ((lvT (fbS ns lv) ns.length).map knD) else .nils
theorem vp{s:Sp}(h:cl s=true):s.1<=s.2:=by
 simp only[cl,x0a,x0c]at h
 exact h.1.1
theorem DH{ns:List Nod}{ls:List Lnk}{lv:List Sp}(hv:bG ns ls=true)(h1:(lv.any fun s=>!cl s)=false)(h2:(lv.any mS)=false){i:Nat}(hi:i<ns.length)(hl:i<lv.length) :
  (-4194304<=ns[i].ground/\ns[i].ground<=4194304)/\(-4194304<=lv[i].1/\lv[i].1<=lv[i].2/\lv[i].2<=1099511627776):=by
 rw[x0M]at h1 h2
 have a1:=h1 _ (x0h hl)
 have a2:=h2 _ (x0h hl)
 have a3:=vp (s:=lv[i]) (by simpa using a1)
 have a4:=(jJ hv hi).1
 simp only[fF,bn,x0a,x0c]at a4
 simp only[mS,x0E,x0c]at a2
 omega
variable{C:CC}(hC:ay prog C)
include hC
theorem Lc(s:Sp):C 622 [.agg (knD s)] (.bool (!cl s)) []:=by
 have k:=qW hC s
 refine ai hC (nf:=N622) rfl rfl ?_
 simp[N622,knD]
 refine aa (by simpa[knD]using k) (.inl rfl) ?_
 simp
theorem Ld(s:Sp):C 623 [.agg (knD s)] (.bool (mS s)) []:=by
 refine ai hC (nf:=N623) rfl rfl ?_
 simp[N623,knD,mS]
 by_cases h:s.1 < -4194304<;>simp[h]
set_option maxHeartbeats 2000000 in
theorem rf(b1 b2 b:Bool)(ns:List Nod)(ls:List Lnk)(lv:List Sp)(hlv:lv.length<2^62)(hcv:∀l∈ls,l.curve.length<2^62) :
  C 578 [.agg [slx b1 (ns.map aO),slx b2 (ls.map aA)],slx b (lv.map knD)] (.tup [fbV ns ls lv,.int .i64 (oX ns ls lv)]) []:=by
 have k1:=m8 hC b1 b2 ns ls hcv
 have k2:=iB hC (b:=b) (xs:=lv) (g:=622) (cs:=[]) (fun s=>!cl s) hlv (fun x _=>Lc hC x)
 have k3:=iB hC (b:=b) (xs:=lv) (g:=623) (cs:=[]) mS hlv (fun x _=>Ld hC x)
 obtain⟨R,hR⟩:∃R,R=D.tup [fbV ns ls lv,.int .i64 (oX ns ls lv)]:=⟨_,rfl⟩
 rw[<- hR]
 unfold fbV at hR
 obtain⟨E,hE⟩:∃E,E=oX ns ls lv:=⟨_,rfl⟩
 rw[<- hE]at hR
 unfold oX at hE
 refine ai hC (nf:=N578) rfl rfl ?_
 simp[N578]
 refine aa k1 (.inl rfl) ?_
 by_cases c1:bG ns ls=true
 case neg =>
  rw[if_pos (.inl (by simpa using c1))]at hE
  rw[hE]at hR
  simp[c1,hR]
 simp[c1]
 refine aa k2 (.inl rfl) ?_
 by_cases c2:(lv.any fun s=>!cl s)=true
 case pos =>
  rw[if_pos (.inr c2)]at hE
  rw[hE]at hR
  rw[c2]
  simp[hR]
 have c2':(lv.any fun s=>!cl s)=false:=by simpa only[x0V]using c2
 rw[if_neg (by rw[c1,c2'];simp)]at hE
 rw[c2']
 have hnl:=(bR c1).1
 simp
 by_cases c3:lv.length=ns.length
 case neg =>
  rw[if_pos c3]at hE
  rw[hE]at hR
  have c3':¬((lv.length:Int)=ns.length):=by omega
  simp[c3,c3',hR]
 rw[if_neg (by simp[c3])]at hE
 simp[c3]
 refine aa k3 (.inl rfl) ?_
 by_cases c4:(lv.any mS)=true
 case pos =>
  rw[if_pos c4]at hE
  rw[hE]at hR
  rw[c4]
  simp[hR]
 rw[if_neg c4]at hE
 rw[hE,if_pos rfl]at hR
 have c4':(lv.any mS)=false:=by simpa only[x0V]using c4
 rw[c4',hR]
 have hbd:=fun i hi hl=>DH c1 c2' c4' (i:=i) hi hl
 clear hR hE k1 k2 k3 c2 c2' c4 c4'
 simp
 refine au Nat (fun j=>[(1,slx b (lv.map knD)),(6,.ref (.r 10096) 0 j),(28,slx b1 (ns.map aO)),(29,.int .i64 ns.length),(30,.int .i64 j),(10096,.blk 2 ((lvT (fbS ns lv) j).map knD))]) (fun j=>j<=ns.length) (fun j=>ns.length-j) 0 (by omega) (by simp[DN]) ?_
 intro j hj
 simp
 refine ac (fun h=>?_) (fun h=>?_)<;>simp at h
 ·have hw:IntKind.wrap .i64 ((j:Int)+1)=((j+1:Nat):Int):=wrap_i64 (by omega) (by omega)
  have hl:j<lv.length:=by omega
  obtain⟨d1,d2⟩:=hbd j h hl
  have w1:IntKind.wrap .i64 (ns[j].ground-lv[j].2)=ns[j].ground-lv[j].2:=wrap_i64 (by omega) (by omega)
  have w2:IntKind.wrap .i64 (ns[j].ground-lv[j].1)=ns[j].ground-lv[j].1:=wrap_i64 (by omega) (by omega)
  have hsu:=sn (fbS ns lv) j
  have hln:=fM (fbS ns lv) j
  have hfb:fbS ns lv j=(ns[j].ground-lv[j].2,ns[j].ground-lv[j].1):=by
   unfold fbS
   rw[x0f ns j h,x0f lv j hl]
  simp[h,hl,aO,knD,w1,w2,hln]
  refine⟨by omega,ao (by decide +kernel),j+1,by omega,by omega,rfl,hw,?_⟩
  rw[x0s (by simp[fM]),hsu,hfb,x1y]
  rfl
 ·have ej:j=ns.length:=by omega
  subst ej
  simp[h,fM]
  exact DO _ _
end Go.Gv

namespace Go.Gv
def dmN(p:Int->Bool):Nat->Int
 | 0=>-4194305
 | k+1=>if p (-4194304+k) then -4194304+k else dmN p k
def dmF(p:Int->Bool):Int:=dmN p 8388609
theorem x4{p:Int->Bool}{a:Int}(h1:-4194304<=a)(ha:p a=true):∀{k:Nat},a < -4194304+k->(∀h,a<h->h < -4194304+k->p h=false)->dmN p k=a
 | 0,h,_=>by omega
 | k+1,h,hn=>by
  rw[dmN]
  by_cases c:a=-4194304+k
  ·rw[<- c,if_pos ha]
  ·rw[hn (-4194304+k) (by omega) (by omega),if_neg (by simp)]
   exact x4 h1 ha (by omega) fun h h2 h3=>hn h h2 (by omega)
theorem rE{p:Int->Bool}:∀{k:Nat},(∀h:Int,-4194304<=h->h < -4194304+k->p h=false)->dmN p k=-4194305
 | 0,_=>rfl
 | k+1,hn=>by
  rw[dmN,hn (-4194304+k) (by omega) (by omega),if_neg (by simp)]
  exact rE fun h h2 h3=>hn h h2 (by omega)
theorem x3{p:Int->Bool}{a:Int}(h1:-4194304<=a)(h2:a<=4194304)(ha:p a=true)(hn:∀h,a<h->h<=4194304->p h=false):dmF p=a :=
 x4 h1 ha (by omega) fun h h3 h4=>hn h h3 (by omega)
theorem rC{p:Int->Bool}(hn:∀h,-4194304<=h->h<=4194304->p h=false):dmF p=-4194305 :=
 rE fun h h3 h4=>hn h h3 (by omega)
theorem rF(p:Int->Bool):∀k:Nat,(dmN p k=-4194305/\∀h:Int,-4194304<=h->h < -4194304+k->p h=false) \/
  (-4194304<=dmN p k/\dmN p k < -4194304+k/\p (dmN p k)=true/\∀h,dmN p k<h->h < -4194304+k->p h=false)
 | 0=>.inl ⟨rfl,fun h h1 h2=>by omega⟩
 | k+1=>by
  rw[dmN]
  by_cases c:p (-4194304+k)=true
  ·rw[if_pos c]
   exact .inr ⟨by omega,by omega,c,fun h h1 h2=>by omega⟩
  ·rw[if_neg c]
   have c':p (-4194304+k)=false:=by simpa only[x0V]using c
   rcases rF p k with ⟨e,hn⟩|⟨e1,e2,e3,hn⟩
   ·refine .inl ⟨e,fun h h1 h2=>?_⟩
    by_cases g:h=-4194304+k
    ·rw[g];exact c'
    ·exact hn h h1 (by omega)
   ·refine .inr ⟨e1,by omega,e3,fun h h1 h2=>?_⟩
    by_cases g:h=-4194304+k
    ·rw[g];exact c'
    ·exact hn h h1 (by omega)
theorem rD(p:Int->Bool):(dmF p=-4194305/\∀h,-4194304<=h->h<=4194304->p h=false) \/
  (-4194304<=dmF p/\dmF p<=4194304/\p (dmF p)=true/\∀h,dmF p<h->h<=4194304->p h=false):=by
 rcases rF p 8388609 with ⟨e,hn⟩|⟨e1,e2,e3,hn⟩
 ·exact .inl ⟨e,fun h h1 h2=>hn h h1 (by omega)⟩
 ·exact .inr ⟨e1,by unfold dmF;omega,e3,fun h h1 h2=>hn h h1 (by omega)⟩
end Go.Gv

set_option maxRecDepth 4000
namespace Go.Gv
def jX(ns:List Nod)(ls:List Lnk)(ss:List Sec)(q:List Sp)(i:Nat)(h:Int):Bool:=decide ((Fh ns ls ss q (h,h) i).2<=ns[i]!.ground)
def tr(ns:List Nod)(ls:List Lnk)(ss:List Sec)(q:List Sp)(nm:List UInt8):Int :=
 if cN ns ls ss q (-4194304,-4194304)≠0 then cN ns ls ss q (-4194304,-4194304)
 else if bj (bq nm) ns<0 then 9 else if ns[(bj (bq nm) ns).toNat]!.kind=3 then 11
 else if dmF (jX ns ls ss q (bj (bq nm) ns).toNat) < -4194304 then 12 else 0
def wc(ns:List Nod)(ls:List Lnk)(ss:List Sec)(q:List Sp)(nm:List UInt8):Int:=if tr ns ls ss q nm=0 then dmF (jX ns ls ss q (bj (bq nm) ns).toNat) else 0
theorem rH{ns:List Nod}{ls:List Lnk}{ss:List Sec}{q:List Sp}(T:TrX ns ls ss (av ns ls) (aE ns.length (av ns ls) q)){i:Nat}{a b:Int}(h1:a<=b)(h2:b<=4194304)(h:jX ns ls ss q i b=true):jX ns ls ss q i a=true:=by
 have k:=(yS (ns:=ns) T.trs T.inv h1 h2 i).2
 unfold jX Fh lvX at *
 simp only[x0c]at *
 omega
theorem rS{α:Type}(p:α->Bool)(xs:List α):-1<=bj p xs/\bj p xs<xs.length:=by
 unfold bj
 split
 ·rename_i i h
  have:=(x0O.1 h).1
  omega
 ·omega
theorem Fq{lo hi:Int}(h:lo<hi):lo<lo+(hi-lo+1)/2/\lo+(hi-lo+1)/2<=hi:=by omega
variable{C:CC}(hC:ay prog C)
include hC
theorem EM(x:Nod)(nm:List UInt8):C 625 [.agg (aO x),.ptr [.str nm]] (.bool (bq nm x)) []:=by
 refine ai hC (nf:=N625) rfl rfl ?_
 simp[N625,aO,bq]
 rw[x0z]
 simp
set_option maxHeartbeats 2000000 in
theorem JM(hS:SlC C)(b1 b2 b b':Bool)(ns:List Nod)(ls:List Lnk)(ss:List Sec)(q:List Sp)(nm:List UInt8)(hls:ls.length<2^62)(hss:ss.length<2^62)(hq:q.length<2^62)(hcv:∀l∈ls,l.curve.length<2^62) :
  C 579 [.agg [slx b1 (ns.map aO),slx b2 (ls.map aA)],slx b (ss.map aS),slx b' (q.map knD),.str nm] (.tup [.int .i64 (wc ns ls ss q nm),.int .i64 (tr ns ls ss q nm)]) []:=by
 have k1:=sV hC (-4194304)
 obtain⟨E,hE⟩:∃E,E=tr ns ls ss q nm:=⟨_,rfl⟩
 obtain⟨V,hV⟩:∃V,V=wc ns ls ss q nm:=⟨_,rfl⟩
 rw[<- hE,<- hV]
 unfold wc at hV
 rw[<- hE]at hV
 unfold tr at hE
 refine ai hC (nf:=N579) rfl rfl ?_
 simp[N579]
 refine aa k1 (.inl rfl) ?_
 simp
 by_cases hM:gl ns ls ss q (-4194304,-4194304)=true
 case neg =>
  have hM':gl ns ls ss q (-4194304,-4194304)=false:=by simpa using hM
  have hne:¬cN ns ls ss q (-4194304,-4194304)=0:=fun h=>hM (AE h)
  rw[if_pos hne]at hE
  rw[<- hE]at hne
  refine vV (by simpa[knD]using ur hC hS b1 b2 b b' ns ls ss q (-4194304,-4194304) hls hss hq hcv hM') ?_
  simp[<- hE,hne,hV]
  refine lw (c:=10160) (sz:=1) (row:=[.nilp]) (ds:=[.nilp]) (by decide) (by simp) (by simp) rfl (by simp[ij]) rfl rfl ?_
  simp[hne]
  exact⟨ao (by decide +kernel),by rw[hV,if_neg hne]⟩
 refine vW (by simpa[knD]using xj hC hS b1 b2 b b' ns ls ss q (-4194304,-4194304) hls hss hq hcv hM) rfl ?_
 simp
 refine lw (c:=10160) (sz:=1) (row:=[.nilp]) (ds:=[.adr (.r 10353) 0 0]) (by decide) (by simp) (by simp) rfl (by simp[ij]) rfl rfl ?_
 by_cases h0:cN ns ls ss q (-4194304,-4194304)=0
 case neg =>
  rw[if_pos h0]at hE
  rw[<- hE]at h0
  simp[<- hE,h0]
  exact⟨ao (by decide +kernel),by rw[hV,if_neg h0]⟩
 rw[if_neg (by simp[h0])]at hE
 obtain⟨T,ho⟩:=AI hM h0
 have hnl:=T.trs.small
 have k2:=nP hC (b:=b1) (xs:=ns) (g:=625) (cs:=[.ptr [.str nm]]) (bq nm) (by omega) (fun x _=>EM hC x nm)
 have ib:=rS (bq nm) ns
 simp[h0]
 refine⟨ao (by decide +kernel),?_⟩
 refine aa (by simpa using k2) (.inl rfl) ?_
 obtain⟨x,hx⟩:∃x,x=bj (bq nm) ns:=⟨_,rfl⟩
 rw[<- hx]at hE hV ib ⊢
 simp
 refine lw (c:=10192) (sz:=1) (row:=[.int .i64 0]) (ds:=[.int .i64 x]) (by decide) (by simp) (by simp) rfl (by simp[ij]) rfl rfl ?_
 by_cases c1:x<0
 case pos =>
  rw[if_pos c1]at hE
  rw[hE]at hV
  simp[c1,hE,hV]
 rw[if_neg c1]at hE
 obtain⟨i,rfl⟩:∃i:Nat,x=(i:Int):=⟨x.toNat,by omega⟩
 have hi:i<ns.length:=by omega
 rw[x1m]at hE hV
 rw[x0f ns i hi]at hE
 simp[c1,hi,aO]
 by_cases c2:ns[i].kind=3
 case pos =>
  rw[if_pos c2]at hE
  rw[hE]at hV
  simp[c2,hE,hV]
 rw[if_neg c2]at hE
 simp[c2]
 refine⟨[.ptr [.int .i64 i],.ptr [slx b1 (ns.map aO),slx b2 (ls.map aA)]],by simp[kM,ry],?_⟩
 simp
 have kd:∀(h:Int) (o:Sp) (dn:List (List D)),-4194304<=h->h<=4194304->oV (lvX ns ls ss (av ns ls) (aE ns.length (av ns ls) q) o) ns.length dn ->
   ∃dn',oV (lvX ns ls ss (av ns ls) (aE ns.length (av ns ls) q) (h,h)) ns.length dn'/\C 626 [.blk 9 [dV b1 b2 ns ls ss (av ns ls) (aE ns.length (av ns ls) q) o dn],.int .i64 h,.ptx [.adr (.r 10015) 0 0],.ptr [.int .i64 i],.ptr [slx b1 (ns.map aO),slx b2 (ls.map aA)]] (.bool (jX ns ls ss q i h)) [.blk 9 [dV b1 b2 ns ls ss (av ns ls) (aE ns.length (av ns ls) q) (h,h) dn'],.nilp] :=
  fun h o dn g1 g2 hd=>La hC b1 b2 T i hi h ⟨g1,g2⟩ dn hd
 have han:=fun a b=>rH (i:=i) (a:=a) (b:=b) T
 have hsp:=rD (jX ns ls ss q i)
 have heq:=fun a=>x3 (p:=jX ns ls ss q i) (a:=a)
 have hno:=rC (p:=jX ns ls ss q i)
 obtain⟨dn0,hd0,kd0⟩:=kd (-4194304) (-4194304,-4194304) (List.replicate ns.length [.nilp]) (by omega) (by omega) (x5 _ _)
 generalize jX ns ls ss q i=p at *
 generalize av ns ls=es at *
 generalize aE ns.length es q=fl at *
 refine uS kd0 (by simp) ?_
 simp
 by_cases c3:p (-4194304)=true
 case neg =>
  have c3':p (-4194304)=false:=by simpa only[x0V]using c3
  have e1:dmF p=-4194305:=hno fun h g1 g2=>by
   rw[<- x0V]
   exact fun g=>c3 (han _ _ g1 g2 g)
  rw[if_pos (by omega)]at hE
  rw[hE]at hV
  simp[c3',hE,hV]
 simp[c3]
 refine au (Int×Int×Sp×List (List D)) (fun s=>[(13,.fny 626 [.adr (.r 10353) 0 0] [.ptr [.int .i64 i],.ptr [slx b1 (ns.map aO),slx b2 (ls.map aA)]]),(14,.int .i64 s.1),(15,.int .i64 s.2.1),(10353,.blk 9 [dV b1 b2 ns ls ss es fl s.2.2.1 s.2.2.2])])
  (fun s=>(-4194304<=s.1/\s.1<=s.2.1/\s.2.1<=4194304)/\p s.1=true/\(∀h,s.2.1<h->h<=4194304->p h=false)/\oV (lvX ns ls ss es fl s.2.2.1) ns.length s.2.2.2) (fun s=>(s.2.1-s.1).toNat)
  (-4194304,4194304,(-4194304,-4194304),dn0) ⟨⟨x0F _,show(-4194304:Int)<=4194304 by decide,x0F _⟩,c3,fun h g1 g2=>by simp only at g1;omega,hd0⟩ (by simp) ?_
 rintro⟨lo,hi2,o,dn⟩ ⟨⟨i1,i2,i3⟩,i4,i5,i6⟩
 simp only at i1 i2 i3 i4 i5 i6
 simp
 refine ac (fun g=>?_) (fun g=>?_)<;>simp at g
 ·obtain⟨m1,m2⟩:=Fq g
  obtain⟨hf,hhf⟩:∃hf,hf=(hi2-lo+1)/2:=⟨_,rfl⟩
  rw[<- hhf]at m1 m2
  obtain⟨m,hm⟩:∃m,m=lo+hf:=⟨_,rfl⟩
  rw[<- hm]at m1 m2
  have w1:IntKind.wrap .i64 (hi2-lo)=hi2-lo:=wrap_i64 rfl (by omega)
  have w2:IntKind.wrap .i64 (hi2-lo+1)=hi2-lo+1:=wrap_i64 rfl (by omega)
  have w3:Int.tdiv (hi2-lo+1) 2=hf:=by rw[hhf];exact Int.tdiv_eq_ediv_of_nonneg (by omega)
  have w4:IntKind.wrap .i64 hf=hf:=wrap_i64 rfl (by omega)
  have w5:IntKind.wrap .i64 (lo+hf)=m:=wrap_i64 hm.symm (by omega)
  have w6:IntKind.wrap .i64 (m-1)=m-1:=wrap_i64 rfl (by omega)
  obtain⟨dn',hd',kd'⟩:=kd m o dn (by omega) (by omega) i6
  simp[g,w1,w2,w3,w4,w5]
  refine uS kd' (by simp) ?_
  simp
  by_cases c4:p m=true
  ·simp[c4]
   exact⟨m,hi2,m,m,dn',⟨⟨by omega,by omega,by omega⟩,c4,i5,hd'⟩,by omega,rfl,rfl,rfl⟩
  ·have c4':p m=false:=by simpa only[x0V]using c4
   simp[c4',w6]
   refine⟨lo,m-1,m,m,dn',⟨⟨by omega,by omega,by omega⟩,i4,fun h g1 g2=>?_,hd'⟩,by omega,rfl,rfl,rfl⟩
   rw[<- x0V]
   exact fun g3=>c4 (han m h (by omega) g2 g3)
 ·have e1:dmF p=lo:=heq lo i1 (by omega) i4 fun h g1 g2=>i5 h (by omega) g2
  rw[e1,if_neg (by omega)]at hE
  rw[hE,if_pos rfl,e1]at hV
  simp[g,hE,hV]
end Go.Gv

set_option maxRecDepth 4000
namespace Go.Gv
def okJ(v:Bool)(lv:List Sp)(j:Nat):Bool:=v&&(lv.take j).all cl
def rgO(s:Sp):Bool:=aF s.1 (-4194304) 1099511627776&&aF s.2 (-4194304) 1099511627776
def rgJ(lv:List Sp)(j:Nat):Bool:=(lv.take j).all rgO
theorem NO(v:Bool)(lv:List Sp):okJ v lv 0=v:=by simp[okJ]
theorem N9(lv:List Sp):rgJ lv 0=true:=by simp[rgJ]
theorem yW{v:Bool}{lv:List Sp}{j:Nat}(h:j<lv.length):okJ v lv (j+1)=(okJ v lv j&&cl lv[j]):=by
 unfold okJ
 rw[x0u h,List.all_append,<- Bool.and_assoc]
 simp
theorem zW{lv:List Sp}{j:Nat}(h:j<lv.length):rgJ lv (j+1)=(rgJ lv j&&rgO lv[j]):=by
 unfold rgJ
 rw[x0u h,List.all_append]
 simp
theorem Cc(v:Bool)(lv:List Sp):okJ v lv lv.length=(v&&!lv.any fun s=>!cl s):=by
 unfold okJ
 rw[x08,List.all_eq_not_any_not]
theorem Cy{lv:List Sp}(h:(lv.any fun s=>!cl s)=false):rgJ lv lv.length=!lv.any mS:=by
 unfold rgJ
 rw[x08,x0z]
 rw[x0M]at h
 simp only[x0g,x0t,x0M]
 refine forall_congr' fun s=>forall_congr' fun hs=>?_
 have:=vp (s:=s) (by simpa using h s hs)
 simp only[rgO,mS,aF,x0a,x0c,x0E]
 omega
theorem uq{ns:List Nod}{ls:List Lnk}{ss:List Sec}{q:List Sp}:cN ns ls ss q (0,0)=cN ns ls ss q (-4194304,-4194304):=by
 unfold cN
 rw[show cl (0,0)=true by decide,show cl (-4194304,-4194304)=true by decide,show de (0,0)=false by decide,show de (-4194304,-4194304)=false by decide]
variable{C:CC}(hC:ay prog C)
include hC
set_option maxHeartbeats 2000000 in
theorem qO(b1 b2 b:Bool)(ns:List Nod)(ls:List Lnk)(lv:List Sp)(hlv:lv.length<2^62) :
  C 580 [.agg [slx b1 (ns.map aO),slx b2 (ls.map aA)],slx b (lv.map knD)] (.tup [fbV ns ls lv,.int .i64 (oX ns ls lv)]) []:=by
 have k1:=pV hC b1 b2 ns ls
 have k2:=fun s=>qS hC s
 obtain⟨R,hR⟩:∃R,R=D.tup [fbV ns ls lv,.int .i64 (oX ns ls lv)]:=⟨_,rfl⟩
 rw[<- hR]
 unfold fbV at hR
 obtain⟨E,hE⟩:∃E,E=oX ns ls lv:=⟨_,rfl⟩
 rw[<- hE]at hR
 unfold oX at hE
 refine ai hC (nf:=N580) rfl rfl ?_
 simp[N580]
 refine aa k1 (.inl rfl) ?_
 obtain⟨v,hv⟩:∃v,v=bG ns ls:=⟨_,rfl⟩
 rw[<- hv]
 simp
 refine au Nat (fun j=>[(1,slx b (lv.map knD)),(2,.ptr [slx b1 (ns.map aO),slx b2 (ls.map aA)]),(6,.bool (okJ v lv j)),(7,.bool (rgJ lv j)),(8,.int .i64 j)]) (fun j=>j<=lv.length) (fun j=>lv.length-j) 0 (by omega) (by simp[NO,N9]) ?_
 intro j hj
 simp
 refine ac (fun h=>?_) (fun h=>?_)<;>simp at h
 ·have hw:IntKind.wrap .i64 ((j:Int)+1)=((j+1:Nat):Int):=wrap_i64 (by omega) (by omega)
  have s1:=yW (v:=v) h
  have s2:=zW h
  have k3:=pv hC lv[j].1
  have k4:=pv hC lv[j].2
  cases e1:okJ v lv j
  ·rw[e1]at s1
   simp only[x1q]at s1
   simp[h,e1]
   cases e2:rgJ lv j
   ·rw[e2]at s2
    simp only[x1q]at s2
    simp[e2]
    exact⟨j+1,by omega,by omega,by rw[s1],by rw[s2],hw⟩
   ·rw[e2]at s2
    simp only[x0T,rgO]at s2
    simp[h,e2,knD]
    refine aa k3 (.inl rfl) ?_
    cases e3:aF lv[j].1 (-4194304) 1099511627776
    ·rw[e3,x1q]at s2
     simp
     exact⟨j+1,by omega,by omega,by rw[s1],by rw[s2],hw⟩
    ·rw[e3,x0T]at s2
     simp[h,knD]
     refine aa k4 (.inl rfl) ?_
     simp
     exact⟨j+1,by omega,by omega,by rw[s1],by rw[s2],hw⟩
  ·rw[e1]at s1
   simp only[x0T]at s1
   simp[h,e1,knD]
   refine aa (by simpa[knD]using k2 lv[j]) (.inl rfl) ?_
   cases e2:rgJ lv j
   ·rw[e2]at s2
    simp only[x1q]at s2
    simp[e2]
    exact⟨j+1,by omega,by omega,by rw[s1],by rw[s2],hw⟩
   ·rw[e2]at s2
    simp only[x0T,rgO]at s2
    simp[h,e2,knD]
    refine aa k3 (.inl rfl) ?_
    cases e3:aF lv[j].1 (-4194304) 1099511627776
    ·rw[e3,x1q]at s2
     simp
     exact⟨j+1,by omega,by omega,by rw[s1],by rw[s2],hw⟩
    ·rw[e3,x0T]at s2
     simp[h,knD]
     refine aa k4 (.inl rfl) ?_
     simp
     exact⟨j+1,by omega,by omega,by rw[s1],by rw[s2],hw⟩
 ·have ej:j=lv.length:=by omega
  subst ej
  rw[Cc]
  by_cases c0:v=false\/(lv.any fun s=>!cl s)=true
  ·have e0:(v&&!lv.any fun s=>!cl s)=false:=by
    rcases c0 with h|h<;>simp only[h]<;>simp
   rw[if_pos (by rw[<- hv];exact c0)]at hE
   rw[hE]at hR
   rw[e0]
   simp[h,hR]
  have c1:v=true:=by simpa using fun h=>c0 (.inl h)
  have c2:(lv.any fun s=>!cl s)=false:=Bool.eq_false_iff.2 fun h=>c0 (.inr h)
  rw[if_neg (by rw[<- hv];exact c0)]at hE
  rw[c2,c1,Cy c2]
  rw[hv]at c1
  have hnl:=(bR c1).1
  simp[h]
  by_cases c3:lv.length=ns.length
  case neg =>
   rw[if_pos c3]at hE
   rw[hE]at hR
   have c3':¬((lv.length:Int)=ns.length):=by omega
   simp[c3,c3',hR]
  rw[if_neg (by simp[c3])]at hE
  simp[c3]
  by_cases c4:(lv.any mS)=true
  case pos =>
   rw[if_pos c4]at hE
   rw[hE]at hR
   rw[c4]
   simp[hR]
  rw[if_neg c4]at hE
  rw[hE,if_pos rfl]at hR
  have c4':(lv.any mS)=false:=by simpa only[x0V]using c4
  rw[c4',hR]
  have hbd:=fun i hi hl=>DH c1 c2 c4' (i:=i) hi hl
  clear hR hE k1 k2 c2 c4 c4' c0
  simp
  refine au Nat (fun j=>[(1,slx b (lv.map knD)),(2,.ptr [slx b1 (ns.map aO),slx b2 (ls.map aA)]),(9,.ref (.r 10144) 0 j),(10,.int .i64 j),(10144,.blk 2 ((lvT (fbS ns lv) j).map knD))]) (fun j=>j<=ns.length) (fun j=>ns.length-j) 0 (by omega) (by simp[DN]) ?_
  intro j hj
  simp
  refine ac (fun h=>?_) (fun h=>?_)<;>simp at h
  ·have h':j<ns.length:=by omega
   have hw:IntKind.wrap .i64 ((j:Int)+1)=((j+1:Nat):Int):=wrap_i64 (by omega) (by omega)
   have hl:j<lv.length:=by omega
   obtain⟨d1,d2⟩:=hbd j h' hl
   have w1:IntKind.wrap .i64 (ns[j].ground-lv[j].2)=ns[j].ground-lv[j].2:=wrap_i64 rfl (by omega)
   have w2:IntKind.wrap .i64 (ns[j].ground-lv[j].1)=ns[j].ground-lv[j].1:=wrap_i64 rfl (by omega)
   have hsu:=sn (fbS ns lv) j
   have hln:=fM (fbS ns lv) j
   have hfb:fbS ns lv j=(ns[j].ground-lv[j].2,ns[j].ground-lv[j].1):=by
    unfold fbS
    rw[x0f ns j h',x0f lv j hl]
   simp[h',hl,aO,knD,w1,w2,hln,c3]
   refine⟨by omega,ao (by decide +kernel),j+1,by omega,by omega,rfl,hw,?_⟩
   rw[x0s (by simp[fM]),hsu,hfb,x1y]
   rfl
  ·have ej:j=ns.length:=by omega
   subst ej
   simp[h,fM]
   exact DO _ _
set_option maxHeartbeats 2000000 in
theorem F3(b1 b2 b b':Bool)(ns:List Nod)(ls:List Lnk)(ss:List Sec)(q:List Sp)(nm:List UInt8)(hls:ls.length<2^62)(hss:ss.length<2^62)(hq:q.length<2^62) :
  C 581 [.agg [slx b1 (ns.map aO),slx b2 (ls.map aA)],slx b (ss.map aS),slx b' (q.map knD),.str nm] (.tup [.int .i64 (wc ns ls ss q nm),.int .i64 (tr ns ls ss q nm)]) []:=by
 have k1:=ze hC b1 b2 b b' ns ls ss q (0,0) hls hss hq
 rw[uq]at k1
 obtain⟨E,hE⟩:∃E,E=tr ns ls ss q nm:=⟨_,rfl⟩
 obtain⟨V,hV⟩:∃V,V=wc ns ls ss q nm:=⟨_,rfl⟩
 rw[<- hE,<- hV]
 unfold wc at hV
 rw[<- hE]at hV
 unfold tr at hE
 refine ai hC (nf:=N581) rfl rfl ?_
 simp[N581]
 refine aa (by simpa[knD]using k1) (.inr (by simp)) ?_
 by_cases h0:cN ns ls ss q (-4194304,-4194304)=0
 case neg =>
  rw[if_pos h0]at hE
  rw[<- hE]at h0
  rw[if_neg h0]at hV
  unfold CkV
  split<;>simp[<- hE,h0,hV]
 rw[if_neg (by simp[h0])]at hE
 have hM:=AE (uq.trans h0)
 obtain⟨T,_⟩:=AI hM (uq.trans h0)
 have hv:bG ns ls=true:=by
  simp only[gl,x0a,x0t,x0c,x0K]at hM
  have:=(qz hM.1.1.1.1.1).1
  simp only[cB,x0a]at this
  exact this.1.1
 have hnl:=T.trs.small
 have k2:=fk hC b1 b2 ns ls nm (by omega)
 have ib:=rS (bq nm) ns
 obtain⟨x,hx⟩:∃x,x=bj (bq nm) ns:=⟨_,rfl⟩
 rw[<- hx]at hE hV ib k2
 unfold CkV
 rw[if_pos hM,h0]
 simp
 refine aa k2 (.inl rfl) ?_
 by_cases c1:x<0
 case pos =>
  rw[if_pos c1]at hE
  rw[hE]at hV
  simp[c1,hE,hV]
 rw[if_neg c1]at hE
 obtain⟨i,rfl⟩:∃i:Nat,x=(i:Int):=⟨x.toNat,by omega⟩
 have hi:i<ns.length:=by omega
 rw[x1m]at hE hV
 rw[x0f ns i hi]at hE
 simp[c1,hi,aO]
 by_cases c2:ns[i].kind=3
 case pos =>
  rw[if_pos c2]at hE
  rw[hE]at hV
  simp[c2,hE,hV]
 rw[if_neg c2]at hE
 simp[c2]
 have kl:=fun(m:Int) (g1:-4194304<=m) (g2:m<=4194304)=>pT hC b1 b2 b hv T (o:=(m,m)) ⟨g1,x0F _,g2⟩ hss true ns.length i hi (by omega)
 have kd:∀m:Int,jX ns ls ss q i m=decide ((lvX ns ls ss (av ns ls) (aE ns.length (av ns ls) q) (m,m) i).2<=ns[i].ground):=fun m=>by
  unfold jX Fh
  rw[x0f ns i hi]
 have han:=fun a b=>rH (i:=i) (a:=a) (b:=b) T
 have hsp:=rD (jX ns ls ss q i)
 have heq:=fun a=>x3 (p:=jX ns ls ss q i) (a:=a)
 have hno:=rC (p:=jX ns ls ss q i)
 generalize jX ns ls ss q i=p at *
 generalize av ns ls=es at *
 generalize aE ns.length es q=fl at *
 refine au (Int×Int) (fun s=>[(1,slx b (ss.map aS)),(4,.ptr [slx b1 (ns.map aO),slx b2 (ls.map aA)]),(10,.sl (fl.map knD)),(12,.int .i64 i),(13,.int .i64 s.1),(14,.int .i64 s.2)])
  (fun s=>(-4194305<=s.1/\s.1<s.2/\s.2<=4194305)/\(-4194304<=s.1->p s.1=true)/\(∀h,s.2<=h->h<=4194304->p h=false)) (fun s=>(s.2-s.1).toNat)
  (-4194305,4194305) ⟨⟨x0F _,show(-4194305:Int)<4194305 by decide,x0F _⟩,fun h=>by simp only at h;omega,fun h g1 g2=>by simp only at g1;omega⟩ (by simp) ?_
 rintro⟨lo,hi2⟩ ⟨⟨i1,i2,i3⟩,i4,i5⟩
 simp only at i1 i2 i3 i4 i5
 have w1:IntKind.wrap .i64 (hi2-lo)=hi2-lo:=wrap_i64 rfl (by omega)
 simp[w1]
 refine ac (fun g=>?_) (fun g=>?_)<;>simp at g
 ·have w2:IntKind.wrap .i64 (lo+hi2)=lo+hi2:=wrap_i64 rfl (by omega)
  obtain⟨m,hm⟩:∃m,m=(lo+hi2)/2:=⟨_,rfl⟩
  have kf:=wJ hC (lo+hi2) 2 (by decide) (by decide) (by omega)
  have hm1:lo<m/\m<hi2:=by omega
  rw[show((2:Nat):Int)=2 by rfl,<- hm]at kf
  have km:=kl m (by omega) (by omega)
  have kdm:=kd m
  generalize lvX ns ls ss es fl (m,m) i=sp at *
  simp[g,w2]
  refine aa kf (.inl rfl) ?_
  simp
  refine aa (by simpa[knD]using km) (.inl rfl) ?_
  simp[hi,aO,hlO]
  refine⟨ao (by decide +kernel),?_⟩
  by_cases c3:sp.2<=ns[i].ground
  ·have hp:p m=true:=by rw[kdm];simpa using c3
   simp[c3]
   exact⟨m,hi2,⟨⟨by omega,by omega,by omega⟩,fun _=>hp,i5⟩,by omega,rfl,rfl⟩
  ·have hp:p m=false:=by rw[kdm];simpa using c3
   simp[c3]
   refine⟨lo,m,⟨⟨by omega,by omega,by omega⟩,i4,fun h g1 g2=>?_⟩,by omega,rfl,rfl⟩
   rw[<- x0V]
   intro g3
   rw[han m h g1 g2 g3]at hp
   cases hp
 ·have g':¬(1:Int)<hi2-lo:=by omega
  simp[g']
  by_cases c3:lo < -4194304
  ·have e1:dmF p=-4194305:=hno fun h g1 g2=>i5 h (by omega) g2
   rw[if_pos (by omega)]at hE
   rw[hE]at hV
   simp[c3,hE,hV]
  ·have e1:dmF p=lo:=heq lo (by omega) (by omega) (i4 (by omega)) fun h g1 g2=>i5 h (by omega) g2
   rw[e1,if_neg (by omega)]at hE
   rw[hE,if_pos rfl,e1]at hV
   simp[c3,hE,hV]
end Go.Gv

namespace Go.Gv
def wg:Lnk:={ name:=[112],src:=[97],dst:=[98],kind:=1,len:=10000,up:=1000,down:=900,sect:=[115],width:=0,height:=0,curveN:=true,curve:=[] }
def exS:Sec:={ name:=[115],height:=300,price:=0,areaN:=false,area:=[(0,0),(300,70000)],convN:=false,conv:=[(0,0),(300,200000)] }
def uT(l:Lnk):Bool:=decide (20<l.curve.length)||decide (60<l.name.length)||decide (60<l.src.length)||decide (60<l.dst.length)||decide (60<l.sect.length)
def uX(s:Sec):Bool:=decide (20<s.area.length)||decide (20<s.conv.length)||decide (60<s.name.length)
theorem BE:si wg exS 10000=(25,0):=by decide +kernel
theorem Lb:AJ wg exS 10000 1250=(1300,0):=by decide +kernel
variable{C:CC}(hC:ay prog C)
include hC
theorem yo:C 158 [] (.tup [.agg (aA wg),.agg (aS exS)]) []:=by
 refine ai hC (nf:=N158) rfl rfl ?_
 simp[N158,aA,wg,exS,aS,knD]
 rfl
theorem vO:C 153 [] (.bool true) []:=by
 have k1:=yo hC
 have k2:=A9 hC wg exS 10000 (by decide)
 have k3:=Te hC wg exS 10000 1250 (by decide)
 rw[BE]at k2
 rw[Lb]at k3
 simp only[aA,aS]at k1 k2 k3
 refine ai hC (nf:=N153) rfl rfl ?_
 simp[N153]
 refine aa k1 (.inr rfl) ?_
 simp
 refine aa k2 (.inl rfl) ?_
 simp
 refine aa k3 (.inl rfl) ?_
 simp
theorem yK(l:Lnk):C 154 [.agg (aA l)] (.bool (uT l)) []:=by
 refine ai hC (nf:=N154) rfl rfl ?_
 simp[N154,aA,uT]
 refine ac (fun h0=>?_) (fun h0=>?_)<;>simp at h0
 ·simp[show 20<l.curve.length by omega]
 simp[show ¬20<l.curve.length by omega]
 refine ac (fun h1=>?_) (fun h1=>?_)<;>simp at h1
 ·simp[show 60<l.name.length by omega]
 simp[show ¬60<l.name.length by omega]
 refine ac (fun h2=>?_) (fun h2=>?_)<;>simp at h2
 ·simp[show 60<l.src.length by omega]
 simp[show ¬60<l.src.length by omega]
 refine ac (fun h3=>?_) (fun h3=>?_)<;>simp at h3
 ·simp[show 60<l.dst.length by omega]
 simp[show ¬60<l.dst.length by omega]
 rw[x0z]
 simp
 omega
end Go.Gv

set_option maxRecDepth 4000
namespace Go.Gv
def nx(n:Nod):Bool:=decide (20<n.shape.length)||decide (60<n.name.length)
def yQ(ns:List Nod)(ls:List Lnk):Bool:=decide (14<ns.length)||decide (16<ls.length)||ns.any nx||ls.any uT
def yT(ss:List Sec):Bool:=decide (8<ss.length)||ss.any uX
variable{C:CC}(hC:ay prog C)
include hC
theorem xL(n:Nod):C 617 [.agg (aO n)] (.bool (nx n)) []:=by
 refine ai hC (nf:=N617) rfl rfl ?_
 simp[N617,aO,nx]
 by_cases c1:(20:Int)<n.shape.length
 ·simp[c1,show 20<n.shape.length by omega]
 ·simp[c1,show ¬20<n.shape.length by omega]
  omega
theorem BU(b1 b2:Bool)(ns:List Nod)(ls:List Lnk)(h1:ns.length<2^62)(h2:ls.length<2^62):C 572 [.agg [slx b1 (ns.map aO),slx b2 (ls.map aA)]] (.bool (yQ ns ls)) []:=by
 have k1:=yC hC (b:=b1) (xs:=ns) (g:=617) (cs:=[]) nx h1 (fun x _=>xL hC x)
 have k2:=nK hC (b:=b2) (xs:=ls) (g:=154) (cs:=[]) uT h2 (fun x _=>yK hC x)
 refine ai hC (nf:=N572) rfl rfl ?_
 simp[N572]
 unfold yQ
 by_cases c1:(14:Int)<ns.length
 ·simp[c1,show 14<ns.length by omega]
 by_cases c2:(16:Int)<ls.length
 ·simp[c1,c2,show 16<ls.length by omega]
 simp[c1,c2,show ¬14<ns.length by omega,show ¬16<ls.length by omega]
 refine aa k1 (.inl rfl) ?_
 cases d1:ns.any nx
 ·simp
  refine aa k2 (.inl rfl) ?_
  simp
  intro h;omega
 ·simp
theorem wx(b:Bool)(ss:List Sec)(hs:ss.length<2^62):C 155 [slx b (ss.map aS)] (.bool (yT ss)) []:=by
 have k0:∀x∈ss,C 159 (.agg (aS x)::[]) (.bool (uX x)) []:=fun x _=>by
  refine ai hC (nf:=N159) rfl rfl ?_
  simp[N159,aS,uX]
  refine ac (fun h0=>?_) (fun h0=>?_)<;>simp at h0
  ·simp[show 20<x.area.length by omega]
  simp[show ¬20<x.area.length by omega]
  refine ac (fun h1=>?_) (fun h1=>?_)<;>simp at h1
  ·simp[show 20<x.conv.length by omega]
  simp[show ¬20<x.conv.length by omega]
  rw[x0z]
  simp
  omega
 have k1:=yD hC (b:=b) (xs:=ss) (g:=159) (cs:=[]) uX hs k0
 refine ai hC (nf:=N155) rfl rfl ?_
 simp[N155]
 unfold yT
 by_cases c1:(8:Int)<ss.length
 ·simp[c1,show 8<ss.length by omega]
 simp[c1,show ¬8<ss.length by omega]
 refine aa k1 (.inl rfl) ?_
 simp
 intro h;omega
end Go.Gv

set_option maxRecDepth 4000
namespace Go.Gv
variable{C:CC}(hC:ay prog C)
include hC
set_option maxHeartbeats 2000000 in
theorem mO(hS:SlC C)(b1 b2:Bool)(ns:List Nod)(ls:List Lnk)(h1:ns.length<2^62)(h2:ls.length<2^62)(hcv:∀l∈ls,l.curve.length<2^62)(b:Bool)(ss:List Sec)(h3:ss.length<2^62)(b':Bool)(q:List Sp)(h4:q.length<2^62)(b'':Bool)(lv:List Sp)(h5:lv.length<2^62)(nm:List UInt8) :
  C 537 [.agg [slx b1 (ns.map aO),slx b2 (ls.map aA)],slx b (ss.map aS),slx b' (q.map knD),slx b'' (lv.map knD),.str nm] (.bool true) []:=by
 have k0:=vO hC
 have k1:=BU hC b1 b2 ns ls h1 h2
 have k2:=wx hC b ss h3
 have k3:=rf hC b1 b2 b'' ns ls lv h5 hcv
 have k4:=JM hC hS b1 b2 b b' ns ls ss q nm h2 h3 h4 hcv
 have k5:=qO hC b1 b2 b'' ns ls lv h5
 have k6:=F3 hC b1 b2 b b' ns ls ss q nm h2 h3 h4
 have k7:C 434 [fbV ns ls lv,fbV ns ls lv] (.bool true) []:=by
  unfold fbV
  split
  ·rename_i h0
   have hn:bG ns ls=true:=by
    unfold oX at h0
    split at h0
    ·cases h0
    ·rename_i hn
     simp only[not_or,Bool.not_eq_false]at hn
     exact hn.1
   have hnl:=(bR hn).1
   have:=ym hC false false (lvT (fbS ns lv) ns.length) (lvT (fbS ns lv) ns.length) (by rw[fM];omega) (by rw[fM];omega)
   simpa using this
  ·exact ym hC true true [] [] (by simp) (by simp)
 refine ai hC (nf:=N537) rfl rfl ?_
 simp[N537]
 refine aa k0 (.inl rfl) ?_
 simp
 refine aa k1 (.inl rfl) ?_
 by_cases c1:yQ ns ls=true
 ·simp[c1]
 simp[c1]
 refine aa k2 (.inl rfl) ?_
 by_cases c2:yT ss=true
 ·simp[c2]
 simp[c2]
 by_cases c3:(20:Int)<q.length
 ·simp[c3]
 simp[c3]
 by_cases c4:(20:Int)<lv.length
 ·simp[c4]
 simp[c4]
 by_cases c5:(60:Int)<nm.length
 ·simp[c5]
 simp[c5]
 refine aa k3 (.inr (by simp)) ?_
 obtain⟨F,hF⟩:∃F,F=fbV ns ls lv:=⟨_,rfl⟩
 rw[<- hF]at k5 k7 ⊢
 have hFc:F=.nils\/∃l,F=.sl l:=by
  rw[hF]
  unfold fbV
  split
  ·exact .inr ⟨_,rfl⟩
  ·exact .inl rfl
 rcases hFc with rfl|⟨l,rfl⟩
 all_goals
  simp
  refine aa k4 (.inl rfl) ?_
  simp
  refine aa k5 (.inr (by simp)) ?_
  simp
  refine aa k6 (.inr (by simp)) ?_
  simp
  refine aa k7 (.inr (by simp)) ?_
  simp
end Go.Gv
