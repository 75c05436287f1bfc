/-
  Texts of the proof: Z6, PV1, RF2, LF1, SL1, PV2, PM1, PL2, HT1, HT3, SH1, RP4, WP1, WG0, SM0, WG1, WG2, WG3, WM1, WT1, WT2, WT3, WT4, CA7, CA9, PA1, PA2, PA3, PA4, PA5, CA8, CA10, WT5, TC1, GvV, GvV2, BA1, TC2.
-/
import Derived.Test.YtjlibcgkjgglkaaGreatDoorX7
import Derived.Test.YtjlibcgkjgglkaaGreatDoorX6
import Derived.Test.YtjlibcgkjgglkaaGreatDoorX4
import Derived.Lib.SlicesCompact
import Derived.Test.YtjlibcgkjgglkaaGreatDoorX1
import Derived.Test.YtjlibcgkjgglkaaGreatDoorX5
set_option linter.all false
namespace Go.Gv
open Go.Lib
def Hf(m:Msh)(i:Nat):Int:=dV (ptS (spA m i)) (ptS (spB m i)) (ptS (spC m i))
structure OnF (m:Msh) (i:Nat) (p:Pnt):Prop where
 z0:-4194304<=(spA m i).z/\(spA m i).z<=4194304
 z1:-4194304<=(spB m i).z/\(spB m i).z<=4194304
 z2:-4194304<=(spC m i).z/\(spC m i).z<=4194304
 t0:0<=tn0 m i p/\tn0 m i p<=2251799813685248
 t1:0<=tn1 m i p/\tn1 m i p<=2251799813685248
 t2:0<=tn2 m i p/\tn2 m i p<=2251799813685248
 d:0<Hf m i/\Hf m i<=2251799813685248
variable{C:CC}(hC:av prog C)
include hC
theorem xN(v:Int)(d:Nat)(up:Bool)(hd0:0<d)(hd:d<=4503599627370496)(hv:v.natAbs<=4194304*d):C 301 [wiS v,.int .i64 d,.bool up] (.tup [.int .i64 (if up then -(-v/d) else v/d),.int .i64 0]) []:=by
 have k1:=ma hC v (by omega)
 have k2:=oz hC v (by omega)
 obtain⟨Q,hQ⟩:∃Q,Q=(if up then -(-v/(d:Int)) else v/(d:Int)):=⟨_,rfl⟩
 have hdiv:v.natAbs/d<=4194304:=Nat.div_le_of_le_mul (by rw[x1M];exact hv)
 have k3:C 104 [gV v,.int .i64 d,.bool up] (.tup [.int .i64 Q,.int .i64 0]) []:=by
  by_cases v0:v<0
  ·obtain⟨n,rfl⟩:∃n:Nat,v=-(n:Int):=⟨v.natAbs,by omega⟩
   rw[Int.natAbs_neg,Int.natAbs_natCast]at hv hdiv
   have k:=so hC n d up (if up then n/d else if n%d=0 then n/d else n/d+1) (by omega) (by omega) (by omega) (by split;omega;split<;>omega) rfl (by omega)
   have e1:gV (-(n:Int))=fq n true:=gg (by omega) (decide_eq_true v0)
   have e2:Q=-((if up then n/d else if n%d=0 then n/d else n/d+1:Nat):Int):=by
    rw[hQ]
    cases up
    ·simp only[x0j,if_false]
     exact mr n d hd0
    ·simp
   rw[e1,e2]
   exact k
  ·obtain⟨n,rfl⟩:∃n:Nat,v=(n:Int):=⟨v.natAbs,by omega⟩
   rw[Int.natAbs_natCast]at hv hdiv
   have hle:(n+d-1)/d<=n/d+1:=by
    have:(n+d-1)/d<=(n+d)/d:=Nat.div_le_div_right (by omega)
    rw[Nat.add_div_right _ hd0]at this
    exact this
   have k:=tK hC n d up (if up then(n+d-1)/d else n/d) (by omega) (by omega) (by split<;>omega) rfl (by omega)
   have e1:gV (n:Int)=fq n false:=gg (by omega) (decide_eq_false v0)
   have e2:Q=((if up then(n+d-1)/d else n/d:Nat):Int):=by
    rw[hQ]
    cases up
    ·simp
    ·simp only[if_true]
     rw[mr n d hd0,Int.neg_neg]
     congr 1
     have h1:=x1k n d
     have h2:=Nat.mod_lt n hd0
     split
     ·rename_i h
      have:n+d-1=d*(n/d)+(d-1):=by omega
      rw[this,Nat.mul_add_div hd0,Nat.div_eq_of_lt (show d-1<d by omega)]
      rfl
     ·rename_i h
      have:n+d-1=d*(n/d)+(d+(n%d-1)):=by omega
      rw[this,Nat.mul_add_div hd0,Nat.add_div_left _ hd0,Nat.div_eq_of_lt (show n%d-1<d by omega)]
   rw[e1,e2]
   exact k
 rw[<- hQ]
 obtain⟨a1,a2,_,_,ea⟩:=fJ v
 obtain⟨f1,f2,f3,ef⟩:∃(a1 a2:Nat) (a3:Bool),gV v=.agg [.int .u64 a1,.int .u64 a2,.bool a3]:=⟨_,_,_,rfl⟩
 rw[ea]at k1 k2 ⊢
 rw[ef]at k2 k3
 have h1:¬d=0:=by omega
 clear hQ ea ef
 refine az hC (nf:=N301) rfl rfl ?_
 simp[N301]
 refine aa k1 (.inl rfl) ?_
 simp[h1]
 refine aa k2 (.inl rfl) ?_
 simp
 refine aa k3 (.inr rfl) ?_
 simp
theorem Ad(v:Int)(d:Nat)(hd0:0<d)(hd:d<=4503599627370496)(hv:v.natAbs<=4194304*d):C 271 [wiS v,.int .i64 d] (.tup [.int .i64 (v/d),.int .i64 0]) []:=by
 have k:=xN hC v d false hd0 hd hv
 simp at k
 obtain⟨Q,hQ⟩:∃Q,Q=v/(d:Int):=⟨_,rfl⟩
 rw[<- hQ]at k ⊢
 obtain⟨a1,a2,_,_,ea⟩:=fJ v
 rw[ea]at k ⊢
 refine az hC (nf:=N271) rfl rfl ?_
 simp[N271]
 refine aa k (.inl rfl) ?_
 simp
def wz:D:=.agg [.int .i64 0,.int .i64 0]
end Go.Gv

namespace Go.Gv
variable{C:CC}(hC:av prog C)
include hC
end Go.Gv

namespace Go.Gv
section
variable{C:Nat->List D->D->List D->Prop}(hC:av prog C)
include hC
end
end Go.Gv

namespace Go.Gv
section
variable{C:Nat->List D->D->List D->Prop}(hC:av prog C)
include hC
end
end Go.Gv

namespace Go.Gv
section
variable{C:Nat->List D->D->List D->Prop}(hC:av prog C)
include hC
end
end Go.Gv

namespace Go.Gv
theorem zA{m:Msh}{a:Nat}(ha:a<m.f.length):suF m a=cI m a:=by simp[suF,cp,ha]
variable{C:CC}(hC:av prog C)
include hC
end Go.Gv

namespace Go.Gv
structure MV (c:Int) (r s:RF):Prop where
 rc:s.rc=r.rc
 lf:s.lf=r.lf
 ou:s.ou=r.ou
 len:s.lv.length=r.lv.length
 lv:∀a,r.rc.getD a false=true->s.lv.getD a 0=r.lv.getD a 0+c
section
variable{m:Msh}{x y z:Int}(hv:aw m=true)(hr:∀i,i<m.s.length->bG (mvS x y z (spt m i))=true)
include hv hr
end
end Go.Gv

namespace Go.Gv
theorem zQ(m:Msh)(i:Nat):∀k,upF m i k=-2\/∃c,c<k/\nbF m i c=upF m i k
 | 0=>.inl rfl
 | k+1=>by
  have hs:upF m i (k+1)=d8 m i (upF m i k) (nbF m i k):=rfl
  have hc:upF m i (k+1)=upF m i k\/upF m i (k+1)=nbF m i k:=by
   rw[hs]
   unfold d8
   split
   ·exact .inl rfl
   ·split
    ·exact .inr rfl
    ·split
     ·exact .inr rfl
     ·exact .inl rfl
  rcases hc with h|h
  ·rcases zQ m i k with h2|⟨c,h2,h3⟩
   ·exact .inl (by rw[h,h2])
   ·exact .inr ⟨c,by omega,by rw[h,h3]⟩
  ·exact .inr ⟨k,by omega,h.symm⟩
theorem Ev{m:Msh}{i:Nat}(h:0<=eX m i):∃c,c<3/\nbF m i c=eX m i:=by
 unfold eX at h ⊢
 split at h
 ·omega
 ·rename_i hc
  rw[if_neg hc]
  rcases zQ m i 3 with h2|h2
  ·omega
  ·exact h2
end Go.Gv

namespace Go.Gv
def hR(m:Msh)(h:Int)(i k:Nat):Prop:=i<m.f.length/\k<m.f.length/\suF m i<=h/\suF m k<=h/\∃c,c<3/\nbF m i c=k
def Way(m:Msh)(h:Int)(a b:Nat):Prop:=suF m a<=h/\suF m b<=h/\Cn (hR m h) a b
open Classical in
structure MU (m:Msh) (P:List Nat):Prop where
 perm:P.Perm (List.range m.f.length)
 srt:P.Pairwise fun a b=>cI m a<=cI m b
end Go.Gv

namespace Go.Gv
variable{C:CC}(hC:av prog C)
include hC
end Go.Gv

namespace Go.Gv
variable{C:CC}(hC:av prog C)
include hC
end Go.Gv

namespace Go.Gv
def jL(m:Msh)(v:Int):Nat:=List.countP (fun j=>decide (suF m j<v)) (List.range m.f.length)
theorem jx(m:Msh)(v:Int):jL m v<=m.f.length:=by
 have:=List.countP_le_length (p:=fun j=>decide (suF m j<v)) (l:=List.range m.f.length)
 simpa[jL]using this
theorem Bf{m:Msh}{v w:Int}{j:Nat}(hj:j<m.f.length)(h:suF m j=v)(hvw:v<w):jL m v<jL m w:=by
 unfold jL
 have h1:List.countP (fun x=>decide (suF m x<w)) (List.range m.f.length)=List.countP (fun x=>decide (suF m x<v)) (List.range m.f.length)+List.countP (fun x=>decide (v<=suF m x)&&decide (suF m x<w)) (List.range m.f.length):=by
  induction List.range m.f.length with
  | nil=>rfl
  | cons x l ihl =>
   simp only[List.countP_cons,ihl]
   by_cases c1:suF m x<v
   ·have c2:suF m x<w:=by omega
    have c3:¬v<=suF m x:=by omega
    simp[c1,c2,c3];omega
   ·by_cases c2:suF m x<w
    ·have c3:v<=suF m x:=by omega
     simp[c1,c2,c3];omega
    ·have c3:v<=suF m x:=by omega
     simp[c1,c2,c3]
 have h2:0<List.countP (fun x=>decide (v<=suF m x)&&decide (suF m x<w)) (List.range m.f.length):=List.countP_pos_iff.2 ⟨j,x0V.2 hj,by simp[h,hvw]⟩
 omega
structure SpI (m:Msh) (a:Nat) (rc:List Bool) (lv:List Int):Prop where
 rl:rc.length=m.f.length
 ll:lv.length=m.f.length
 un:∀i,i<m.f.length->rc.getD i false=false->lv.getD i 0=0
 way:∀i,i<m.f.length->rc.getD i false=true->Way m (lv.getD i 0) a i
 sm:∀i,i<m.f.length->rc.getD i false=true->∃j,j<m.f.length/\suF m j=lv.getD i 0
 a0:rc.getD a false=true/\lv.getD a 0<=suF m a
end Go.Gv

namespace Go.Gv
def inl(w:List Int)(f:Nat):Int:=gA (fun x=>decide (x=(f:Int))) w
theorem DC(w:List Int)(f:Nat):-1<=inl w f/\inl w f<w.length:=uJ _ _
inductive TrR (m:Msh) (w:List Int):Nat->Option Int->List Nat->Prop
 | inlet {f:Nat}:inl w f≠-1->TrR m w f none []
 | off {f:Nat}:inl w f=-1->eX m f=-1->TrR m w f none []
 | run {f g:Nat} {l:List Nat}:inl w f=-1->eX m f=g->TrR m w g none l->TrR m w f none (g::l)
 | lake {f:Nat} {l:List Nat}:inl w f=-1->eX m f=-2->TrR m w f (some (spF m f)) l->TrR m w f none l
 | low {f:Nat} {h:Int} {l:List Nat}:spF m f<h->TrR m w f none l->TrR m w f (some h) l
 | stay {f:Nat} {h:Int}:h<=spF m f->ouF m f=-1->TrR m w f (some h) []
 | hit {f g:Nat} {h:Int}:h<=spF m f->ouF m f=g->inl w g≠-1->TrR m w f (some h) [g]
 | out {f g:Nat} {h:Int} {l:List Nat}:h<=spF m f->ouF m f=g->inl w g=-1->TrR m w g (some h) l->TrR m w f (some h) (g::l)
theorem TrR.uniq{m:Msh}{w:List Int}{f:Nat}{L:Option Int}{l l':List Nat}(h:TrR m w f L l):TrR m w f L l'->l=l':=by
 induction h generalizing l' with
 | inlet h1 =>
  intro g
  cases g with
  | inlet _=>rfl
  | off g1 _=>exact absurd g1 h1
  | run g1 _ _=>exact absurd g1 h1
  | lake g1 _ _=>exact absurd g1 h1
 | off h1 h2 =>
  intro g
  cases g with
  | inlet g1=>rfl
  | off _ _=>rfl
  | run _ g2 _=>omega
  | lake _ g2 _=>omega
 | run h1 h2 _ ih =>
  intro g
  cases g with
  | inlet g1=>exact absurd h1 g1
  | off _ g2=>omega
  | @run _ g' _ _ g2 g3 =>
   have:g'=_:=Int.ofNat.inj (g2.symm.trans h2)
   subst this
   rw[ih g3]
  | lake _ g2 _=>omega
 | lake h1 h2 _ ih =>
  intro g
  cases g with
  | inlet g1=>exact absurd h1 g1
  | off _ g2=>omega
  | run _ g2 _=>omega
  | lake _ _ g3=>exact ih g3
 | low h1 _ ih =>
  intro g
  cases g with
  | low _ g2=>exact ih g2
  | stay g1 _=>omega
  | hit g1 _ _=>omega
  | out g1 _ _ _=>omega
 | stay h1 h2 =>
  intro g
  cases g with
  | low g1 _=>omega
  | stay _ _=>rfl
  | hit _ g2 _=>omega
  | out _ g2 _ _=>omega
 | hit h1 h2 h3 =>
  intro g
  cases g with
  | low g1 _=>omega
  | stay _ g2=>omega
  | @hit _ g' _ _ g2 _ =>
   have:g'=_:=Int.ofNat.inj (g2.symm.trans h2)
   rw[this]
  | @out _ g' _ _ _ g2 g3 _ =>
   have:g'=_:=Int.ofNat.inj (g2.symm.trans h2)
   subst this
   exact absurd g3 h3
 | out h1 h2 h3 _ ih =>
  intro g
  cases g with
  | low g1 _=>omega
  | stay _ g2=>omega
  | @hit _ g' _ _ g2 g3 =>
   have:g'=_:=Int.ofNat.inj (g2.symm.trans h2)
   subst this
   exact absurd h3 g3
  | @out _ g' _ _ _ g2 _ g4 =>
   have:g'=_:=Int.ofNat.inj (g2.symm.trans h2)
   subst this
   rw[ih g4]
def dst(ou:List Int):Nat->Nat->Nat
 | 0,_=>0
 | k+1,a=>if ou.getD a 0=-1 then 0 else dst ou k (ou.getD a 0).toNat+1
theorem mK{n:Nat}{ou:List Int}{rc:List Bool}:∀{d a:Nat},m8 n ou rc d a->∀k,d<=k->dst ou k a=d
 | 0,a,h,k,_=>by
  cases k with
  | zero=>rfl
  | succ k =>
   have h:ou.getD a 0=-1:=h
   simp only[dst,h,if_true]
 | d+1,a,⟨b,_,e1,_,e3⟩,k,hk=>by
  cases k with
  | zero=>omega
  | succ k =>
   simp only[dst,e1]
   rw[if_neg (by omega)]
   simp only[Int.toNat_natCast]
   rw[mK e3 k (by omega)]
def dsF(m:Msh)(a:Nat):Nat:=dst (bv m).ou m.f.length a
theorem pW{m:Msh}(hv:aw m=true){a:Nat}(ha:a<m.f.length):dsF m a<=m.f.length:=by
 obtain⟨d,hd,he⟩:=iv hv ha
 unfold dsF
 rw[mK he _ hd]
 exact hd
theorem nk{m:Msh}(hv:aw m=true){a b:Nat}(ha:a<m.f.length)(e:ouF m a=b):dsF m b<dsF m a/\b<m.f.length:=by
 obtain⟨d,hd,he⟩:=iv hv ha
 cases d with
 | zero =>
  have e2:ouF m a=-1:=he
  omega
 | succ d =>
  obtain⟨c,hc,e1,_,e3⟩:=id he
  have e2:ouF m a=c:=e1
  have:c=b:=by omega
  subst this
  unfold dsF
  rw[mK he _ hd,mK e3 _ (by omega)]
  exact⟨by omega,hc⟩
theorem qL{m:Msh}(hv:aw m=true){a:Nat}(ha:a<m.f.length):∃j,j<m.f.length/\suF m j=spF m a:=by
 have key:∀(d a:Nat),a<m.f.length->m8 m.f.length (bv m).ou (cW m).rc d a->∃j,j<m.f.length/\suF m j=spF m a:=by
  intro d
  induction d with
  | zero =>
   intro a ha he
   have e:ouF m a=-1:=he
   have hb:bsd m a (-1)=true:=by
    cases h:bsd m a (-1)
    ·obtain⟨z,_,h2,_⟩:=jC hv ha h
     omega
    ·rfl
   exact⟨a,ha,(jB hv ha hb).1.symm⟩
  | succ d ih =>
   intro a ha ⟨b,hb,e1,_,e3⟩
   obtain⟨j,hj,ej⟩:=ih b hb e3
   have e:ouF m a=b:=e1
   cases h:bsd m a (-1)
   ·obtain⟨z,_,h5,_,h6⟩:=jC hv ha h
    have:z=b:=by omega
    subst this
    by_cases hm:suF m a<spF m z
    ·exact⟨j,hj,by omega⟩
    ·exact⟨a,ha,by omega⟩
   ·have:=(jB hv ha h).2
    omega
 obtain⟨d,_,he⟩:=iv hv ha
 exact key d a ha he
theorem CD{m:Msh}(hv:aw m=true){a b:Nat}(ha:a<m.f.length)(e:ouF m a=b):spF m b<=spF m a:=by
 cases h:bsd m a (-1)
 ·obtain⟨z,_,h5,_,h6⟩:=jC hv ha h
  have:z=b:=by omega
  subst this
  omega
 ·have:=(jB hv ha h).2
  omega
theorem yR{m:Msh}(hv:aw m=true){a b:Nat}(ha:a<m.f.length)(e:eX m a=b):b<m.f.length/\suF m b<suF m a/\spF m b<=spF m a:=by
 rcases uW m a with h|h|⟨h1,h2,h3⟩
 ·omega
 ·omega
 ·have hbn:b<m.f.length:=by omega
  rw[e]at h3
  simp only[Int.toNat_natCast]at h3
  obtain⟨c,hc,ec⟩:=Ev (m:=m) (i:=a) (by omega)
  rw[e]at ec
  obtain⟨c',hc',e'⟩:=qt hv ha hc (by omega)
  rw[ec]at e'
  have hle:=zz hv hbn hc' (x:=a) (by simpa using e')
  have hge:=Jm hv ha
  rw[<- zA hbn,<- zA ha]at h3
  exact⟨hbn,h3,by omega⟩
theorem jy{m:Msh}{v w:Int}(hj:∃j,j<m.f.length/\suF m j=v)(h:v<w):jL m v<jL m w:=by
 obtain⟨j,hj,ej⟩:=hj
 exact Bf hj ej h
def trM(m:Msh)(f:Nat):Option Int->Nat
 | none=>(jL m (spF m f)*3+1)*(m.f.length+2)+jL m (suF m f)
 | some h=>if spF m f<h then(jL m (spF m f)*3+2)*(m.f.length+2) else(jL m (spF m f)*3)*(m.f.length+2)+dsF m f
theorem oH{a b N x y:Nat}(h:a<b)(hx:x<N):a*N+x<b*N+y:=by
 have:(a+1)*N<=b*N:=x0o _ h
 rw[x0D]at this
 omega
theorem TrR.ex{m:Msh}(hv:aw m=true)(w:List Int):∀(k f:Nat) (L:Option Int),f<m.f.length->trM m f L=k->∃l,TrR m w f L l/\(∀x∈l,x<m.f.length)/\l.length<=k:=by
 intro k
 induction k using Nat.strongRecOn with
 | _ k ih =>
  intro f L hf hk
  have b1:=jx m (suF m f)
  have b2:=pW hv hf
  cases L with
  | none =>
   by_cases hi:inl w f=-1
   ·rcases uW m f with h|h|⟨h1,h2,h3⟩
    ·exact⟨[],.off hi h,by simp,by simp⟩
    ·have hlt:trM m f (some (spF m f))<k:=by
      rw[<- hk]
      simp only[trM]
      rw[if_neg (by omega)]
      exact oH (by omega) (by omega)
     obtain⟨l,h4,h5,h6⟩:=ih _ hlt f _ hf rfl
     exact⟨l,.lake hi h h4,h5,by omega⟩
    ·obtain⟨g,hg⟩:∃g:Nat,eX m f=g:=⟨(eX m f).toNat,by omega⟩
     obtain⟨g1,g2,g3⟩:=yR hv hf hg
     have hlt:trM m g none<k:=by
      rw[<- hk]
      simp only[trM]
      have b3:=jx m (suF m g)
      by_cases e:spF m g=spF m f
      ·rw[e]
       have:=jy (m:=m) ⟨g,g1,rfl⟩ g2
       omega
      ·have:=jy (m:=m) (qL hv g1) (show spF m g<spF m f by omega)
       exact oH (by omega) (by omega)
     obtain⟨l,h4,h5,h6⟩:=ih _ hlt g _ g1 rfl
     exact⟨g::l,.run hi hg h4,fun x hx=>by rcases x0B.1 hx with e|e;rw[e];exact g1;exact h5 x e,by simp only[x0F];omega⟩
   ·exact⟨[],.inlet hi,by simp,by simp⟩
  | some h =>
   by_cases hlow:spF m f<h
   ·have hlt:trM m f none<k:=by
     rw[<- hk]
     simp only[trM]
     rw[if_pos hlow]
     exact oH (a:=jL m (spF m f)*3+1) (b:=jL m (spF m f)*3+2) (N:=m.f.length+2) (y:=0) (by omega) (by omega)
    obtain⟨l,h4,h5,h6⟩:=ih _ hlt f _ hf rfl
    exact⟨l,.low hlow h4,h5,by omega⟩
   ·obtain⟨d,hd,he⟩:=iv hv hf
    cases d with
    | zero=>exact⟨[],.stay (by omega) he,by simp,by simp⟩
    | succ d =>
     obtain⟨g,hg,e1,_,e3⟩:=he
     have e2:ouF m f=g:=e1
     by_cases hig:inl w g=-1
     ·obtain⟨q1,q2⟩:=nk hv hf e2
      have q3:=CD hv hf e2
      have b3:=pW hv hg
      have hlt:trM m g (some h)<k:=by
       rw[<- hk]
       simp only[trM]
       rw[if_neg hlow]
       by_cases e:spF m g=spF m f
       ·rw[e,if_neg hlow]
        omega
       ·have:=jy (m:=m) (qL hv hg) (show spF m g<spF m f by omega)
        split
        ·exact oH (x:=0) (by omega) (by omega)
        ·exact oH (by omega) (by omega)
      obtain⟨l,h4,h5,h6⟩:=ih _ hlt g _ hg rfl
      exact⟨g::l,.out (by omega) e2 hig h4,fun x hx=>by rcases x0B.1 hx with e|e;rw[e];exact hg;exact h5 x e,by simp only[x0F];omega⟩
     ·obtain⟨q1,_⟩:=nk hv hf e2
      refine⟨[g],.hit (by omega) e2 hig,fun x hx=>by simp at hx;rw[hx];exact hg,?_⟩
      rw[<- hk]
      simp only[trM]
      rw[if_neg hlow]
      simp only[List.length_singleton]
      omega
open Classical in
noncomputable def trF(m:Msh)(w:List Int)(f:Nat):List Nat:=if h:∃l,TrR m w f none l then Classical.choose h else []
theorem EQ{m:Msh}{w:List Int}{f:Nat}{l:List Nat}(h:TrR m w f none l):trF m w f=l:=by
 have hex:∃l,TrR m w f none l:=⟨l,h⟩
 unfold trF
 rw[dif_pos hex]
 exact(Classical.choose_spec hex).uniq h
theorem ox{m:Msh}(hv:aw m=true)(w:List Int){f:Nat}(hf:f<m.f.length):TrR m w f none (trF m w f)/\(∀x∈trF m w f,x<m.f.length)/\(trF m w f).length<=trM m f none:=by
 obtain⟨l,h1,h2,h3⟩:=TrR.ex hv w _ f none hf rfl
 rw[EQ h1]
 exact⟨h1,h2,h3⟩
noncomputable def laF(m:Msh)(w:List Int)(f:Nat):Nat:=(f::trF m w f).getLast (by simp)
noncomputable def enF(m:Msh)(w:List Int)(f:Nat):Int:=inl w (laF m w f)
theorem DR{m:Msh}(hv:aw m=true)(w:List Int){f:Nat}(hf:f<m.f.length):laF m w f<m.f.length:=by
 have h:=List.getLast_mem (l:=f::trF m w f) (by simp)
 rcases x0B.1 h with e|e
 ·unfold laF;rw[e];exact hf
 ·exact(ox hv w hf).2.1 _ e
theorem zK{m:Msh}(hv:aw m=true)(f:Nat):trM m f none<=50000000:=by
 have h1:=(cK hv).2
 have h2:=jx m (spF m f)
 have h3:=jx m (suF m f)
 simp only[trM]
 have h4:(jL m (spF m f)*3+1)*(m.f.length+2)<=12001*4002:=Nat.mul_le_mul (by omega) (by omega)
 omega
end Go.Gv

namespace Go.Gv
theorem oT{d:Array Int}(hs:∀j,0<j->j<d.size->d[j-1]!<=d[j]!):∀m,m<=d.size->(Lib.compactUpTo d m).Pairwise (·<·)/\(∀x,x∈Lib.compactUpTo d m↔∃j,j<m/\d[j]! = x)/\∀x∈Lib.compactUpTo d m,x<=d[m-1]!
 | 0,_=>by simp[Lib.compactUpTo]
 | m+1,hm=>by
  obtain⟨h1,h2,h3⟩:=oT hs m (by omega)
  rw[Lib.compactUpTo_succ]
  by_cases hk:Lib.keeps d m=true
  ·rw[if_pos hk]
   have hlt:∀x∈Lib.compactUpTo d m,x<d[m]!:=fun x hx=>by
    have h4:=h3 x hx
    simp only[Lib.keeps,x0b]at hk
    rcases hk with rfl|hk
    ·obtain⟨j,hj,_⟩:=(h2 x).1 hx;omega
    ·rcases x0R m with h0|h0
     ·subst h0;obtain⟨j,hj,_⟩:=(h2 x).1 hx;omega
     ·have:=hs m h0 (by omega);omega
   refine⟨List.pairwise_append.2 ⟨h1,by simp,fun a ha b hb=>by simp at hb;subst hb;exact hlt a ha⟩,fun x=>?_,fun x hx=>?_⟩
   ·simp only[x0n,x1a,h2]
    constructor
    ·rintro(⟨j,hj,rfl⟩|rfl)
     ·exact⟨j,by omega,rfl⟩
     ·exact⟨m,by omega,rfl⟩
    ·rintro⟨j,hj,rfl⟩
     by_cases e:j=m
     ·exact .inr (by rw[e])
     ·exact .inl ⟨j,by omega,rfl⟩
   ·simp only[x0n,x1a]at hx
    rcases hx with hx|hx
    ·exact Int.le_of_lt (hlt x hx)
    ·rw[hx];exact x1K _
  ·rw[if_neg hk,List.append_nil]
   have hm0:0<m:=by
    rcases x0R m with h|h
    ·subst h;exact absurd (Lib.keeps_lt_one d 0 (by omega)) hk
    ·exact h
   have he:d[m]! = d[m-1]!:=by
    apply Classical.byContradiction
    intro h
    exact hk (Lib.keeps_pos h)
   refine⟨h1,fun x=>?_,fun x hx=>?_⟩
   ·rw[h2]
    constructor
    ·rintro⟨j,hj,rfl⟩;exact⟨j,by omega,rfl⟩
    ·rintro⟨j,hj,rfl⟩
     by_cases e:j=m
     ·subst e;exact⟨j-1,by omega,he.symm⟩
     ·exact⟨j,by omega,rfl⟩
   ·have:=h3 x hx
    simp only[Nat.add_sub_cancel,he]
    exact this
theorem gh:∀{l k:List Int},l.Nodup->(∀x∈l,x∈k)->l.length<=k.length/\(l.length=k.length->k.Nodup)
 | [],k,_,_=>⟨by simp,fun h=>by
  have:k=[]:=x0x (by simpa using h.symm)
  rw[this];exact List.nodup_nil⟩
 | x::l,k,hn,hs=>by
  have hx:x∈k:=hs x (by simp)
  have hp:=List.perm_cons_erase hx
  have hxl:x∉l:=(x1N.1 hn).1
  obtain⟨h1,h2⟩:=gh (l:=l) (k:=k.erase x) (x1N.1 hn).2 fun y hy=>(List.mem_erase_of_ne (fun e=>hxl (by rw[<- e];exact hy))).2 (hs y (by simp[hy]))
  have hl:=hp.length_eq
  simp only[x0F]at hl ⊢
  refine⟨by omega,fun h=>?_⟩
  have h3:=h2 (by omega)
  have h4:(x::k.erase x).Nodup:=x1N.2 ⟨fun hc=>?_,h3⟩
  ·exact(hp.nodup_iff).2 h4
  ·-- x stands in the rest as well
   have hp2:=List.perm_cons_erase hc
   have hl2:=hp2.length_eq
   simp only[x0F]at hl2
   obtain⟨q1,_⟩:=gh (l:=l) (k:=(k.erase x).erase x) (x1N.1 hn).2 fun y hy=>by
    have hne:y≠x:=fun e=>hxl (by rw[<- e];exact hy)
    exact(List.mem_erase_of_ne hne).2 ((List.mem_erase_of_ne hne).2 (hs y (by simp[hy])))
   omega
theorem sV(zs:List Int):(Lib.compact (zs.mergeSort fun x y=>decide (x<=y))).length<zs.length↔¬zs.Nodup:=by
 obtain⟨ys,hy⟩:∃ys,ys=zs.mergeSort fun x y=>decide (x<=y):=⟨_,rfl⟩
 rw[<- hy]
 have hpm:ys.Perm zs:=by rw[hy];exact List.mergeSort_perm zs _
 have hp:ys.Pairwise (·<=·):=by
  have h:=List.pairwise_mergeSort (le:=fun x y:Int=>decide (x<=y)) (fun a b c h1 h2=>by simp at *;omega) (fun a b=>by simp;omega) zs
  rw[<- hy]at h
  exact h.imp fun h=>by simpa using h
 have hs:∀j,0<j->j<ys.toArray.size->ys.toArray[j-1]!<=ys.toArray[j]!:=fun j h1 h2=>by
  have h3:j<ys.length:=by simpa using h2
  rw[x0K ys.toArray (j-1) (by simpa using (by omega:j-1<ys.length)),x0K ys.toArray j h2]
  exact List.pairwise_iff_getElem.1 hp (j-1) j (by omega) h3 (by omega)
 obtain⟨h1,h2,_⟩:=oT hs ys.length (by simp)
 have hmem:∀x,x∈Lib.compact ys↔x∈ys:=fun x=>by
  unfold Lib.compact
  rw[h2]
  constructor
  ·rintro⟨j,hj,rfl⟩
   rw[x0K ys.toArray j (by simpa using hj)]
   exact x0u (l:=ys) hj
  ·intro hx
   obtain⟨j,hj,e⟩:=x0H.1 hx
   exact⟨j,hj,by rw[x0K ys.toArray j (by simpa using hj)];simpa using e⟩
 have hnd:(Lib.compact ys).Nodup:=by
  unfold Lib.compact
  exact h1.imp fun h=>by omega
 obtain⟨q1,q2⟩:=gh hnd fun x hx=>(hmem x).1 hx
 rw[<- hpm.length_eq,<- hpm.nodup_iff]
 constructor
 ·intro hlt hn
  obtain⟨q3,_⟩:=gh hn fun x hx=>(hmem x).2 hx
  omega
 ·intro hn
  by_cases he:(Lib.compact ys).length=ys.length
  ·exact absurd (q2 he) hn
  ·omega
end Go.Gv

namespace Go.Gv
variable{C:CC}(hC:av prog C)
include hC
end Go.Gv

namespace Go.Gv
structure SlW (C:CC):Prop where
 sort:∀zs:List Int,zs.length<2^40->C 366 [.own 1 (zs.map fun n=>[.int .i64 n])] .any [.own 1 ((zs.mergeSort fun x y=>decide (x<=y)).map fun n=>[.int .i64 n]),.nilp]
 compact:∀zs:List Int,zs.length<2^40->C 523 [.own 1 (zs.map fun n=>[.int .i64 n])] .any [.own 1 ((Lib.compact zs).map fun n=>[.int .i64 n]),.nils,.nils]
def inM(m:Msh)(x:Int):Bool:=decide (0<=x)&&decide (x<m.f.length)
def gvE(m:Msh)(l ks:List Int):Int :=
 if aw m=false then 1 else if 300<l.length then 4 else if (l.any fun x=>!inM m x)=true then 2 else if (ks.any fun k=>!eF l.length k)=true then 2 else if l.Nodup then 0 else 10
section
variable{C:CC}(hC:av prog C)
include hC
end
end Go.Gv

namespace Go.Gv
theorem pc{m:Msh}{x:Int}:inM m x=false↔x<0\/(m.f.length:Int)<=x:=by
 unfold inM
 rw[<- Bool.not_eq_true]
 simp only[x0a,x0b]
 omega
theorem xV{m:Msh}{x:Int}:inM m x=true↔0<=x/\x<m.f.length:=by
 unfold inM
 simp only[x0a,x0b]
theorem pd{n:Nat}{x:Int}:eF n x=true↔0<=x/\x<n:=by
 unfold eF
 simp only[x0a,x0b]
section
variable{C:CC}(hC:av prog C)
include hC
end
end Go.Gv

namespace Go.Gv
section
variable{C:CC}(hC:av prog C)
include hC
theorem HH(m:Msh)(x:Int):C 882 [.int .i64 x,.ptr [slx m.sn (m.s.map ol),slx m.fn (m.f.map cu)]] (.bool (!inM m x)) []:=by
 obtain⟨R,hR⟩:∃R,R=inM m x:=⟨_,rfl⟩
 rw[<- hR]
 refine az hC (nf:=N882) rfl rfl ?_
 simp[N882]
 by_cases c1:x<0
 ·have:R=false:=hR.trans (pc.2 (.inl c1))
  simp[c1,this]
 ·by_cases c2:(m.f.length:Int)<=x
  ·have:R=false:=hR.trans (pc.2 (.inr c2))
   simp[c1,c2,this]
  ·have:R=true:=hR.trans (xV.2 ⟨by omega,by omega⟩)
   simp[c1,c2,this]
theorem HI(b:Bool)(l:List Int)(x:Int):C 883 [.int .i64 x,.ptr [slx b (inR l)]] (.bool (!eF l.length x)) []:=by
 obtain⟨R,hR⟩:∃R,R=eF l.length x:=⟨_,rfl⟩
 rw[<- hR]
 have hf:(x<0\/(l.length:Int)<=x)->R=false:=fun h=>by
  rw[hR,<- Bool.not_eq_true,pd]
  omega
 refine az hC (nf:=N883) rfl rfl ?_
 simp[N883]
 by_cases c1:x<0
 ·simp[c1,hf (.inl c1)]
 ·by_cases c2:(l.length:Int)<=x
  ·simp[c1,c2,hf (.inr c2)]
  ·have:R=true:=hR.trans (pd.2 ⟨by omega,by omega⟩)
   simp[c1,c2,this]
set_option maxHeartbeats 2000000 in
theorem o8(hW:SlW C)(dec:Nat->List UInt8)(hI:∀n:Nat,n<100->C 127 [.int .i64 n] (.str (dec n)) [])(m:Msh)(hz:ct m=true->m.s.length<=100/\m.f.length<=100)(b b':Bool)(l ks:List Int)(hl:l.length<2^40)(hk:ks.length<2^40) :
  C 874 [.agg (b0 m),slx b (inR l),slx b' (inR ks)] (.int .i64 (gvE m l ks)) []:=by
 have k1:=gU hC dec hI m hz
 have k2:=fP hC (b:=b) (xs:=l) (g:=882) (cs:=[.ptr [slx m.sn (m.s.map ol),slx m.fn (m.f.map cu)]]) (fun x=>!inM m x) (by omega) (fun x _=>HH hC m x)
 have k3:=fP hC (b:=b') (xs:=ks) (g:=883) (cs:=[.ptr [slx b (inR l)]]) (fun x=>!eF l.length x) (by omega) (fun x _=>HI hC b l x)
 have k4:=ug hC b l hl
 have k5:=hW.sort l hl
 obtain⟨s,hs⟩:∃s,s=l.mergeSort fun x y=>decide (x<=y):=⟨_,rfl⟩
 have hsl:s.length=l.length:=by rw[hs,List.length_mergeSort]
 have k6:=hW.compact s (by omega)
 have hcn:=sV l
 rw[<- hs]at k5 hcn
 rw[<- qg]at k2 k3 k4
 rw[<- qg,<- qg]at k5 k6
 simp only[af]at k1
 obtain⟨R,hR⟩:∃R,R=gvE m l ks:=⟨_,rfl⟩
 rw[<- hR]
 unfold gvE at hR
 obtain⟨B2,hB2⟩:∃B2,B2=l.any fun x=>!inM m x:=⟨_,rfl⟩
 obtain⟨B3,hB3⟩:∃B2,B2=ks.any fun x=>!eF l.length x:=⟨_,rfl⟩
 rw[<- hB2]at hR k2
 rw[<- hB3]at hR k3
 refine az hC (nf:=N874) rfl rfl ?_
 simp[N874,af]
 refine aa k1 (.inl rfl) ?_
 cases hv:aw m
 ·rw[if_pos hv]at hR
  simp[hR]
 ·rw[if_neg (by simp[hv])]at hR
  simp
  by_cases h3:(300:Int)<l.length
  ·rw[if_pos (by omega)]at hR
   simp[h3,hR]
  ·rw[if_neg (by omega)]at hR
   simp[h3]
   refine aa k2 (.inl rfl) ?_
   cases B2
   ·rw[if_neg (by decide)]at hR
    simp
    refine aa k3 (.inl rfl) ?_
    cases B3
    ·rw[if_neg (by decide)]at hR
     simp
     refine lw k4 ?_
     simp
     refine⟨fun e he c hc=>(mL l e he).2 c hc,vu k5 (.inl rfl) (by simp[hsl]) (mL s) ?_⟩
     simp[hsl]
     have et:List.take l.length (inR s)=inR s:=by rw[x0z];simp[hsl]
     rw[et]
     refine⟨nG s,Ap k6 (fun e he=>⟨(mL _ e he).1,nG _ e he⟩) ?_⟩
     by_cases hn:l.Nodup
     ·rw[if_pos hn]at hR
      have:¬(Lib.compact s).length<l.length:=fun hh=>(hcn.1 hh) hn
      simp[hR,this]
      exact aF (by decide +kernel)
     ·rw[if_neg hn]at hR
      have:=hcn.2 hn
      simp[hR,this]
      exact aF (by decide +kernel)
    ·rw[if_pos rfl]at hR
     simp[hR]
   ·rw[if_pos rfl]at hR
    simp[hR]
end
end Go.Gv

namespace Go.Gv
def mG(m:Msh)(w:List Int):List Int:=(List.range m.f.length).map fun f=>inl w f
def twL(m:Msh):List Int:=(List.range m.f.length).map fun f=>twF m f
def woW(l:List Int)(d:Int):List Int:=(List.range l.length).map fun(i:Nat)=>if (i:Int)=d then -1 else l.getD i 0
@[simp] theorem HS(m:Msh)(w:List Int):(mG m w).length=m.f.length:=by simp[mG]
@[simp] theorem LD(m:Msh):(twL m).length=m.f.length:=by simp[twL]
@[simp] theorem vh(l:List Int)(d:Int):(woW l d).length=l.length:=by simp[woW]
theorem xX{w:List Int}{f:Nat}(h:∀x∈w,x≠(f:Int)):inl w f=-1:=dS fun j hj=>by simp[h _ (x0u hj)]
theorem AJ(w:List Int)(x:Int)(f:Nat):inl (w++[x]) f=if inl w f=-1 then(if x=f then(w.length:Int) else -1) else inl w f:=by
 unfold inl gA
 rw[List.findIdx?_append]
 cases h:w.findIdx? fun x=>decide (x=(f:Int)) with
 | none =>
  by_cases hx:x=(f:Int)<;>simp[hx]
 | some i =>
  simp
def tbR(f:Nat->Int)(i:Nat):List (List D):=inR ((List.range i).map f)
theorem ji(f:Nat->Int)(i:Nat):tbR f i=(List.range i).map fun j=>[.int .i64 (f j)]:=by simp[tbR,inR]
@[simp] theorem BO(f:Nat->Int)(i:Nat):(tbR f i).length=i:=by simp[tbR]
@[simp] theorem zD(f:Nat->Int)(i:Nat):List.take i (tbR f i)=tbR f i:=x0z (by simp)
@[simp] theorem MT(f:Nat->Int):tbR f 0=[]:=rfl
theorem lg(f:Nat->Int)(i:Nat):tbR f i++[[.int .i64 (f i)]]=tbR f (i+1):=by simp[ji,x04]
@[simp] theorem LA(f:Nat->Int)(i:Nat)(x:List D):(∀e,e∈tbR f i\/e=x->∀c,c∈e->aH c=true)=∀c,c∈x->aH c=true:=by
 apply propext
 constructor
 ·exact fun h=>h x (.inr rfl)
 ·rintro h e (he|rfl)
  ·exact(mL _ e he).2
  ·exact h
theorem wX(f:Nat->Int)(i:Nat):cN 1 (tbR f (i+1))=.own 1 (tbR f (i+1)):=by
 have:(tbR f (i+1)).length=i+1:=by simp
 cases h:tbR f (i+1) with
 | nil=>rw[h]at this;simp at this
 | cons e r=>rfl
theorem pR(f:Nat->Int){i:Nat}(h:i≠0):cN 1 (tbR f i)=.own 1 (tbR f i):=by
 obtain⟨j,rfl⟩:∃j,i=j+1:=⟨i-1,by omega⟩
 exact wX f j
theorem ve{f g:Nat->Int}{n x:Nat}{v:Int}(hv:g x=v)(h:∀j,j≠x->g j=f j):(tbR f n).set x [.int .i64 v]=tbR g n:=by
 refine x1m (by simp) fun j h1 h2=>?_
 simp only[List.getElem_set,ji,x1u,x1J]
 by_cases c:x=j
 ·rw[if_pos c,<- c,hv]
 ·rw[if_neg c,h j (fun e=>c e.symm)]
theorem ud{l:List Int}{d:Int}{i:Nat}(h:i<l.length):(woW l d)[i]'(by simp[h])=if (i:Int)=d then -1 else l[i]:=by
 simp[woW,h]
theorem tx{l:List Int}{d:Int}{i:Nat}(h:i<l.length)(f:Nat):inl ((woW l d).take (i+1)) f=if inl ((woW l d).take i) f=-1 then(if (if (i:Int)=d then -1 else l[i])=(f:Int) then(i:Int) else -1) else inl ((woW l d).take i) f:=by
 have e:(woW l d).take (i+1)=(woW l d).take i++[if (i:Int)=d then -1 else l[i]]:=by
  rw[<- ud h,x1d]
 rw[e,AJ,x00,vh,Nat.min_eq_left (by omega)]
theorem rL{l:List Int}{d:Int}{i x:Nat}(hn:l.Nodup)(h:i<l.length)(e:l[i]=(x:Int)):inl ((woW l d).take i) x=-1:=by
 refine xX fun y hy=>?_
 obtain⟨j,hj,rfl⟩:=x0H.1 hy
 simp only[x00,vh]at hj
 rw[List.getElem_take,ud (by omega)]
 split
 ·omega
 ·rw[<- e]
  intro e2
  have:=(List.getElem_inj hn).1 e2
  omega
variable{C:CC}(hC:av prog C)
include hC
set_option maxRecDepth 8000 in
set_option maxHeartbeats 2000000 in
theorem rW(dec:Nat->List UInt8)(hI:∀n:Nat,n<100->C 127 [.int .i64 n] (.str (dec n)) [])(m:Msh)(hz:ct m=true->m.s.length<=100/\m.f.length<=100)(hv:aw m=true)(b:Bool)(l:List Int)(hl:l.length<=300)(hin:∀x∈l,inM m x=true)(hn:l.Nodup)(d:Int) :
  C 875 [.agg (b0 m),slx b (inR l),.int .i64 d] (.tup [.ptr [.sl (inR (fw m)),.sl (inR (bv m).sp),.sl (inR (bv m).ou),slx true (inR (mG m (woW l d))),slx true (inR (twL m))],.int .i64 0]) []:=by
 have k1:=CY hC dec hI m hz
 have k2:=CX hC dec hI m hz
 have k3:=vm hC dec hI m hz
 simp[hv]at k1 k2 k3
 have hsz:=cK hv
 simp only[af]at k1 k2 k3
 refine az hC (nf:=N875) rfl rfl ?_
 simp[N875,af]
 refine aa k1 (.inr rfl) ?_
 simp
 refine aa k2 (.inr rfl) ?_
 simp
 refine aa k3 (.inr rfl) ?_
 simp
 refine aC Nat (fun i=>[(1,slx b (inR l)),(2,.int .i64 d),(3,.ptr (b0 m)),(8,.adr (.r 10256) 0 0),(52,.int .i64 m.f.length),(53,.int .i64 i),(10256,.blk 5 [[.sl (inR (fw m)),.sl (inR (bv m).sp),.sl (inR (bv m).ou),cN 1 (tbR (fun _=>-1) i),cN 1 (tbR (twF m) i)]])]) (fun i=>i<=m.f.length) (fun i=>m.f.length-i) 0 (by simp) (by simp[af,cN]) ?_
 intro i hi
 simp
 refine aj (fun h=>?_) (fun h=>?_)<;>simp at h
 ·have hw:IntKind.wrap .i64 ((i:Int)+1)=((i+1:Nat):Int):=ah (by omega) (by omega)
  have k4:=uk hC dec hI m hz hv i h
  simp only[af]at k4
  simp[h,af]
  refine aa k4 (.inr rfl) ?_
  simp
  cases i with
  | zero =>
   have e1:=lg (fun _=>-1) 0
   have e2:=lg (twF m) 0
   simp at e1 e2
   simp[cN]
   exact⟨1,by omega,by omega,by simp[af,bF,<- e1,<- e2]⟩
  | succ j =>
   have e1:=lg (fun _=>-1) (j+1)
   have e2:=lg (twF m) (j+1)
   simp[wX]
   have hw':IntKind.wrap .i64 ((j:Int)+1+1)=(j:Int)+1+1:=ah rfl (by omega)
   exact⟨by omega,j+1+1,by omega,by omega,by simp[af,wX,e1,e2,hw']⟩
 ·have ei:i=m.f.length:=by omega
  subst ei
  simp[h]
  refine aC Nat (fun i=>[(2,.int .i64 d),(8,.adr (.r 10256) 0 0),(85,slx b (inR l)),(86,.int .i64 l.length),(87,.int .i64 i),(10256,.blk 5 [[.sl (inR (fw m)),.sl (inR (bv m).sp),.sl (inR (bv m).ou),cN 1 (tbR (inl ((woW l d).take i)) m.f.length),cN 1 (tbR (twF m) m.f.length)]])]) (fun i=>i<=l.length) (fun i=>l.length-i) 0 (by simp) (by simp;rfl) ?_
  intro i hi
  simp
  refine aj (fun h=>?_) (fun h=>?_)<;>simp at h
  ·have hw:IntKind.wrap .i64 ((i:Int)+1)=((i+1:Nat):Int):=ah (by omega) (by omega)
   have hx:=hin l[i] (x0u h)
   simp[inM]at hx
   obtain⟨x,hxe⟩:∃x:Nat,l[i]=(x:Int):=⟨l[i].toNat,by omega⟩
   have hn0:m.f.length≠0:=by omega
   have hg:(inR l)[i]? = some [.int .i64 (x:Int)]:=by simp[inR,x0e h,hxe]
   rw[pR _ hn0,pR _ hn0]
   simp[h,aD hg]
   refine aj (fun c=>?_) (fun c=>?_)
   ·simp at c
    have es:(tbR (inl ((woW l d).take i)) m.f.length).set x [.int .i64 i]=tbR (inl ((woW l d).take (i+1))) m.f.length:=by
     refine ve ?_ fun j hj=>?_
     ·rw[tx h,rL hn h hxe,if_neg c]
      simp[hxe]
     ·rw[tx h,if_neg c]
      have:¬l[i]=(j:Int):=by omega
      simp[this]
      exact fun h=>h.symm
    have hx2:x<m.f.length:=by omega
    have hg2:(tbR (inl ((woW l d).take i)) m.f.length)[x]? = some [.int .i64 (inl ((woW l d).take i) x)]:=by simp[ji,hx2]
    have hg3:(tbR (inl ((woW l d).take i)) m.f.length)[x]'(by simpa using hx2)=[.int .i64 (inl ((woW l d).take i) x)]:=by simp[ji]
    simp[hx2,aD hg2,cx hg2,hg2,hg3]
    exact⟨i+1,by omega,by omega,by omega,by rw[es,pR _ hn0]⟩
   ·simp at c
    have es:inl ((woW l d).take (i+1))=inl ((woW l d).take i):=by
     funext j
     rw[tx h,if_pos c]
     have:¬(-1:Int)=(j:Int):=by omega
     simp[this]
     exact fun h=>h.symm
    simp
    exact⟨i+1,by omega,by omega,by omega,by rw[es,pR _ hn0]⟩
  ·have ei:i=l.length:=by omega
   subst ei
   simp[h]
   rw[x0z (by simp)]
   exact⟨rfl,rfl⟩
end Go.Gv

namespace Go.Gv
theorem zJ{m:Msh}(hv:aw m=true){f:Nat}(hf:f<m.f.length):trM m f (some (spF m f))<trM m f none:=by
 have b2:=pW hv hf
 simp only[trM]
 rw[if_neg (by omega)]
 exact oH (by omega) (by omega)
theorem BR{m:Msh}(hv:aw m=true){f g:Nat}(hf:f<m.f.length)(hg:eX m f=g):g<m.f.length/\trM m g none<trM m f none:=by
 obtain⟨g1,g2,g3⟩:=yR hv hf hg
 refine⟨g1,?_⟩
 simp only[trM]
 have b3:=jx m (suF m g)
 by_cases e:spF m g=spF m f
 ·rw[e]
  have:=jy (m:=m) ⟨g,g1,rfl⟩ g2
  omega
 ·have:=jy (m:=m) (qL hv g1) (show spF m g<spF m f by omega)
  exact oH (by omega) (by omega)
theorem BP{m:Msh}{f:Nat}{h:Int}(hlow:spF m f<h):trM m f none<trM m f (some h):=by
 have b1:=jx m (suF m f)
 simp only[trM]
 rw[if_pos hlow]
 exact oH (a:=jL m (spF m f)*3+1) (b:=jL m (spF m f)*3+2) (N:=m.f.length+2) (y:=0) (by omega) (by omega)
theorem BQ{m:Msh}(hv:aw m=true){f g:Nat}{h:Int}(hf:f<m.f.length)(hlow:¬spF m f<h)(e2:ouF m f=g):g<m.f.length/\trM m g (some h)<trM m f (some h):=by
 obtain⟨q1,q2⟩:=nk hv hf e2
 have q3:=CD hv hf e2
 have b3:=pW hv q2
 refine⟨q2,?_⟩
 simp only[trM]
 rw[if_neg hlow]
 by_cases e:spF m g=spF m f
 ·rw[e,if_neg hlow]
  omega
 ·have:=jy (m:=m) (qL hv q2) (show spF m g<spF m f by omega)
  split
  ·exact oH (x:=0) (by omega) (by omega)
  ·exact oH (by omega) (by omega)
def nR(t:List Nat):List (List D):=inR (t.map fun(x:Nat)=>(x:Int))
@[simp] theorem MA(t:List Nat):(nR t).length=t.length:=by simp[nR]
@[simp] theorem KN(t:List Nat):List.take t.length (nR t)=nR t:=x0z (by simp)
theorem Ed(x:Nat):[[D.int .i64 (x:Int)]]=nR [x]:=rfl
theorem tF(t:List Nat)(x:Nat):nR t++[[.int .i64 (x:Int)]]=nR (t++[x]):=by simp[nR,inR]
@[simp] theorem MW(t:List Nat):List.map (fun e=>List.map bW e) (nR t)=nR t:=xW _
theorem fk{l:List Int}{i:Nat}(h:i<l.length):(inR l)[i]? = some [.int .i64 (l.getD i 0)]:=by simp[inR,h]
def bsC(m:Msh)(w:List Int):List D:=[.sl (inR (fw m)),.sl (inR (bv m).sp),.sl (inR (bv m).ou),slx true (inR (mG m w)),slx true (inR (twL m))]
theorem pQ(m:Msh)(w:List Int):bsC m w=[.sl (inR (fw m)),.sl (inR (bv m).sp),.sl (inR (bv m).ou),slx true (inR (mG m w)),slx true (inR (twL m))]:=zR
variable{C:CC}(hC:av prog C)
include hC
set_option maxRecDepth 8000 in
set_option maxHeartbeats 4000000 in
theorem BS(m:Msh)(hv:aw m=true)(w:List Int)(f0:Nat)(h0:f0<m.f.length) :
  C 881 [.ptr (bsC m w),.int .i64 f0] (.sl (nR (f0::trF m w f0))) []:=by
 obtain⟨d0,_,dl⟩:=ox hv w h0
 have bl:=zK hv f0
 obtain⟨T,hT⟩:∃T,T=f0::trF m w f0:=⟨_,rfl⟩
 have hTl:T.length<=60000000:=by rw[hT,x0F];omega
 rw[<- hT]
 have W:=uF m
 have gF:∀{f:Nat},f<m.f.length->(inR (fw m))[f]? = some [.int .i64 (eX m f)]:=fun h=>by rw[fk (by simp[fw,h])];simp[fw,h]
 have gS:∀{f:Nat},f<m.f.length->(inR (bv m).sp)[f]? = some [.int .i64 (spF m f)]:=fun h=>by rw[fk (by rw[W.sp];exact h)];rfl
 have gO:∀{f:Nat},f<m.f.length->(inR (bv m).ou)[f]? = some [.int .i64 (ouF m f)]:=fun h=>by rw[fk (by rw[W.ou];exact h)];rfl
 have gI:∀{f:Nat},f<m.f.length->(inR (mG m w))[f]? = some [.int .i64 (inl w f)]:=fun h=>by rw[fk (by simp[h])];simp[mG,h]
 obtain⟨xf,hxf⟩:∃x,x=inR (fw m):=⟨_,rfl⟩
 obtain⟨xs,hxs⟩:∃x,x=inR (bv m).sp:=⟨_,rfl⟩
 obtain⟨xo,hxo⟩:∃x,x=inR (bv m).ou:=⟨_,rfl⟩
 obtain⟨xi,hxi⟩:∃x,x=inR (mG m w):=⟨_,rfl⟩
 have gFl:xf.length=m.f.length:=by rw[hxf];simp[fw]
 have gSl:xs.length=m.f.length:=by rw[hxs];simp[W.sp]
 have gOl:xo.length=m.f.length:=by rw[hxo];simp[W.ou]
 have gIl:xi.length=m.f.length:=by rw[hxi];simp
 rw[<- hxf]at gF
 rw[<- hxs]at gS
 rw[<- hxo]at gO
 rw[<- hxi]at gI
 obtain⟨x4,hx4⟩:∃x,x=slx true (inR (twL m)):=⟨_,rfl⟩
 refine az hC (nf:=N881) rfl rfl ?_
 simp only[pQ,<- hxf,<- hxs,<- hxo,<- hxi,<- hx4]
 simp[N881]
 refine aC (Nat×List Nat×List Nat) (fun s=>[(0,.ptr [.sl xf,.sl xs,.sl xo,slx true xi,x4]),(1,.int .i64 s.1),(5,.ref (.r 10080) 0 s.2.1.length),(10080,.blk 1 (nR s.2.1))]) (fun s=>s.1<m.f.length/\TrR m w s.1 none s.2.2/\s.2.1++s.2.2=T) (fun s=>trM m s.1 none) (f0,[f0],trF m w f0) ⟨h0,d0,hT.symm⟩ (by simp[Ed]) ?_
 rintro⟨f,p,l⟩ ⟨hf,hd,hp⟩
 simp only at hf hd hp
 have hpl:p.length+l.length=T.length:=by rw[<- hp,x0Q]
 simp[gIl,hf,aD (gI hf)]
 refine aj (fun c=>?_) (fun c=>?_)
 ·simp at c
  simp[gFl,hf,aD (gF hf)]
  by_cases c1:eX m f=-1
  ·have:l=[]:=hd.uniq (.off c c1)
   subst this
   simp at hp
   simp[c1,hp]
  ·by_cases c2:eX m f=-2
   ·obtain⟨hd2,hml⟩:TrR m w f (some (spF m f)) l/\trM m f (some (spF m f))<trM m f none:=by
     refine⟨?_,zJ hv hf⟩
     cases hd with
     | inlet h=>exact absurd c h
     | off _ h=>exact absurd h c1
     | run _ h _=>omega
     | lake _ _ h=>exact h
    obtain⟨h,hh⟩:∃h,h=spF m f:=⟨_,rfl⟩
    rw[<- hh]at hd2 hml
    simp[c1,c2,gSl,hf,aD (gS hf),<- hh]
    refine aC (Nat×List Nat×List Nat) (fun s=>[(0,.ptr [.sl xf,.sl xs,.sl xo,slx true xi,x4]),(1,.int .i64 s.1),(5,.ref (.r 10080) 0 s.2.1.length),(6,.int .i64 h),(10080,.blk 1 (nR s.2.1))]) (fun s=>s.1<m.f.length/\TrR m w s.1 (some h) s.2.2/\s.2.1++s.2.2=T/\inl w s.1=-1/\trM m s.1 (some h)<trM m f none) (fun s=>trM m s.1 (some h)) (f,p,l) ⟨hf,hd2,hp,c,hml⟩ (by simp) ?_
    rintro⟨g,p,l⟩ ⟨hf,hd,hp,c,hml⟩
    simp only at hf hd hp c hml
    have hpl:p.length+l.length=T.length:=by rw[<- hp,x0Q]
    simp[gSl,hf,aD (gS hf)]
    by_cases c3:h<=spF m g
    ·simp[c3,gOl,hf,aD (gO hf)]
     by_cases c4:ouF m g=-1
     ·have:l=[]:=hd.uniq (.stay c3 c4)
      subst this
      simp at hp
      simp[c4,hp]
     ·obtain⟨k,hk⟩:∃k:Nat,ouF m g=k:=by
       cases hd with
       | low h _=>omega
       | stay _ h=>exact absurd h c4
       | hit _ h _=>exact⟨_,h⟩
       | out _ h _ _=>exact⟨_,h⟩
      obtain⟨hk2,hk3⟩:=BQ hv hf (show ¬spF m g<h by omega) hk
      by_cases c5:inl w k=-1
      ·obtain⟨l',rfl,hd'⟩:∃l',l=k::l'/\TrR m w k (some h) l':=by
        cases hd with
        | low h _=>omega
        | stay _ h=>exact absurd h c4
        | hit _ h h2 =>
         have:=Int.ofNat.inj (h.symm.trans hk)
         subst this
         exact absurd c5 h2
        | out _ h _ h4 =>
         have:=Int.ofNat.inj (h.symm.trans hk)
         subst this
         exact⟨_,rfl,h4⟩
       have hpl2:p.length<60000000:=by simp at hpl;omega
       simp[c4,hk,gOl,hf,aD (gO hf),tF,gIl,hk2,aD (gI hk2),c5]
       exact⟨by omega,k,p++[k],⟨hk2,l',hd',by rw[<- hp];simp,c5,by omega⟩,by omega,rfl,by simp,rfl⟩
      ·have:l=[k]:=hd.uniq (.hit c3 hk c5)
       subst this
       have hpl2:p.length<60000000:=by simp at hpl;omega
       simp[c4,hk,gOl,hf,aD (gO hf),tF,gIl,hk2,aD (gI hk2),c5]
       rw[<- hp]
       exact⟨by omega,x0z (by simp)⟩
    ·simp[c3]
     have hd':TrR m w g none l:=by
      cases hd with
      | low _ h=>exact h
      | stay h _=>exact absurd h c3
      | hit h _ _=>exact absurd h c3
      | out h _ _ _=>exact absurd h c3
     have:=BP (m:=m) (show spF m g<h by omega)
     exact⟨g,p,⟨hf,l,hd',hp⟩,by omega,rfl,rfl,rfl⟩
   ·obtain⟨k,l',hk,rfl,hd'⟩:∃(k:Nat) (l':List Nat),eX m f=(k:Int)/\l=k::l'/\TrR m w k none l':=by
     cases hd with
     | inlet h=>exact absurd c h
     | off _ h=>exact absurd h c1
     | run _ h h2=>exact⟨_,_,h,rfl,h2⟩
     | lake _ h _=>exact absurd h c2
    obtain⟨hk2,hk3⟩:=BR hv hf hk
    have hpl2:p.length<60000000:=by simp at hpl;omega
    have hk4:¬(k:Int)=-1:=by omega
    have hk5:¬(k:Int)=-2:=by omega
    simp[hk,hk4,hk5,gFl,hf,aD (gF hf),tF]
    exact⟨by omega,k,p++[k],⟨hk2,l',hd',by rw[<- hp];simp⟩,by omega,rfl,by simp,rfl⟩
 ·simp at c
  have:l=[]:=hd.uniq (.inlet c)
  subst this
  simp at hp
  simp[hp]
end Go.Gv

namespace Go.Gv
theorem DQ(m:Msh)(w:List Int)(f:Nat):(nR (f::trF m w f))[(trF m w f).length]? = some [.int .i64 (laF m w f:Nat)]:=by
 have:(f::trF m w f)[(trF m w f).length]? = some (laF m w f):=by
  unfold laF
  rw[List.getLast_eq_getElem,x0e (by simp)]
  simp
 unfold nR inR
 simp only[x0y,this,x1j]
noncomputable def enL(m:Msh)(w:List Int):List Int:=(List.range m.f.length).map (enF m w)
def tzR(f:Nat->Int)(n i:Nat):List (List D):=if i=0 then List.replicate n [.int .i64 0] else tbR f i
theorem Jw(f:Nat->Int)(n:Nat):tzR f n 0=List.replicate n [.int .i64 0]:=rfl
theorem zO(f:Nat->Int)(n i:Nat):List.take i (tzR f n i)=tbR f i:=by
 cases i with
 | zero=>rfl
 | succ i=>exact zD f (i+1)
theorem vf(f:Nat->Int){n i:Nat}(h:i<=n):i<=(tzR f n i).length:=by
 cases i with
 | zero=>omega
 | succ i=>exact Nat.le_of_eq (BO f (i+1)).symm
theorem Jx(f:Nat->Int)(n i:Nat):tbR f (i+1)=tzR f n (i+1):=rfl
@[simp] theorem EM(f:Nat->Int)(n:Nat):List.map (fun e=>List.map bW e) (tbR f n)=tbR f n:=xW _
variable{C:CC}(hC:av prog C)
include hC
set_option maxHeartbeats 1000000 in
theorem IJ(m:Msh)(hv:aw m=true)(w:List Int):C 876 [.ptr (bsC m w)] (.sl (inR (enL m w))) []:=by
 have hsz:=cK hv
 have k:=fun(f:Nat) (hf:f<m.f.length)=>BS hC m hv w f hf
 have gI:∀{f:Nat},f<m.f.length->(inR (mG m w))[f]? = some [.int .i64 (inl w f)]:=fun h=>by rw[fk (by simp[h])];simp[mG,h]
 have gFl:(inR (fw m)).length=m.f.length:=by simp[fw]
 obtain⟨xf,hxf⟩:∃x,x=inR (fw m):=⟨_,rfl⟩
 obtain⟨xs,hxs⟩:∃x,x=inR (bv m).sp:=⟨_,rfl⟩
 obtain⟨xo,hxo⟩:∃x,x=inR (bv m).ou:=⟨_,rfl⟩
 obtain⟨xi,hxi⟩:∃x,x=inR (mG m w):=⟨_,rfl⟩
 have gIl:xi.length=m.f.length:=by rw[hxi];simp
 rw[<- hxi]at gI
 rw[<- hxf]at gFl
 obtain⟨x4,hx4⟩:∃x,x=slx true (inR (twL m)):=⟨_,rfl⟩
 simp only[pQ,<- hxf,<- hxs,<- hxo,<- hxi,<- hx4]at k ⊢
 refine az hC (nf:=N876) rfl rfl ?_
 simp[N876]
 refine⟨by omega,aC Nat (fun i=>[(0,.ptr [.sl xf,.sl xs,.sl xo,slx true xi,x4]),(3,.ref (.r 10048) 0 i),(16,.int .i64 xf.length),(17,.int .i64 i),(10048,.blk 1 (tzR (enF m w) m.f.length i))]) (fun i=>i<=m.f.length) (fun i=>m.f.length-i) 0 (by simp) (by simp[Jw,gFl]) ?_⟩
 intro i hi
 simp
 refine aj (fun h=>?_) (fun h=>?_)<;>simp at h
 ·rw[gFl]at h
  have k2:=k i h
  have bl:=(ox hv w h).2.2
  have bl2:=zK hv i
  have hla:=DR hv w h
  have e1:=DQ m w i
  obtain⟨X,hX⟩:∃X,X=nR (i::trF m w i):=⟨_,rfl⟩
  have hXl:X.length=(trF m w i).length+1:=by rw[hX];simp
  rw[<- hX]at k2 e1
  have hw:IntKind.wrap .i64 (((trF m w i).length:Int))=((trF m w i).length:Int):=ah (by omega) (by omega)
  simp[h,gFl]
  refine aa k2 (.inr rfl) ?_
  simp[hXl,hw,aD e1,gIl,hla,aD (gI hla)]
  have ht:=vf (enF m w) hi
  have hw2:IntKind.wrap .i64 ((i:Int)+1)=((i+1:Nat):Int):=ah (by omega) (by omega)
  refine⟨by omega,by omega,aF (by decide +kernel),i+1,by omega,by omega,rfl,gFl.symm▸rfl,hw2,?_⟩
  rw[zO,<- Jx]
  exact lg _ _
 ·have ei:i=m.f.length:=by omega
  subst ei
  simp[gFl]
  rw[<- List.map_take,zO,EM]
  exact⟨vf _ (by omega),rfl⟩
end Go.Gv

namespace Go.Gv
theorem EU{l:List Int}{d:Int}(h:∀i:Nat,i<l.length->(i:Int)≠d):woW l d=l:=by
 refine x1m (by simp) fun i h1 h2=>?_
 rw[ud h2,if_neg (h i h2)]
theorem vi(l:List Int):woW l (-1)=l:=EU fun i _=>by omega
theorem xQ{m:Msh}{l ks:List Int}(h:gvE m l ks=0):aw m=true/\l.length<=300/\(∀x∈l,inM m x=true)/\(∀k∈ks,eF l.length k=true)/\l.Nodup:=by
 unfold gvE at h
 split at h
 ·omega
 ·split at h
  ·omega
  ·split at h
   ·omega
   ·split at h
    ·omega
    ·split at h
     ·refine⟨by simp_all,by omega,?_,?_,by assumption⟩<;>simp_all
     ·omega
noncomputable def ofV(m:Msh)(l ks:List Int)(w:List Int):D:=if gvE m l ks=0 then .tup [.sl (inR (enL m w)),.int .i64 0] else .tup [.nils,.int .i64 (gvE m l ks)]
variable{C:CC}(hC:av prog C)
include hC
theorem LJ(hW:SlW C)(dec:Nat->List UInt8)(hI:∀n:Nat,n<100->C 127 [.int .i64 n] (.str (dec n)) [])(m:Msh)(hz:ct m=true->m.s.length<=100/\m.f.length<=100)(b:Bool)(l:List Int)(hl:l.length<2^40) :
  C 856 [.agg (b0 m),slx b (inR l)] (ofV m l [] l) []:=by
 have k1:=o8 hC hW dec hI m hz b true l [] hl (by simp)
 obtain⟨R,hR⟩:∃R,R=ofV m l [] l:=⟨_,rfl⟩
 rw[<- hR]
 unfold ofV at hR
 obtain⟨E,hE⟩:∃E,E=gvE m l []:=⟨_,rfl⟩
 rw[<- hE]at hR k1
 refine az hC (nf:=N856) rfl rfl ?_
 simp only[af]at k1
 simp at k1
 simp[N856,af]
 refine aa k1 (.inl rfl) ?_
 by_cases e:E=0
 ·rw[if_pos e]at hR
  rw[e]at hE
  obtain⟨hv,h1,h2,_,h3⟩:=xQ hE.symm
  have k2:=rW hC dec hI m hz hv b l h1 h2 h3 (-1)
  rw[vi]at k2
  have k3:=IJ hC m hv l
  simp only[pQ]at k3
  simp only[af]at k2
  simp[e]
  refine aa k2 (.inr rfl) ?_
  simp
  refine aa k3 (.inr rfl) ?_
  simp[hR]
 ·rw[if_neg e]at hR
  simp[e,hR]
end Go.Gv

namespace Go.Gv
noncomputable def arF(m:Msh)(w:List Int)(n:Nat)(k:Int):Int:=dE (fun f=>if enF m w f=k then twF m f else 0) n
theorem iT(m:Msh)(w:List Int)(n:Nat)(k:Int):arF m w (n+1) k=arF m w n k+if enF m w n=k then twF m n else 0:=rfl
theorem iU{m:Msh}(hv:aw m=true)(w:List Int)(k:Int):∀{n:Nat},n<=m.f.length->0<=arF m w n k/\arF m w n k<=n*2251799813685248
 | 0,_=>by simp[arF,dE]
 | n+1,h=>by
  have ih:=iU hv w k (n:=n) (by omega)
  have:=jj hv (i:=n) (by omega)
  rw[iT]
  split<;>omega
noncomputable def arL(m:Msh)(l:List Int):List Int:=(List.range l.length).map fun(k:Nat)=>arF m l m.f.length k
noncomputable def suV(m:Msh)(l:List Int):D:=if gvE m l []=0 then .tup [.sl (inR (arL m l)),.int .i64 (arF m l m.f.length (-1)),.int .i64 0] else .tup [.nils,.int .i64 0,.int .i64 (gvE m l [])]
theorem lA(m:Msh)(w:List Int)(f:Nat):-1<=enF m w f/\enF m w f<w.length:=DC _ _
variable{C:CC}(hC:av prog C)
include hC
set_option maxHeartbeats 1000000 in
theorem zB(hW:SlW C)(dec:Nat->List UInt8)(hI:∀n:Nat,n<100->C 127 [.int .i64 n] (.str (dec n)) [])(m:Msh)(hz:ct m=true->m.s.length<=100/\m.f.length<=100)(b:Bool)(l:List Int)(hl:l.length<2^40) :
  C 880 [.agg (b0 m),slx b (inR l)] (suV m l) []:=by
 have k1:=o8 hC hW dec hI m hz b true l [] hl (by simp)
 obtain⟨R,hR⟩:∃R,R=suV m l:=⟨_,rfl⟩
 rw[<- hR]
 unfold suV at hR
 obtain⟨E,hE⟩:∃E,E=gvE m l []:=⟨_,rfl⟩
 rw[<- hE]at hR k1
 refine az hC (nf:=N880) rfl rfl ?_
 simp only[af]at k1
 simp at k1
 simp[N880,af]
 refine aa k1 (.inl rfl) ?_
 by_cases e:E=0
 ·rw[if_pos e]at hR
  rw[e]at hE
  obtain⟨hv,h1,h2,_,h3⟩:=xQ hE.symm
  have hsz:=cK hv
  have k2:=rW hC dec hI m hz hv b l h1 h2 h3 (-1)
  rw[vi]at k2
  have k3:=IJ hC m hv l
  simp only[pQ]at k3
  simp only[af]at k2
  obtain⟨xf,hxf⟩:∃x,x=D.sl (inR (fw m)):=⟨_,rfl⟩
  obtain⟨xs,hxs⟩:∃x,x=D.sl (inR (bv m).sp):=⟨_,rfl⟩
  obtain⟨xo,hxo⟩:∃x,x=D.sl (inR (bv m).ou):=⟨_,rfl⟩
  obtain⟨xi,hxi⟩:∃x,x=slx true (inR (mG m l)):=⟨_,rfl⟩
  obtain⟨x4,hx4⟩:∃x,x=inR (twL m):=⟨_,rfl⟩
  have g4l:x4.length=m.f.length:=by rw[hx4];simp
  have g4:∀{f:Nat},f<m.f.length->x4[f]? = some [.int .i64 (twF m f)]:=fun h=>by rw[hx4,fk (by simp[h])];simp[twL,h]
  obtain⟨xe,hxe⟩:∃x,x=inR (enL m l):=⟨_,rfl⟩
  have gel:xe.length=m.f.length:=by rw[hxe];simp[enL]
  have ge:∀{f:Nat},f<m.f.length->xe[f]? = some [.int .i64 (enF m l f)]:=fun h=>by rw[hxe,fk (by simp[enL,h])];simp[enL,h]
  rw[<- hxf,<- hxs,<- hxo,<- hxi,<- hx4]at k2 k3
  rw[<- hxe]at k3
  simp[e]
  refine aa k2 (.inr rfl) ?_
  simp
  refine⟨by omega,aa k3 (.inr rfl) ?_⟩
  have e0:List.replicate l.length [D.int .i64 0]=tbR (fun(k:Nat)=>arF m l 0 k) l.length:=by
   rw[ji]
   exact(List.eq_replicate_iff.2 ⟨by simp,fun b hb=>by obtain⟨j,_,rfl⟩:=x0p.1 hb;rfl⟩).symm
  simp
  refine aC Nat (fun i=>[(4,.ref (.r 10064) 0 l.length),(5,.int .i64 (arF m l i (-1))),(8,.ptr [xf,xs,xo,xi,slx true x4]),(30,.sl xe),(31,.int .i64 xe.length),(32,.int .i64 i),(10064,.blk 1 (tbR (fun(k:Nat)=>arF m l i k) l.length))]) (fun i=>i<=m.f.length) (fun i=>m.f.length-i) 0 (by simp) (by simp[e0];rfl) ?_
  intro i hi
  simp
  refine aj (fun h=>?_) (fun h=>?_)<;>simp at h
  ·rw[gel]at h
   have hw:IntKind.wrap .i64 ((i:Int)+1)=((i+1:Nat):Int):=ah (by omega) (by omega)
   obtain⟨q1,q2⟩:=lA m l i
   have tb:=jj hv h
   simp[gel,h,aD (ge h)]
   by_cases c:enF m l i=-1
   ·have b1:=iU hv l (-1) hi
    have a1:arF m l (i+1) (-1)=arF m l i (-1)+twF m i:=by rw[iT,if_pos c]
    have w1:IntKind.wrap .i64 (arF m l i (-1)+twF m i)=arF m l (i+1) (-1):=ah a1.symm (by omega)
    have a2:tbR (fun(k:Nat)=>arF m l (i+1) k) l.length=tbR (fun(k:Nat)=>arF m l i k) l.length:=by
     simp only[ji]
     refine x0m fun j _=>?_
     rw[iT,if_neg (by omega),Int.add_zero]
    simp[c,g4l,h,aD (g4 h),w1]
    exact⟨i+1,by omega,by omega,rfl,by omega,hw,a2.symm⟩
   ·obtain⟨k,hk⟩:∃k:Nat,enF m l i=k:=⟨(enF m l i).toNat,by omega⟩
    have hk2:k<l.length:=by omega
    have b1:=iU hv l k hi
    have a1:arF m l (i+1) k=arF m l i k+twF m i:=by rw[iT,if_pos hk]
    have w1:IntKind.wrap .i64 (arF m l i k+twF m i)=arF m l (i+1) k:=ah a1.symm (by omega)
    have a2:(tbR (fun(k:Nat)=>arF m l i k) l.length).set k [.int .i64 (arF m l (i+1) k)]=tbR (fun(k:Nat)=>arF m l (i+1) k) l.length:=by
     refine ve rfl fun j hj=>?_
     rw[iT,if_neg (by omega),Int.add_zero]
    have a3:arF m l i (-1)=arF m l (i+1) (-1):=by rw[iT,if_neg (by omega),Int.add_zero]
    have ga:(tbR (fun(k:Nat)=>arF m l i k) l.length)[k]? = some [.int .i64 (arF m l i k)]:=by simp[ji,hk2]
    have ga':(tbR (fun(k:Nat)=>arF m l i k) l.length)[k]'(by simpa using hk2)=[.int .i64 (arF m l i k)]:=by simp[ji]
    simp[c,hk,hk2,g4l,h,aD (g4 h),cx ga,aD ga,ga,ga',w1]
    exact⟨aF (by decide +kernel),i+1,by omega,by omega,a3,by omega,hw,a2⟩
  ·have ei:i=m.f.length:=by omega
   subst ei
   simp[gel]
   exact hR
 ·rw[if_neg e]at hR
  simp[e,hR]
end Go.Gv

namespace Go.Gv
def crX(m:Msh)(n j:Nat):Int:=(spt m (crn (fce m n) j).toNat).x
def crY(m:Msh)(n j:Nat):Int:=(spt m (crn (fce m n) j).toNat).y
def p3N(m:Msh)(n:Nat):Nat->Pnt
 | 0=>(0,0)
 | j+1=>((p3N m n j).1+crX m n j,(p3N m n j).2+crY m n j)
noncomputable def wtN(m:Msh)(g:List Ggt)(w:List Int)(k:Int):Nat->List Int
 | 0=>List.replicate g.length 0
 | n+1=>if enF m w n=k then(wtN m g w k n).set (nrN g (p3N m n 3) 3 g.length) ((wtN m g w k n)[nrN g (p3N m n 3) 3 g.length]!+twF m n) else wtN m g w k n
@[simp] theorem vj(m:Msh)(g:List Ggt)(w:List Int)(k:Int):∀n,(wtN m g w k n).length=g.length
 | 0=>by simp[wtN]
 | n+1=>by rw[wtN];split<;>simp[vj m g w k n]
theorem vc:∀{l:List Int} {i:Nat} {x:Int},i<l.length->(l.set i (l[i]!+x)).sum=l.sum+x
 | [],i,x,h=>by simp at h
 | a::l,0,x,h=>by simp;omega
 | a::l,i+1,x,h=>by
  have:=vc (l:=l) (i:=i) (x:=x) (by simpa using h)
  simp only[List.set_cons_succ,x06,List.getElem!_cons_succ]
  omega
theorem mY{m:Msh}{g:List Ggt}(h0:0<g.length)(w:List Int)(k:Int):∀n,(wtN m g w k n).sum=arF m w n k
 | 0=>by simp[wtN,arF,dE]
 | n+1=>by
  have hj:=nS (l:=g) (p:=p3N m n 3) (f:=3) (x0k _) h0
  rw[wtN,iT]
  split
  ·rw[vc (by simp[hj]),mY h0 w k n]
  ·rw[mY h0 w k n];omega
theorem qW{m:Msh}(hv:aw m=true){g:List Ggt}(h0:0<g.length)(w:List Int)(k:Int):∀{n:Nat},n<=m.f.length->∀x∈wtN m g w k n,0<=x
 | 0,_,x,hx=>by
  rw[wtN]at hx
  obtain⟨_,rfl⟩:=List.mem_replicate.1 hx
  omega
 | n+1,hn,x,hx=>by
  have ih:=qW hv h0 w k (n:=n) (by omega)
  have hj:=nS (l:=g) (p:=p3N m n 3) (f:=3) (x0k _) h0
  rw[wtN]at hx
  split at hx
  ·rcases List.mem_or_eq_of_mem_set hx with h|h
   ·exact ih x h
   ·have h1:nrN g (p3N m n 3) 3 g.length<(wtN m g w k n).length:=by simp[hj]
    have h2:=ih _ (x0u h1)
    rw[<- x0K (wtN m g w k n) _ h1]at h2
    have h3:=(jj hv (show n<m.f.length by omega)).1
    omega
  ·exact ih x hx
end Go.Gv

namespace Go.Gv
theorem yu(m:Msh)(n j:Nat):p3N m n (j+1)=((p3N m n j).1+crX m n j,(p3N m n j).2+crY m n j):=rfl
variable{C:CC}(hC:av prog C)
include hC
theorem GU(i:Int):C 902 [.int .i64 i] (.bool (decide (i < -1)||decide (300<=i))) []:=by
 refine az hC (nf:=N902) rfl rfl ?_
 simp[N902]
 refine aj (fun h=>?_) (fun h=>?_)<;>simp at h<;>simp[h]
 intro _
 omega
set_option maxHeartbeats 4000000 in
theorem vn(dec:Nat->List UInt8)(hI:∀n:Nat,n<100->C 127 [.int .i64 n] (.str (dec n)) [])(m:Msh)(hz:ct m=true->m.s.length<=100/\m.f.length<=100)(hv:aw m=true)(hm:m.f.length<=100)(w:List Int)(hw:w.length<300)(b:Bool)(g:List Ggt)(hg:g.length<2^40)(k:Nat)(hk:k<300) :
  C 891 [.agg (b0 m),.sl (inR (enL m w)),slx b (g.map ggC),.int .i64 k] (if arV g then .tup [.sl (inR (wtN m g w k m.f.length)),.int .i64 0] else .tup [.nils,.int .i64 1]) []:=by
 have k1:=gU hC dec hI m hz
 rw[hv]at k1
 have k2:=oP hC b g hg
 have k3:=fP hC (b:=false) (xs:=enL m w) (g:=902) (cs:=[]) (fun i=>decide (i < -1)||decide (300<=i)) (by simp[enL];omega) (fun x _=>GU hC x)
 have e3:((enL m w).any fun i=>decide (i < -1)||decide (300<=i))=false:=by
  rw[x1h]
  intro x hx
  obtain⟨f,_,rfl⟩:=x0p.1 hx
  have:=lA m w f
  simp
  omega
 rw[e3,bx]at k3
 obtain⟨xe,hxe⟩:∃x,x=inR (enL m w):=⟨_,rfl⟩
 have gel:xe.length=m.f.length:=by rw[hxe];simp[enL]
 have ge:∀{f:Nat},f<m.f.length->xe[f]? = some [.int .i64 (enF m w f)]:=fun h=>by rw[hxe,fk (by simp[enL,h])];simp[enL,h]
 have k3':C 11 [.sl xe,.fn 902 []] (.bool false) []:=by rw[hxe];exact k3
 rw[<- hxe]
 clear hxe k3
 simp only[af]at k1
 refine az hC (nf:=N891) rfl rfl ?_
 simp[N891,af]
 refine aa k1 (.inl rfl) ?_
 simp
 refine aa k2 (.inl rfl) ?_
 cases hv2:arV g
 ·simp
 simp[gel]
 have c0:¬(k:Int)<0:=by omega
 have c1:¬(300:Int)<=k:=by omega
 have hg1:1<=g.length/\g.length<=100:=by
  simp only[arV,x0a,x0b]at hv2
  exact hv2.1
 simp[c0,c1]
 refine aa k3' (.inr rfl) ?_
 simp
 refine⟨by omega,?_⟩
 refine aC Nat (fun i=>[(1,.sl xe),(2,slx b (g.map ggC)),(3,.int .i64 k),(4,.ptr (b0 m)),(10,.ref (.r 10160) 0 g.length),(49,slx m.fn (m.f.map cu)),(50,.int .i64 m.f.length),(51,.int .i64 i),(10160,.blk 1 (inR (wtN m g w k i)))]) (fun i=>i<=m.f.length) (fun i=>m.f.length-i) 0 (by simp) (by simp[af,wtN,inR]) ?_
 intro i hi
 simp[af]
 refine aj (fun h=>?_) (fun h=>?_)<;>simp at h
 ·have hw:IntKind.wrap .i64 ((i:Int)+1)=((i+1:Nat):Int):=ah (by omega) (by omega)
  simp[h,aP,aD (ge h)]
  by_cases hk2:enF m w i=k
  ·have k4:=uk hC dec hI m hz hv i h
   simp only[af]at k4
   simp[hk2]
   refine aa k4 (.inl rfl) ?_
   simp
   obtain⟨⟨a1,a2⟩,⟨b1,b2⟩,⟨d1,d2⟩⟩:=lJ (fY hv h)
   have ht:=lj hv h
   unfold okT at ht
   simp only[x0a]at ht
   have o1:=dD ht.1.1
   have o2:=dD ht.1.2
   have o3:=dD ht.2
   simp only[aS,ptS]at o1 o2 o3
   have q0:p3N m i 1=((spt m (fce m i).a.toNat).x,(spt m (fce m i).a.toNat).y):=by simp[p3N,crX,crY,crn]
   have q1:p3N m i 2=((spt m (fce m i).a.toNat).x+(spt m (fce m i).b.toNat).x,(spt m (fce m i).a.toNat).y+(spt m (fce m i).b.toNat).y):=by rw[yu,q0];simp[crX,crY,crn]
   have q2:p3N m i 3=((spt m (fce m i).a.toNat).x+(spt m (fce m i).b.toNat).x+(spt m (fce m i).c.toNat).x,(spt m (fce m i).a.toNat).y+(spt m (fce m i).b.toNat).y+(spt m (fce m i).c.toNat).y):=by rw[yu,q1];simp[crX,crY,crn]
   have w1:∀{x y:Int},-67108864<=x+y->x+y<=67108864->IntKind.wrap .i64 (x+y)=x+y:=fun{x y} _ _=>ah rfl (by omega)
   refine aC Nat (fun j=>[(1,.sl xe),(2,slx b (g.map ggC)),(3,.int .i64 k),(4,.ptr (b0 m)),(10,.ref (.r 10160) 0 g.length),(13,.int .i64 (twF m i)),(15,.adr (.r 10240) 0 0),(49,slx m.fn (m.f.map cu)),(50,.int .i64 m.f.length),(51,.int .i64 i),(77,.ref (.r 11232) 0 3),(78,.int .i64 3),(79,.int .i64 j),(10160,.blk 1 (inR (wtN m g w k i))),(10240,.blk 2 [[.int .i64 (p3N m i j).1,.int .i64 (p3N m i j).2]]),(11232,.blk 1 [[.int .i64 (fce m i).a],[.int .i64 (fce m i).b],[.int .i64 (fce m i).c]])]) (fun j=>j<=3) (fun j=>3-j) 0 (by simp) (by simp[af,p3N]) ?_
   intro j hj
   rcases(by omega:j=0\/j=1\/j=2\/j=3)with rfl|rfl|rfl|rfl
   ·simp[af,p3N,a1,a2,gm]
    refine⟨aF (by decide +kernel),1,by omega,by omega,rfl,?_,?_⟩
    ·rw[q0];exact ah rfl (by omega)
    ·rw[q0];exact ah rfl (by omega)
   ·simp[af,q0,b1,b2,gm]
    refine⟨aF (by decide +kernel),2,by omega,by omega,rfl,?_,?_⟩
    ·rw[q1];exact w1 (by omega) (by omega)
    ·rw[q1];exact w1 (by omega) (by omega)
   ·simp[af,q1,d1,d2,gm]
    refine⟨aF (by decide +kernel),3,by omega,by omega,rfl,?_,?_⟩
    ·rw[q2];exact w1 (by omega) (by omega)
    ·rw[q2];exact w1 (by omega) (by omega)
   ·have k5:=vW hC b g hg (by omega) (p3N m i 3) 3
    have hb:=nS (l:=g) (p:=p3N m i 3) (f:=3) (x0k _) (by omega)
    have ew:wtN m g w k (i+1)=(wtN m g w k i).set (nrN g (p3N m i 3) 3 g.length) ((wtN m g w k i)[nrN g (p3N m i 3) 3 g.length]!+twF m i):=by rw[wtN,if_pos hk2]
    simp only[ptD]at k5
    simp[af]
    refine aa k5 (.inl rfl) ?_
    generalize nrN g (p3N m i 3) 3 g.length=z at hb ew ⊢
    have gz:(inR (wtN m g w k i))[z]? = some [.int .i64 ((wtN m g w k i)[z]!)]:=by
     rw[fk (by simp[hb])]
     simp[x1w,List.getElem!_eq_getElem?_getD,hb]
    have bz:=iU hv w k (n:=i) hi
    have bs:=mY (m:=m) (g:=g) (by omega) w k i
    have bn:=qW hv (g:=g) (by omega) w k (n:=i) hi
    have bt:=jj hv h
    have hx:(wtN m g w k i)[z]!<=arF m w i k/\0<=(wtN m g w k i)[z]!:=by
     have hz2:z<(wtN m g w k i).length:=by simp[hb]
     rw[x0K (wtN m g w k i) z hz2,<- bs]
     refine⟨?_,bn _ (x0u hz2)⟩
     have key:∀(l:List Int) (x:Int),(∀y∈l,0<=y)->x∈l->x<=l.sum/\0<=l.sum:=by
      intro l
      induction l with
      | nil=>intro x _ hx;cases hx
      | cons a l ih =>
       intro x hy hx
       have h1:=hy a (by simp)
       have h2:0<=l.sum:=by
        cases l with
        | nil=>simp
        | cons c l=>exact(ih c (fun y hy'=>hy y (by simp[hy'])) (by simp)).2
       rw[x06]
       rcases x0B.1 hx with rfl|hx
       ·omega
       ·have:=(ih x (fun y hy'=>hy y (by simp[hy'])) hx).1;omega
     exact(key _ _ bn (x0u hz2)).1
    have wz:IntKind.wrap .i64 ((wtN m g w k i)[z]!+twF m i)=(wtN m g w k i)[z]!+twF m i:=ah rfl (by omega)
    simp[hb]
    refine kW gz ?_ ?_
    ·simp
    have hz2:z<(wtN m g w k i).length:=by simp[hb]
    have gz2:∀h,(inR (wtN m g w k i))[z]'h=[.int .i64 ((wtN m g w k i)[z]!)]:=fun h=>by
     have:=gz
     rw[x0e h]at this
     exact Option.some.inj this
    have e4:(wtN m g w k i)[z]! =(wtN m g w k i)[z]:=x0K _ z hz2
    simp[hb]
    refine⟨by rw[gz2];simp,i+1,by omega,by omega,by rw[af],hw,?_⟩
    rw[gz2,ew,<- uK,<- e4,wz]
    rfl
  ·simp[hk2,hw]
   refine⟨i+1,by omega,by omega,by rw[af],rfl,?_⟩
   rw[wtN,if_neg hk2]
 ·have e:i=m.f.length:=by omega
  subst e
  simp
  rw[x0z (by simp[inR])]
end Go.Gv

namespace Go.Gv.Pack
abbrev P2:=Int×Int
def tw(p q r:P2):Int:=(q.1-p.1)*(r.2-p.2)-(q.2-p.2)*(r.1-p.1)
def sd(p q:P2)(x k:Int):Int:=(q.1-p.1)*(2*k+1-2*p.2)-2*(q.2-p.2)*(x-p.1)
def ins(a b c:P2)(x k:Int):Bool:=decide (0<sd a b x k)&&decide (0<sd b c x k)&&decide (0<sd c a x k)
def up(p q:P2)(k:Int):Int:=p.1-((p.1-q.1)*(2*k+1-2*p.2))/(2*(q.2-p.2))
theorem mW{p q:P2}{k:Int}(h:p.2<q.2):∃r,0<=r/\r<2*(q.2-p.2)/\2*(q.2-p.2)*(up p q k-p.1)=(q.1-p.1)*(2*k+1-2*p.2)+r:=by
 have hd:0<2*(q.2-p.2):=by omega
 refine⟨((p.1-q.1)*(2*k+1-2*p.2))%(2*(q.2-p.2)),Int.emod_nonneg _ (by omega),Int.emod_lt_of_pos _ hd,?_⟩
 have h1:=Int.mul_ediv_add_emod ((p.1-q.1)*(2*k+1-2*p.2)) (2*(q.2-p.2))
 have h2:up p q k-p.1=-(((p.1-q.1)*(2*k+1-2*p.2))/(2*(q.2-p.2))):=by unfold up;omega
 rw[h2,Int.mul_neg]
 have h3:(q.1-p.1)*(2*k+1-2*p.2)=-((p.1-q.1)*(2*k+1-2*p.2)):=by rw[<- Int.neg_mul];congr 1;omega
 rw[h3]
 omega
theorem CL{p q:P2}{x k:Int}(h:p.2<q.2)(hx:x<=up p q k-1):0<sd p q x k:=by
 obtain⟨r,h0,h1,h2⟩:=mW (k:=k) h
 unfold sd
 have h3:2*(q.2-p.2)*(x-p.1)<=2*(q.2-p.2)*(up p q k-p.1-1):=Int.mul_le_mul_of_nonneg_left (by omega) (by omega)
 have h4:2*(q.2-p.2)*(up p q k-p.1-1)=2*(q.2-p.2)*(up p q k-p.1)-2*(q.2-p.2):=by rw[Int.mul_sub,Int.mul_one]
 omega
theorem CK{p q:P2}{x k:Int}(h:q.2<p.2)(hx:up q p k+1<=x):0<sd p q x k:=by
 obtain⟨r,h0,h1,h2⟩:=mW (k:=k) h
 have e:sd p q x k=2*(p.2-q.2)*(x-q.1)-(p.1-q.1)*(2*k+1-2*q.2):=by unfold sd;grind
 rw[e]
 have h3:2*(p.2-q.2)*(up q p k-q.1+1)<=2*(p.2-q.2)*(x-q.1):=Int.mul_le_mul_of_nonneg_left (by omega) (by omega)
 rw[Int.mul_add,Int.mul_one]at h3
 omega
theorem vg{p q:P2}{k M:Int}(h:p.2<q.2)(hk:p.2<=k)(hk2:k<q.2)(hp:-M<=p.1/\p.1<=M)(hq:-M<=q.1/\q.1<=M):-M<=up p q k/\up p q k<=M:=by
 obtain⟨r,h0,h1,h2⟩:=mW (k:=k) h
 have hd:0<2*(q.2-p.2):=by omega
 obtain⟨w,hw⟩:∃w,w=q.1-p.1:=⟨_,rfl⟩
 obtain⟨n,hn⟩:∃n,n=2*k+1-2*p.2:=⟨_,rfl⟩
 obtain⟨d,hdd⟩:∃d,d=2*(q.2-p.2):=⟨_,rfl⟩
 obtain⟨u,hu⟩:∃u,u=up p q k-p.1:=⟨_,rfl⟩
 rw[<- hw,<- hn,<- hdd,<- hu]at h2
 rw[<- hdd]at h1 hd
 have hn0:0<n:=by omega
 have hnd:n<d:=by omega
 have lt:∀c:Int,d*u<d*c->u<c:=fun c hc=>Int.lt_of_mul_lt_mul_left hc (by omega)
 have gt:∀c:Int,d*c<d*u->c<u:=fun c hc=>Int.lt_of_mul_lt_mul_left hc (by omega)
 have e1:d*(w+1)=d*w+d:=by rw[Int.mul_add,Int.mul_one]
 have e2:d*(w-1)=d*w-d:=by rw[Int.mul_sub,Int.mul_one]
 have e3:d*w=w*d:=x1L _ _
 rcases Int.lt_or_le w 0 with hw0|hw0
 ·have h3:w*n<=0:=Int.mul_nonpos_of_nonpos_of_nonneg (by omega) (by omega)
  have h4:w*d<=w*n:=Int.mul_le_mul_of_nonpos_left (by omega) (by omega)
  have h5:=lt 1 (by rw[Int.mul_one];omega)
  have h6:=gt (w-1) (by omega)
  omega
 ·have h3:0<=w*n:=x1x hw0 (by omega)
  have h4:w*n<=w*d:=Int.mul_le_mul_of_nonneg_left (by omega) hw0
  have h5:=lt (w+1) (by omega)
  have h6:=gt (-1) (by rw[Int.mul_neg,Int.mul_one];omega)
  omega
theorem sA{a b c:P2}{x k:Int}(h1:0<sd a b x k)(h2:0<sd b c x k)(h:(a.2<=k/\c.2<=k/\k<b.2)\/(k<a.2/\k<c.2/\b.2<=k)):0<sd c a x k:=by
 have e:sd a b x k*(2*c.2-(2*k+1))+sd b c x k*(2*a.2-(2*k+1))+sd c a x k*(2*b.2-(2*k+1))=0:=by unfold sd;grind
 rcases h with ⟨g1,g2,g3⟩|⟨g1,g2,g3⟩
 ·have h3:0<sd a b x k*((2*k+1)-2*c.2):=Int.mul_pos h1 (by omega)
  have h4:0<sd b c x k*((2*k+1)-2*a.2):=Int.mul_pos h2 (by omega)
  have h5:0<sd c a x k*(2*b.2-(2*k+1)):=by
   have e3:sd a b x k*((2*k+1)-2*c.2)=-(sd a b x k*(2*c.2-(2*k+1))):=by rw[<- Int.mul_neg];congr 1;omega
   have e4:sd b c x k*((2*k+1)-2*a.2)=-(sd b c x k*(2*a.2-(2*k+1))):=by rw[<- Int.mul_neg];congr 1;omega
   omega
  exact Int.pos_of_mul_pos_left h5 (by omega)
 ·have h3:0<sd a b x k*(2*c.2-(2*k+1)):=Int.mul_pos h1 (by omega)
  have h4:0<sd b c x k*(2*a.2-(2*k+1)):=Int.mul_pos h2 (by omega)
  have h5:0<sd c a x k*((2*k+1)-2*b.2):=by
   have e3:sd c a x k*((2*k+1)-2*b.2)=-(sd c a x k*(2*b.2-(2*k+1))):=by rw[<- Int.mul_neg];congr 1;omega
   omega
  exact Int.pos_of_mul_pos_left h5 (by omega)
theorem zN(a b c:P2):tw a b c=(a.1+b.1)*(b.2-a.2)+(b.1+c.1)*(c.2-b.2)+(c.1+a.1)*(a.2-c.2):=by unfold tw;grind
theorem sd_apart{a b c p q:P2}(h:0<tw a b c)(ha:tw p q a<=0)(hb:tw p q b<=0)(hc:tw p q c<=0){x k:Int}(hi:ins a b c x k=true):sd p q x k<=0:=by
 simp only[ins,x0a,x0b]at hi
 obtain⟨⟨h1,h2⟩,h3⟩:=hi
 have e:tw a b c*sd p q x k=sd b c x k*tw p q a+sd c a x k*tw p q b+sd a b x k*tw p q c:=by unfold sd tw;grind
 have g1:sd b c x k*tw p q a<=0:=Int.mul_nonpos_of_nonneg_of_nonpos (by omega) ha
 have g2:sd c a x k*tw p q b<=0:=Int.mul_nonpos_of_nonneg_of_nonpos (by omega) hb
 have g3:sd a b x k*tw p q c<=0:=Int.mul_nonpos_of_nonneg_of_nonpos (by omega) hc
 rcases Int.lt_or_le 0 (sd p q x k)with hlt|hle
 ·have:=Int.mul_pos h hlt
  omega
 ·exact hle
end Go.Gv.Pack

namespace Go.Gv.Pack
def b8:Nat->(Nat->Int)->Int
 | 0,_=>0
 | n+1,f=>b8 n f+f n
theorem mS:∀{n:Nat} {f g:Nat->Int},(∀i,i<n->f i<=g i)->b8 n f<=b8 n g
 | 0,_,_,_=>x1K _
 | n+1,f,g,h=>by
  have h1:=mS (n:=n) (f:=f) (g:=g) (fun i hi=>h i (by omega))
  have h2:=h n (by omega)
  simp only[b8];omega
theorem ib:∀(n:Nat) (f g:Nat->Int),b8 n (fun i=>f i+g i)=b8 n f+b8 n g
 | 0,_,_=>rfl
 | n+1,f,g=>by simp only[b8,ib n f g];omega
theorem iG(c:Int):∀n:Nat,b8 n (fun _=>c)=n*c
 | 0=>by simp[b8]
 | n+1=>by
  rw[b8,iG c n]
  have:((n+1:Nat):Int)*c=n*c+c:=by rw[Int.natCast_add,Int.add_mul];simp
  omega
theorem ic{n:Nat}{f:Nat->Int}(h:∀i,i<n->f i=0):b8 n f=0:=by
 induction n with
 | zero=>rfl
 | succ n ih=>rw[b8,ih (fun i hi=>h i (by omega)),h n (by omega)];rfl
theorem BN{n:Nat}{f g:Nat->Int}(h:∀i,i<n->f i=g i):b8 n f=b8 n g:=by
 induction n with
 | zero=>rfl
 | succ n ih=>rw[b8,b8,ih (fun i hi=>h i (by omega)),h n (by omega)]
theorem j0(f:Nat->Int)(a:Nat):∀b:Nat,b8 (a+b) f=b8 a f+b8 b (fun i=>f (a+i))
 | 0=>by simp[b8]
 | b+1=>by rw[<- x0T,b8,j0 f a b,b8];omega
theorem pG{α:Type}(l:List α)(f:α->Nat->Int):∀n:Nat,(l.map fun x=>b8 n (f x)).sum=b8 n (fun i=>(l.map fun x=>f x i).sum):=by
 intro n
 induction l with
 | nil=>simp only[x0I,List.sum_nil];exact(ic fun _ _=>rfl).symm
 | cons x l ih=>simp only[x0t,x06];rw[ib,ih]
theorem jZ{P:Nat->Bool}{lo hi:Int}(h0:0<=lo):∀n:Nat,(∀i:Nat,i<n->lo<=i->i<=hi->P i=true)->0<=b8 n (fun i=>if P i then 1 else 0)/\(hi<n->hi-lo+1<=b8 n (fun i=>if P i then 1 else 0))/\((n:Int)<=hi+1->n-lo<=b8 n (fun i=>if P i then 1 else 0))
 | 0,_=>⟨x1K _,fun h=>by simp only[b8];omega,fun h=>by simp only[b8];omega⟩
 | n+1,h=>by
  obtain⟨h1,h2,h3⟩:=jZ h0 n (fun i hi=>h i (by omega))
  simp only[b8]
  by_cases hp:P n=true
  ·simp only[hp,if_true]
   refine⟨by omega,fun h4=>?_,fun h4=>?_⟩
   ·by_cases h5:hi<n
    ·have:=h2 h5;omega
    ·have:=h3 (by omega);omega
   ·have:=h3 (by omega);omega
  ·have hp':P n=false:=by simpa using hp
   simp only[hp',x0j,if_false]
   refine⟨by omega,fun h4=>?_,fun h4=>?_⟩
   ·by_cases h5:hi<n
    ·have:=h2 h5;omega
    ·have h6:=h3 (by omega)
     by_cases h7:lo<=n
     ·exact absurd (h n (by omega) h7 (by omega)) hp
     ·omega
   ·by_cases h7:lo<=n
    ·exact absurd (h n (by omega) h7 (by omega)) hp
    ·omega
def cnt(N:Nat)(a b c:P2)(k:Int):Int:=b8 (2*N+1) (fun i=>if ins a b c (i-N) k then 1 else 0)
def rr(p q:P2)(k:Int):Int:=if p.2<=k/\k<q.2 then up p q k else if q.2<=k/\k<p.2 then -up q p k else 0
theorem AK(a b c:P2)(x k:Int):ins a b c x k=ins b c a x k:=by
 unfold ins
 cases decide (0<sd a b x k)<;>cases decide (0<sd b c x k)<;>cases decide (0<sd c a x k)<;>rfl
theorem ut(N:Nat)(a b c:P2)(k:Int):cnt N a b c k=cnt N b c a k:=by
 unfold cnt
 simp only[AK a b c]
def ix(N:Nat)(p:P2):Prop:=-(N:Int)<=p.1/\p.1<=N/\-(N:Int)<=p.2/\p.2<=N
theorem Df(N:Nat)(a b c:P2)(k:Int):0<=cnt N a b c k:=(jZ (P:=fun i=>ins a b c (i-N) k) (lo:=0) (hi:=-1) (x1K _) (2*N+1) (fun i _ h1 h2=>by omega)).1
theorem xa{N:Nat}{a b c:P2}{k l r:Int}(h:∀x,l+1<=x->x<=r-1->ins a b c x k=true)(hl:-(N:Int)<=l)(hr:r<=N):r-l-1<=cnt N a b c k:=by
 have:=(jZ (P:=fun i=>ins a b c (i-N) k) (lo:=l+1+N) (hi:=r-1+N) (by omega) (2*N+1) (fun i _ h1 h2=>h _ (by omega) (by omega))).2.1 (by omega)
 unfold cnt
 omega
theorem tR{N:Nat}{a b c:P2}{k:Int}(ha:ix N a)(hb:ix N b)(hc:ix N c)(h1:a.2<=k)(h2:c.2<=k)(h3:k<b.2):rr a b k+rr b c k+rr c a k<=cnt N a b c k+1:=by
 have e1:rr a b k=up a b k:=if_pos ⟨h1,h3⟩
 have e2:rr b c k=-up c b k:=by unfold rr;rw[if_neg (by omega),if_pos ⟨h2,h3⟩]
 have e3:rr c a k=0:=by unfold rr;rw[if_neg (by omega),if_neg (by omega)]
 have b1:=vg (p:=a) (q:=b) (k:=k) (M:=N) (by omega) h1 h3 ⟨ha.1,ha.2.1⟩ ⟨hb.1,hb.2.1⟩
 have b2:=vg (p:=c) (q:=b) (k:=k) (M:=N) (by omega) h2 h3 ⟨hc.1,hc.2.1⟩ ⟨hb.1,hb.2.1⟩
 have:=xa (N:=N) (a:=a) (b:=b) (c:=c) (k:=k) (l:=up c b k) (r:=up a b k) (fun x g1 g2=>by
  have s1:0<sd a b x k:=CL (by omega) g2
  have s2:0<sd b c x k:=CK (by omega) g1
  simp only[ins,s1,s2,sA s1 s2 (.inl ⟨h1,h2,h3⟩),decide_true,Bool.and_self]) b2.1 b1.2
 omega
theorem tQ{N:Nat}{a b c:P2}{k:Int}(ha:ix N a)(hb:ix N b)(hc:ix N c)(h1:k<a.2)(h2:k<c.2)(h3:b.2<=k):rr a b k+rr b c k+rr c a k<=cnt N a b c k+1:=by
 have e1:rr a b k=-up b a k:=by unfold rr;rw[if_neg (by omega),if_pos ⟨h3,h1⟩]
 have e2:rr b c k=up b c k:=if_pos ⟨h3,h2⟩
 have e3:rr c a k=0:=by unfold rr;rw[if_neg (by omega),if_neg (by omega)]
 have b1:=vg (p:=b) (q:=a) (k:=k) (M:=N) (by omega) h3 h1 ⟨hb.1,hb.2.1⟩ ⟨ha.1,ha.2.1⟩
 have b2:=vg (p:=b) (q:=c) (k:=k) (M:=N) (by omega) h3 h2 ⟨hb.1,hb.2.1⟩ ⟨hc.1,hc.2.1⟩
 have:=xa (N:=N) (a:=a) (b:=b) (c:=c) (k:=k) (l:=up b a k) (r:=up b c k) (fun x g1 g2=>by
  have s1:0<sd a b x k:=CK (by omega) g1
  have s2:0<sd b c x k:=CL (by omega) g2
  simp only[ins,s1,s2,sA s1 s2 (.inr ⟨h1,h2,h3⟩),decide_true,Bool.and_self]) b1.1 b2.2
 omega
theorem Bh{N:Nat}{a b c:P2}{k:Int}(ha:ix N a)(hb:ix N b)(hc:ix N c):rr a b k+rr b c k+rr c a k<=cnt N a b c k+1:=by
 have r1:=ut N a b c k
 have r2:=ut N b c a k
 have n0:=Df N a b c k
 by_cases h1:a.2<=k<;>by_cases h2:b.2<=k<;>by_cases h3:c.2<=k
 ·have e:∀p q:P2,p.2<=k->q.2<=k->rr p q k=0:=fun p q g1 g2=>by unfold rr;rw[if_neg (by omega),if_neg (by omega)]
  rw[e a b h1 h2,e b c h2 h3,e c a h3 h1];omega
 ·have:=tR (N:=N) (a:=b) (b:=c) (c:=a) (k:=k) hb hc ha h2 h1 (by omega);omega
 ·have:=tR (N:=N) (a:=a) (b:=b) (c:=c) (k:=k) ha hb hc h1 h3 (by omega);omega
 ·have:=tQ (N:=N) (a:=c) (b:=a) (c:=b) (k:=k) hc ha hb (by omega) (by omega) h1;omega
 ·have:=tR (N:=N) (a:=c) (b:=a) (c:=b) (k:=k) hc ha hb h3 h2 (by omega);omega
 ·have:=tQ (N:=N) (a:=a) (b:=b) (c:=c) (k:=k) ha hb hc (by omega) (by omega) h2;omega
 ·have:=tQ (N:=N) (a:=b) (b:=c) (c:=a) (k:=k) hb hc ha (by omega) (by omega) h3;omega
 ·have e:∀p q:P2,k<p.2->k<q.2->rr p q k=0:=fun p q g1 g2=>by unfold rr;rw[if_neg (by omega),if_neg (by omega)]
  rw[e a b (by omega) (by omega),e b c (by omega) (by omega),e c a (by omega) (by omega)];omega
end Go.Gv.Pack

namespace Go.Gv.Pack
theorem zU{p q:P2}(h:p.2<q.2):∀t:Nat,2*(q.2-p.2)*(p.1*t)+(q.1-p.1)*(t*t)<=2*(q.2-p.2)*b8 t (fun i=>up p q (p.2+i)) /\
  2*(q.2-p.2)*b8 t (fun i=>up p q (p.2+i))<=2*(q.2-p.2)*(p.1*t)+(q.1-p.1)*(t*t)+(2*(q.2-p.2)-1)*t
 | 0=>by simp[b8]
 | t+1=>by
  obtain⟨h1,h2⟩:=zU h t
  obtain⟨r,g0,g1,g2⟩:=mW (k:=p.2+t) h
  rw[b8]
  generalize b8 t (fun i=>up p q (p.2+i))=S at h1 h2 ⊢
  generalize up p q (p.2+t)=u at g2 ⊢
  have e0:2*(p.2+(t:Int))+1-2*p.2=2*t+1:=by omega
  rw[e0]at g2
  generalize 2*(q.2-p.2)=d at h1 h2 g1 g2 ⊢
  generalize q.1-p.1=w at h1 h2 g2 ⊢
  generalize p.1=x at h1 h2 g2 ⊢
  have e1:d*(x*((t+1:Nat):Int))=d*(x*t)+d*x:=by grind
  have e2:w*(((t+1:Nat):Int)*((t+1:Nat):Int))=w*((t:Int)*t)+w*(2*t+1):=by grind
  have e3:d*(S+u)=d*S+d*(u-x)+d*x:=by grind
  have e4:(d-1)*((t+1:Nat):Int)=(d-1)*t+(d-1):=by grind
  omega
theorem uv{N:Nat}{p q:P2}(hp:ix N p)(hq:ix N q)(h:p.2<q.2):(p.1+q.1)*(q.2-p.2)<=2*b8 (2*N) (fun j=>rr p q (j-N))/\2*b8 (2*N) (fun j=>rr p q (j-N))<=(p.1+q.1)*(q.2-p.2)+2*(q.2-p.2):=by
 obtain⟨D,hD⟩:∃D:Nat,(D:Int)=q.2-p.2:=⟨(q.2-p.2).toNat,by omega⟩
 obtain⟨L,hL⟩:∃L:Nat,(L:Int)=p.2+N:=⟨(p.2+N).toNat,by have:=hp.2.2.1;omega⟩
 obtain⟨R,hR⟩:∃R:Nat,2*N=L+(D+R):=⟨2*N-L-D,by have:=hq.2.2.2;omega⟩
 have hS:b8 (2*N) (fun j=>rr p q (j-N))=b8 D (fun i=>up p q (p.2+i)):=by
  rw[hR,j0,j0,ic (n:=L) (fun i hi=>by unfold rr;rw[if_neg (by omega),if_neg (by omega)]),ic (n:=R) (fun i hi=>by unfold rr;rw[if_neg (by omega),if_neg (by omega)])]
  rw[Int.add_zero,Int.zero_add]
  refine BN fun i hi=>?_
  unfold rr
  rw[if_pos (by omega)]
  congr 1
  omega
 rw[hS]
 obtain⟨h1,h2⟩:=zU h D
 rw[hD]at h1 h2
 generalize b8 D (fun i=>up p q (p.2+i))=S at h1 h2 ⊢
 generalize hd:q.2-p.2=d at h1 h2 ⊢
 have hd0:0<d:=by omega
 constructor
 ·refine Int.le_of_mul_le_mul_left (a:=d) ?_ hd0
  have e1:d*((p.1+q.1)*d)=2*d*(p.1*d)+(q.1-p.1)*(d*d):=by grind
  have e2:d*(2*S)=2*d*S:=by grind
  omega
 ·refine Int.le_of_mul_le_mul_left (a:=d) ?_ hd0
  have e1:d*((p.1+q.1)*d+2*d)=2*d*(p.1*d)+(q.1-p.1)*(d*d)+2*d*d:=by grind
  have e2:d*(2*S)=2*d*S:=by grind
  have e3:(2*d-1)*d=2*d*d-d:=by grind
  omega
def dn(p q:P2):Int:=if q.2<p.2 then 2*(p.2-q.2) else 0
theorem nq{N:Nat}{p q:P2}(hp:ix N p)(hq:ix N q):(p.1+q.1)*(q.2-p.2)<=2*b8 (2*N) (fun j=>rr p q (j-N))+dn p q:=by
 rcases Int.lt_trichotomy p.2 q.2 with h|h|h
 ·have:=(uv hp hq h).1
  have e:dn p q=0:=if_neg (by omega)
  omega
 ·rw[ic (n:=2*N) (fun i hi=>by unfold rr;rw[if_neg (by omega),if_neg (by omega)])]
  have e:dn p q=0:=if_neg (by omega)
  rw[e,h,Int.sub_self,Int.mul_zero]
  omega
 ·have h1:=(uv hq hp h).2
  have e:dn p q=2*(p.2-q.2):=if_pos h
  have e2:b8 (2*N) (fun j=>rr p q (j-N))=-b8 (2*N) (fun j=>rr q p (j-N)):=by
   have:b8 (2*N) (fun j=>rr p q (j-N))+b8 (2*N) (fun j=>rr q p (j-N))=0:=by
    rw[<- ib]
    refine ic fun i hi=>?_
    unfold rr
    rw[if_neg (show ¬(p.2<=(i:Int)-N/\(i:Int)-N<q.2) by omega)]
    by_cases hc:q.2<=(i:Int)-N/\(i:Int)-N<p.2
    ·rw[if_pos hc,if_pos hc];omega
    ·rw[if_neg hc,if_neg hc,if_neg (by omega)];rfl
   omega
  rw[e2,e]
  have e3:(p.1+q.1)*(q.2-p.2)=-((q.1+p.1)*(p.2-q.2)):=by grind
  omega
theorem ER{N:Nat}{a b c:P2}(ha:ix N a)(hb:ix N b)(hc:ix N c):tw a b c<=2*b8 (2*N) (fun j=>cnt N a b c (j-N))+8*N:=by
 have h1:=nq ha hb
 have h2:=nq hb hc
 have h3:=nq hc ha
 have h4:dn a b+dn b c+dn c a<=4*N:=by
  obtain⟨_,_,_,_⟩:=ha
  obtain⟨_,_,_,_⟩:=hb
  obtain⟨_,_,_,_⟩:=hc
  unfold dn
  split<;>split<;>split<;>omega
 have h5:b8 (2*N) (fun j=>rr a b (j-N))+b8 (2*N) (fun j=>rr b c (j-N))+b8 (2*N) (fun j=>rr c a (j-N))<=b8 (2*N) (fun j=>cnt N a b c (j-N))+2*N:=by
  rw[<- ib,<- ib]
  have h6:=mS (n:=2*N) (f:=fun j=>rr a b (j-N)+rr b c (j-N)+rr c a (j-N)) (g:=fun j=>cnt N a b c (j-N)+1) (fun i _=>Bh ha hb hc)
  rw[ib (2*N) (fun j=>cnt N a b c (j-N)) (fun _=>1),iG]at h6
  omega
 rw[zN]
 omega
abbrev Tri:=P2×P2×P2
def Apart(s t:Tri):Prop:=∀x k,ins s.1 s.2.1 s.2.2 x k=true->ins t.1 t.2.1 t.2.2 x k=true->False
theorem ym(x k:Int):∀{l:List Tri},l.Pairwise Apart->(l.map fun t=>if ins t.1 t.2.1 t.2.2 x k then(1:Int) else 0).sum<=1/\0<=(l.map fun t=>if ins t.1 t.2.1 t.2.2 x k then(1:Int) else 0).sum
 | [],_=>by simp
 | t::l,h=>by
  obtain⟨h1,h2⟩:=List.pairwise_cons.1 h
  obtain⟨h3,h4⟩:=ym x k h2
  rw[x0t,x06]
  by_cases ht:ins t.1 t.2.1 t.2.2 x k=true
  ·have e:(l.map fun t=>if ins t.1 t.2.1 t.2.2 x k then(1:Int) else 0).sum=0:=by
    have:∀(l:List Tri),(∀s∈l,Apart t s)->(l.map fun t=>if ins t.1 t.2.1 t.2.2 x k then(1:Int) else 0).sum=0:=by
     intro l
     induction l with
     | nil=>intro _;rfl
     | cons s l ih =>
      intro hs
      rw[x0t,x06,ih (fun u hu=>hs u (by simp[hu])),if_neg (fun hi=>hs s (by simp) x k ht hi)]
      rfl
    exact this l h1
   rw[e,if_pos ht]
   omega
  ·rw[if_neg ht]
   omega
theorem pack{N:Nat}{l:List Tri}(hs:∀t∈l,ix N t.1/\ix N t.2.1/\ix N t.2.2)(hp:l.Pairwise Apart):(l.map fun t=>tw t.1 t.2.1 t.2.2).sum<=2*((2*N:Nat)*(2*N+1))+8*N*l.length:=by
 have h1:(l.map fun t=>tw t.1 t.2.1 t.2.2).sum<=2*(l.map fun t=>b8 (2*N) (fun j=>cnt N t.1 t.2.1 t.2.2 (j-N))).sum+8*N*l.length:=by
  clear hp
  induction l with
  | nil=>simp
  | cons t l ih =>
   have h2:=ih (fun s hs'=>hs s (by simp[hs']))
   obtain⟨g1,g2,g3⟩:=hs t (by simp)
   have h3:=ER g1 g2 g3
   simp only[x0t,x06,x0F]
   have e:8*(N:Int)*((l.length+1:Nat):Int)=8*N*l.length+8*N:=by rw[Int.natCast_add,Int.mul_add];simp
   omega
 have h2:(l.map fun t=>b8 (2*N) (fun j=>cnt N t.1 t.2.1 t.2.2 (j-N))).sum<=(2*N:Nat)*(2*N+1):=by
  rw[pG]
  have h3:∀k:Int,(l.map fun t=>cnt N t.1 t.2.1 t.2.2 k).sum<=2*N+1:=fun k=>by
   unfold cnt
   rw[pG]
   have h4:b8 (2*N+1) (fun i=>(l.map fun t=>if ins t.1 t.2.1 t.2.2 ((i:Int)-N) k then(1:Int) else 0).sum)<=b8 (2*N+1) (fun _=>1):=mS fun i _=>(ym ((i:Int)-N) k hp).1
   have h5:=iG 1 (2*N+1)
   rw[Int.mul_one]at h5
   refine Int.le_trans h4 ?_
   rw[h5]
   omega
  have h5:b8 (2*N) (fun j=>(l.map fun t=>cnt N t.1 t.2.1 t.2.2 ((j:Int)-N)).sum)<=b8 (2*N) (fun _=>2*(N:Int)+1):=mS fun i _=>h3 _
  have h6:=iG (2*(N:Int)+1) (2*N)
  rw[h6]at h5
  exact h5
 generalize (2*N:Nat)*(2*(N:Int)+1)=A at h2 ⊢
 omega
end Go.Gv.Pack

namespace Go.Gv
theorem t8{m:Msh}(h:aw m=true){i k:Nat}(hi:i<m.f.length)(hk:k<i):ovT (aS m (fce m i)) (aS m (fce m k))=false:=by
 have h1:=kx.1 (jk h (fil (a6 m) m.f.length) (by simp[LL])) i hi
 rw[a6,jG h hi,x1G,x1h]at h1
 have:=h1 k (x0V.2 hk)
 rw[jG h (by omega),x1G]at this
 simpa using this
theorem pC{t u:Tri}(hu:0<lh u)(h:tW t u=true):∀x k,Pack.ins t.1 t.2.1 t.2.2 x k=true->Pack.ins u.1 u.2.1 u.2.2 x k=true->False:=by
 intro x k h1 h2
 have side:∀p q:Pnt,mI p q u=true->Pack.sd p q x k<=0:=fun p q hs=>by
  simp only[mI,x0a,x0b]at hs
  exact Pack.sd_apart (a:=u.1) (b:=u.2.1) (c:=u.2.2) hu hs.1.1 hs.1.2 hs.2 h2
 simp only[Pack.ins,x0a,x0b]at h1
 simp only[tW,x0E]at h
 rcases h with (h|h)|h
 ·have:=side _ _ h;omega
 ·have:=side _ _ h;omega
 ·have:=side _ _ h;omega
theorem pH(f:Nat->Int):∀n:Nat,dE f n=((List.range n).map f).sum
 | 0=>rfl
 | n+1=>by rw[dE,pH f n,x04,List.map_append,List.sum_append];simp
theorem EP{m:Msh}(hv:aw m=true)(hm:m.f.length<=100):ov m<=4503599627370496:=by
 have h1:ov m=(((List.range m.f.length).map fun i=>aS m (fce m i)).map fun t=>Pack.tw t.1 t.2.1 t.2.2).sum:=by
  rw[ov,pH,List.map_map]
  rfl
 have h2:=Pack.pack (N:=16777216) (l:=(List.range m.f.length).map fun i=>aS m (fce m i)) (fun t ht=>by
  obtain⟨i,hi,rfl⟩:=x0p.1 ht
  have h3:=lj hv (x0V.1 hi)
  simp only[okT,x0a]at h3
  have c1:=dD h3.1.1
  have c2:=dD h3.1.2
  have c3:=dD h3.2
  refine⟨⟨?_,?_,?_,?_⟩,⟨?_,?_,?_,?_⟩,⟨?_,?_,?_,?_⟩⟩<;>omega) (by
  rw[List.pairwise_iff_getElem]
  intro i j hi hj hij
  simp only[x1c,List.length_range]at hi hj
  simp only[x1u,x1J]
  have h3:=t8 hv hj hij
  simp only[ovT,x0Y,Bool.not_eq_false']at h3
  intro x k g1 g2
  rcases h3 with h3|h3
  ·exact pC (fD hv hi).2 h3 x k g2 g1
  ·exact pC (fD hv hj).2 h3 x k g1 g2)
 rw[h1]
 refine Int.le_trans h2 ?_
 rw[x1c,List.length_range]
 omega
end Go.Gv

namespace Go.Gv
theorem mU:∀{l:List Int},(∀x∈l,0<=x)->0<=l.sum
 | [],_=>x1K _
 | a::l,h=>by
  have h1:=h a (by simp)
  have h2:=mU (l:=l) fun x hx=>h x (by simp[hx])
  rw[x06];omega
theorem qP:∀{l:List Int},(∀x∈l,0<=x)->l.sum<9223372036854775808->sH l=l.sum:=by
 have key:∀(l:List Int) (a:Int),0<=a->(∀x∈l,0<=x)->a+l.sum<9223372036854775808->l.foldl (fun a x=>IntKind.wrap .i64 (a+x)) a=a+l.sum:=by
  intro l
  induction l with
  | nil=>intro a _ _ _;simp
  | cons x l ih =>
   intro a ha hx hb
   have h0:=hx x (by simp)
   have hs:0<=l.sum:=mU fun y hy=>hx y (by simp[hy])
   rw[x06]at hb ⊢
   rw[List.foldl_cons,show IntKind.wrap .i64 (a+x)=a+x from ah rfl (by omega),ih (a+x) (by omega) (fun y hy=>hx y (by simp[hy])) (by omega)]
   omega
 intro l h1 h2
 unfold sH
 rw[key l 0 (by omega) h1 (by omega)]
 omega
noncomputable def kaF(m:Msh)(w:List Int)(n:Nat)(i:Int)(c:Nat):Int:=dE (fun j=>if enF m w j=i/\(fce m j).k=c then twF m j else 0) n
noncomputable def kaN(m:Msh)(w:List Int):Nat->Nat
 | 0=>0
 | n+1=>max (kaN m w n) (enF m w n+1).toNat
noncomputable def kaR(m:Msh)(w:List Int)(n:Nat)(i:Nat):List Int:=(List.range 16).map fun c=>kaF m w n i c
theorem pe(m:Msh)(w:List Int)(n:Nat)(i:Int)(c:Nat):kaF m w (n+1) i c=kaF m w n i c+if enF m w n=i/\(fce m n).k=c then twF m n else 0:=rfl
theorem yn(x:Int)(t:Int):∀n:Nat,((List.range n).map fun(c:Nat)=>if x=(c:Int) then t else 0).sum=if 0<=x/\x<n then t else 0
 | 0=>by rw[if_neg (by omega)];rfl
 | n+1=>by
  rw[x04,List.map_append,List.sum_append,yn x t n]
  simp only[x0t,x0I,x06,List.sum_nil]
  by_cases h:x=n
  ·rw[if_pos h,if_neg (by omega),if_pos (by omega)];omega
  ·rw[if_neg h]
   by_cases h2:0<=x/\x<n
   ·rw[if_pos h2,if_pos (by omega)];omega
   ·rw[if_neg h2,if_neg (by omega)];omega
theorem ot(f g:Nat->Int):∀l:List Nat,(l.map fun c=>f c+g c).sum=(l.map f).sum+(l.map g).sum
 | []=>rfl
 | a::l=>by simp only[x0t,x06,ot f g l];omega
theorem uM{m:Msh}(hk:∀j,j<m.f.length->0<=(fce m j).k/\(fce m j).k<16)(w:List Int)(i:Nat):∀{n:Nat},n<=m.f.length->(kaR m w n i).sum=arF m w n i
 | 0,_=>by simp[kaR,kaF,dE,arF,x04]
 | n+1,hn=>by
  have ih:=uM hk w i (n:=n) (by omega)
  have h1:=hk n (by omega)
  unfold kaR at ih ⊢
  simp only[pe]
  rw[ot,ih,iT]
  congr 1
  by_cases h:enF m w n=i
  ·simp only[h,true_and]
   rw[yn,if_pos (by omega)]
   simp
  ·simp only[h,false_and,if_false]
   have:∀l:List Nat,(l.map fun _=>(0:Int)).sum=0:=fun l=>by induction l with|nil=>rfl|cons a l ih=>simp[ih]
   exact this _
theorem DG{m:Msh}(hv:aw m=true)(w:List Int)(i:Int)(c:Nat){n:Nat}(hn:n<=m.f.length):0<=kaF m w n i c:=mT fun j hj=>by
 split
 ·exact(jj hv (by omega)).1
 ·omega
theorem rM{m:Msh}{w:List Int}:∀{n i:Nat},kaN m w n<=i->kaR m w n i=List.replicate 16 0
 | 0,i,_=>by simp[kaR,kaF,dE];rfl
 | n+1,i,h=>by
  rw[kaN]at h
  have ih:=rM (m:=m) (w:=w) (n:=n) (i:=i) (by omega)
  unfold kaR at ih ⊢
  rw[<- ih]
  refine x0m fun c _=>?_
  rw[pe,if_neg (by omega)]
  omega
theorem BY{m:Msh}{w:List Int}{i:Nat}:∀{n:Nat},kaN m w n<=i->arF m w n i=0
 | 0,_=>rfl
 | n+1,h=>by
  rw[kaN]at h
  rw[iT,BY (n:=n) (by omega),if_neg (by omega)]
  rfl
theorem wT{m:Msh}(l:List Int):∀{n:Nat},n<=m.f.length->((List.range l.length).map fun(k:Nat)=>arF m l n k).sum+arF m l n (-1)=dE (twF m) n
 | 0,_=>by
  have:∀s:List Nat,(s.map fun _=>(0:Int)).sum=0:=fun s=>by induction s with|nil=>rfl|cons a s ih=>simp[ih]
  have h:=this (List.range l.length)
  simp only[arF,dE]
  omega
 | n+1,hn=>by
  have ih:=wT (m:=m) l (n:=n) (by omega)
  have hb:=lA m l n
  simp only[iT]
  rw[ot (fun k=>arF m l n k) (fun k=>if enF m l n=(k:Int) then twF m n else 0),yn,dE]
  by_cases h:enF m l n=-1
  ·rw[if_pos h,if_neg (by omega)];omega
  ·rw[if_neg h,if_pos (by omega)];omega
end Go.Gv

namespace Go.Gv
variable{C:CC}(hC:av prog C)
include hC
set_option maxHeartbeats 2000000 in
set_option maxRecDepth 8000 in
theorem ya(m:Msh)(hv:aw m=true)(i:Nat)(hi:i<m.f.length):C 901 [.agg (b0 m),.agg (cu (fce m i))] (.int .i64 (twF m i)) []:=by
 obtain⟨⟨a1,a2⟩,⟨b1,b2⟩,⟨c1,c2⟩⟩:=lJ (fY hv hi)
 have ht:=lj hv hi
 unfold okT at ht
 simp only[x0a]at ht
 have h4:=qR ht.1.1 ht.1.2 ht.2
 have o1:=dD ht.1.1
 have o2:=dD ht.1.2
 have o3:=dD ht.2
 have et:twF m i=dV (aS m (fce m i)).1 (aS m (fce m i)).2.1 (aS m (fce m i)).2.2:=rfl
 rw[et]
 unfold dV
 simp only[aS,ptS]at h4 o1 o2 o3 ⊢
 generalize fce m i=f at *
 refine az hC (nf:=N901) rfl rfl ?_
 have w1:IntKind.wrap .i64 ((spt m f.b.toNat).x-(spt m f.a.toNat).x)=(spt m f.b.toNat).x-(spt m f.a.toNat).x:=ah rfl (by omega)
 have w2:IntKind.wrap .i64 ((spt m f.c.toNat).y-(spt m f.a.toNat).y)=(spt m f.c.toNat).y-(spt m f.a.toNat).y:=ah rfl (by omega)
 have w3:IntKind.wrap .i64 ((spt m f.b.toNat).y-(spt m f.a.toNat).y)=(spt m f.b.toNat).y-(spt m f.a.toNat).y:=ah rfl (by omega)
 have w4:IntKind.wrap .i64 ((spt m f.c.toNat).x-(spt m f.a.toNat).x)=(spt m f.c.toNat).x-(spt m f.a.toNat).x:=ah rfl (by omega)
 have w5:IntKind.wrap .i64 (((spt m f.b.toNat).x-(spt m f.a.toNat).x)*((spt m f.c.toNat).y-(spt m f.a.toNat).y))=((spt m f.b.toNat).x-(spt m f.a.toNat).x)*((spt m f.c.toNat).y-(spt m f.a.toNat).y):=ah rfl (by omega)
 have w6:IntKind.wrap .i64 (((spt m f.b.toNat).y-(spt m f.a.toNat).y)*((spt m f.c.toNat).x-(spt m f.a.toNat).x))=((spt m f.b.toNat).y-(spt m f.a.toNat).y)*((spt m f.c.toNat).x-(spt m f.a.toNat).x):=ah rfl (by omega)
 have w7:IntKind.wrap .i64 (((spt m f.b.toNat).x-(spt m f.a.toNat).x)*((spt m f.c.toNat).y-(spt m f.a.toNat).y)-((spt m f.b.toNat).y-(spt m f.a.toNat).y)*((spt m f.c.toNat).x-(spt m f.a.toNat).x))=((spt m f.b.toNat).x-(spt m f.a.toNat).x)*((spt m f.c.toNat).y-(spt m f.a.toNat).y)-((spt m f.b.toNat).y-(spt m f.a.toNat).y)*((spt m f.c.toNat).x-(spt m f.a.toNat).x):=ah rfl (by omega)
 simp[N901,af,aP,a1,a2,b1,b2,c1,c2,gm]
 exact⟨aF (by decide +kernel),by rw[w1,w2,w3,w4,w5,w6,w7]⟩
def inB(i:Int):Bool:=decide (i < -1)||decide (300<=i)
theorem Il(i:Int):C 898 [.int .i64 i] (.bool (inB i)) []:=by
 refine az hC (nf:=N898) rfl rfl ?_
 simp[N898,inB]
 refine aj (fun h=>?_) (fun h=>?_)<;>simp at h<;>simp[h]
 intro _
 omega
theorem Im(f:Fce)(n:Int):C 900 [.agg (cu f),.ptr [.int .i64 n]] (.bool (decide (n<=f.k))) []:=by
 refine az hC (nf:=N900) rfl rfl ?_
 simp[N900,aP]
theorem AF{b:Bool}{xs:List Fce}{g:Nat}{cs:List D}(p:Fce->Bool)(hs:xs.length<2^62)(hp:∀x∈xs,C g (.agg (cu x)::cs) (.bool (p x)) []):C 914 [slx b (xs.map cu),.fn g cs] (.int .i64 (gA p xs)) []:=by
 refine az hC (nf:=N914) rfl rfl ?_
 simp[N914]
 refine aC Nat (fun i=>[(0,slx b (xs.map cu)),(1,.fn g cs),(7,.int .i64 xs.length),(8,.int .i64 i)]) (fun i=>i<=xs.length/\∀(j:Nat) (h:j<xs.length),j<i->p xs[j]=false) (fun i=>xs.length-i) 0 (by simp) (by simp) ?_
 rintro i ⟨hi,hj⟩
 simp
 refine aj (fun h=>?_) (fun h=>?_)<;>simp[h]<;>simp at h
 ·have hw:IntKind.wrap .i64 ((i:Int)+1)=((i+1:Nat):Int):=ah (by omega) (by omega)
  have hc:=hp _ (x0u h)
  simp[h,cu]at hc ⊢
  refine aa hc (.inl rfl) ?_
  simp
  refine aj (fun h1=>?_) (fun h1=>?_)<;>simp[h1,hw]
  ·rw[dT hj h h1]
  ·refine⟨i+1,⟨by omega,fun j hl hjj=>?_⟩,by omega,rfl⟩
   rcases x1f.1 hjj with h2|rfl
   ·exact hj j hl h2
   ·exact h1
 ·rw[dS (fun j hl=>hj j hl (by omega))]
theorem AD{b:Bool}{xs:List Fce}{g:Nat}{cs:List D}(p:Fce->Bool)(hs:xs.length<2^62)(hp:∀x∈xs,C g (.agg (cu x)::cs) (.bool (p x)) []):C 899 [slx b (xs.map cu),.fn g cs] (.bool (xs.any p)) []:=by
 refine az hC (nf:=N899) rfl rfl ?_
 simp[N899]
 refine aa (AF hC p hs hp) (.inl rfl) ?_
 simp[gT]
end Go.Gv

namespace Go.Gv
noncomputable def kaT(m:Msh)(w:List Int)(n q:Nat):List (List D):=(List.range q).map fun i=>[.own 1 (inR (kaR m w n i))]
@[simp] theorem KA(m:Msh)(w:List Int)(n q:Nat):(kaT m w n q).length=q:=by simp[kaT]
@[simp] theorem Ig(m:Msh)(w:List Int)(n q:Nat):List.take q (kaT m w n q)=kaT m w n q:=x0z (by simp)
theorem AP{m:Msh}{w:List Int}{n q:Nat}(h:kaN m w n<=q):kaT m w n q++[[.own 1 (List.replicate 16 [.int .i64 0])]]=kaT m w n (q+1):=by
 rw[kaT,kaT,x04,List.map_append]
 congr 1
 simp only[x0t,x0I]
 rw[rM h]
 rfl
theorem x6{m:Msh}(hv:aw m=true)(w:List Int)(i:Int)(c:Nat):∀{n:Nat},n<=m.f.length->0<=kaF m w n i c/\kaF m w n i c<=n*2251799813685248
 | 0,_=>by simp[kaF,dE]
 | n+1,h=>by
  have ih:=x6 hv w i c (n:=n) (by omega)
  have h1:=iU hv w (enF m w n) (n:=n+1) h
  have h2:=iT m w n (enF m w n)
  have h3:=iU hv w (enF m w n) (n:=n) (by omega)
  have h4:=jj hv (show n<m.f.length by omega)
  rw[pe]
  split<;>omega
theorem AO{m:Msh}{w:List Int}{n z y:Nat}(he:enF m w n=z)(hk:(fce m n).k=y):kaR m w (n+1) z=(kaR m w n z).set y (kaF m w n z y+twF m n):=by
 refine x1m (by simp[kaR]) fun j h1 h2=>?_
 simp only[kaR,List.getElem_set,x1u,x1J,pe]
 by_cases c:y=j
 ·rw[if_pos c,<- c,if_pos ⟨he,hk⟩]
 ·rw[if_neg c,if_neg (by omega)];omega
theorem AQ{m:Msh}{w:List Int}{n z y q:Nat}(he:enF m w n=z)(hk:(fce m n).k=y):(kaT m w n q).set z [.own 1 ((inR (kaR m w n z)).set y [.int .i64 (kaF m w n z y+twF m n)])]=kaT m w (n+1) q:=by
 refine x1m (by simp) fun j h1 h2=>?_
 simp only[kaT,List.getElem_set,x1u,x1J]
 by_cases c:z=j
 ·rw[if_pos c,<- c,uK,AO he hk]
 ·rw[if_neg c]
  have:kaR m w (n+1) j=kaR m w n j:=by
   unfold kaR
   refine x0m fun c' _=>?_
   rw[pe,if_neg (by omega)]
   omega
  rw[this]
variable{C:CC}(hC:av prog C)
include hC
set_option maxHeartbeats 4000000 in
theorem x7(dec:Nat->List UInt8)(hI:∀n:Nat,n<100->C 127 [.int .i64 n] (.str (dec n)) [])(m:Msh)(hz:ct m=true->m.s.length<=100/\m.f.length<=100)(hv:aw m=true)(hm:m.f.length<=100)(hcl:∀j,j<m.f.length->0<=(fce m j).k/\(fce m j).k<16)(w:List Int)(hw:w.length<300) :
  C 889 [.agg (b0 m),.sl (inR (enL m w)),.int .i64 16] (.tup [.sl ((List.range (kaN m w m.f.length)).map fun i=>[.sl (inR (kaR m w m.f.length i))]),.int .i64 0]) []:=by
 have k1:=gU hC dec hI m hz
 rw[hv]at k1
 have k3:=fP hC (b:=false) (xs:=enL m w) (g:=898) (cs:=[]) inB (by simp[enL];omega) (fun x _=>Il hC x)
 have e3:(enL m w).any inB=false:=by
  rw[x1h]
  intro x hx
  obtain⟨f,_,rfl⟩:=x0p.1 hx
  have:=lA m w f
  simp[inB]
  omega
 rw[e3,bx]at k3
 have k4:=AD hC (b:=m.fn) (xs:=m.f) (g:=900) (cs:=[.ptr [.int .i64 16]]) (fun f=>decide (16<=f.k)) (by omega) (fun x _=>Im hC x 16)
 have e4:m.f.any (fun f=>decide (16<=f.k))=false:=by
  rw[x1h]
  intro x hx
  obtain⟨j,hj,rfl⟩:=List.getElem_of_mem hx
  have:=hcl j hj
  rw[nu]
  simp
  omega
 rw[e4]at k4
 obtain⟨xe,hxe⟩:∃x,x=inR (enL m w):=⟨_,rfl⟩
 have gel:xe.length=m.f.length:=by rw[hxe];simp[enL]
 have ge:∀{f:Nat},f<m.f.length->xe[f]? = some [.int .i64 (enF m w f)]:=fun h=>by rw[hxe,fk (by simp[enL,h])];simp[enL,h]
 have k3':C 11 [.sl xe,.fn 898 []] (.bool false) []:=by rw[hxe];exact k3
 rw[<- hxe]
 clear hxe k3
 simp only[af]at k1
 refine az hC (nf:=N889) rfl rfl ?_
 simp[N889,af]
 refine aa k1 (.inl rfl) ?_
 simp[gel]
 refine aa k3' (.inl rfl) ?_
 simp
 refine aa k4 (.inl rfl) ?_
 simp
 have hkN:∀n,kaN m w n<=w.length:=by
  intro n
  induction n with
  | zero=>exact Nat.zero_le _
  | succ n ih =>
   have:=lA m w n
   rw[kaN]
   omega
 refine aC Nat (fun i=>[(3,.ptr (b0 m)),(5,.ptr [.int .i64 16]),(8,.ref (.r 10128) 0 (kaN m w i)),(38,.sl xe),(39,.int .i64 xe.length),(40,.int .i64 i),(10128,.blk 1 (kaT m w i (kaN m w i)))]) (fun i=>i<=m.f.length) (fun i=>m.f.length-i) 0 (by simp) (by simp[af,kaN,kaT]) ?_
 intro i hi
 simp
 refine aj (fun h=>?_) (fun h=>?_)<;>simp at h
 ·rw[gel]at h
  have hwi:IntKind.wrap .i64 ((i:Int)+1)=((i+1:Nat):Int):=ah (by omega) (by omega)
  have hb:=lA m w i
  have hN:kaN m w (i+1)=max (kaN m w i) (enF m w i+1).toNat:=rfl
  have h8:=hkN (i+1)
  simp[h,gel,aD (ge h)]
  refine aC Nat (fun q=>[(3,.ptr (b0 m)),(5,.ptr [.int .i64 16]),(8,.ref (.r 10128) 0 q),(9,.int .i64 i),(10,.int .i64 (enF m w i)),(38,.sl xe),(39,.int .i64 xe.length),(40,.int .i64 i),(10128,.blk 1 (kaT m w i q))]) (fun q=>kaN m w i<=q/\q<=kaN m w (i+1)) (fun q=>kaN m w (i+1)-q) (kaN m w i) ⟨by omega,by omega⟩ (by simp[gel]) ?_
  rintro q ⟨hq1,hq2⟩
  simp
  refine aj (fun c=>?_) (fun c=>?_)<;>simp at c
  ·have ha:=AP hq1
   simp[ha]
   refine⟨by omega,q+1,⟨by omega,by omega⟩,by omega,rfl,?_⟩
   rw[<- ha]
   rfl
  ·have eq:q=kaN m w (i+1):=by omega
   subst eq
   simp
   have hc1:=hcl i h
   refine aj (fun c2=>?_) (fun c2=>?_)<;>simp at c2
   ·obtain⟨z,hz2⟩:∃z:Nat,(z:Int)=enF m w i:=⟨(enF m w i).toNat,by omega⟩
    obtain⟨y,hy⟩:∃y:Nat,(y:Int)=(fce m i).k:=⟨(fce m i).k.toNat,by omega⟩
    have hzq:z<kaN m w (i+1):=by omega
    have k5:=ya hC m hv i h
    simp only[af,aP]at k5
    simp[af,aP,<- hz2,<- hy,hzq]
    have gz:(kaT m w i (kaN m w (i+1)))[z]? = some [.own 1 (inR (kaR m w i z))]:=by simp[kaT,hzq]
    refine kW gz ?_ ?_
    ·simp
    have hy2:y<16:=by omega
    have gl2:(kaR m w i z).length=16:=by simp[kaR]
    simp[af,aP,<- hy,gz,h,gl2,hy2]
    have gy:(inR (kaR m w i z))[y]? = some [.int .i64 (kaF m w i z y)]:=by rw[fk (by rw[gl2];exact hy2)];simp[kaR,hy2]
    refine kW gy ?_ ?_
    ·simp
    simp[af,aP,<- hy,h]
    rw[<- hy]at k5
    refine aa k5 (.inl rfl) ?_
    have gy2:(inR (kaR m w i z))[y]? = some [.int .i64 (kaF m w i z y)]:=gy
    simp[gz,gl2,hy2,gy]
    have gy3:∀h,(inR (kaR m w i z))[y]'h=[.int .i64 (kaF m w i z y)]:=fun h=>by
     have:=gy
     rw[x0e h]at this
     exact Option.some.inj this
    have b5:=x6 hv w z y (n:=i) hi
    have b6:=jj hv h
    have wy:IntKind.wrap .i64 (kaF m w i z y+twF m i)=kaF m w i z y+twF m i:=ah rfl (by omega)
    refine⟨by rw[gy3];simp,aF (by decide +kernel),i+1,by omega,by omega,by rw[af],rfl,hwi,?_⟩
    rw[gy3,wy,<- AQ hz2.symm hy.symm]
    rfl
   ·simp[hwi,gel]
    refine⟨i+1,by omega,by omega,rfl,rfl,?_⟩
    unfold kaT
    refine x0m fun z _=>?_
    have:kaR m w (i+1) z=kaR m w i z:=by
     unfold kaR
     refine x0m fun c _=>?_
     rw[pe,if_neg (by omega)]
     omega
    rw[this]
 ·have e:i=m.f.length:=by omega
  subst e
  simp
  rw[kaT,List.map_map]
  rfl
end Go.Gv

namespace Go.Gv
variable{C:CC}(hC:av prog C)
include hC
theorem Aa(hW:SlW C)(dec:Nat->List UInt8)(hI:∀n:Nat,n<100->C 127 [.int .i64 n] (.str (dec n)) [])(m:Msh)(hz:ct m=true->m.s.length<=100/\m.f.length<=100)(b:Bool)(l:List Int)(hl:l.length<2^40) :
  C 862 [.agg (b0 m),slx b (inR l)] (if gvE m l []=0 then .tup [.sl (inR (arL m l)),.int .i64 0] else .tup [.nils,.int .i64 (gvE m l [])]) []:=by
 have k1:=zB hC hW dec hI m hz b l hl
 unfold suV at k1
 obtain⟨E,hE⟩:∃E,E=gvE m l []:=⟨_,rfl⟩
 rw[<- hE]at k1 ⊢
 refine az hC (nf:=N862) rfl rfl ?_
 simp only[af]at k1
 simp[N862,af]
 by_cases e:E=0
 ·rw[if_pos e]at k1 ⊢
  refine aa k1 (.inr rfl) ?_
  simp
 ·rw[if_neg e]at k1 ⊢
  refine aa k1 (.inr rfl) ?_
  simp
theorem CZ(hW:SlW C)(dec:Nat->List UInt8)(hI:∀n:Nat,n<100->C 127 [.int .i64 n] (.str (dec n)) [])(m:Msh)(hz:ct m=true->m.s.length<=100/\m.f.length<=100)(b:Bool)(l:List Int)(hl:l.length<2^40) :
  C 863 [.agg (b0 m),slx b (inR l)] (if gvE m l []=0 then .tup [.int .i64 (arF m l m.f.length (-1)),.int .i64 0] else .tup [.int .i64 0,.int .i64 (gvE m l [])]) []:=by
 have k1:=zB hC hW dec hI m hz b l hl
 unfold suV at k1
 obtain⟨E,hE⟩:∃E,E=gvE m l []:=⟨_,rfl⟩
 rw[<- hE]at k1 ⊢
 refine az hC (nf:=N863) rfl rfl ?_
 simp only[af]at k1
 simp[N863,af]
 by_cases e:E=0
 ·rw[if_pos e]at k1 ⊢
  refine aa k1 (.inr rfl) ?_
  simp
 ·rw[if_neg e]at k1 ⊢
  refine aa k1 (.inr rfl) ?_
  simp
end Go.Gv

namespace Go.Gv
variable{C:CC}(hC:av prog C)
def rcS(s:Srs)(n q:Nat):List (List D):=List.replicate q (srC s)++List.replicate (n-q) [.int .i64 0,.int .i64 0,.own 1 []]
theorem A9(s:Srs)(n:Nat):rcS s n n=List.replicate n (srC s):=by simp[rcS]
theorem Ba{s:Srs}{n q:Nat}(h:q<n):(rcS s n q).set q (srC s)=rcS s n (q+1):=by
 unfold rcS
 rw[List.set_append_right _ _ (by simp)]
 obtain⟨k,hk⟩:∃k,n-q=k+1:=⟨n-q-1,by omega⟩
 rw[hk,show n-(q+1)=k by omega]
 rw[List.length_replicate,Nat.sub_self,List.replicate_succ,List.set_cons_zero,List.replicate_succ',x0O]
 rfl
theorem Ep{s:Srs}{n q:Nat}(h:q<n):(rcS s n q)[q]? = some [.int .i64 0,.int .i64 0,.own 1 []]:=by
 unfold rcS
 rw[x0s (by simp),List.length_replicate,Nat.sub_self,x0Z,if_pos (by omega)]
theorem Jn(s:Srs):(srC s).map bW=srC s:=by
 rw[cO]
 cases hb:s.b<;>cases hd:s.d<;>simp[bW,slx]
theorem AW{s:Srs}{W:Nat}(hs:srB s=true)(hW:W≠0):mqR s W s.d.length=s.d.map fun n=>[.int .i64 n]:=by
 obtain⟨_,_,_,b4⟩:=qM hs
 unfold mqR
 refine x1m (by simp) fun i h1 h2=>?_
 simp at h1
 have h3:=b4 _ (x0u h1)
 simp only[x1u,x1J]
 congr 2
 unfold mnV
 rw[x0K s.d i h1]
 split
 ·omega
 ·rfl
theorem uN:∀{l:List Int} {x:Int},(∀y∈l,0<=y)->x∈l->x<=l.sum
 | a::l,x,h,hx=>by
  rw[x06]
  have h1:=mU (fun y hy=>h y (List.mem_cons_of_mem _ hy):∀y∈l,0<=y)
  have h2:=h a (by simp)
  rcases x0B.1 hx with rfl|hx
  ·omega
  ·have:=uN (fun y hy=>h y (List.mem_cons_of_mem _ hy)) hx
   omega
theorem EW{w:List Int}(h:∀x∈w,0<=x):∃v:List Nat,inR w=(v.map fun(x:Nat)=>[.int .i64 (x:Int)])/\v.length=w.length/\((v.sum:Nat):Int)=w.sum:=by
 induction w with
 | nil=>exact⟨[],rfl,rfl,rfl⟩
 | cons x w ih =>
  obtain⟨v,h1,h2,h3⟩:=ih (fun y hy=>h y (by simp[hy]))
  have hx:=h x (by simp)
  refine⟨x.toNat::v,?_,by simp[h2],?_⟩
  ·simp only[inR,x0t]at h1 ⊢
   rw[h1,x1g hx]
  ·simp only[x06]
   omega
include hC
theorem Jr(g:Ggt):C 888 [.agg (ggC g)] (.bool (decide (50<g.n.length))) []:=by
 refine az hC (nf:=N888) rfl rfl ?_
 simp[N888,ggC]
 omega
set_option maxHeartbeats 4000000 in
theorem EN(hA:C 885 [] (.bool true) [])(hW:SlW C)(dec:Nat->List UInt8)(hI:∀n:Nat,n<100->C 127 [.int .i64 n] (.str (dec n)) [])(m:Msh)(b:Bool)(l:List Int)(bg:Bool)(g:List Ggt)(hg:g.length<2^62)(s:Srs) :
  C 884 [.agg (b0 m),slx b (inR l),slx bg (g.map ggC),.agg (srC s)] (.bool true) []:=by
 have k1:=wh hC m
 have k2:=xR hC (b:=bg) (xs:=g) (g:=888) (cs:=[]) (fun x=>decide (50<x.n.length)) (by omega) (fun x _=>Jr hC x)
 simp only[af]at k1
 refine az hC (nf:=N884) rfl rfl ?_
 simp[N884,af,cO]
 refine aa hA (.inl rfl) ?_
 simp
 refine aa k1 (.inl rfl) ?_
 by_cases c1:m.s.length<=40/\m.f.length<=40
 ·simp[c1]
  have hz:ct m=true->m.s.length<=100/\m.f.length<=100:=fun _=>by omega
  refine aj (fun c2=>?_) (fun c2=>?_)<;>simp at c2<;>simp[c2]
  refine aj (fun c3=>?_) (fun c3=>?_)<;>simp at c3<;>simp[c3]
  refine aj (fun c4=>?_) (fun c4=>?_)<;>simp at c4<;>simp[c4]
  refine aa k2 (.inl rfl) ?_
  cases c5:g.any fun x=>decide (50<x.n.length)
  case true=>simp
  simp
  have hl:l.length<2^40:=by omega
  have hg:g.length<2^40:=by omega
  have k3:=LJ hC hW dec hI m hz b l hl
  have k4:=Aa hC hW dec hI m hz b l hl
  have k5:=CZ hC hW dec hI m hz b l hl
  simp only[af]at k3 k4 k5
  refine aa k3 (.inr rfl) ?_
  by_cases c6:gvE m l []=0
  ·simp only[ofV,if_pos c6]at k4 k5 ⊢
   simp
   obtain⟨hv,h1,h2,_,h3⟩:=xQ c6
   have k6:=Af hC dec hI m hz hv (by omega)
   have hcl:∀j,j<m.f.length->0<=(fce m j).k/\(fce m j).k<16:=fun j hj=>by
    have:=(fD hv hj).1
    simp only[okF,x0a,x0b]at this
    omega
   have k7:=x7 hC dec hI m hz hv (by omega) hcl l (by omega)
   simp only[af]at k6 k7
   refine aa k4 (.inr rfl) ?_
   simp
   refine aa k5 (.inr rfl) ?_
   simp
   refine aa k6 (.inl rfl) ?_
   simp
   refine aa k7 (.inr rfl) ?_
   simp
   have g1:(enL m l).length=m.f.length:=by simp[enL]
   have g2:(arL m l).length=l.length:=by simp[arL]
   have g3:∀k:Nat,0<=arF m l m.f.length k/\arF m l m.f.length k<=m.f.length*2251799813685248:=fun k=>iU hv l k (x0k _)
   have g4:=wT l (m:=m) (n:=m.f.length) (x0k _)
   have g5:=iU hv l (-1) (n:=m.f.length) (x0k _)
   have g6:=EP hv (by omega)
   have g7:(arL m l).sum+arF m l m.f.length (-1)=ov m:=g4
   have g8:∀x∈arL m l,0<=x:=fun x hx=>by
    obtain⟨k,_,rfl⟩:=x0p.1 hx
    exact(g3 k).1
   have g9:=mU g8
   have k8:=tr hC false (arL m l) (by omega)
   rw[bx,qP g8 (by omega)]at k8
   have w1:IntKind.wrap .i64 ((arL m l).sum+arF m l m.f.length (-1))=ov m:=ah g7 (by omega)
   simp[g1,g2]
   refine aa k8 (.inl rfl) ?_
   simp[w1]
   obtain⟨N,hN⟩:∃N,N=kaN m l m.f.length:=⟨_,rfl⟩
   obtain⟨B,hB⟩:∃B:List (List D),B=(List.range N).map fun i=>[.sl (inR (kaR m l m.f.length i))]:=⟨_,rfl⟩
   rw[<- hN,<- hB]
   have gB:B.length=N:=by rw[hB];simp
   have gb:∀{i:Nat},i<N->B[i]? = some [.sl (inR (kaR m l m.f.length i))]:=fun h=>by rw[hB];simp[h]
   refine aC Nat (fun i=>[(2,slx bg (g.map ggC)),(4,.ptr (b0 m)),(7,.ptr (srC s)),(9,.sl (inR (enL m l))),(17,.sl B),(123,.sl (inR (arL m l))),(124,.int .i64 l.length),(125,.int .i64 i)]) (fun i=>i<=l.length) (fun i=>l.length-i) 0 (by simp) (by simp[af,cO,g2]) ?_
   intro i hi
   simp
   refine aj (fun h=>?_) (fun h=>?_)<;>simp at h
   ·have hwi:IntKind.wrap .i64 ((i:Int)+1)=((i+1:Nat):Int):=ah (by omega) (by omega)
    have hh:i<l.length:=by omega
    have ga:(inR (arL m l))[i]? = some [.int .i64 (arF m l m.f.length i)]:=by rw[fk (by rw[g2];exact hh)];simp[arL,hh]
    have bi:=g3 i
    have bt:arF m l m.f.length i<=(arL m l).sum:=uN g8 (x0p.2 ⟨i,x0V.2 hh,rfl⟩)
    have k9:=tr hC false (kaR m l m.f.length i) (by simp[kaR])
    have k9s:(kaR m l m.f.length i).sum=arF m l m.f.length i:=uM hcl l i (x0k _)
    rw[bx,qP (fun x hx=>by
     obtain⟨c,_,rfl⟩:=x0p.1 hx
     exact DG hv l i c (x0k _)) (by rw[k9s];omega),k9s]at k9
    simp[hh,g2,gB,aD ga]
    have k10:=vn hC dec hI m hz hv (by omega) l (by omega) bg g hg i (by omega)
    have e00:N<=i->arF m l m.f.length i=0:=fun hle=>BY (by omega)
    simp only[af]at k10
    refine aj (fun d1=>?_) (fun d1=>?_)<;>simp at d1
    case' pos.refine_1.refine_1 =>
     have d5:¬N<=i:=by omega
     simp[d1,aD (gb d1)]
     refine aa k9 (.inl rfl) ?_
     simp[gB,d1,af]
     refine aj (fun _=>?_) (fun _=>?_)
    case' pos.refine_1.refine_2 =>
     have d2:¬0<arF m l m.f.length i:=by have:=e00 d1;omega
     have d3:(0:Int)=arF m l m.f.length i:=(e00 d1).symm
     simp[d2,d3,gB,af]
    case' pos.refine_1.refine_1.refine_1=>simp[gB,d1,d5,af]
    case' pos.refine_1.refine_1.refine_2=>simp[gB,d1,d5,af]
    all_goals refine aa k10 (.inr rfl) ?_
    all_goals cases hv2:arV g
    all_goals simp
    all_goals have k11:=oP hC bg g hg
    all_goals rw[hv2]at k11
    all_goals first
     | (refine aa k11 (.inl rfl) ?_;simp[g2,hwi];exact⟨i+1,by omega,by omega,by rw[af],rfl⟩)
     | skip
    all_goals have hg1:1<=g.length/\g.length<=100:=(by simp only[arV,x0a,x0b]at hv2;exact hv2.1)
    all_goals have k12:=tr hC false (wtN m g l i m.f.length) (by simp;omega)
    all_goals have k12s:=mY (m:=m) (g:=g) (by omega) l i m.f.length
    all_goals rw[bx,qP (qW hv (by omega) l i (x0k _)) (by rw[k12s];omega),k12s]at k12
    all_goals refine aa k12 (.inl rfl) ?_
    all_goals obtain⟨wl,w2,w3,w4⟩:=EW (qW hv (by omega) l i (x0k _):∀x∈wtN m g l i m.f.length,0<=x)
    all_goals rw[k12s]at w4
    all_goals rw[vj]at w3
    all_goals rw[w2]
    all_goals simp
    all_goals refine⟨by omega,?_⟩
    all_goals refine aC Nat (fun q=>[(2,slx bg (g.map ggC)),(4,.ptr (b0 m)),(7,.ptr (srC s)),(9,.sl (inR (enL m l))),(17,.sl B),(20,.int .i64 (arF m l m.f.length i)),(22,.sl (wl.map fun(x:Nat)=>[.int .i64 (x:Int)])),(24,.ref (.r 10384) 0 g.length),(123,.sl (inR (arL m l))),(124,.int .i64 l.length),(125,.int .i64 i),(179,.int .i64 g.length),(180,.int .i64 q),(10384,.blk 3 (rcS s g.length q))]) (fun q=>q<=g.length) (fun q=>g.length-q) 0 (by simp) (by simp[af,rcS]) ?_
    all_goals intro q hq
    all_goals simp[af,cO]
    all_goals
     refine aj (fun u1=>?_) (fun u1=>?_)<;>simp at u1
     ·have hwq:IntKind.wrap .i64 ((q:Int)+1)=((q+1:Nat):Int):=ah (by omega) (by omega)
      simp[u1,Ep u1]
      exact⟨q+1,by omega,by omega,by rw[af],by rw[cO],hwq,by rw[<- cO,Ba u1]⟩
     ·obtain rfl:q=g.length:=by omega
      have k13:=C1 hC (fun v d h1 h2 h3=>Ad hC v d h1 h2 h3) s (by omega) wl (by omega) (by omega) (by omega)
      rw[w3]at k13
      simp[A9,Jn]
      refine aa k13 (.inr rfl) ?_
      cases hsv:srB s
      ·have k14:=rI hC s (by omega)
       rw[hsv]at k14
       simp only[cO]at k14
       simp
       refine aa k14 (.inl rfl) ?_
       simp[hwi]
       exact⟨i+1,by omega,by omega,by rw[af],by rw[cO],by omega⟩
      ·simp
       refine aj (fun u2=>?_) (fun u2=>?_)<;>simp at u2
       ·have k15:=Ex hC ⟨s.a,s.s,true,s.d⟩ s rfl rfl rfl (show s.d.length<2^40 by omega)
        rw[cO,cO]at k15
        rw[AW hsv (by omega)]
        simp[u2]
        refine aa k15 (.inl rfl) ?_
        simp[hwi]
        exact⟨i+1,by omega,by omega,by rw[af],by rw[cO],by omega⟩
       ·simp[u2,hwi]
        exact⟨i+1,by omega,by omega,by rw[af],by rw[cO],by omega⟩
   ·simp
  ·simp only[ofV,if_neg c6]at k4 k5 ⊢
   simp[c6]
 ·have e1:(decide (m.s.length<=40)&&decide (m.f.length<=40))=false:=by simp;omega
  simp[e1]
end Go.Gv

namespace Go.Gv
open Go.RowKit
abbrev KE:=List (Nat×D)×List (Nat×Bool)
section
variable{α β:Type}
def ao(b:Bool)(x:Option α):Option α:=if b then x else none
theorem ac{b:Bool}{x:Option α}{y:α}(h:ao b x=some y):b=true/\x=some y:=by
 unfold ao at h
 split at h
 ·rename_i hb;exact⟨hb,h⟩
 ·cases h
def aI(x:Option α)(k:α->Option β):Option β:=match x with
 | some a=>k a
 | none=>none
theorem aq{x:Option α}{k:α->Option β}{y:β}(h:aI x k=some y):∃a,x=some a/\k a=some y:=by
 cases x with
 | none=>cases h
 | some a=>exact⟨a,rfl,h⟩
end
def Ck(op:BinOp)(k k':IntKind)(a b:Int):Option D:=match op with
 | .add=>ao (decide (k=k')) (some (.int k (k.wrap (a+b))))
 | .sub=>ao (decide (k=k')) (some (.int k (k.wrap (a-b))))
 | .mul=>ao (decide (k=k')) (some (.int k (k.wrap (a*b))))
 | .quo=>ao (decide (k=k')&&decide (b≠0)) (some (.int k (k.wrap (a.tdiv b))))
 | .rem=>ao (decide (k=k')&&decide (b≠0)) (some (.int k (a.tmod b)))
 | .and=>ao (decide (k=k')) (some (.int k (bits .and k a b)))
 | .or=>ao (decide (k=k')) (some (.int k (bits .or k a b)))
 | .xor=>ao (decide (k=k')) (some (.int k (bits .xor k a b)))
 | .andNot=>ao (decide (k=k')) (some (.int k (bits .andNot k a b)))
 | .shl=>ao (decide (0<=b)) (some (.int k (k.wrap (a*2^(min b.toNat k.bits)))))
 | .shr=>ao (decide (0<=b)) (some (.int k (a.fdiv (2^(min b.toNat k.bits)))))
 | .eql=>ao (decide (k=k')) (some (.bool (decide (a=b))))
 | .neq=>ao (decide (k=k')) (some (.bool (!decide (a=b))))
 | .lss=>ao (decide (k=k')) (some (.bool (decide (a<b))))
 | .leq=>ao (decide (k=k')) (some (.bool (decide (a<=b))))
 | .gtr=>ao (decide (k=k')) (some (.bool (decide (b<a))))
 | .geq=>ao (decide (k=k')) (some (.bool (decide (b<=a))))
def xC(op:BinOp)(x y:D):Option D:=match x,y with
 | .int k a,.int k' b=>Ck op k k' a b
 | .str a,.str b=>match op with
  | .eql=>some (.bool (decide (a=b)))
  | .neq=>some (.bool (!decide (a=b)))
  | _=>none
 | _,_=>none
theorem xD{f:Nat->D}{K:D->Prop}{op:BinOp}{x y:Opd}{d:D}(h:xC op (vd f x) (vd f y)=some d)(hk:K d):res f K (.bin op x y):=by
 simp only[res]
 revert h
 generalize vd f x=a
 generalize vd f y=b
 intro h
 unfold xC at h
 split at h
 ·cases op<;>simp only[Ck]at h ⊢<;>(obtain⟨h1,h2⟩:=ac h)<;>cases h2<;>simp_all
 ·cases op<;>first|(cases h;exact hk)|cases h
 ·cases h
def iV(f:Nat->D)(o:Option Opd)(dflt:Nat):Option Nat:=match o with
 | none=>some dflt
 | some x=>match vd f x with
  | .int _ n=>ao (decide (0<=n)) (some n.toNat)
  | _=>none
theorem fE{f:Nat->D}{o:Option Opd}{dflt n:Nat}{K:Nat->Prop}(h:iV f o dflt=some n)(hk:K n):dP f o dflt K:=by
 unfold iV at h
 unfold dP
 split at h
 ·cases h;exact hk
 ·split at h
  ·rename_i hx
   obtain⟨h1,h2⟩:=ac h
   cases h2
   dsimp only
   rw[hx]
   exact⟨by simpa using h1,hk⟩
  ·cases h
def ul(f:Nat->D)(d:D):Option (D×List Nat):=match d with
 | .ref (.r b) k n=>match f b with
  | .blk sz es=>ao (decide (k=0)&&decide (es.length=n)&&es.all fun e=>e.all aH) (some (.own sz es,[b]))
  | _=>none
 | d=>ao (aH d) (some (d,[]))
theorem qY{f:Nat->D}{d c:D}{bs:List Nat}{K:D->List Nat->Prop}(h:ul f d=some (c,bs))(hk:K c bs):dO f d K:=by
 unfold ul at h
 split at h
 ·rename_i b k n
  split at h
  ·rename_i hb
   obtain⟨h1,h2⟩:=ac h
   cases h2
   simp only[x0a,x0b,x0f]at h1
   show k=0/\_
   rw[hb]
   exact⟨h1.1.1,h1.1.2,h1.2,hk⟩
  ·cases h
 ·rename_i hn
  obtain⟨h1,h2⟩:=ac h
  cases h2
  unfold dO
  split
  ·rename_i b k n
   exact absurd rfl (hn b k n)
  ·exact⟨h1,hk⟩
def wR(f:Nat->D):List D->Option (List D×List Nat)
 | []=>some ([],[])
 | d::ds=>aI (ul f d) fun p=>aI (wR f ds) fun q=>some (p.1::q.1,p.2++q.2)
theorem qZ{f:Nat->D}:∀{ds cs:List D} {bs:List Nat} {K:List D->List Nat->Prop},wR f ds=some (cs,bs)->K cs bs->j6 f ds K
 | [],cs,bs,K,h,hk=>by cases h;exact hk
 | d::ds,cs,bs,K,h,hk=>by
  obtain⟨⟨c,b⟩,h1,h⟩:=aq h
  obtain⟨⟨cs',bs'⟩,h2,h⟩:=aq h
  cases h
  exact qY h1 (qZ h2 hk)
def wQ(f:Nat->D)(d:D)(ns:List Nat):Option (List D×List Nat):=match d with
 | .agg ds=>ao (ds.all aH&&(decide (ns=[])||decide (ns.length=ds.length))) (some (eI ns ds,[]))
 | .agx ds=>ao (decide (ns=[])||decide (ns.length=ds.length)) (aI (wR f ds) fun p=>ao (bD p.2) (some (eI ns p.1,p.2)))
 | d=>ao (decide (ns=[])||decide (ns.length=1)) (aI (ul f d) fun p=>some (eI ns [p.1],p.2))
theorem pK{f:Nat->D}{d:D}{ns:List Nat}{cs:List D}{bs:List Nat}{K:List D->List Nat->Prop}(h:wQ f d ns=some (cs,bs))(hk:K cs bs):fB f d ns K:=by
 unfold wQ at h
 unfold fB
 split at h
 ·obtain⟨h1,h2⟩:=ac h
  cases h2
  simp only[x0a,x0f,x0E,x0b]at h1
  exact⟨h1.1,h1.2,hk⟩
 ·obtain⟨h1,h2⟩:=ac h
  obtain⟨⟨c,b⟩,h3,h4⟩:=aq h2
  obtain⟨h5,h6⟩:=ac h4
  cases h6
  simp only[x0E,x0b]at h1
  exact⟨h1,qZ h3 ⟨h5,hk⟩⟩
 ·rename_i hn1 hn2
  obtain⟨h1,h2⟩:=ac h
  obtain⟨⟨c,b⟩,h3,h4⟩:=aq h2
  cases h4
  simp only[x0E,x0b]at h1
  split
  ·rename_i ds;exact absurd rfl (hn1 ds)
  ·rename_i ds;exact absurd rfl (hn2 ds)
  ·exact⟨h1,qY h3 hk⟩
def yM(f:Nat->D)(mv:Bool)(d:D)(sz:Nat):Option (List (List D)×List Nat):=match d with
 | .nils=>some ([],[])
 | .sl es=>ao (es.all fun e=>decide (e.length=sz)&&e.all aH) (some (es,[]))
 | .ref p k n=>match mv with
  | true=>match p with
   | .r b=>match f b with
    | .blk sz' es=>ao (decide (k=0)&&decide (sz'=sz)&&decide (es.length=n)&&es.all fun e=>e.all isC) (some (es,[b]))
    | _=>none
   | _=>none
  | false=>match aQ f p with
   | some (sz',es)=>ao (decide (sz'=sz)&&decide (k+n<=es.length)&&((es.drop k).take n).all fun e=>e.all aH) (some ((es.drop k).take n,[]))
   | none=>none
 | _=>none
theorem yN{f:Nat->D}{mv:Bool}{d:D}{sz:Nat}{es:List (List D)}{bs:List Nat}{K:List (List D)->List Nat->Prop}(h:yM f mv d sz=some (es,bs))(hk:K es bs):eT f mv d sz K:=by
 unfold yM at h
 unfold eT
 split at h
 ·cases h;exact hk
 ·obtain⟨h1,h2⟩:=ac h
  cases h2
  simp only[x0f,x0a,x0b]at h1
  exact⟨fun e he=>⟨(h1 e he).1,(h1 e he).2⟩,hk⟩
 ·split at h
  ·split at h
   ·split at h
    ·rename_i hb
     obtain⟨h1,h2⟩:=ac h
     cases h2
     simp only[x0f,x0a,x0b]at h1
     dsimp only
     rw[hb]
     exact⟨h1.1.1.1,h1.1.1.2,h1.1.2,h1.2,hk⟩
    ·cases h
   ·cases h
  ·split at h
   ·rename_i hg
    obtain⟨h1,h2⟩:=ac h
    cases h2
    simp only[x0f,x0a,x0b]at h1
    dsimp only
    rw[hg]
    exact⟨h1.1.1,h1.1.2,h1.2,hk⟩
   ·cases h
 ·cases h
def tI(f:Nat->D)(sz:Nat)(ns:List Nat):List (Nat×Opd)->List (List D)->List Nat->Option (List (List D)×List Nat)
 | [],es,bs=>some (es,bs)
 | (i,x)::ps,es,bs=>ao (decide (i<es.length)) (aI (wQ f (vd f x) ns) fun p=>ao (decide (p.1.length=sz)) (tI f sz ns ps (es.set i p.1) (bs++p.2)))
theorem pu{f:Nat->D}{sz:Nat}{ns:List Nat}:∀{ps:List (Nat×Opd)} {es es':List (List D)} {bs bs':List Nat} {K:List (List D)->List Nat->Prop},tI f sz ns ps es bs=some (es',bs')->K es' bs'->eK f sz ns ps es bs K
 | [],es,es',bs,bs',K,h,hk=>by cases h;exact hk
 | (i,x)::ps,es,es',bs,bs',K,h,hk=>by
  obtain⟨h1,h2⟩:=ac h
  obtain⟨⟨c,b⟩,h3,h4⟩:=aq h2
  obtain⟨h5,h6⟩:=ac h4
  exact⟨by simpa using h1,pK h3 ⟨by simpa using h5,pu h6 hk⟩⟩
def iZ(f:Nat->D)(d:D):Bool:=match d with
 | .ref p k n=>match aQ f p with
  | some (_,es)=>decide (k+n<=es.length)
  | none=>false
 | .adr p _ _=>(aQ f p).isSome
 | .mrf _=>false
 | .ifa _ _ _ _=>false
 | _=>true
theorem jp{f:Nat->D}{d:D}(h:iZ f d=true):bu f d:=by
 cases d<;>first|trivial|(cases h;done)|skip
 ·rename_i p k n
  show match aQ f p with
   | some (_,es)=>k+n<=es.length
   | none=>False
  have h':(match aQ f p with
   | some (_,es)=>decide (k+n<=es.length)
   | none=>false)=true:=h
  revert h'
  cases aQ f p with
  | none=>intro h';cases h'
  | some q=>intro h';simpa using h'
 ·rename_i p i o
  show match aQ f p with
   | some _=>True
   | none=>False
  have h':(aQ f p).isSome=true:=h
  revert h'
  cases aQ f p with
  | none=>intro h';cases h'
  | some q=>intro h';trivial
def kd(f:Nat->D)(d:D):Bool:=match d with
 | .agx ds=>ds.all (iZ f)
 | .tpx ds=>ds.all (iZ f)
 | .ptx ds=>ds.all (iZ f)
 | .rfx _ _ _=>false
 | .fny _ _ _=>false
 | .fnx _ ds=>ds.all (iZ f)
 | d=>iZ f d
theorem ro{f:Nat->D}{d:D}(h:kd f d=true):bS f d:=by
 unfold kd at h
 unfold bS
 cases d<;>dsimp only at h ⊢<;>first|(cases h;done)|exact jp h|(rw[x0f]at h;exact fun x hx=>jp (h x hx))
def yv(ag:Bool)(n:Nat)(ds:List D)(f:Nat->D)(p:Pa)(i off:Nat):D:=match ag with
 | true=>if ((ds.take n).all isV) then .agg (ds.take n) else .agx ((ds.take n).mapIdx fun j c=>ldc p i (off+j) c)
 | false=>ldc p i off (ds.headD .any)
def yw(n:Nat)(d:D):Bool:=match d with
 | .agg ds=>decide (ds.length=n)
 | .agx ds=>decide (ds.length=n)
 | .any=>false
 | .tpx _=>false
 | .ptx _=>false
 | .rfx _ _ _=>false
 | .fny _ _ _=>false
 | .fnx _ _=>false
 | _=>decide (n=1)
def CG(n:Nat)(d:D):Prop:=match d with
 | .agg ds=>ds.length=n
 | .agx ds=>ds.length=n
 | .any=>False
 | .tpx _=>False
 | .ptx _=>False
 | .rfx _ _ _=>False
 | .fny _ _ _=>False
 | .fnx _ _=>False
 | _=>n=1
theorem yx{n:Nat}{d:D}(h:yw n d=true):CG n d:=by
 unfold yw at h
 unfold CG
 cases d<;>dsimp only at h ⊢<;>first|(cases h;done)|exact of_decide_eq_true h
def DD(q:IntKind):D->Bool
 | .int q' n=>decide (q'=q)&&(Lit.int q n).wf
 | _=>false
theorem AL{q:IntKind}{d:D}(h:DD q d=true):∃x,d=.int q x/\rK q x:=by
 unfold DD at h
 split at h
 ·rw[x0a,x0b]at h
  obtain⟨rfl,h⟩:=h
  exact⟨_,rfl,h⟩
 ·cases h
def qi:KSh->D->Bool
 | .int q,.int q' n=>decide (q'=q)&&(Lit.int q n).wf
 | .str,.str s=>decide (s.length<=maxLen)
 | .bool,.bool _=>true
 | .ints q n,.agg ds=>decide (ds.length=n)&&ds.all (DD q)
 | _,_=>false
theorem pf{sh:KSh}{d:D}(h:qi sh d=true):dK sh d:=by
 unfold qi at h
 split at h
 ·rw[x0a]at h
  exact⟨of_decide_eq_true h.1,h.2⟩
 ·show _<=maxLen
  exact of_decide_eq_true h
 ·trivial
 ·rw[x0a,x0f]at h
  exact⟨of_decide_eq_true h.1,fun d hd=>AL (h.2 d hd)⟩
 ·cases h
def xr:D->D->Bool
 | .int q _,.int q' n=>decide (q'=q)&&(Lit.int q n).wf
 | .bool _,.bool _=>true
 | .str _,.str s=>decide (s.length<=maxLen)
 | _,_=>false
theorem xu{z d:D}(h:xr z d=true):i5 z d:=by
 unfold xr at h
 split at h
 ·rw[x0a]at h
  exact⟨of_decide_eq_true h.1,h.2⟩
 ·trivial
 ·show _<=maxLen
  exact of_decide_eq_true h
 ·cases h
def evD(f:Nat->D):NOp->Option D
 | .mov x=>ao (isS (vd f x)) (some (vd f x))
 | .nck x=>match vd f x with
  | .ptr ds=>some (.ptr ds)
  | .adr p i off=>some (.adr p i off)
  | .ptx ds=>some (.ptx ds)
  | _=>none
 | .pick c a b=>match vd f c with
  | .bool true=>ao (isS (vd f a)) (some (vd f a))
  | .bool false=>ao (isS (vd f b)) (some (vd f b))
  | _=>none
 | .bin op x y=>xC op (vd f x) (vd f y)
 | .un op x=>match vd f x,op with
  | .bool b,.not=>some (.bool (!b))
  | .int k n,.neg=>some (.int k (k.wrap (0-n)))
  | _,_=>none
 | .conv k x=>match vd f x with
  | .int _ n=>some (.int k (k.wrap n))
  | _=>none
 | .beq neg ks x y=>match vd f x,vd f y with
  | .bool a,.bool b=>ao (decide (ks=[])) (some (.bool ((a==b) != neg)))
  | .nils,.nils=>ao (decide (ks=[9])) (some (.bool (!neg)))
  | .sl es,.nils=>ao (decide (ks=[9])&&decide (0<es.length)) (some (.bool neg))
  | .nilp,.nilp=>ao (decide (ks=[8])) (some (.bool (!neg)))
  | .ptr _,.nilp=>ao (decide (ks=[8])) (some (.bool neg))
  | .agg a,.agg b=>ao (decide (ks≠[])) (aI (cq ks a b) fun r=>some (.bool (r != neg)))
  | _,_=>none
 | .fld off n ag x=>match vd f x with
  | .agg ds=>ao (decide (off+n<=ds.length)) (some (pack ag n (ds.drop off)))
  | .agx ds=>ao (decide (off+n<=ds.length)) (some (match ag with
   | true=>.agx ((ds.drop off).take n)
   | false=>(ds.drop off).headD .any))
  | _=>none
 | .idxA len sz ag x i=>match vd f x,vd f i with
  | .agg ds,.int _ j=>ao (decide (0<=j)&&decide (j<len)&&decide (j.toNat*sz+sz<=ds.length)) (some (pack ag sz (ds.drop (j.toNat*sz))))
  | .agx ds,.int _ j=>ao (decide (0<=j)&&decide (j<len)&&decide (j.toNat*sz+sz<=ds.length)) (some (match ag with
   | true=>.agx ((ds.drop (j.toNat*sz)).take sz)
   | false=>(ds.drop (j.toNat*sz)).headD .any))
  | _,_=>none
 | .idxS x i=>match vd f x,vd f i with
  | .str s,.int _ j=>ao (decide (0<=j)) (aI s[j.toNat]? fun b=>some (.int .u8 b.toNat))
  | _,_=>none
 | .ext i x=>match vd f x with
  | .tup ds=>ds[i]?
  | .tpx ds=>ds[i]?
  | _=>none
 | .fad off x=>match vd f x with
  | .adr p i o=>some (.adr p i (o+off))
  | .ptr ds=>some (.ptr (ds.drop off))
  | .ptx ds=>some (.ptx (ds.drop off))
  | _=>none
 | .iadS sz x i=>match vd f x,vd f i with
  | .sl es,.int _ j=>ao (decide (0<=j)) (aI es[j.toNat]? fun e=>ao (decide (e.length=sz)) (some (.ptr e)))
  | .rfx n sz' ds,.int _ j=>ao (decide (0<=j)&&decide (j.toNat<n)&&decide (sz'=sz)) (some (.ptx (ds.drop (j.toNat*sz))))
  | .ref p k n,.int _ j=>ao (decide (0<=j)&&decide (j.toNat<n)) (aI (aQ f p) fun q=>ao (decide (q.1=sz)) (some (.adr p (k+j.toNat) 0)))
  | _,_=>none
 | .iadA len sz x i=>match vd f x,vd f i with
  | .adr p r o,.int _ j=>ao (decide (0<=j)&&decide (j<len)) (some (.adr p r (o+j.toNat*sz)))
  | .ptr ds,.int _ j=>ao (decide (0<=j)&&decide (j<len)) (some (.ptr (ds.drop (j.toNat*sz))))
  | _,_=>none
 | .ld n ag x=>match vd f x with
  | .adr p i off=>aI (aQ f p) fun q=>aI q.2[i]? fun r=>ao (decide (off+n<=r.length)) (some (yv ag n (r.drop off) f p i off))
  | .ptr ds=>ao (decide (n<=ds.length)) (some (pack ag n ds))
  | .ptx ds=>ao (decide (n<=ds.length)&&decide (0<n)) (some (match ag with
   | true=>if (ds.take n).all isV then .agg (ds.take n) else .agx (ds.take n)
   | false=>ds.headD .any))
  | _=>none
 | .boxF x=>match vd f x with
  | .agx ds=>some (.ptx ds)
  | .agg ds=>some (.ptr ds)
  | d=>ao (aH d) (some (.ptr [d]))
 | .bld zs parts=>ao (parts.all fun p=>isS (vd f p.2.2)&&decide (p.1+p.2.1<=zs.length)&&yw p.2.1 (vd f p.2.2)) (some (if (parts.all fun p=>isV (vd f p.2.2)) then .agg (gL zs (parts.map fun p=>(p.1,p.2.1,vd f p.2.2))) else .agx (gL zs (parts.map fun p=>(p.1,p.2.1,dY (vd f p.2.2))))))
 | .blsF sz len zs parts=>ao ((parts.all fun p=>decide (p.1<len)&&decide ((eA (vd f p.2)).length=sz)&&(eA (vd f p.2)).all aH)&&decide (0<len)&&(fN f parts (List.replicate len zs)).all fun e=>e.all aH) (some (.sl (fN f parts (List.replicate len zs))))
 | .mpl sh kt et ok z m x=>match vd f m with
  | .mrf b=>match f b with
   | .mp kt' et' ks vs=>ao (decide (kt'=kt)&&decide (et'=et)&&qi sh (vd f x)) (some (match ok with
    | true=>.tup [(cJ ks vs (vd f x)).getD z,.bool (cJ ks vs (vd f x)).isSome]
    | false=>(cJ ks vs (vd f x)).getD z))
   | _=>none
  | _=>none
 | .add64 x y c=>match vd f x,vd f y,vd f c with
  | .int .u64 a,.int .u64 b,.int .u64 k=>ao (decide (0<=a)&&decide (a<18446744073709551616)&&decide (0<=b)&&decide (b<18446744073709551616)&&decide (0<=k)&&decide (k<=1)) (some (.tup [.int .u64 ((a+b+k)%18446744073709551616),.int .u64 ((a+b+k)/18446744073709551616)]))
  | _,_,_=>none
 | .sub64 x y c=>match vd f x,vd f y,vd f c with
  | .int .u64 a,.int .u64 b,.int .u64 k=>ao (decide (0<=a)&&decide (a<18446744073709551616)&&decide (0<=b)&&decide (b<18446744073709551616)&&decide (0<=k)&&decide (k<=1)) (some (.tup [.int .u64 ((a-b-k)%18446744073709551616),.int .u64 (if a<b+k then 1 else 0)]))
  | _,_,_=>none
 | .len x=>match vd f x with
  | .sl es=>some (.int .i64 es.length)
  | .nils=>some (.int .i64 0)
  | .ref _ _ n=>some (.int .i64 n)
  | .rfx n _ _=>some (.int .i64 n)
  | _=>none
 | .lens x=>match vd f x with
  | .str s=>some (.int .i64 s.length)
  | _=>none
 | .mk g xs=>ao (xs.all fun x=>isP (vd f x)) (some (if (xs.all fun x=>isV (vd f x)) then .fn g (xs.map (vd f)) else .fnx g (xs.map (vd f))))
 | .slc sz x lo hi=>match vd f x with
  | .sl es=>ao (es.all fun e=>decide (e.length=sz)) (aI (iV f hi es.length) fun h=>aI (iV f lo 0) fun l=>ao (decide (l<=h)&&decide (h<=es.length)) (some (.sl ((es.take h).drop l))))
  | .nils=>aI (iV f hi 0) fun h=>aI (iV f lo 0) fun l=>ao (decide (l<=h)&&decide (h<=0)) (some (.sl []))
  | .ref p k n=>aI (aQ f p) fun q=>ao (decide (q.1=sz)) (aI (iV f hi n) fun h=>aI (iV f lo 0) fun l=>ao (decide (l<=h)&&decide (h<=n)) (some (.ref p (k+l) (h-l))))
  | _=>none
 | .slA len sz x=>match vd f x with
  | .ptr ds=>ao (decide (0<len)&&decide (0<sz)&&decide (len*sz<=ds.length)) (some (.sl (bY sz len ds)))
  | _=>none
 | .mn x y=>match vd f x,vd f y with
  | .int k a,.int k' b=>ao (decide (k=k')) (some (.int k (if b<a then b else a)))
  | _,_=>none
 | .mx x y=>match vd f x,vd f y with
  | .int k a,.int k' b=>ao (decide (k=k')) (some (.int k (if a<b then b else a)))
  | _,_=>none
 | .unk=>some .any
 | _=>none
theorem nJ{d y:D}{K:D->Prop}(h:ao (isS d) (some d)=some y)(hk:K y):isS d=true/\K d:=by
 obtain⟨h1,h2⟩:=ac h
 cases h2
 exact⟨h1,hk⟩
theorem Dl{f:Nat->D}{op:NOp}{d:D}{K:D->Prop}(h:evD f op=some d)(hk:K d):res f K op:=by
 cases op with
 | mov x=>exact nJ h hk
 | bin op x y=>exact xD h hk
 | nck x =>
  simp only[evD]at h
  simp only[res]
  split at h<;>first|(cases h;done)|(rename_i hx;rw[hx];cases h;exact hk)
 | pick c a b =>
  simp only[evD]at h
  simp only[res]
  split at h
  ·rename_i hx;rw[hx]
   exact And.intro (fun _=>nJ h hk) (fun e=>by cases e)
  ·rename_i hx;rw[hx]
   exact And.intro (fun e=>by cases e) (fun _=>nJ h hk)
  ·cases h
 | un op x =>
  simp only[evD]at h
  simp only[res]
  split at h
  ·rename_i hx;rw[hx];cases h;exact hk
  ·rename_i hx;rw[hx];cases h;exact hk
  ·cases h
 | conv k x =>
  simp only[evD]at h
  simp only[res]
  split at h
  ·rename_i hx;rw[hx];cases h;exact hk
  ·cases h
 | ext i x =>
  simp only[evD]at h
  simp only[res]
  split at h
  ·rename_i hx;rw[hx];exact⟨_,h,hk⟩
  ·rename_i hx;rw[hx];exact⟨_,h,hk⟩
  ·cases h
 | fad off x =>
  simp only[evD]at h
  simp only[res]
  split at h<;>first|(cases h;done)|(rename_i hx;rw[hx];cases h;exact hk)
 | len x =>
  simp only[evD]at h
  simp only[res]
  split at h<;>first|(cases h;done)|(rename_i hx;rw[hx];cases h;exact hk)
 | lens x =>
  simp only[evD]at h
  simp only[res]
  split at h<;>first|(cases h;done)|(rename_i hx;rw[hx];cases h;exact hk)
 | beq neg ks x y =>
  simp only[evD]at h
  simp only[res]
  split at h
  ·rename_i hx hy;rw[hx,hy];obtain⟨h1,h2⟩:=ac h;cases h2;exact⟨of_decide_eq_true h1,hk⟩
  ·rename_i hx hy;rw[hx,hy];obtain⟨h1,h2⟩:=ac h;cases h2;exact⟨of_decide_eq_true h1,hk⟩
  ·rename_i hx hy;rw[hx,hy];obtain⟨h1,h2⟩:=ac h;cases h2
   simp only[x0a,x0b]at h1
   exact⟨h1.1,fun _=>hk,fun h0=>absurd h1.2 (by omega)⟩
  ·rename_i hx hy;rw[hx,hy];obtain⟨h1,h2⟩:=ac h;cases h2;exact⟨of_decide_eq_true h1,hk⟩
  ·rename_i hx hy;rw[hx,hy];obtain⟨h1,h2⟩:=ac h;cases h2;exact⟨of_decide_eq_true h1,hk⟩
  ·rename_i hx hy;rw[hx,hy];obtain⟨h1,h2⟩:=ac h
   obtain⟨r,h3,h4⟩:=aq h2
   cases h4
   refine⟨of_decide_eq_true h1,?_⟩
   rw[h3]
   exact hk
  ·cases h
 | fld off n ag x =>
  simp only[evD]at h
  simp only[res]
  split at h
  ·rename_i hx;rw[hx];obtain⟨h1,h2⟩:=ac h;cases h2;exact⟨of_decide_eq_true h1,hk⟩
  ·rename_i hx;rw[hx];obtain⟨h1,h2⟩:=ac h;cases h2
   refine⟨of_decide_eq_true h1,?_⟩
   cases ag<;>exact hk
  ·cases h
 | idxA len sz ag x i =>
  simp only[evD]at h
  simp only[res]
  split at h
  ·rename_i hx hy;rw[hx,hy];obtain⟨h1,h2⟩:=ac h;cases h2
   simp only[x0a,x0b]at h1
   exact⟨h1.1.1,h1.1.2,h1.2,hk⟩
  ·rename_i hx hy;rw[hx,hy];obtain⟨h1,h2⟩:=ac h;cases h2
   simp only[x0a,x0b]at h1
   refine⟨h1.1.1,h1.1.2,h1.2,?_⟩
   cases ag<;>exact hk
  ·cases h
 | idxS x i =>
  simp only[evD]at h
  simp only[res]
  split at h
  ·rename_i hx hy;rw[hx,hy];obtain⟨h1,h2⟩:=ac h
   obtain⟨r,h3,h4⟩:=aq h2
   cases h4
   exact⟨of_decide_eq_true h1,r,h3,hk⟩
  ·cases h
 | iadS sz x i =>
  simp only[evD]at h
  simp only[res]
  split at h
  ·rename_i hx hy;rw[hx,hy];obtain⟨h1,h2⟩:=ac h
   obtain⟨r,h3,h4⟩:=aq h2
   obtain⟨h5,h6⟩:=ac h4
   cases h6
   exact⟨of_decide_eq_true h1,r,h3,of_decide_eq_true h5,hk⟩
  ·rename_i hx hy;rw[hx,hy];obtain⟨h1,h2⟩:=ac h;cases h2
   simp only[x0a,x0b]at h1
   exact⟨h1.1.1,h1.1.2,h1.2,hk⟩
  ·rename_i hx hy;rw[hx,hy];obtain⟨h1,h2⟩:=ac h
   obtain⟨⟨a,c⟩,h3,h4⟩:=aq h2
   obtain⟨h5,h6⟩:=ac h4
   cases h6
   simp only[x0a,x0b]at h1 h5
   refine⟨h1.1,h1.2,?_⟩
   rw[h3]
   exact⟨h5,hk⟩
  ·cases h
 | iadA len sz x i =>
  simp only[evD]at h
  simp only[res]
  split at h
  ·rename_i hx hy;rw[hx,hy];obtain⟨h1,h2⟩:=ac h;cases h2
   simp only[x0a,x0b]at h1
   exact⟨h1.1,h1.2,hk⟩
  ·rename_i hx hy;rw[hx,hy];obtain⟨h1,h2⟩:=ac h;cases h2
   simp only[x0a,x0b]at h1
   exact⟨h1.1,h1.2,hk⟩
  ·cases h
 | ld n ag x =>
  simp only[evD]at h
  simp only[res]
  split at h
  ·rename_i hx;rw[hx]
   obtain⟨⟨a,es⟩,h1,h2⟩:=aq h
   obtain⟨r,h3,h4⟩:=aq h2
   obtain⟨h5,h6⟩:=ac h4
   cases h6
   dsimp only
   rw[h1]
   refine⟨r,h3,of_decide_eq_true h5,?_⟩
   cases ag
   ·exact hk
   ·refine⟨fun g=>?_,fun g=>?_⟩
    ·simp only[yv,g,if_true]at hk;exact hk
    ·simp only[yv,g,if_false,x0j]at hk;exact hk
  ·rename_i hx;rw[hx];obtain⟨h1,h2⟩:=ac h;cases h2;exact⟨of_decide_eq_true h1,hk⟩
  ·rename_i hx;rw[hx];obtain⟨h1,h2⟩:=ac h;cases h2
   simp only[x0a,x0b]at h1
   refine⟨h1.1,?_⟩
   cases ag
   ·exact⟨h1.2,hk⟩
   ·refine⟨fun g=>?_,fun g=>?_⟩
    ·simp only[g,if_true]at hk;exact hk
    ·simp only[g,if_false,x0j]at hk;exact hk
  ·cases h
 | boxF x =>
  simp only[evD]at h
  simp only[res]
  revert h
  cases vd f x<;>intro h<;>first|(cases h;exact hk)|(obtain⟨h1,h2⟩:=ac h;cases h2;exact⟨h1,hk⟩)
 | bld zs parts =>
  simp only[evD]at h
  simp only[res]
  obtain⟨h1,h2⟩:=ac h
  cases h2
  simp only[x0f,x0a,x0b]at h1
  refine⟨fun p hp=>⟨(h1 p hp).1.1,(h1 p hp).1.2,yx (h1 p hp).2⟩,fun g=>?_,fun g=>?_⟩
  ·rw[if_pos g]at hk;exact hk
  ·rw[if_neg (by rw[g];decide)]at hk;exact hk
 | blsF sz len zs parts =>
  simp only[evD]at h
  simp only[res]
  obtain⟨h1,h2⟩:=ac h
  cases h2
  simp only[x0f,x0a,x0b]at h1
  exact⟨fun p hp=>⟨(h1.1.1 p hp).1.1,(h1.1.1 p hp).1.2,(h1.1.1 p hp).2⟩,h1.1.2,h1.2,hk⟩
 | mpl sh kt et ok z m x =>
  simp only[evD]at h
  simp only[res]
  split at h
  ·rename_i b hm
   rw[hm]
   split at h
   ·rename_i hb
    dsimp only
    rw[hb]
    obtain⟨h1,h2⟩:=ac h
    cases h2
    simp only[x0a,x0b]at h1
    refine⟨h1.1.1,h1.1.2,pf h1.2,?_⟩
    cases ok<;>exact hk
   ·cases h
  ·cases h
 | add64 x y c =>
  simp only[evD]at h
  simp only[res]
  split at h
  ·rename_i hx hy hz
   rw[hx,hy,hz]
   obtain⟨h1,h2⟩:=ac h
   cases h2
   simp only[x0a,x0b]at h1
   exact⟨h1.1.1.1.1.1,h1.1.1.1.1.2,h1.1.1.1.2,h1.1.1.2,h1.1.2,h1.2,hk⟩
  ·cases h
 | sub64 x y c =>
  simp only[evD]at h
  simp only[res]
  split at h
  ·rename_i hx hy hz
   rw[hx,hy,hz]
   obtain⟨h1,h2⟩:=ac h
   cases h2
   simp only[x0a,x0b]at h1
   exact⟨h1.1.1.1.1.1,h1.1.1.1.1.2,h1.1.1.1.2,h1.1.1.2,h1.1.2,h1.2,hk⟩
  ·cases h
 | mk g xs =>
  simp only[evD]at h
  simp only[res]
  obtain⟨h1,h2⟩:=ac h
  cases h2
  refine⟨fun x hx=>x0f.1 h1 x hx,fun g=>?_,fun g=>?_⟩
  ·rw[if_pos g]at hk;exact hk
  ·rw[if_neg (by rw[g];decide)]at hk;exact hk
 | slc sz x lo hi =>
  simp only[evD]at h
  simp only[res]
  split at h
  ·rename_i hx;rw[hx];obtain⟨h1,h2⟩:=ac h
   obtain⟨a,h3,h4⟩:=aq h2
   obtain⟨b,h5,h6⟩:=aq h4
   obtain⟨h7,h8⟩:=ac h6
   cases h8
   simp only[x0a,x0b,x0f]at h1 h7
   exact⟨h1,fE h3 (fE h5 ⟨h7.1,h7.2,hk⟩)⟩
  ·rename_i hx;rw[hx]
   obtain⟨a,h3,h4⟩:=aq h
   obtain⟨b,h5,h6⟩:=aq h4
   obtain⟨h7,h8⟩:=ac h6
   cases h8
   simp only[x0a,x0b]at h7
   exact fE h3 (fE h5 ⟨h7.1,h7.2,hk⟩)
  ·rename_i hx;rw[hx]
   obtain⟨⟨c,es⟩,h1,h2⟩:=aq h
   obtain⟨h0,h2⟩:=ac h2
   obtain⟨a,h3,h4⟩:=aq h2
   obtain⟨b,h5,h6⟩:=aq h4
   obtain⟨h7,h8⟩:=ac h6
   cases h8
   simp only[x0a,x0b]at h0 h7
   dsimp only
   rw[h1]
   exact⟨h0,fE h3 (fE h5 ⟨h7.1,h7.2,hk⟩)⟩
  ·cases h
 | slA len sz x =>
  simp only[evD]at h
  simp only[res]
  split at h
  ·rename_i hx;rw[hx];obtain⟨h1,h2⟩:=ac h;cases h2
   simp only[x0a,x0b]at h1
   exact⟨h1.1.1,h1.1.2,h1.2,hk⟩
  ·cases h
 | mn x y =>
  simp only[evD]at h
  simp only[res]
  split at h
  ·rename_i hx hy;rw[hx,hy];obtain⟨h1,h2⟩:=ac h;cases h2;exact⟨of_decide_eq_true h1,hk⟩
  ·cases h
 | mx x y =>
  simp only[evD]at h
  simp only[res]
  split at h
  ·rename_i hx hy;rw[hx,hy];obtain⟨h1,h2⟩:=ac h;cases h2;exact⟨of_decide_eq_true h1,hk⟩
  ·cases h
 | unk=>cases h;exact hk
 | _=>cases h
structure CE where
 pl:Nat->List D->Option D
 ow:Nat->List D->Option (Nat×List (List D))
 nw:Nat->List D->Option D
 hd:Nat->List D->Option D
 lx:Nat->Nat->List (List D)->Nat->List (List D)->List D->Option (D×List (List D)×List (List D))
def CE.holds(ce:CE)(C:CC):Prop:=(∀g ds d,ce.pl g ds=some d->C g ds d [])/\(∀g ds sz es,ce.ow g ds=some (sz,es)->C g ds .any [.own sz es])/\(∀g ds d,ce.nw g ds=some d->C g ds d [.nilp])/\(∀g ds d,ce.hd g ds=some d->okR d=true/\C g ds d [.nils]) /\
 ∀g sz1 es1 sz2 es2 W d es1' es2',ce.lx g sz1 es1 sz2 es2 W=some (d,es1',es2')->0<es1'.length/\0<es2'.length/\C g (.blk sz1 es1::.blk sz2 es2::W) d [.blk sz1 es1',.blk sz2 es2',.nilp]
def rp(dst:Option Nat)(d:D):KE:=match dst with
 | some t=>([(t,d)],[])
 | none=>([],[])
theorem jq{dst:Option Nat}{d:D}{ws:List (Nat×D)}{ks:List (Nat×Bool)}{K:List (Nat×D)->List (Nat×Bool)->Prop}(h:rp dst d=(ws,ks))(hk:K ws ks):df dst K d:=by
 cases dst<;>(cases h;exact hk)
def evX(ce:CE)(f:Nat->D)(dst:Option Nat):NOp->Option KE
 | .asg x=>aI dst fun t=>match vd f x with
  | .ref (.r c) k n=>if c=rt t 0 then some ([(t,.ref (.r c) k n)],[]) else match f c with
   | .blk sz es=>some ([(t,.ref (.r (rt t 0)) k n),(rt t 0,.blk sz es),(c,.any)],[(rt t 0,true)])
   | _=>none
  | d=>ao (isS d) (some ([(t,d)],[]))
 | .frz x=>aI dst fun t=>match vd f x with
  | .ref (.r c) k n=>ao (iZ f (.ref (.r c) k n)) (some ([(t,dp1 f (.ref (.r c) k n)),(c,.any)],[]))
  | d=>ao (isS d) (some ([(t,d)],[]))
 | .nilo sz=>aI dst fun t=>ao (decide (0<sz)) (some ([(t,.ref (.r (rt t 0)) 0 0),(rt t 0,.blk sz [])],[(rt t 0,true)]))
 | .box ns x=>aI dst fun t=>aI (wQ f (vd f x) ns) fun p=>ao (!p.2.contains (rt t 0)) (some ((t,.adr (.r (rt t 0)) 0 0)::(rt t 0,.blk p.1.length [p.1])::bB p.2,[(rt t 0,true)]))
 | .alc zs=>aI dst fun t=>some ([(t,.adr (.r (rt t 0)) 0 0),(rt t 0,.blk zs.length [zs])],[(rt t 0,true)])
 | .bls sz len zs ns parts=>aI dst fun t=>aI (tI f sz ns parts (List.replicate len zs) []) fun p=>ao (bD p.2&&!p.2.contains (rt t 0)) (some ((t,.ref (.r (rt t 0)) 0 len)::(rt t 0,.blk sz p.1)::bB p.2,[(rt t 0,true)]))
 | .mks sz by_ zs n c=>aI dst fun t=>match vd f n,vd f c with
  | .int _ n,.int _ c=>ao (decide (0<=n)&&decide (n<=c)&&decide (c*by_<=140737488355328)) (some ([(t,.ref (.r (rt t 0)) 0 n.toNat),(rt t 0,.blk sz (List.replicate c.toNat zs))],[(rt t 0,true)]))
  | _,_=>none
 | .st n ns a v=>ao dst.isNone (aI (wQ f (vd f v) ns) fun p=>ao (decide (p.1.length=n)) (match vd f a with
  | .adr (.r b) i off=>ao (!p.2.contains b) (match f b with
   | .blk sz es=>aI es[i]? fun r=>ao (decide (off+n<=r.length)) (some ((b,.blk sz (bE es i off n p.1))::bB p.2,stK (vd f v) ns b))
   | _=>none)
  | .adr (.n b i0 o0) i off=>ao (decide (p.2=[])&&p.1.all aH) (match f b with
   | .blk sz0 es0=>aI es0[i0]? fun row0=>match row0[o0]? with
    | some (.own sz es)=>aI es[i]? fun r=>ao (decide (off+n<=r.length)) (some ([(b,.blk sz0 (bE es0 i0 o0 1 [.own sz (bE es i off n p.1)]))],[]))
    | _=>none
   | _=>none)
  | _=>none))
 | .app sz by_ mv x y=>aI dst fun t=>aI (yM f mv (vd f y) sz) fun p=>ao (!p.2.contains (rt t 0)) (match vd f x with
  | .nils=>ao (decide (p.1.length*by_<=140737488355328)) (some ((t,.ref (.r (rt t 0)) 0 p.1.length)::(rt t 0,.blk sz p.1)::bB p.2,[(rt t 0,true)]))
  | .ref (.r c) k n=>ao (decide (c≠rt t 0)&&!p.2.contains c) (match f c with
   | .blk sz' es=>ao (decide (sz'=sz)&&decide (k+n<=es.length)&&decide ((n+p.1.length)*by_<=140737488355328)) (some ((t,.ref (.r (rt t 0)) 0 (n+p.1.length))::(rt t 0,.blk sz ((es.drop k).take n++p.1))::(c,.any)::bB p.2,[(rt t 0,true)]))
   | _=>none)
  | .ref (.n c i o) k n=>ao (decide (c≠rt t 0)&&!p.2.contains c) (match f c with
   | .blk sz0 es0=>aI es0[i]? fun row0=>match row0[o]? with
    | some (.own sz' es)=>ao (decide (sz'=sz)&&decide (k+n<=es.length)&&decide ((n+p.1.length)*by_<=140737488355328)) (some ((t,.ref (.r (rt t 0)) 0 (n+p.1.length))::(rt t 0,.blk sz ((es.drop k).take n++p.1))::(c,.blk sz0 (bE es0 i o 1 [.any]))::bB p.2,[(rt t 0,true)]))
    | _=>none
   | _=>none)
  | _=>none)
 | .slM len sz x=>aI dst fun t=>match vd f x with
  | .adr (.r c) i off=>match f c with
   | .blk _ [row]=>ao (decide (i=0)&&decide (off=0)&&decide (c≠rt t 0)&&decide (0<len)&&decide (0<sz)&&decide (row.length=len*sz)&&row.all aH) (some ([(t,.ref (.r (rt t 0)) 0 len),(rt t 0,.blk sz (bY sz len row)),(c,.any)],[(rt t 0,true)]))
   | _=>none
  | _=>none
 | .ldF n x=>aI dst fun t=>match vd f x with
  | .adr (.r c) i off=>match f c with
   | .blk _ es=>aI es[i]? fun r=>ao (decide (off+n<=r.length)) (some ([(t,.agg (((r.drop off).take n).map bW)),(c,.any)],[]))
   | _=>none
  | _=>none
 | .mkm kt et=>aI dst fun t=>some ([(t,.mrf (rt t 0)),(rt t 0,.mp kt et [] [])],[(rt t 0,true)])
 | .mpu sh kt et z m x v=>ao dst.isNone (match vd f m with
  | .mrf b=>match f b with
   | .mp kt' et' ks vs=>ao (decide (kt'=kt)&&decide (et'=et)&&decide (ks.length<maxLen)&&qi sh (vd f x)&&xr z (vd f v)) (some ([(b,.mp kt et (vd f x::ks) (vd f v::vs))],[]))
   | _=>none
  | _=>none)
 | .call g xs _=>ao (xs.all fun x=>kd f (vd f x)) (aI (ce.pl g (xs.map (dpv f))) fun d=>ao (isF d||xs.all fun x=>isV (vd f x)) (some (rp dst d)))
 | .callG g xs=>ao (xs.all fun x=>kd f (vd f x)) (aI (ce.nw g (xs.map (dpv f))) fun d=>some (rp dst d))
 | .callF g xs=>aI dst fun t=>ao (xs.all fun x=>kd f (vd f x)) (aI (ce.ow g (xs.map (dpv f))) fun p=>some ([(t,.ref (.r (rt t 0)) 0 p.2.length),(rt t 0,.blk p.1 p.2)],[(rt t 0,true)]))
 | .callv x xs=>match vd f x with
  | .fn g cs=>ao (xs.all fun x=>kd f (vd f x)) (aI (ce.pl g (xs.map (dpv f)++cs)) fun d=>ao (isF d||xs.all fun x=>isV (vd f x)) (some (rp dst d)))
  | .fnx g cs=>ao ((xs.all fun x=>kd f (vd f x))&&cs.all (iZ f)) (aI (ce.pl g (xs.map (dpv f)++cs.map (dp1 f))) fun d=>ao (isF d) (some (rp dst d)))
  | _=>none
 | .callA g xs=>aI dst fun t=>ao (xs.all fun x=>isV (vd f x)) (aI (ce.hd g (xs.map (vd f))) fun d=>some ((t,fQ t d)::aW t d,fx t d))
 | .callX g xs x y=>match vd f x,vd f y with
  | .adr (.r b) i off,.ref (.r c) k n=>match f b,f c with
   | .blk sz1 es1,.blk sz2 es2=>ao (decide (i=0)&&decide (off=0)&&decide (k=0)&&decide (b≠c)&&decide (0<es1.length)&&decide (0<es2.length)&&xs.all fun x=>isV (vd f x)) (aI (ce.lx g sz1 es1 sz2 es2 (xs.map (vd f)++[.adr (.r 10015) 0 0,.ref (.r 10031) 0 n])) fun p=>some (bL dst p.1++[(b,.blk sz1 p.2.1),(c,.blk sz2 p.2.2)],[(b,false),(c,false)]))
   | _,_=>none
  | _,_=>none
 | .stF n x y=>ao dst.isNone (match x with
  | .t s=>match f s with
   | .adr (.r c) i0 o0=>match f c with
    | .blk _ [row]=>aI (kN (vd f y)) fun ds=>ao (decide (s<10000)&&decide (i0=0)&&decide (o0=0)&&decide (row.length=n)&&decide (ds.length=n)&&ds.all nI) (some ([(s,.ptx ds),(c,.any)],[]))
    | _=>none
   | _=>none
  | .c _=>none)
 | .stG s x y=>ao dst.isNone (match f s with
  | .adr (.r c) i0 o0=>match f c with
   | .blk _ [row]=>match vd f x with
    | .adr (.r c') i off=>ao (decide (s<10000)&&decide (i0=0)&&decide (o0=0)&&row.all aH&&decide (c'=c)&&decide (i=0)&&decide (off<row.length)&&nI (vd f y)) (some ([(s,.ptx (row.set off (vd f y))),(c,.any)],[]))
    | _=>none
   | _=>none
  | _=>none)
 | op=>aI (evD f op) fun d=>some (rp dst d)
theorem iS{f:Nat->D}{xs:List Opd}(h:(xs.all fun x=>kd f (vd f x))=true):∀x∈xs,bS f (vd f x):=fun x hx=>ro (x0f.1 h x hx)
theorem noC{bs:List Nat}{b:Nat}(h:(!bs.contains b)=true):bs.contains b=false:=by simpa using h
theorem p8{C:CC}{ce:CE}(H:ce.holds C){f:Nat->D}{dst:Option Nat}{op:NOp}{ws:List (Nat×D)}{ks:List (Nat×Bool)}{K:List (Nat×D)->List (Nat×Bool)->Prop}(h:evX ce f dst op=some (ws,ks))(hk:K ws ks):aB C f dst K op:=by
 have other:∀{op:NOp},aI (evD f op) (fun d=>some (rp dst d))=some (ws,ks)->res f (df dst K) op:=fun h=>by
  obtain⟨d,h1,h2⟩:=aq h
  exact Dl h1 (jq (Option.some.inj h2) hk)
 cases op with
 | asg x =>
  obtain⟨t,ht,h'⟩:=aq h
  clear h
  subst ht
  have h:=h'
  clear h'
  try dsimp only at h
  simp only[aB]
  split at h
  ·rename_i c k n hx
   rw[hx]
   dsimp only
   split at h
   ·rename_i hc;rw[if_pos hc];cases h;exact hk
   ·rename_i hc;rw[if_neg hc]
    split at h
    ·rename_i hb;rw[hb];cases h;exact hk
    ·cases h
  ·rename_i hn
   obtain⟨h1,h2⟩:=ac h
   cases h2
   split
   ·rename_i c k n hx;exact absurd hx (hn c k n)
   ·exact⟨h1,hk⟩
 | frz x =>
  obtain⟨t,ht,h'⟩:=aq h
  clear h
  subst ht
  have h:=h'
  clear h'
  try dsimp only at h
  simp only[aB]
  split at h
  ·rename_i c k n hx
   rw[hx]
   obtain⟨h1,h2⟩:=ac h
   cases h2
   exact⟨jp h1,hk⟩
  ·rename_i hn
   obtain⟨h1,h2⟩:=ac h
   cases h2
   split
   ·rename_i c k n hx;exact absurd hx (hn c k n)
   ·exact⟨h1,hk⟩
 | nilo sz =>
  obtain⟨t,ht,h'⟩:=aq h
  clear h
  subst ht
  have h:=h'
  clear h'
  obtain⟨h1,h2⟩:=ac h
  cases h2
  exact⟨of_decide_eq_true h1,hk⟩
 | box ns x =>
  obtain⟨t,ht,h'⟩:=aq h
  clear h
  subst ht
  have h:=h'
  clear h'
  obtain⟨⟨cs,bs⟩,h1,h⟩:=aq h
  obtain⟨h2,h⟩:=ac h
  cases h
  simp only[aB]
  exact pK h1 ⟨noC h2,hk⟩
 | alc zs =>
  obtain⟨t,ht,h'⟩:=aq h
  clear h
  subst ht
  have h:=h'
  clear h'
  cases h
  exact hk
 | bls sz len zs ns parts =>
  obtain⟨t,ht,h'⟩:=aq h
  clear h
  subst ht
  have h:=h'
  clear h'
  obtain⟨⟨es,bs⟩,h1,h⟩:=aq h
  obtain⟨h2,h⟩:=ac h
  cases h
  rw[x0a]at h2
  simp only[aB]
  exact pu h1 ⟨h2.1,noC h2.2,hk⟩
 | mks sz by_ zs n c =>
  obtain⟨t,ht,h'⟩:=aq h
  clear h
  subst ht
  have h:=h'
  clear h'
  try dsimp only at h
  simp only[aB]
  split at h
  ·rename_i hx hy
   rw[hx,hy]
   obtain⟨h1,h2⟩:=ac h
   cases h2
   simp only[x0a,x0b]at h1
   exact⟨h1.1.1,h1.1.2,h1.2,hk⟩
  ·cases h
 | st n ns a v =>
  obtain⟨h0,h⟩:=ac h
  obtain⟨⟨cs,bs⟩,h1,h⟩:=aq h
  obtain⟨h2,h⟩:=ac h
  simp only[aB]
  refine And.intro (by cases dst<;>first|rfl|cases h0) (pK h1 ⟨of_decide_eq_true h2,?_⟩)
  try dsimp only at h ⊢
  split at h
  ·rename_i b i off hx
   rw[hx]
   obtain⟨h3,h⟩:=ac h
   refine⟨noC h3,?_⟩
   split at h
   ·rename_i hb
    rw[hb]
    obtain⟨r,h4,h⟩:=aq h
    obtain⟨h5,h⟩:=ac h
    cases h
    exact⟨r,h4,of_decide_eq_true h5,hk⟩
   ·cases h
  ·rename_i b i0 o0 i off hx
   rw[hx]
   obtain⟨h3,h⟩:=ac h
   simp only[x0a,x0b,x0f]at h3
   refine⟨h3.1,h3.2,?_⟩
   split at h
   ·rename_i hb
    rw[hb]
    obtain⟨row0,h4,h⟩:=aq h
    split at h
    ·rename_i sz es hr
     obtain⟨r,h5,h⟩:=aq h
     obtain⟨h6,h⟩:=ac h
     cases h
     exact⟨row0,h4,sz,es,hr,r,h5,of_decide_eq_true h6,hk⟩
    ·cases h
   ·cases h
  ·cases h
 | app sz by_ mv x y =>
  obtain⟨t,ht,h'⟩:=aq h
  clear h
  subst ht
  have h:=h'
  clear h'
  obtain⟨⟨rows,bs⟩,h1,h⟩:=aq h
  obtain⟨h2,h⟩:=ac h
  simp only[aB]
  refine yN h1 ⟨noC h2,?_⟩
  try dsimp only at h ⊢
  split at h
  ·rename_i hx
   rw[hx]
   obtain⟨h3,h⟩:=ac h
   cases h
   exact⟨of_decide_eq_true h3,hk⟩
  ·rename_i c k n hx
   rw[hx]
   obtain⟨h3,h⟩:=ac h
   rw[x0a]at h3
   refine⟨of_decide_eq_true h3.1,noC h3.2,?_⟩
   split at h
   ·rename_i hb
    rw[hb]
    obtain⟨h4,h⟩:=ac h
    cases h
    simp only[x0a,x0b]at h4
    exact⟨h4.1.1,h4.1.2,h4.2,hk⟩
   ·cases h
  ·rename_i c i o k n hx
   rw[hx]
   obtain⟨h3,h⟩:=ac h
   rw[x0a]at h3
   refine⟨of_decide_eq_true h3.1,noC h3.2,?_⟩
   split at h
   ·rename_i hb
    rw[hb]
    obtain⟨row0,h4,h⟩:=aq h
    split at h
    ·rename_i sz' es hr
     obtain⟨h5,h⟩:=ac h
     cases h
     simp only[x0a,x0b]at h5
     obtain⟨⟨rfl,h6⟩,h7⟩:=h5
     exact⟨row0,h4,es,hr,h6,h7,hk⟩
    ·cases h
   ·cases h
  ·cases h
 | slM len sz x =>
  obtain⟨t,ht,h'⟩:=aq h
  clear h
  subst ht
  have h:=h'
  clear h'
  simp only[aB]
  split at h
  ·rename_i c i off hx
   rw[hx]
   split at h
   ·rename_i hb
    obtain⟨h1,h2⟩:=ac h
    cases h2
    simp only[x0a,x0b,x0f]at h1
    obtain⟨⟨⟨⟨⟨⟨h1,h2⟩,h3⟩,h4⟩,h5⟩,h6⟩,h7⟩:=h1
    refine⟨h1,h2,h3,?_⟩
    rw[hb]
    exact⟨h4,h5,h6,h7,hk⟩
   ·cases h
  ·cases h
 | ldF n x =>
  obtain⟨t,ht,h'⟩:=aq h
  clear h
  subst ht
  have h:=h'
  clear h'
  simp only[aB]
  split at h
  ·rename_i c i off hx
   rw[hx]
   split at h
   ·rename_i hb
    obtain⟨r,h1,h⟩:=aq h
    obtain⟨h2,h⟩:=ac h
    cases h
    dsimp only
    rw[hb]
    exact⟨r,h1,of_decide_eq_true h2,hk⟩
   ·cases h
  ·cases h
 | mkm kt et =>
  obtain⟨t,ht,h'⟩:=aq h
  clear h
  subst ht
  cases h'
  exact hk
 | mpu sh kt et z m x v =>
  obtain⟨h0,h⟩:=ac h
  simp only[aB]
  refine And.intro (by cases dst<;>first|rfl|cases h0) ?_
  split at h
  ·rename_i b hm
   rw[hm]
   split at h
   ·rename_i hb
    dsimp only
    rw[hb]
    obtain⟨h1,h2⟩:=ac h
    cases h2
    simp only[x0a,x0b]at h1
    exact⟨h1.1.1.1.1,h1.1.1.1.2,h1.1.1.2,pf h1.1.2,xu h1.2,hk⟩
   ·cases h
  ·cases h
 | call g xs ms =>
  obtain⟨h1,h⟩:=ac h
  obtain⟨d,h2,h⟩:=aq h
  obtain⟨h3,h⟩:=ac h
  rw[x0E]at h3
  exact⟨iS h1,d,H.1 _ _ _ h2,h3,jq (Option.some.inj h) hk⟩
 | callG g xs =>
  obtain⟨h1,h⟩:=ac h
  obtain⟨d,h2,h⟩:=aq h
  exact⟨iS h1,d,H.2.2.1 _ _ _ h2,jq (Option.some.inj h) hk⟩
 | callF g xs =>
  obtain⟨t,ht,h'⟩:=aq h
  clear h
  subst ht
  have h:=h'
  clear h'
  obtain⟨h1,h⟩:=ac h
  obtain⟨⟨sz,es⟩,h2,h⟩:=aq h
  cases h
  exact⟨iS h1,sz,es,H.2.1 _ _ _ _ h2,hk⟩
 | callA g xs =>
  obtain⟨t,ht,h'⟩:=aq h
  clear h
  subst ht
  have h:=h'
  clear h'
  obtain⟨h1,h⟩:=ac h
  obtain⟨d,h2,h⟩:=aq h
  cases h
  obtain⟨h3,h4⟩:=H.2.2.2.1 _ _ _ h2
  exact⟨fun x hx=>x0f.1 h1 x hx,.inr ⟨d,h3,h4,hk⟩⟩
 | callX g xs x y =>
  dsimp only[evX]at h
  simp only[aB]
  split at h
  ·rename_i b i off c k n hx hy
   rw[hx,hy]
   split at h
   ·rename_i sz1 es1 sz2 es2 hb hc
    obtain⟨h1,h⟩:=ac h
    obtain⟨⟨d,es1',es2'⟩,h2,h⟩:=aq h
    cases h
    simp only[x0a,x0b,x0f]at h1
    obtain⟨⟨⟨⟨⟨⟨g1,g2⟩,g3⟩,g4⟩,g5⟩,g6⟩,g7⟩:=h1
    obtain⟨h3,h4,h5⟩:=H.2.2.2.2 _ _ _ _ _ _ _ _ _ h2
    refine⟨g1,g2,g3,g4,?_⟩
    rw[hb,hc]
    exact⟨g5,g6,g7,d,es1',es2',h3,h4,h5,hk⟩
   ·cases h
  ·cases h
 | stF n x y =>
  obtain⟨h0,h⟩:=ac h
  simp only[aB]
  refine And.intro (by cases dst<;>first|rfl|cases h0) ?_
  split at h
  ·rename_i s
   dsimp only
   split at h
   ·rename_i c i0 o0 hs
    split at h
    ·rename_i hc
     obtain⟨ds,h1,h⟩:=aq h
     obtain⟨h2,h⟩:=ac h
     cases h
     simp only[x0a,x0b]at h2
     obtain⟨⟨⟨⟨⟨g1,g2⟩,g3⟩,g4⟩,g5⟩,g6⟩:=h2
     refine⟨g1,?_⟩
     rw[hs]
     refine⟨g2,g3,?_⟩
     rw[hc]
     exact⟨g4,ds,h1,g5,g6,hk⟩
    ·cases h
   ·cases h
  ·cases h
 | stG s x y =>
  obtain⟨h0,h⟩:=ac h
  simp only[aB]
  refine And.intro (by cases dst<;>first|rfl|cases h0) ?_
  split at h
  ·rename_i c i0 o0 hs
   split at h
   ·rename_i hc
    split at h
    ·rename_i c' i off hx
     obtain⟨h2,h⟩:=ac h
     cases h
     simp only[x0a,x0b,x0f]at h2
     obtain⟨⟨⟨⟨⟨⟨⟨g1,g2⟩,g3⟩,g4⟩,g5⟩,g6⟩,g7⟩,g8⟩:=h2
     refine⟨g1,?_⟩
     rw[hs]
     refine⟨g2,g3,?_⟩
     rw[hc]
     refine⟨g4,?_⟩
     rw[hx]
     exact⟨g5,g6,g7,g8,hk⟩
    ·cases h
   ·cases h
  ·cases h
 | callv x xs =>
  dsimp only[evX]at h
  simp only[aB]
  split at h
  ·rename_i hx
   rw[hx]
   obtain⟨h1,h⟩:=ac h
   obtain⟨d,h2,h⟩:=aq h
   obtain⟨h3,h⟩:=ac h
   rw[x0E]at h3
   exact⟨iS h1,d,H.1 _ _ _ h2,h3,jq (Option.some.inj h) hk⟩
  ·rename_i hx
   rw[hx]
   obtain⟨h1,h⟩:=ac h
   rw[x0a]at h1
   obtain⟨d,h2,h⟩:=aq h
   obtain⟨h3,h⟩:=ac h
   exact⟨iS h1.1,fun c hc=>jp (x0f.1 h1.2 c hc),d,H.1 _ _ _ h2,h3,jq (Option.some.inj h) hk⟩
  ·cases h
 | unk=>exact jq (Option.some.inj h) hk
 | _=>first|exact other h|(exfalso;have h':aI none (fun d:D=>some (rp dst d))=some (ws,ks):=h;cases h')
def sB(e:Env)(dst:Option Nat):Env:=match dst with
 | none=>e
 | some t=>(t,.tup [])::e
theorem lb{e:Env}{dst:Option Nat}{K:Env->Prop}(h:K (sB e dst)):gk e dst K:=by cases dst<;>exact h
def s9(ce:CE):List ay->Env->Option Env
 | [],e=>some e
 | o::os,e=>match o.guard with
  | none=>aI (evX ce (ab e) o.dst o.op) fun p=>s9 ce os (p.1++cC p.2 e)
  | some (s,want)=>match ab e s with
   | .bool b=>if b=want then aI (evX ce (ab ((s,.bool want)::e)) o.dst o.op) fun p=>s9 ce os (p.1++cC p.2 ((s,.bool want)::e)) else s9 ce os (sB ((s,.bool !want)::e) o.dst)
   | .tup []=>s9 ce os (sB e o.dst)
   | _=>none
theorem km{C:CC}{ce:CE}(H:ce.holds C){K:Env->Prop}:∀{ops:List ay} {e e':Env},s9 ce ops e=some e'->K e'->ik C K ops e
 | [],e,e',h,hk=>by cases h;exact hk
 | o::os,e,e',h,hk=>by
  unfold s9 at h
  unfold ik
  split at h
  ·rename_i hg
   rw[hg]
   obtain⟨⟨ws,ks⟩,h1,h2⟩:=aq h
   exact p8 H h1 (km H h2 hk)
  ·rename_i s want hg
   rw[hg]
   dsimp only
   split at h
   ·rename_i b hs
    rw[hs]
    dsimp only
    split at h
    ·rename_i hb
     subst hb
     obtain⟨⟨ws,ks⟩,h1,h2⟩:=aq h
     exact⟨fun _=>p8 H h1 (km H h2 hk),fun e1=>by cases b<;>cases e1⟩
    ·rename_i hb
     exact⟨fun e1=>absurd e1 hb,fun _=>lb (km H h hk)⟩
   ·rename_i hs
    rw[hs]
    exact lb (km H h hk)
   ·cases h
def s8(ce:CE)(hs:List Nat):List ay->Env->List (List Nat×List Nat)->Option Env
 | [],e,acc=>ao (jM hs acc.reverse) (some e)
 | o::os,e,acc=>ao (chk (ab e) o) (match o.guard with
  | none=>aI (evX ce (ab e) o.dst o.op) fun p=>ao (wOk (fL (ab e) o) p.1 p.2) (s8 ce hs os (p.1++cC p.2 e) ((fL (ab e) o,wrK p.1 p.2)::acc))
  | some (s,want)=>match ab e s with
   | .bool b=>if b=want then aI (evX ce (ab e) o.dst o.op) fun p=>ao (wOk (fL (ab e) o) p.1 p.2) (s8 ce hs os (p.1++cC p.2 e) ((fL (ab e) o,wrK p.1 p.2)::acc)) else s8 ce hs os (sB e o.dst) ((fL (ab e) o,rq o.dst)::acc)
   | .tup []=>s8 ce hs os (sB e o.dst) ((fL (ab e) o,rq o.dst)::acc)
   | _=>none)
theorem kj{C:CC}{ce:CE}(H:ce.holds C){K:Env->Prop}{hs:List Nat}:∀{ops:List ay} {e e':Env} {acc:List (List Nat×List Nat)},s8 ce hs ops e acc=some e'->K e'->iN C hs K ops e acc
 | [],e,e',acc,h,hk=>by
  obtain⟨h1,h2⟩:=ac h
  cases h2
  exact⟨h1,hk⟩
 | o::os,e,e',acc,h,hk=>by
  unfold s8 at h
  unfold iN
  obtain⟨h1,h⟩:=ac h
  refine⟨h1,?_⟩
  split at h
  ·rename_i hg
   rw[hg]
   obtain⟨⟨ws,ks⟩,h2,h⟩:=aq h
   obtain⟨h3,h⟩:=ac h
   exact p8 H h2 ⟨h3,kj H h hk⟩
  ·rename_i s want hg
   rw[hg]
   dsimp only
   split at h
   ·rename_i b hs
    rw[hs]
    dsimp only
    split at h
    ·rename_i hb
     subst hb
     obtain⟨⟨ws,ks⟩,h2,h⟩:=aq h
     obtain⟨h3,h⟩:=ac h
     exact⟨fun _=>p8 H h2 ⟨h3,kj H h hk⟩,fun e1=>by cases b<;>cases e1⟩
    ·rename_i hb
     exact⟨fun e1=>absurd e1 hb,fun _=>lb (kj H h hk)⟩
   ·rename_i hs
    rw[hs]
    exact lb (kj H h hk)
   ·cases h
def pp(e:Env):Env:=e.map fun p=>(p.1,ab e p.1)
theorem pI(e:Env):j5 e (pp e):=by
 have key:∀l:Env,j5 e (l.map fun p=>(p.1,ab e p.1)):=by
  intro l
  induction l with
  | nil=>trivial
  | cons p l ih=>exact⟨rfl,ih⟩
 exact key e
def evL(body:Env->Option (cd×Env)):Nat->Env->Option (cd×Env)
 | 0,_=>none
 | n+1,e=>match body e with
  | some (.nrm,e')=>evL body n (pp e')
  | r=>r
def evC(ce:CE):cv->Env->Option (cd×Env)
 | .skip,e=>some (.nrm,e)
 | .reg dr hs keep ops,e=>match dr with
  | false=>aI (s9 ce ops e) fun e'=>some (.nrm,prune keep e')
  | true=>aI (s8 ce hs ops e []) fun e'=>some (.nrm,prune keep e')
 | .seq x y,e=>match evC ce x e with
  | some (.nrm,e')=>evC ce y e'
  | r=>r
 | .cond c x y,e=>match vd (ab e) c with
  | .bool true=>evC ce x e
  | .bool false=>evC ce y e
  | _=>none
 | .block id c,e=>match evC ce c e with
  | some (.ext i,e')=>if i=id then some (.nrm,e') else some (.ext i,e')
  | r=>r
 | .loop c,e=>evL (evC ce c) 5000 (pp e)
 | .exit id,e=>some (.ext id,e)
 | .ret,e=>some (.ret,e)
theorem Dm{C:CC}{c:cv}{body:Env->Option (cd×Env)}(hb:∀{Q:cd->Env->Prop} {e e':Env} {t:cd},body e=some (t,e')->Q t e'->wpN C c Q e){Q:cd->Env->Prop}{n:Nat}{e e':Env}{t:cd}
  (h:evL body n (pp e)=some (t,e')) (hk:Q t e'):wpN C (.loop c) Q e:=by
 refine⟨Nat×Env,fun s=>s.2,fun s=>evL body s.1 s.2=some (t,e'),fun s=>s.1,(n,pp e),h,pI e,?_⟩
 rintro⟨k,e1⟩ hI
 dsimp only at hI ⊢
 cases k with
 | zero=>cases hI
 | succ k =>
  unfold evL at hI
  split at hI
  ·rename_i e2 hx
   exact hb hx ⟨(k,pp e2),hI,Nat.lt_succ_self k,pI e2⟩
  ·rename_i hn
   cases hbe:body e1 with
   | none=>rw[hbe]at hI;cases hI
   | some p =>
    obtain⟨t2,e2⟩:=p
    rw[hbe]at hI
    cases hI
    refine hb hbe ?_
    cases t with
    | nrm=>exact absurd hbe (hn e')
    | ext i=>exact hk
    | ret=>exact hk
theorem fM{C:CC}{ce:CE}(H:ce.holds C):∀{c:cv} {Q:cd->Env->Prop} {e e':Env} {t:cd},evC ce c e=some (t,e')->Q t e'->wpN C c Q e
 | .skip,Q,e,e',t,h,hk=>by cases h;exact hk
 | .reg dr hs keep ops,Q,e,e',t,h,hk=>by
  unfold evC at h
  unfold wpN
  cases dr
  ·obtain⟨e1,h1,h2⟩:=aq h
   cases h2
   exact km H h1 hk
  ·obtain⟨e1,h1,h2⟩:=aq h
   cases h2
   exact kj H h1 hk
 | .seq x y,Q,e,e',t,h,hk=>by
  unfold evC at h
  unfold wpN
  cases hx:evC ce x e with
  | none=>rw[hx]at h;cases h
  | some p =>
   obtain⟨t1,e1⟩:=p
   rw[hx]at h
   refine fM H hx ?_
   cases t1 with
   | nrm=>exact fM H h hk
   | ext i=>cases h;exact hk
   | ret=>cases h;exact hk
 | .cond c x y,Q,e,e',t,h,hk=>by
  unfold evC at h
  unfold wpN
  split at h
  ·rename_i hc;rw[hc]
   exact⟨fun _=>fM H h hk,fun e1=>by cases e1⟩
  ·rename_i hc;rw[hc]
   exact⟨fun e1=>(by cases e1),fun _=>fM H h hk⟩
  ·cases h
 | .block id c,Q,e,e',t,h,hk=>by
  unfold evC at h
  unfold wpN
  cases hx:evC ce c e with
  | none=>rw[hx]at h;cases h
  | some p =>
   obtain⟨t1,e1⟩:=p
   rw[hx]at h
   refine fM H hx ?_
   cases t1 with
   | nrm=>cases h;exact hk
   | ret=>cases h;exact hk
   | ext i =>
    dsimp only at h ⊢
    split at h
    ·rename_i hi;rw[if_pos hi];cases h;exact hk
    ·rename_i hi;rw[if_neg hi];cases h;exact hk
 | .loop c,Q,e,e',t,h,hk=>Dm (fun h1 h2=>fM H h1 h2) h hk
 | .exit id,Q,e,e',t,h,hk=>by cases h;exact hk
 | .ret,Q,e,e',t,h,hk=>by cases h;exact hk
def uU(e:Env)(r:Nat×Option (Nat×Bool)):Bool:=match r with
 | (t,none)=>decide (t<10000)&&kd (ab e) (ab e t)
 | (t,some (n,_))=>decide (t<10000)&&match ab e t with
  | .adr p i off=>match aQ (ab e) p with
   | some (_,es)=>decide (off+n<=(es[i]?.getD []).length)
   | none=>false
  | _=>false
theorem yE{e:Env}{r:Nat×Option (Nat×Bool)}(h:uU e r=true):wa e r:=by
 obtain⟨t,o⟩:=r
 cases o with
 | none =>
  unfold uU at h
  rw[x0a]at h
  exact⟨of_decide_eq_true h.1,ro h.2⟩
 | some p =>
  obtain⟨n,ag⟩:=p
  unfold uU at h
  rw[x0a]at h
  refine⟨of_decide_eq_true h.1,?_⟩
  have h2:=h.2
  clear h
  split at h2
  ·rename_i p i off hx
   rw[hx]
   dsimp only
   split at h2
   ·rename_i hg
    rw[hg]
    exact of_decide_eq_true h2
   ·cases h2
  ·cases h2
def wd(rs:List (Nat×Option (Nat×Bool)))(e:Env):Option D:=ao (rs.all (uU e)) (some (match rs with
 | [r]=>kR e r
 | rs=>.tup (rs.map (kR e))))
theorem kU{rs:List (Nat×Option (Nat×Bool))}{e:Env}{d:D}(h:wd rs e=some d):dw rs d e:=by
 obtain⟨h1,h2⟩:=ac h
 refine⟨fun r hr=>yE (x0f.1 h1 r hr),?_⟩
 rcases rs with _|⟨r,_|⟨r2,rs⟩⟩
 ·cases h2;rfl
 ·cases h2;rfl
 ·cases h2;rfl
def Er(rs:List (Nat×Option (Nat×Bool)))(e:Env):Option (Nat×List (List D)):=match rs with
 | [(t,none)]=>ao (decide (t<10000)) (match ab e t with
  | .ref (.r b) k n=>match ab e b with
   | .blk sz es=>ao (decide (k=0)&&decide (n=es.length)&&decide (0<sz)&&es.all fun r=>r.all bq) (some (sz,es))
   | _=>none
  | .nils=>some (1,[])
  | _=>none)
 | _=>none
theorem Be{rs:List (Nat×Option (Nat×Bool))}{e:Env}{sz:Nat}{es:List (List D)}(h:Er rs e=some (sz,es)):jX rs sz es e:=by
 unfold Er at h
 split at h
 ·rename_i t
  obtain⟨h1,h⟩:=ac h
  split at h
  ·rename_i b k n hx
   split at h
   ·rename_i hb
    obtain⟨h2,h3⟩:=ac h
    cases h3
    simp only[x0a,x0b,x0f]at h2
    refine⟨h2.1.2,h2.2,of_decide_eq_true h1,?_⟩
    rw[hx]
    exact⟨h2.1.1.1,h2.1.1.2,hb⟩
   ·cases h
  ·rename_i hx
   cases h
   refine⟨by decide,(fun r hr=>by cases hr),of_decide_eq_true h1,?_⟩
   rw[hx]
  ·cases h
 ·cases h
def td:D->Bool
 | .any=>true
 | .nils=>true
 | .ref _ _ _=>true
 | .blk _ es=>es.all fun r=>r.all bq
 | d=>bq d
theorem vG{d:D}(h:td d=true):kB d:=by
 unfold td at h
 unfold kB
 cases d<;>dsimp only at h ⊢<;>first|trivial|exact h|(simp only[x0f]at h;exact h)
def I8(rs:List (Nat×Option (Nat×Bool)))(e:Env):Option D:=aI (wd rs (prune (rs.map (·.1)) e)) fun d=>ao ((prune (rs.map (·.1)) e).all fun p=>td p.2&&(!decide (p.1<10000)||!isB p.2)) (some d)
theorem Bd{rs:List (Nat×Option (Nat×Bool))}{e:Env}{d:D}(h:I8 rs e=some d):n9 rs d e:=by
 obtain⟨x,h1,h⟩:=aq h
 obtain⟨h2,h⟩:=ac h
 cases h
 refine⟨kU h1,fun p hp=>?_⟩
 have h3:=x0f.1 h2 p hp
 simp only[x0a,x0E,x0r,x0C]at h3
 exact⟨vG h3.1,fun g=>by rcases h3.2 with h4|h4;exact absurd g h4;exact h4⟩
def ry(ce:CE)(nf:al)(ds:List D):Option Env:=ao (decide (ds.length=nf.np)) (match evC ce nf.body (params 0 ds) with
 | some (.nrm,e)=>some e
 | some (.ret,e)=>some e
 | _=>none)
theorem ko{C:CC}{ce:CE}(H:ce.holds C){nf:al}{ds:List D}{e:Env}(h:ry ce nf ds=some e):ds.length=nf.np/\∀R:Env->Prop,R e->wpN C nf.body (fun t e=>(match t with
  | .ext _=>False
  | _=>True)/\R e) (params 0 ds):=by
 obtain⟨h1,h⟩:=ac h
 refine⟨of_decide_eq_true h1,fun R hR=>?_⟩
 split at h
 ·rename_i hx;cases h;exact fM H hx ⟨trivial,hR⟩
 ·rename_i hx;cases h;exact fM H hx ⟨trivial,hR⟩
 ·cases h
def nB(f:Nat->D):D->Option D
 | .ref (.r b) k n=>match f b with
  | .blk sz es=>ao (decide (k=0)&&decide (n=es.length)) (some (.own sz es))
  | _=>none
 | d=>ao (isV d) (some d)
theorem o9{f:Nat->D}{d r:D}(h:nB f d=some r):dR f d r:=by
 unfold nB at h
 split at h
 ·rename_i b k n
  split at h
  ·rename_i hb
   obtain⟨h1,h2⟩:=ac h
   cases h2
   simp only[x0a,x0b]at h1
   exact⟨h1.1,h1.2,hb⟩
  ·cases h
 ·rename_i hn
  obtain⟨h1,h2⟩:=ac h
  cases h2
  unfold dR
  cases d<;>first|(simp[isV]at h1;done)|exact⟨h1,rfl⟩
def qe(f:Nat->D):List D->Option (List D)
 | []=>some []
 | d::ds=>aI (nB f d) fun r=>aI (qe f ds) fun rs=>some (r::rs)
theorem lE{f:Nat->D}:∀{ds rs:List D},qe f ds=some rs->kC f ds rs
 | [],rs,h=>by cases h;trivial
 | d::ds,rs,h=>by
  obtain⟨r,h1,h⟩:=aq h
  obtain⟨rs',h2,h⟩:=aq h
  cases h
  exact⟨o9 h1,lE h2⟩
def yF(rs:List (Nat×Option (Nat×Bool)))(e:Env):Option D:=match rs with
 | [(t,none)]=>ao (decide (t<10000)) (match ab e t with
  | .agx ds=>aI (qe (ab e) ds) fun Rs=>ao (bD (ds.flatMap cB)) (some (.agg Rs))
  | .ref (.r b) k n=>nB (ab e) (.ref (.r b) k n)
  | _=>none)
 | [(t,some (n,true))]=>ao (decide (t<10000)) (match ab e t with
  | .adr (.r c) i off=>match ab e c with
   | .blk _ [Rs]=>ao (decide (i=0)&&decide (off=0)&&decide (Rs.length=n)&&okR (.agg Rs)&&(aW t (.agg Rs)).all fun p=>p.1 != c) (some (.agg Rs))
   | _=>none
  | _=>none)
 | [(_,some (_,false))]=>none
 | rs=>ao ((rs.all fun r=>decide (r.1<10000)&&decide (r.2=none))&&bD ((rs.map fun r=>ab e r.1).flatMap cB)&&decide (rs.length≠1)) (aI (qe (ab e) (rs.map fun r=>ab e r.1)) fun Rs=>some (.tup Rs))
theorem yG{rs:List (Nat×Option (Nat×Bool))}{e:Env}{R:D}(h:yF rs e=some R):tN rs R e:=by
 unfold yF at h
 split at h
 ·rename_i t
  obtain⟨h1,h⟩:=ac h
  refine⟨of_decide_eq_true h1,?_⟩
  split at h
  ·rename_i ds hx
   obtain⟨Rs,h2,h⟩:=aq h
   obtain⟨h3,h⟩:=ac h
   cases h
   rw[hx]
   exact⟨lE h2,h3⟩
  ·rename_i b k n hx
   have h2:=o9 h
   unfold nB at h
   dsimp only at h
   split at h
   ·obtain⟨_,h3⟩:=ac h
    cases h3
    rw[hx]
    exact h2
   ·cases h
  ·cases h
 ·rename_i t n
  obtain⟨h1,h⟩:=ac h
  refine⟨of_decide_eq_true h1,?_⟩
  split at h
  ·rename_i c i off hx
   split at h
   ·rename_i sz Rs hb
    obtain⟨h2,h⟩:=ac h
    cases h
    simp only[x0a,x0b]at h2
    rw[hx]
    exact⟨h2.1.1.1.1,h2.1.1.1.2,⟨sz,hb⟩,h2.1.1.2,h2.1.2,h2.2⟩
   ·cases h
  ·cases h
 ·cases h
 ·rename_i rs' n1 n2 n3
  obtain⟨h1,h⟩:=ac h
  obtain⟨Rs,h2,h⟩:=aq h
  cases h
  simp only[x0a,x0b,x0f]at h1
  unfold tN
  split
  ·exact absurd rfl (n1 _)
  ·exact absurd rfl (n2 _ _)
  ·exact⟨h1.2,h1.1.1,lE h2,h1.1.2⟩
def nr(ce:CE)(c:cv)(e0:Env):Option Env:=match evC ce c e0 with
 | some (.nrm,e)=>some e
 | some (.ret,e)=>some e
 | _=>none
theorem lB{C:CC}{ce:CE}(H:ce.holds C){c:cv}{e0 e:Env}(h:nr ce c e0=some e):∀R:Env->Prop,R e->wpN C c (fun t e=>(match t with
  | .ext _=>False
  | _=>True)/\R e) e0:=by
 intro R hR
 unfold nr at h
 split at h
 ·rename_i hx;cases h;exact fM H hx ⟨trivial,hR⟩
 ·rename_i hx;cases h;exact fM H hx ⟨trivial,hR⟩
 ·cases h
def Mh(ce:CE)(nf:al)(sz1:Nat)(es1:List (List D))(sz2:Nat)(es2:List (List D))(W:List D):Option (D×List (List D)×List (List D)) :=
 ao (decide (W.length=nf.np)) (aI (nr ce nf.body (fS W sz1 es1 sz2 es2)) fun e=>match ab e ap,ab e aN with
  | .blk s1 f1,.blk s2 f2=>ao (decide (s1=sz1)&&decide (s2=sz2)&&decide (0<f1.length)&&decide (0<f2.length)) (aI (wd nf.res ((ap,.any)::(aN,.any)::e)) fun d=>some (d,f1,f2))
  | _,_=>none)
def te:D->Bool
 | .any=>true
 | .nils=>true
 | .ref _ _ _=>true
 | .adr _ _ _=>true
 | .blk _ es=>es.all fun r=>r.all uD
 | d=>bq d
theorem vI{d:D}(h:te d=true):flatW d:=by
 unfold te at h
 unfold flatW
 cases d<;>dsimp only at h ⊢<;>first|trivial|exact h|(simp only[x0f]at h;exact h)
def CI(rs:List (Nat×Option (Nat×Bool)))(e:Env):Option D:=aI (wd rs (prune (rs.map (·.1)) e)) fun d=>ao ((prune (rs.map (·.1)) e).all fun p=>te p.2&&(!decide (p.1<10000)||!isB p.2)) (some d)
theorem yH{rs:List (Nat×Option (Nat×Bool))}{e:Env}{d:D}(h:CI rs e=some d):mN rs d e:=by
 obtain⟨x,h1,h⟩:=aq h
 obtain⟨h2,h⟩:=ac h
 cases h
 refine⟨kU h1,fun p hp=>?_⟩
 have h3:=x0f.1 h2 p hp
 simp only[x0a,x0E,x0r,x0C]at h3
 exact⟨vI h3.1,fun g=>by rcases h3.2 with h4|h4;exact absurd g h4;exact h4⟩
def Hy(ce:CE)(nd:eL)(gf:al)(ds:List D):Option D :=
 ao (decide (ds.length=nd.np)&&decide (1+nd.nc=gf.np)) (match evC ce nd.pre (params 0 ds) with
  | some (.nrm,e)=>match ab e nd.e with
   | .adr (.r c) 0 0=>match ab e c with
    | .blk 1 [[y]]=>ao (decide (c≠cR nd)) (aI (nr ce nd.post (xj nd c y e)) fun e'=>match ab e' (cR nd) with
     | .blk 1 [[x]]=>ao (bq x) (aI (nr ce gf.body (params 0 (.ptr [x]::List.replicate nd.nc .any))) fun e2=>match wd gf.res e2 with
      | some (.tup [])=>CI nd.res e'
      | _=>none)
     | _=>none)
    | _=>none
   | _=>none
  | _=>none)
theorem Aw{C:CC}{ce:CE}(H:ce.holds C){nd:eL}{gf:al}{ds:List D}{d:D}(h:Hy ce nd gf ds=some d):ds.length=nd.np/\∃x,wP C nd gf ds x d:=by
 obtain⟨h1,h⟩:=ac h
 simp only[x0a,x0b]at h1
 refine⟨h1.1,?_⟩
 split at h
 ·rename_i e hx
  split at h
  ·rename_i c he
   split at h
   ·rename_i y hc
    obtain⟨h2,h⟩:=ac h
    obtain⟨e',h3,h⟩:=aq h
    split at h
    ·rename_i x hb
     obtain⟨h4,h⟩:=ac h
     obtain⟨e2,h5,h⟩:=aq h
     split at h
     ·rename_i h6
      refine⟨x,fM H hx ⟨c,y,he,hc,of_decide_eq_true h2,lB H h3 (fun e'=>ab e' (cR nd)=.blk 1 [[x]]/\mN nd.res d e') ⟨hb,yH h⟩⟩,h4,h1.2,lB H h5 (fun e=>dw gf.res (.tup []) e) (kU h6)⟩
     ·cases h
    ·cases h
   ·cases h
  ·cases h
 ·cases h
def evF(prog:Nat->Option al)(bH:Nat->Option eL)(base:CE):Nat->CE
 | 0=>base
 | n+1=>⟨fun g ds=>match base.pl g ds with
   | some d=>some d
   | none=>aI (prog g) fun nf=>aI (ry (evF prog bH base n) nf ds) (wd nf.res),
  fun g ds=>match base.ow g ds with
   | some d=>some d
   | none=>aI (prog g) fun nf=>aI (ry (evF prog bH base n) nf ds) (Er nf.res),
  fun g ds=>match base.nw g ds with
   | some d=>some d
   | none=>match bH g with
    | some nd=>aI (prog nd.g) fun gf=>Hy (evF prog bH base n) nd gf ds
    | none=>aI (prog g) fun nf=>aI (ry (evF prog bH base n) nf ds) (I8 nf.res),
  fun g ds=>match base.hd g ds with
   | some d=>some d
   | none=>aI (prog g) fun nf=>aI (ry (evF prog bH base n) nf ds) fun e=>aI (yF nf.res e) fun d=>ao (okR d) (some d),
  fun g sz1 es1 sz2 es2 W=>match base.lx g sz1 es1 sz2 es2 W with
   | some d=>some d
   | none=>aI (prog g) fun nf=>Mh (evF prog bH base n) nf sz1 es1 sz2 es2 W⟩
theorem s7{C:CC}{prog:Nat->Option al}{bH:Nat->Option eL}(hC:av prog C)(hD:io prog bH C){base:CE}(hb:base.holds C):∀n,(evF prog bH base n).holds C
 | 0=>hb
 | n+1=>by
  have ih:=s7 hC hD hb n
  refine⟨fun g ds d h=>?_,fun g ds sz es h=>?_,fun g ds d h=>?_,fun g ds d h=>?_,fun g sz1 es1 sz2 es2 W d es1' es2' h=>?_⟩
  ·simp only[evF]at h
   split at h
   ·rename_i hx;cases h;exact hb.1 _ _ _ hx
   ·obtain⟨nf,h1,h⟩:=aq h
    obtain⟨e,h2,h⟩:=aq h
    obtain⟨h3,h4⟩:=ko ih h2
    exact hC.1.1 g nf ds d h1 h3 (h4 _ (kU h))
  ·simp only[evF]at h
   split at h
   ·rename_i hx;cases h;exact hb.2.1 _ _ _ _ hx
   ·obtain⟨nf,h1,h⟩:=aq h
    obtain⟨e,h2,h⟩:=aq h
    obtain⟨h3,h4⟩:=ko ih h2
    exact hC.1.2.2.1 g nf ds sz es h1 h3 (h4 _ (Be h))
  ·simp only[evF]at h
   split at h
   ·rename_i hx;cases h;exact hb.2.2.1 _ _ _ hx
   ·split at h
    ·rename_i nd hp
     obtain⟨gf,h1,h⟩:=aq h
     obtain⟨h2,x,h3⟩:=Aw ih h
     exact hD g nd gf ds x d hp h1 h2 h3
    ·obtain⟨nf,h1,h⟩:=aq h
     obtain⟨e,h2,h⟩:=aq h
     obtain⟨h3,h4⟩:=ko ih h2
     exact hC.1.2.2.2.1 g nf ds d h1 h3 (h4 _ (Bd h))
  ·simp only[evF]at h
   split at h
   ·rename_i hx;cases h;exact hb.2.2.2.1 _ _ _ hx
   ·obtain⟨nf,h1,h⟩:=aq h
    obtain⟨e,h2,h⟩:=aq h
    obtain⟨R,h5,h⟩:=aq h
    obtain⟨h6,h⟩:=ac h
    cases h
    obtain⟨h3,h4⟩:=ko ih h2
    exact⟨h6,hC.1.2.2.2.2.2.2.2.2 g nf ds d h1 h3 h6 (h4 _ (yG h5))⟩
  ·simp only[evF]at h
   split at h
   ·rename_i hx;cases h;exact hb.2.2.2.2 _ _ _ _ _ _ _ _ _ hx
   ·obtain⟨nf,h1,h⟩:=aq h
    obtain⟨h2,h⟩:=ac h
    obtain⟨e,h3,h⟩:=aq h
    split at h
    ·rename_i s1 f1 s2 f2 k1 k2
     obtain⟨h4,h⟩:=ac h
     obtain⟨d',h5,h⟩:=aq h
     cases h
     simp only[x0a,x0b]at h4
     obtain⟨⟨⟨rfl,rfl⟩,h6⟩,h7⟩:=h4
     exact⟨h6,h7,hC.1.2.2.2.2.2.2.2.1 g nf W d s1 es1 es1' s2 es2 es2' h1 (of_decide_eq_true h2) (lB ih h3 (fun e=>(0<es1'.length/\0<es2'.length/\ab e ap=.blk s1 es1'/\ab e aN=.blk s2 es2')/\dw nf.res d ((ap,.any)::(aN,.any)::e)) ⟨⟨h6,h7,k1,k2⟩,kU h5⟩)⟩
    ·cases h
end Go.Gv

namespace Go.Gv
mutual
def yT:D->D->Bool
 | .any,.any=>true
 | .int k n,.int k' n'=>decide (k=k')&&decide (n=n')
 | .bool b,.bool b'=>b==b'
 | .str s,.str s'=>decide (s=s')
 | .nilp,.nilp=>true
 | .nils,.nils=>true
 | .agg a,.agg b=>kZ a b
 | .tup a,.tup b=>kZ a b
 | .sl a,.sl b=>qK a b
 | .ptr a,.ptr b=>kZ a b
 | .fn f a,.fn g b=>decide (f=g)&&kZ a b
 | _,_=>false
def kZ:List D->List D->Bool
 | [],[]=>true
 | a::xs,b::bs=>yT a b&&kZ xs bs
 | _,_=>false
def qK:List (List D)->List (List D)->Bool
 | [],[]=>true
 | a::xs,b::bs=>kZ a b&&qK xs bs
 | _,_=>false
end
mutual
theorem yU:∀(a b:D),yT a b=true->a=b
 | a,b,h=>by
  unfold yT at h
  split at h
  ·rfl
  ·simp only[x0a,x0b]at h;rw[h.1,h.2]
  ·rw[x0l]at h;rw[h]
  ·rw[x0b]at h;rw[h]
  ·rfl
  ·rfl
  ·rw[fW _ _ h]
  ·rw[fW _ _ h]
  ·rw[pB _ _ h]
  ·rw[fW _ _ h]
  ·simp only[x0a,x0b]at h;rw[h.1,fW _ _ h.2]
  ·cases h
theorem fW:∀(a b:List D),kZ a b=true->a=b
 | [],[],_=>rfl
 | a::xs,b::bs,h=>by
  simp only[kZ,x0a]at h
  rw[yU _ _ h.1,fW _ _ h.2]
 | [],_::_,h=>by cases h
 | _::_,[],h=>by cases h
theorem pB:∀(a b:List (List D)),qK a b=true->a=b
 | [],[],_=>rfl
 | a::xs,b::bs,h=>by
  simp only[qK,x0a]at h
  rw[fW _ _ h.1,pB _ _ h.2]
 | [],_::_,h=>by cases h
 | _::_,[],h=>by cases h
end
abbrev fz:=Nat×List D×D
def pi:List fz->Nat->List D->Option D
 | [],_,_=>none
 | (g',ds',d)::l,g,ds=>match decide (g'=g) with
  | true=>match kZ ds' ds with
   | true=>some d
   | false=>pi l g ds
  | false=>pi l g ds
def ceL(l m:List fz):CE:=⟨pi l,fun _ _=>none,pi m,fun _ _=>none,fun _ _ _ _ _ _=>none⟩
def ci(C:CC):List fz->Prop
 | []=>True
 | (g,ds,d)::l=>C g ds d []/\ci C l
theorem kF{C:CC}:∀{l:List fz},ci C l->∀{g:Nat} {ds:List D} {d:D},pi l g ds=some d->C g ds d []
 | [],_,g,ds,d,h=>by cases h
 | (g',ds',d')::l,hl,g,ds,d,h=>by
  unfold pi at h
  split at h
  ·rename_i h1
   rw[x0b]at h1
   split at h
   ·rename_i h2
    cases h
    rw[<- h1,<- fW _ _ h2]
    exact hl.1
   ·exact kF hl.2 h
  ·exact kF hl.2 h
def lQ(C:CC)(m:List fz):Prop:=ci (fun g ds d _=>C g ds d [.nilp]) m
theorem w9{C:CC}{l m:List fz}(h:ci C l)(h2:lQ C m):(ceL l m).holds C:=⟨fun _ _ _ e=>kF h e,fun _ _ _ _ e=>(by cases e),fun _ _ _ e=>kF h2 e,fun _ _ _ e=>(by cases e),fun _ _ _ _ _ _ _ _ _ e=>(by cases e)⟩
section
variable{C:CC}{prog:Nat->Option al}{bH:Nat->Option eL}(hC:av prog C)(hD:io prog bH C){l m:List fz}(hl:ci C l)(hm:lQ C m){n g:Nat}{ds:List D}{d:D}
include hC hD hl hm
theorem gK(h:(evF prog bH (ceL l m) n).pl g ds=some d):ci C ((g,ds,d)::l):=⟨(s7 hC hD (w9 hl hm) n).1 _ _ _ h,hl⟩
theorem IG(h:(evF prog bH (ceL l m) n).nw g ds=some d):lQ C ((g,ds,d)::m):=⟨(s7 hC hD (w9 hl hm) n).2.2.1 _ _ _ h,hm⟩
end
end Go.Gv

namespace Go.Gv
section
variable{C:CC}(hC:av prog C)(hD:io prog bH C)
abbrev kf0:List fz:=[]
abbrev kn0:List fz:=[]
theorem ka0:ci C kf0:=trivial
theorem kb0:lQ C kn0:=trivial
def kf1:List fz:=(927,[.agg [.sl [[.str [109],.int .i64 1,.int .i64 0,.int .i64 0,.int .i64 0,.int .i64 2000,.sl [[.int .i64 0,.int .i64 0],[.int .i64 2000,.int .i64 2000000]],.bool false,.int .i64 0],[.str [111],.int .i64 3,.int .i64 0,.int .i64 0,.int .i64 0,.int .i64 0,.nils,.bool false,.int .i64 0]],.sl [[.str [112],.str [109],.str [111],.int .i64 4,.int .i64 0,.int .i64 500,.int .i64 200,.str [],.int .i64 0,.int .i64 0,.sl [[.int .i64 0,.int .i64 1000]]]]],.agg [.sl [[.int .i64 600000],[.int .i64 0]],.sl [[.int .i64 0],[.int .i64 0]],.sl [[.int .i64 1000]],.sl [[.bool false]]]],.bool true)::kf0
theorem ev1:(evF prog bH (ceL kf0 kn0) 30).pl 927 [.agg [.sl [[.str [109],.int .i64 1,.int .i64 0,.int .i64 0,.int .i64 0,.int .i64 2000,.sl [[.int .i64 0,.int .i64 0],[.int .i64 2000,.int .i64 2000000]],.bool false,.int .i64 0],[.str [111],.int .i64 3,.int .i64 0,.int .i64 0,.int .i64 0,.int .i64 0,.nils,.bool false,.int .i64 0]],.sl [[.str [112],.str [109],.str [111],.int .i64 4,.int .i64 0,.int .i64 500,.int .i64 200,.str [],.int .i64 0,.int .i64 0,.sl [[.int .i64 0,.int .i64 1000]]]]],.agg [.sl [[.int .i64 600000],[.int .i64 0]],.sl [[.int .i64 0],[.int .i64 0]],.sl [[.int .i64 1000]],.sl [[.bool false]]]]=some (.bool true):=by kernel_rfl
include hC hD in
theorem ka1:ci C kf1:=gK hC hD (ka0) (kb0) ev1
def kf2:List fz:=(918,[.agg [.sl [[.str [109],.int .i64 1,.int .i64 0,.int .i64 0,.int .i64 0,.int .i64 2000,.sl [[.int .i64 0,.int .i64 0],[.int .i64 2000,.int .i64 2000000]],.bool false,.int .i64 0],[.str [111],.int .i64 3,.int .i64 0,.int .i64 0,.int .i64 0,.int .i64 0,.nils,.bool false,.int .i64 0]],.sl [[.str [112],.str [109],.str [111],.int .i64 4,.int .i64 0,.int .i64 500,.int .i64 200,.str [],.int .i64 0,.int .i64 0,.sl [[.int .i64 0,.int .i64 1000]]]]],.nils,.agg [.sl [[.int .i64 600000],[.int .i64 0]],.sl [[.int .i64 0],[.int .i64 0]],.sl [[.int .i64 1000]],.sl [[.bool false]]]],.bool true)::kf1
theorem ev2:(evF prog bH (ceL kf1 kn0) 30).pl 918 [.agg [.sl [[.str [109],.int .i64 1,.int .i64 0,.int .i64 0,.int .i64 0,.int .i64 2000,.sl [[.int .i64 0,.int .i64 0],[.int .i64 2000,.int .i64 2000000]],.bool false,.int .i64 0],[.str [111],.int .i64 3,.int .i64 0,.int .i64 0,.int .i64 0,.int .i64 0,.nils,.bool false,.int .i64 0]],.sl [[.str [112],.str [109],.str [111],.int .i64 4,.int .i64 0,.int .i64 500,.int .i64 200,.str [],.int .i64 0,.int .i64 0,.sl [[.int .i64 0,.int .i64 1000]]]]],.nils,.agg [.sl [[.int .i64 600000],[.int .i64 0]],.sl [[.int .i64 0],[.int .i64 0]],.sl [[.int .i64 1000]],.sl [[.bool false]]]]=some (.bool true):=by kernel_rfl
include hC hD in
theorem ka2:ci C kf2:=gK hC hD (ka1 hC hD) (kb0) ev2
def kf3:List fz:=(933,[.agg [.sl [[.str [109],.int .i64 1,.int .i64 0,.int .i64 0,.int .i64 0,.int .i64 2000,.sl [[.int .i64 0,.int .i64 0],[.int .i64 2000,.int .i64 2000000]],.bool false,.int .i64 0],[.str [111],.int .i64 3,.int .i64 0,.int .i64 0,.int .i64 0,.int .i64 0,.nils,.bool false,.int .i64 0]],.sl [[.str [112],.str [109],.str [111],.int .i64 4,.int .i64 0,.int .i64 500,.int .i64 200,.str [],.int .i64 0,.int .i64 0,.sl [[.int .i64 0,.int .i64 1000]]]]],.nils,.agg [.sl [[.int .i64 600000],[.int .i64 0]],.sl [[.int .i64 0],[.int .i64 0]],.sl [[.int .i64 1000]],.sl [[.bool false]]]],.bool true)::kf2
theorem ev3:(evF prog bH (ceL kf2 kn0) 30).pl 933 [.agg [.sl [[.str [109],.int .i64 1,.int .i64 0,.int .i64 0,.int .i64 0,.int .i64 2000,.sl [[.int .i64 0,.int .i64 0],[.int .i64 2000,.int .i64 2000000]],.bool false,.int .i64 0],[.str [111],.int .i64 3,.int .i64 0,.int .i64 0,.int .i64 0,.int .i64 0,.nils,.bool false,.int .i64 0]],.sl [[.str [112],.str [109],.str [111],.int .i64 4,.int .i64 0,.int .i64 500,.int .i64 200,.str [],.int .i64 0,.int .i64 0,.sl [[.int .i64 0,.int .i64 1000]]]]],.nils,.agg [.sl [[.int .i64 600000],[.int .i64 0]],.sl [[.int .i64 0],[.int .i64 0]],.sl [[.int .i64 1000]],.sl [[.bool false]]]]=some (.bool true):=by kernel_rfl
include hC hD in
theorem ka3:ci C kf3:=gK hC hD (ka2 hC hD) (kb0) ev3
def kf4:List fz:=(936,[.agg [.sl [[.str [109],.int .i64 1,.int .i64 0,.int .i64 0,.int .i64 0,.int .i64 2000,.sl [[.int .i64 0,.int .i64 0],[.int .i64 2000,.int .i64 2000000]],.bool false,.int .i64 0],[.str [111],.int .i64 3,.int .i64 0,.int .i64 0,.int .i64 0,.int .i64 0,.nils,.bool false,.int .i64 0]],.sl [[.str [112],.str [109],.str [111],.int .i64 4,.int .i64 0,.int .i64 500,.int .i64 200,.str [],.int .i64 0,.int .i64 0,.sl [[.int .i64 0,.int .i64 1000]]]]],.nils],.bool true)::kf3
theorem ev4:(evF prog bH (ceL kf3 kn0) 30).pl 936 [.agg [.sl [[.str [109],.int .i64 1,.int .i64 0,.int .i64 0,.int .i64 0,.int .i64 2000,.sl [[.int .i64 0,.int .i64 0],[.int .i64 2000,.int .i64 2000000]],.bool false,.int .i64 0],[.str [111],.int .i64 3,.int .i64 0,.int .i64 0,.int .i64 0,.int .i64 0,.nils,.bool false,.int .i64 0]],.sl [[.str [112],.str [109],.str [111],.int .i64 4,.int .i64 0,.int .i64 500,.int .i64 200,.str [],.int .i64 0,.int .i64 0,.sl [[.int .i64 0,.int .i64 1000]]]]],.nils]=some (.bool true):=by kernel_rfl
include hC hD in
theorem ka4:ci C kf4:=gK hC hD (ka3 hC hD) (kb0) ev4
def kn1:List fz:=(940,[.agg [.sl [[.str [109],.int .i64 1,.int .i64 0,.int .i64 0,.int .i64 0,.int .i64 2000,.sl [[.int .i64 0,.int .i64 0],[.int .i64 2000,.int .i64 2000000]],.bool false,.int .i64 0],[.str [111],.int .i64 3,.int .i64 0,.int .i64 0,.int .i64 0,.int .i64 0,.nils,.bool false,.int .i64 0]],.sl [[.str [112],.str [109],.str [111],.int .i64 4,.int .i64 0,.int .i64 500,.int .i64 200,.str [],.int .i64 0,.int .i64 0,.sl [[.int .i64 0,.int .i64 1000]]]]],.nils,.agg [.sl [[.int .i64 600000],[.int .i64 0]],.sl [[.int .i64 0],[.int .i64 0]],.sl [[.int .i64 1000]],.sl [[.bool false]]],.int .i64 100],.tup [.sl [[.int .i64 100000]],.sl [[.bool true]],.int .i64 0])::kn0
theorem ev5:(evF prog bH (ceL kf4 kn0) 30).nw 940 [.agg [.sl [[.str [109],.int .i64 1,.int .i64 0,.int .i64 0,.int .i64 0,.int .i64 2000,.sl [[.int .i64 0,.int .i64 0],[.int .i64 2000,.int .i64 2000000]],.bool false,.int .i64 0],[.str [111],.int .i64 3,.int .i64 0,.int .i64 0,.int .i64 0,.int .i64 0,.nils,.bool false,.int .i64 0]],.sl [[.str [112],.str [109],.str [111],.int .i64 4,.int .i64 0,.int .i64 500,.int .i64 200,.str [],.int .i64 0,.int .i64 0,.sl [[.int .i64 0,.int .i64 1000]]]]],.nils,.agg [.sl [[.int .i64 600000],[.int .i64 0]],.sl [[.int .i64 0],[.int .i64 0]],.sl [[.int .i64 1000]],.sl [[.bool false]]],.int .i64 100]=some (.tup [.sl [[.int .i64 100000]],.sl [[.bool true]],.int .i64 0]):=by kernel_rfl
include hC hD in
theorem kb1:lQ C kn1:=IG hC hD (ka4 hC hD) (kb0) ev5
def kf5:List fz:=(922,[.agg [.sl [[.str [109],.int .i64 1,.int .i64 0,.int .i64 0,.int .i64 0,.int .i64 2000,.sl [[.int .i64 0,.int .i64 0],[.int .i64 2000,.int .i64 2000000]],.bool false,.int .i64 0],[.str [111],.int .i64 3,.int .i64 0,.int .i64 0,.int .i64 0,.int .i64 0,.nils,.bool false,.int .i64 0]],.sl [[.str [112],.str [109],.str [111],.int .i64 4,.int .i64 0,.int .i64 500,.int .i64 200,.str [],.int .i64 0,.int .i64 0,.sl [[.int .i64 0,.int .i64 1000]]]]],.nils,.agg [.sl [[.int .i64 600000],[.int .i64 0]],.sl [[.int .i64 0],[.int .i64 0]],.sl [[.int .i64 1000]],.sl [[.bool false]]],.sl [[.int .i64 0],[.int .i64 0]],.int .i64 100],.tup [.agg [.sl [[.int .i64 500000],[.int .i64 0]],.sl [[.int .i64 0],[.int .i64 0]],.sl [[.int .i64 1000]],.sl [[.bool true]]],.agg [.int .i64 0,.int .i64 100000,.sl [[.int .i64 100000]]],.int .i64 0])::kf4
theorem ev6:(evF prog bH (ceL kf4 kn1) 30).pl 922 [.agg [.sl [[.str [109],.int .i64 1,.int .i64 0,.int .i64 0,.int .i64 0,.int .i64 2000,.sl [[.int .i64 0,.int .i64 0],[.int .i64 2000,.int .i64 2000000]],.bool false,.int .i64 0],[.str [111],.int .i64 3,.int .i64 0,.int .i64 0,.int .i64 0,.int .i64 0,.nils,.bool false,.int .i64 0]],.sl [[.str [112],.str [109],.str [111],.int .i64 4,.int .i64 0,.int .i64 500,.int .i64 200,.str [],.int .i64 0,.int .i64 0,.sl [[.int .i64 0,.int .i64 1000]]]]],.nils,.agg [.sl [[.int .i64 600000],[.int .i64 0]],.sl [[.int .i64 0],[.int .i64 0]],.sl [[.int .i64 1000]],.sl [[.bool false]]],.sl [[.int .i64 0],[.int .i64 0]],.int .i64 100]=some (.tup [.agg [.sl [[.int .i64 500000],[.int .i64 0]],.sl [[.int .i64 0],[.int .i64 0]],.sl [[.int .i64 1000]],.sl [[.bool true]]],.agg [.int .i64 0,.int .i64 100000,.sl [[.int .i64 100000]]],.int .i64 0]):=by kernel_rfl
include hC hD in
theorem ka5:ci C kf5:=gK hC hD (ka4 hC hD) (kb1 hC hD) ev6
def kf6:List fz:=(927,[.agg [.sl [[.str [109],.int .i64 1,.int .i64 0,.int .i64 0,.int .i64 0,.int .i64 2000,.sl [[.int .i64 0,.int .i64 0],[.int .i64 2000,.int .i64 2000000]],.bool false,.int .i64 0],[.str [111],.int .i64 3,.int .i64 0,.int .i64 0,.int .i64 0,.int .i64 0,.nils,.bool false,.int .i64 0]],.sl [[.str [112],.str [109],.str [111],.int .i64 4,.int .i64 0,.int .i64 500,.int .i64 200,.str [],.int .i64 0,.int .i64 0,.sl [[.int .i64 0,.int .i64 1000]]]]],.agg [.sl [[.int .i64 500000],[.int .i64 0]],.sl [[.int .i64 0],[.int .i64 0]],.sl [[.int .i64 1000]],.sl [[.bool true]]]],.bool true)::kf5
theorem ev7:(evF prog bH (ceL kf5 kn1) 30).pl 927 [.agg [.sl [[.str [109],.int .i64 1,.int .i64 0,.int .i64 0,.int .i64 0,.int .i64 2000,.sl [[.int .i64 0,.int .i64 0],[.int .i64 2000,.int .i64 2000000]],.bool false,.int .i64 0],[.str [111],.int .i64 3,.int .i64 0,.int .i64 0,.int .i64 0,.int .i64 0,.nils,.bool false,.int .i64 0]],.sl [[.str [112],.str [109],.str [111],.int .i64 4,.int .i64 0,.int .i64 500,.int .i64 200,.str [],.int .i64 0,.int .i64 0,.sl [[.int .i64 0,.int .i64 1000]]]]],.agg [.sl [[.int .i64 500000],[.int .i64 0]],.sl [[.int .i64 0],[.int .i64 0]],.sl [[.int .i64 1000]],.sl [[.bool true]]]]=some (.bool true):=by kernel_rfl
include hC hD in
theorem ka6:ci C kf6:=gK hC hD (ka5 hC hD) (kb1 hC hD) ev7
def kf7:List fz:=(933,[.agg [.sl [[.str [109],.int .i64 1,.int .i64 0,.int .i64 0,.int .i64 0,.int .i64 2000,.sl [[.int .i64 0,.int .i64 0],[.int .i64 2000,.int .i64 2000000]],.bool false,.int .i64 0],[.str [111],.int .i64 3,.int .i64 0,.int .i64 0,.int .i64 0,.int .i64 0,.nils,.bool false,.int .i64 0]],.sl [[.str [112],.str [109],.str [111],.int .i64 4,.int .i64 0,.int .i64 500,.int .i64 200,.str [],.int .i64 0,.int .i64 0,.sl [[.int .i64 0,.int .i64 1000]]]]],.nils,.agg [.sl [[.int .i64 500000],[.int .i64 0]],.sl [[.int .i64 0],[.int .i64 0]],.sl [[.int .i64 1000]],.sl [[.bool true]]]],.bool true)::kf6
theorem ev8:(evF prog bH (ceL kf6 kn1) 30).pl 933 [.agg [.sl [[.str [109],.int .i64 1,.int .i64 0,.int .i64 0,.int .i64 0,.int .i64 2000,.sl [[.int .i64 0,.int .i64 0],[.int .i64 2000,.int .i64 2000000]],.bool false,.int .i64 0],[.str [111],.int .i64 3,.int .i64 0,.int .i64 0,.int .i64 0,.int .i64 0,.nils,.bool false,.int .i64 0]],.sl [[.str [112],.str [109],.str [111],.int .i64 4,.int .i64 0,.int .i64 500,.int .i64 200,.str [],.int .i64 0,.int .i64 0,.sl [[.int .i64 0,.int .i64 1000]]]]],.nils,.agg [.sl [[.int .i64 500000],[.int .i64 0]],.sl [[.int .i64 0],[.int .i64 0]],.sl [[.int .i64 1000]],.sl [[.bool true]]]]=some (.bool true):=by kernel_rfl
include hC hD in
theorem ka7:ci C kf7:=gK hC hD (ka6 hC hD) (kb1 hC hD) ev8
def kn2:List fz:=(940,[.agg [.sl [[.str [109],.int .i64 1,.int .i64 0,.int .i64 0,.int .i64 0,.int .i64 2000,.sl [[.int .i64 0,.int .i64 0],[.int .i64 2000,.int .i64 2000000]],.bool false,.int .i64 0],[.str [111],.int .i64 3,.int .i64 0,.int .i64 0,.int .i64 0,.int .i64 0,.nils,.bool false,.int .i64 0]],.sl [[.str [112],.str [109],.str [111],.int .i64 4,.int .i64 0,.int .i64 500,.int .i64 200,.str [],.int .i64 0,.int .i64 0,.sl [[.int .i64 0,.int .i64 1000]]]]],.nils,.agg [.sl [[.int .i64 500000],[.int .i64 0]],.sl [[.int .i64 0],[.int .i64 0]],.sl [[.int .i64 1000]],.sl [[.bool true]]],.int .i64 100],.tup [.sl [[.int .i64 100000]],.sl [[.bool true]],.int .i64 0])::kn1
theorem ev9:(evF prog bH (ceL kf7 kn1) 30).nw 940 [.agg [.sl [[.str [109],.int .i64 1,.int .i64 0,.int .i64 0,.int .i64 0,.int .i64 2000,.sl [[.int .i64 0,.int .i64 0],[.int .i64 2000,.int .i64 2000000]],.bool false,.int .i64 0],[.str [111],.int .i64 3,.int .i64 0,.int .i64 0,.int .i64 0,.int .i64 0,.nils,.bool false,.int .i64 0]],.sl [[.str [112],.str [109],.str [111],.int .i64 4,.int .i64 0,.int .i64 500,.int .i64 200,.str [],.int .i64 0,.int .i64 0,.sl [[.int .i64 0,.int .i64 1000]]]]],.nils,.agg [.sl [[.int .i64 500000],[.int .i64 0]],.sl [[.int .i64 0],[.int .i64 0]],.sl [[.int .i64 1000]],.sl [[.bool true]]],.int .i64 100]=some (.tup [.sl [[.int .i64 100000]],.sl [[.bool true]],.int .i64 0]):=by kernel_rfl
include hC hD in
theorem kb2:lQ C kn2:=IG hC hD (ka7 hC hD) (kb1 hC hD) ev9
def kf8:List fz:=(922,[.agg [.sl [[.str [109],.int .i64 1,.int .i64 0,.int .i64 0,.int .i64 0,.int .i64 2000,.sl [[.int .i64 0,.int .i64 0],[.int .i64 2000,.int .i64 2000000]],.bool false,.int .i64 0],[.str [111],.int .i64 3,.int .i64 0,.int .i64 0,.int .i64 0,.int .i64 0,.nils,.bool false,.int .i64 0]],.sl [[.str [112],.str [109],.str [111],.int .i64 4,.int .i64 0,.int .i64 500,.int .i64 200,.str [],.int .i64 0,.int .i64 0,.sl [[.int .i64 0,.int .i64 1000]]]]],.nils,.agg [.sl [[.int .i64 500000],[.int .i64 0]],.sl [[.int .i64 0],[.int .i64 0]],.sl [[.int .i64 1000]],.sl [[.bool true]]],.sl [[.int .i64 0],[.int .i64 0]],.int .i64 100],.tup [.agg [.sl [[.int .i64 400000],[.int .i64 0]],.sl [[.int .i64 0],[.int .i64 0]],.sl [[.int .i64 1000]],.sl [[.bool true]]],.agg [.int .i64 0,.int .i64 100000,.sl [[.int .i64 100000]]],.int .i64 0])::kf7
theorem Mb:(evF prog bH (ceL kf7 kn2) 30).pl 922 [.agg [.sl [[.str [109],.int .i64 1,.int .i64 0,.int .i64 0,.int .i64 0,.int .i64 2000,.sl [[.int .i64 0,.int .i64 0],[.int .i64 2000,.int .i64 2000000]],.bool false,.int .i64 0],[.str [111],.int .i64 3,.int .i64 0,.int .i64 0,.int .i64 0,.int .i64 0,.nils,.bool false,.int .i64 0]],.sl [[.str [112],.str [109],.str [111],.int .i64 4,.int .i64 0,.int .i64 500,.int .i64 200,.str [],.int .i64 0,.int .i64 0,.sl [[.int .i64 0,.int .i64 1000]]]]],.nils,.agg [.sl [[.int .i64 500000],[.int .i64 0]],.sl [[.int .i64 0],[.int .i64 0]],.sl [[.int .i64 1000]],.sl [[.bool true]]],.sl [[.int .i64 0],[.int .i64 0]],.int .i64 100]=some (.tup [.agg [.sl [[.int .i64 400000],[.int .i64 0]],.sl [[.int .i64 0],[.int .i64 0]],.sl [[.int .i64 1000]],.sl [[.bool true]]],.agg [.int .i64 0,.int .i64 100000,.sl [[.int .i64 100000]]],.int .i64 0]):=by kernel_rfl
include hC hD in
theorem ka8:ci C kf8:=gK hC hD (ka7 hC hD) (kb2 hC hD) Mb
def kf9:List fz:=(911,[.agg [.sl [[.str [109],.int .i64 1,.int .i64 0,.int .i64 0,.int .i64 0,.int .i64 2000,.sl [[.int .i64 0,.int .i64 0],[.int .i64 2000,.int .i64 2000000]],.bool false,.int .i64 0],[.str [111],.int .i64 3,.int .i64 0,.int .i64 0,.int .i64 0,.int .i64 0,.nils,.bool false,.int .i64 0]],.sl [[.str [112],.str [109],.str [111],.int .i64 4,.int .i64 0,.int .i64 500,.int .i64 200,.str [],.int .i64 0,.int .i64 0,.sl [[.int .i64 0,.int .i64 1000]]]]],.nils,.agg [.sl [[.int .i64 600000],[.int .i64 0]],.sl [[.int .i64 0],[.int .i64 0]],.sl [[.int .i64 1000]],.sl [[.bool false]]],.nils,.int .i64 100,.int .i64 2],.tup [.sl [[.sl [[.int .i64 500000],[.int .i64 0]],.sl [[.int .i64 0],[.int .i64 0]],.sl [[.int .i64 1000]],.sl [[.bool true]]],[.sl [[.int .i64 400000],[.int .i64 0]],.sl [[.int .i64 0],[.int .i64 0]],.sl [[.int .i64 1000]],.sl [[.bool true]]]],.sl [[.int .i64 0,.int .i64 100000,.sl [[.int .i64 100000]]],[.int .i64 0,.int .i64 100000,.sl [[.int .i64 100000]]]],.int .i64 0])::kf8
theorem Mc:(evF prog bH (ceL kf8 kn2) 30).pl 911 [.agg [.sl [[.str [109],.int .i64 1,.int .i64 0,.int .i64 0,.int .i64 0,.int .i64 2000,.sl [[.int .i64 0,.int .i64 0],[.int .i64 2000,.int .i64 2000000]],.bool false,.int .i64 0],[.str [111],.int .i64 3,.int .i64 0,.int .i64 0,.int .i64 0,.int .i64 0,.nils,.bool false,.int .i64 0]],.sl [[.str [112],.str [109],.str [111],.int .i64 4,.int .i64 0,.int .i64 500,.int .i64 200,.str [],.int .i64 0,.int .i64 0,.sl [[.int .i64 0,.int .i64 1000]]]]],.nils,.agg [.sl [[.int .i64 600000],[.int .i64 0]],.sl [[.int .i64 0],[.int .i64 0]],.sl [[.int .i64 1000]],.sl [[.bool false]]],.nils,.int .i64 100,.int .i64 2]=some (.tup [.sl [[.sl [[.int .i64 500000],[.int .i64 0]],.sl [[.int .i64 0],[.int .i64 0]],.sl [[.int .i64 1000]],.sl [[.bool true]]],[.sl [[.int .i64 400000],[.int .i64 0]],.sl [[.int .i64 0],[.int .i64 0]],.sl [[.int .i64 1000]],.sl [[.bool true]]]],.sl [[.int .i64 0,.int .i64 100000,.sl [[.int .i64 100000]]],[.int .i64 0,.int .i64 100000,.sl [[.int .i64 100000]]]],.int .i64 0]):=by kernel_rfl
include hC hD in
theorem ka9:ci C kf9:=gK hC hD (ka8 hC hD) (kb2 hC hD) Mc
def DK:List fz:=(912,[.agg [.sl [[.str [109],.int .i64 1,.int .i64 0,.int .i64 0,.int .i64 0,.int .i64 2000,.sl [[.int .i64 0,.int .i64 0],[.int .i64 2000,.int .i64 2000000]],.bool false,.int .i64 0],[.str [111],.int .i64 3,.int .i64 0,.int .i64 0,.int .i64 0,.int .i64 0,.nils,.bool false,.int .i64 0]],.sl [[.str [112],.str [109],.str [111],.int .i64 4,.int .i64 0,.int .i64 500,.int .i64 200,.str [],.int .i64 0,.int .i64 0,.sl [[.int .i64 0,.int .i64 1000]]]]],.sl [[.int .i64 0,.int .i64 100000,.sl [[.int .i64 100000]]],[.int .i64 0,.int .i64 100000,.sl [[.int .i64 100000]]]]],.tup [.agg [.int .i64 0,.int .i64 200000,.sl [[.int .i64 200000]]],.int .i64 0])::kf9
theorem Md:(evF prog bH (ceL kf9 kn2) 30).pl 912 [.agg [.sl [[.str [109],.int .i64 1,.int .i64 0,.int .i64 0,.int .i64 0,.int .i64 2000,.sl [[.int .i64 0,.int .i64 0],[.int .i64 2000,.int .i64 2000000]],.bool false,.int .i64 0],[.str [111],.int .i64 3,.int .i64 0,.int .i64 0,.int .i64 0,.int .i64 0,.nils,.bool false,.int .i64 0]],.sl [[.str [112],.str [109],.str [111],.int .i64 4,.int .i64 0,.int .i64 500,.int .i64 200,.str [],.int .i64 0,.int .i64 0,.sl [[.int .i64 0,.int .i64 1000]]]]],.sl [[.int .i64 0,.int .i64 100000,.sl [[.int .i64 100000]]],[.int .i64 0,.int .i64 100000,.sl [[.int .i64 100000]]]]]=some (.tup [.agg [.int .i64 0,.int .i64 200000,.sl [[.int .i64 200000]]],.int .i64 0]):=by kernel_rfl
include hC hD in
theorem Mt:ci C DK:=gK hC hD (ka9 hC hD) (kb2 hC hD) Md
def DL:List fz:=(896,[.agg [.sl [[.str [109],.int .i64 1,.int .i64 0,.int .i64 0,.int .i64 0,.int .i64 2000,.sl [[.int .i64 0,.int .i64 0],[.int .i64 2000,.int .i64 2000000]],.bool false,.int .i64 0],[.str [111],.int .i64 3,.int .i64 0,.int .i64 0,.int .i64 0,.int .i64 0,.nils,.bool false,.int .i64 0]],.sl [[.str [112],.str [109],.str [111],.int .i64 4,.int .i64 0,.int .i64 500,.int .i64 200,.str [],.int .i64 0,.int .i64 0,.sl [[.int .i64 0,.int .i64 1000]]]]],.nils,.agg [.sl [[.int .i64 600000],[.int .i64 0]],.sl [[.int .i64 0],[.int .i64 0]],.sl [[.int .i64 1000]],.sl [[.bool false]]],.nils,.int .i64 100,.int .i64 2],.tup [.agg [.sl [[.int .i64 400000],[.int .i64 0]],.sl [[.int .i64 0],[.int .i64 0]],.sl [[.int .i64 1000]],.sl [[.bool true]]],.agg [.int .i64 0,.int .i64 200000,.sl [[.int .i64 200000]]],.int .i64 0])::DK
theorem Me:(evF prog bH (ceL DK kn2) 30).pl 896 [.agg [.sl [[.str [109],.int .i64 1,.int .i64 0,.int .i64 0,.int .i64 0,.int .i64 2000,.sl [[.int .i64 0,.int .i64 0],[.int .i64 2000,.int .i64 2000000]],.bool false,.int .i64 0],[.str [111],.int .i64 3,.int .i64 0,.int .i64 0,.int .i64 0,.int .i64 0,.nils,.bool false,.int .i64 0]],.sl [[.str [112],.str [109],.str [111],.int .i64 4,.int .i64 0,.int .i64 500,.int .i64 200,.str [],.int .i64 0,.int .i64 0,.sl [[.int .i64 0,.int .i64 1000]]]]],.nils,.agg [.sl [[.int .i64 600000],[.int .i64 0]],.sl [[.int .i64 0],[.int .i64 0]],.sl [[.int .i64 1000]],.sl [[.bool false]]],.nils,.int .i64 100,.int .i64 2]=some (.tup [.agg [.sl [[.int .i64 400000],[.int .i64 0]],.sl [[.int .i64 0],[.int .i64 0]],.sl [[.int .i64 1000]],.sl [[.bool true]]],.agg [.int .i64 0,.int .i64 200000,.sl [[.int .i64 200000]]],.int .i64 0]):=by kernel_rfl
include hC hD in
theorem Mu:ci C DL:=gK hC hD (Mt hC hD) (kb2 hC hD) Me
def DM:List fz:=(213,[.agg [.sl [[.int .i64 0,.int .i64 0,.int .i64 0],[.int .i64 1000,.int .i64 0,.int .i64 0],[.int .i64 1000,.int .i64 1000,.int .i64 9],[.int .i64 0,.int .i64 1000,.int .i64 3]],.sl [[.int .i64 0,.int .i64 1,.int .i64 2,.int .i64 0],[.int .i64 0,.int .i64 2,.int .i64 3,.int .i64 0]]]],.tup [.sl [[.int .i64 (-1)],[.int .i64 0]],.int .i64 0])::DL
theorem Mf:(evF prog bH (ceL DL kn2) 30).pl 213 [.agg [.sl [[.int .i64 0,.int .i64 0,.int .i64 0],[.int .i64 1000,.int .i64 0,.int .i64 0],[.int .i64 1000,.int .i64 1000,.int .i64 9],[.int .i64 0,.int .i64 1000,.int .i64 3]],.sl [[.int .i64 0,.int .i64 1,.int .i64 2,.int .i64 0],[.int .i64 0,.int .i64 2,.int .i64 3,.int .i64 0]]]]=some (.tup [.sl [[.int .i64 (-1)],[.int .i64 0]],.int .i64 0]):=by kernel_rfl
include hC hD in
theorem Mv:ci C DM:=gK hC hD (Mu hC hD) (kb2 hC hD) Mf
def Mx:List fz:=(885,[],.bool true)::DM
theorem Mg:(evF prog bH (ceL DM kn2) 30).pl 885 []=some (.bool true):=by kernel_rfl
include hC hD in
theorem Mw:ci C Mx:=gK hC hD (Mv hC hD) (kb2 hC hD) Mg
end
end Go.Gv

namespace Go.Gv
theorem mD{C:CC}(hC:av prog C)(hD:io prog bH C)(hW:SlW C)(dec:Nat->List UInt8)(hI:∀n:Nat,n<100->C 127 [.int .i64 n] (.str (dec n)) [])(m:Msh)(b:Bool)(l:List Int)(bg:Bool)(g:List Ggt)(hg:g.length<2^62)(s:Srs) :
  C 884 [.agg (b0 m),slx b (inR l),slx bg (g.map ggC),.agg (srC s)] (.bool true) [] :=
 EN hC (Mw hC hD).1 hW dec hI m b l bg g hg s
end Go.Gv
