/-
  Texts of the proof: GvR, GvRD, GvEtc, GvN, ItC, GvT, GvT4, GvU, K1, K3, GvW, GvX, H1, CA1, CA2, CA3, K4, K5, K6, K7, K8, M0, W1, W2, W3, H8, V1, V2, I1, M3, M4, P3, Z1, Z3, CA4, CA5.
-/
import Derived.Test.YtjlibcgkjgglkaaGreatDoorX4
import Derived.SizedLaws
import Derived.ProofKit
import Derived.Test.YtjlibcgkjgglkaaGreatDoorX5
import Derived.Test.YtjlibcgkjgglkaaGreatDoorProg
import Derived.KernelRfl
import Derived.Shelf.Strconv.Itoa0
import Derived.Shelf.Strconv.Itoa1
import Derived.Shelf.LaysM
import Derived.Shelf.Strconv.Itoa2
import Derived.Shelf.Strconv.Itoa3
import Derived.Shelf.Sort.Plain
import Derived.Shelf.Bits.Mul64
import Derived.Shelf.Slices.Equal
import Derived.Ground.Names2Prog
import Derived.Shelf.Slices.Clone
import Derived.Shelf.Slices.CompactI
import Derived.Shelf.Slices.SearchI
import Derived.Shelf.Slices.Cells
import Derived.Shelf.Slices.In.SortNone
import Derived.Shelf.Slices.Empties2
import Derived.Sort.Row
import Derived.Sort.Grow
import Derived.Shelf.Spec.SlicesInsertGrow
import Derived.Lib.Mul64
import Derived.Laws.Bits64b
import Derived.Laws.MathBits
set_option linter.all false
namespace Go.Gv
open Go.RowKit Go.ChangeShapes Go.WideShapes Go.ChangeAt
inductive Sh where
 | int (k:IntKind)
 | bool
 | str
 | sl (row:List Sh)
mutual
def dX:Sh->D->Prop
 | .int k,d=>∃n,d=.int k n/\(Lit.int k n).wf=true
 | .bool,d=>∃b,d=.bool b
 | .str,d=>∃s,d=.str s/\s.length<140737488355328
 | .sl row,d=>∃es,(d=.sl es\/(d=.nils/\es=[]))/\es.length<140737488355328/\∀e∈es,bR row e
def bR:List Sh->List D->Prop
 | [],ds=>ds=[]
 | s::ss,ds=>∃d r,ds=d::r/\dX s d/\bR ss r
end
theorem bR.length:∀{ss:List Sh} {ds:List D},bR ss ds->ds.length=ss.length
 | [],ds,h=>by simp only[bR]at h;simp[h]
 | s::ss,ds,h=>by
  simp only[bR]at h
  obtain⟨d,r,rfl,_,h2⟩:=h
  simp[bR.length h2]
theorem bR.append:∀{ss ts:List Sh} {ds es:List D},bR ss ds->bR ts es->bR (ss++ts) (ds++es)
 | [],ts,ds,es,h,h'=>by simp only[bR]at h;subst h;exact h'
 | s::ss,ts,ds,es,h,h'=>by
  simp only[bR]at h
  obtain⟨d,r,rfl,h1,h2⟩:=h
  exact⟨d,r++es,rfl,h1,bR.append h2 h'⟩
def qa(P:Program)(rec:TypeId->Option (List Sh)):List Field->Nat->Option (List Sh)
 | [],_=>some []
 | f::fs,off=>if f.offset=off then(match rec f.type with
   | some l=>if l.length=P.cellsOf f.type then(match qa P rec fs (off+l.length) with
    | some r=>some (l++r)
    | none=>none) else none
   | none=>none) else none
def mJ(P:Program):Nat->TypeId->Option (List Sh)
 | 0,_=>none
 | n+1,t=>match P.underlying t with
  | some .bool=>some [.bool]
  | some (.int k)=>some [.int k]
  | some .string=>some [.str]
  | some (.slice e)=>(match mJ P n e with
   | some l=>if l.length=P.cellsOf e/\1<=P.bytesOf e then some [.sl l] else none
   | none=>none)
  | some (.struct fs)=>(match qa P (mJ P n) fs.toList 0 with
   | some l=>if l.length=P.cellsOf t then some l else none
   | none=>none)
  | _=>none
section
variable{H:Type}{enc:TypeId×Value->H}{P:Program}{F:Fid}{w:World}{sp:Nat->Bool}
abbrev oR(w:World):Mem:=fun p=>w.cell? p
def wE(enc:TypeId×Value->H)(P:Program)(F:Fid)(w:World)(sp:Nat->Bool)(n:Nat)(t:TypeId)(shs:List Sh):Prop :=
 ∀(cs:List Value) (d:DataW H) (ps:List MemPlace),DataW.trod enc P w 0 sp true n t cs=some (d,ps)->(d.weights P t).all (·<=reachBytes)=true->∃ds,bR shs ds/\aA F (oR w) ds cs
theorem jc{α β:Type}{f:α->Option β}{x:α}{l:List α}{ys:List β}(h:(x::l).mapM f=some ys):∃y r,f x=some y/\l.mapM f=some r/\ys=y::r:=by
 rw[List.mapM_cons]at h
 cases hx:f x with
 | none=>rw[hx]at h;cases h
 | some y =>
  cases hl:l.mapM f with
  | none=>rw[hx,hl]at h;cases h
  | some r =>
   rw[hx,hl]at h
   exact⟨y,r,rfl,rfl,by cases h;rfl⟩
theorem n5{n m:Nat}(ih:∀t shs,mJ P m t=some shs->wE enc P F w sp n t shs){cs:List Value}:∀(fs:List Field) (off:Nat) (xs:List (DataW H×List MemPlace)) (shs:List Sh),
  (fs.mapM fun f=>DataW.trod enc P w 0 sp true n f.type ((cs.drop f.offset).take (P.cellsOf f.type)))=some xs->qa P (mJ P m) fs off=some shs->(DataW.weightsEach P (fs.map (·.type)) (xs.map (·.1))).all (·<=reachBytes)=true->cs.length=off+shs.length ->
   ∃ds,bR shs ds/\aA F (oR w) ds (cs.drop off)
 | [],off,xs,shs,_,h2,_,h4=>by
  cases h2
  exact⟨[],rfl,by simp only[aA];exact List.drop_of_length_le (by simpa using Nat.le_of_eq h4)⟩
 | f::fs,off,xs,shs,h1,h2,h3,h4=>by
  obtain⟨y,r,e1,e2,rfl⟩:=jc h1
  simp only[qa]at h2
  split at h2
  case isFalse=>cases h2
  rename_i ho
  split at h2
  case h_2=>cases h2
  rename_i l hl
  split at h2
  case isFalse=>cases h2
  rename_i hlen
  split at h2
  case h_2=>cases h2
  rename_i rs hr
  cases h2
  simp only[x0t,DataW.weightsEach,List.all_append,x0a]at h3
  rw[x0Q]at h4
  obtain⟨ds1,g1,g2⟩:=ih f.type l hl _ y.1 y.2 e1 h3.1
  obtain⟨ds2,g3,g4⟩:=n5 ih fs (off+l.length) r rs e2 hr h3.2 (by omega)
  refine⟨ds1++ds2,g1.append g3,?_⟩
  rw[ho,<- hlen]at g2
  have:=g2.append g4
  rwa[<- List.drop_drop,List.take_append_drop]at this
theorem n6{n k:Nat}{e:TypeId}{l:List Sh}{a:Addr}(hl:l.length=k)(ih:wE enc P F w sp n e l):∀(c s:Nat) (xs:List (DataW H×List MemPlace)),
  ((List.range' s c).mapM fun i=>(w.cells? 0 (a.add (i*k)) k).bind (DataW.trod enc P w 0 sp true n e))=some xs->(DataW.weightsAll P e (xs.map (·.1))).all (·<=reachBytes)=true ->
   ∃(es:List (List D)) (vs:List Value),es.length=c/\xs.length=c/\(∀r∈es,bR l r)/\aZ F (oR w) es vs/\∀j v,vs[j]? = some v->w.cell? (a.add (s*k+j))=some v
 | 0,s,xs,h,_=>by
  cases h
  exact⟨[],[],rfl,rfl,by simp,by simp[aZ],fun j v h=>by simp at h⟩
 | c+1,s,xs,h,hw=>by
  rw[List.range'_succ]at h
  obtain⟨y,r,e1,e2,rfl⟩:=jc h
  rw[Option.bind_eq_some_iff]at e1
  obtain⟨row,c1,c2⟩:=e1
  simp only[x0t,DataW.weightsAll,List.all_append,x0a]at hw
  obtain⟨ds,g1,g2⟩:=ih row y.1 y.2 c2 hw.1
  obtain⟨es,vs,h1,h2,h3,h4,h5⟩:=n6 hl ih c (s+1) r e2 hw.2
  have hrow:=World.cells?_some c1
  refine⟨ds::es,row++vs,by simp[h1],by simp[h2],?_,⟨row,vs,rfl,g2,h4⟩,fun j v hj=>?_⟩
  ·intro x hx
   rcases x0B.1 hx with rfl|hx
   ·exact g1
   ·exact h3 x hx
  ·have hrl:row.length=k:=by rw[g2.length,g1.length,hl]
   have addadd:∀i j,(a.add i).add j=a.add (i+j):=fun i j=>by
    unfold Addr.add
    by_cases hi:i=0<;>by_cases hj:j=0<;>simp[hi,hj,x0T]
   by_cases hjk:j<k
   ·rw[x0v (by omega)]at hj
    have:=hrow.2.2 j hjk
    rw[hj,addadd]at this
    exact this
   ·rw[x0s (by omega)]at hj
    have:=h5 (j-row.length) v hj
    rw[hrl]at this
    rwa[show(s+1)*k+(j-k)=s*k+j by rw[x0W];omega]at this
theorem mV:∀(m:Nat) (n:Nat) (t:TypeId) (shs:List Sh),mJ P m t=some shs->wE enc P F w sp n t shs
 | 0,_,_,_,h=>by cases h
 | m+1,0,t,shs,_=>fun cs d ps h _=>by simp[DataW.trod]at h
 | m+1,n+1,t,shs,h=>by
  intro cs d ps ht hw
  rw[mJ]at h
  split at h
  ·rename_i hu
   cases h
   unfold DataW.trod at ht;rw[hu]at ht
   split at ht<;>try (simp_all;done)
   rename_i b _
   refine⟨[.bool b],⟨_,_,rfl,⟨b,rfl⟩,rfl⟩,by simp[aA,ae]⟩
  ·rename_i k hu
   cases h
   unfold DataW.trod at ht;rw[hu]at ht
   split at ht<;>try (simp_all;done)
   rename_i k1 k2 x h1
   simp only[x0h,TypeDesc.int.injEq]at h1
   subst h1
   split at ht
   ·rename_i hk
    obtain⟨rfl,hwf⟩:=hk
    exact⟨[.int _ x],⟨_,_,rfl,⟨x,rfl,hwf⟩,rfl⟩,by simp[aA,ae]⟩
   ·cases ht
  ·rename_i hu
   cases h
   unfold DataW.trod at ht;rw[hu]at ht
   split at ht<;>try (simp_all;done)
   rename_i s _
   split at ht
   ·rename_i hs
    simp only[x0h,Prod.mk.injEq]at ht
    obtain⟨rfl,rfl⟩:=ht
    simp only[DataW.weights,List.all_cons,List.all_nil,Bool.and_true,x0b]at hw
    refine⟨[.str s.data.toList],⟨_,_,rfl,⟨_,rfl,?_⟩,rfl⟩,?_⟩
    ·have:=reachBytes_lt;omega
    ·obtain⟨s⟩:=s
     simp[aA,ae]
   ·cases ht
  ·rename_i e hu
   split at h
   case h_2=>cases h
   rename_i l hl
   split at h
   case isFalse=>cases h
   rename_i hk
   cases h
   unfold DataW.trod at ht;rw[hu]at ht
   split at ht<;>try (simp_all;done)
   ·refine⟨[.nils],⟨_,_,rfl,⟨[],.inr ⟨rfl,rfl⟩,by simp,by simp⟩,rfl⟩,by simp[aA,ae]⟩
   ·rename_i e' a len cap h1
    simp only[x0h,TypeDesc.slice.injEq]at h1
    subst h1
    simp only at ht
    split at ht
    case isFalse=>cases ht
    rename_i hb
    rw[Option.bind_eq_some_iff]at ht
    obtain⟨xs,e1,e2⟩:=ht
    rw[x0i]at e2
    obtain⟨rest,e3,e4⟩:=e2
    simp only[Prod.mk.injEq]at e4
    obtain⟨rfl,rfl⟩:=e4
    simp only[DataW.weights,hu,List.all_cons,List.all_append,x0a,x0b]at hw
    obtain⟨w1,w2,w3⟩:=hw
    rw[List.range_eq_range']at e1
    obtain⟨es,vs,g1,g2,g3,g4,g5⟩:=n6 (F:=F) hk.1 (mV m n e l hl) len 0 xs e1 w2
    refine⟨[.sl es],⟨_,_,rfl,⟨es,.inl rfl,?_,g3⟩,rfl⟩,?_⟩
    ·have h5:=reachBytes_lt
     have h6:es.length*1<=(xs.length+rest.length)*P.bytesOf e:=Nat.mul_le_mul (by omega) hk.2
     simp only[x1c]at w1
     omega
    ·simp only[aA]
     refine⟨_,_,rfl,?_,rfl⟩
     simp only[ae]
     refine⟨some a,cap,vs,P.cellsOf e,by rw[g1],by omega,g4,fun r hr=>by rw[(g3 r hr).length,hk.1],fun _=>⟨a,rfl,fun j v hj=>?_⟩⟩
     have:=g5 j v hj
     simpa using this
  ·rename_i fs hu
   split at h
   case h_2=>cases h
   rename_i l hl
   split at h
   case isFalse=>cases h
   rename_i hk
   cases h
   unfold DataW.trod at ht;rw[hu]at ht
   split at ht<;>try (simp_all;done)
   rename_i fs' h1
   simp only[x0h,TypeDesc.struct.injEq]at h1
   subst h1
   split at ht
   case isFalse=>cases ht
   rename_i hc
   rw[x0i]at ht
   obtain⟨xs,e1,e2⟩:=ht
   simp only[Prod.mk.injEq]at e2
   obtain⟨rfl,rfl⟩:=e2
   simp only[DataW.weights,hu]at hw
   obtain⟨ds,g1,g2⟩:=n5 (F:=F) (n:=n) (fun t shs h=>mV m n t shs h) fs.toList 0 xs _ e1 hl hw (by omega)
   exact⟨ds,g1,by simpa using g2⟩
  ·cases h
theorem na{t:TypeId}{fs:Array Field}{m:Nat}{shs:List Sh}{base:Nat}{v:Value}{d:DataW H}{ps:List MemPlace}(hu:P.underlying t=some (.struct fs))(hsh:mJ P m t=some shs)(hv:Value.okWide P w .any base t v)(h:DataW.Trod enc P w 0 sp true t v d ps)(hw:(d.weights P t).all (·<=reachBytes)=true) :
  ∃ds,bR shs ds/\ae F (oR w) (.agg ds) v:=by
 obtain⟨cs,rfl,_⟩:=okWide_struct hu hv
 obtain⟨n,hn⟩:=h
 obtain⟨ds,g1,g2⟩:=mV (F:=F) m n t shs hsh _ d ps hn hw
 exact⟨ds,g1,by simp only[ae];exact⟨cs.toList,by simp,g2⟩⟩
theorem oQ{t e:TypeId}{m:Nat}{sh:Sh}{base:Nat}{v:Value}{d:DataW H}{ps:List MemPlace}(hu:P.underlying t=some (.slice e))(hsh:mJ P m t=some [sh])(hv:Value.okWide P w .any base t v)(h:DataW.Trod enc P w 0 sp true t v d ps)(hw:(d.weights P t).all (·<=reachBytes)=true) :
  ∃x,dX sh x/\ae F (oR w) x v:=by
 obtain⟨a,len,cap,rfl⟩:=okWide_slice hu hv
 obtain⟨n,hn⟩:=h
 obtain⟨ds,g1,g2⟩:=mV (F:=F) m n t [sh] hsh _ d ps hn hw
 simp only[bR]at g1
 obtain⟨x,r,rfl,g3,rfl⟩:=g1
 simp only[Value.cells,aA]at g2
 obtain⟨v',r',e,g4,rfl⟩:=g2
 simp at e
 exact⟨x,g3,by rw[e];exact g4⟩
end
theorem jg{α:Type}{f:α->List D}{es:List (List D)}(h:∀e∈es,∃x,e=f x):∃xs:List α,es=xs.map f:=by
 induction es with
 | nil=>exact⟨[],rfl⟩
 | cons e es ih =>
  obtain⟨x,rfl⟩:=h e (by simp)
  obtain⟨xs,rfl⟩:=ih (fun e he=>h e (by simp[he]))
  exact⟨x::xs,rfl⟩
end Go.Gv
namespace Go.Gv
def zE(P:Program)(F:Fid)(prog:Nat->Option al)(tbl:List (Nat×Nat)):Bool:=tbl.all fun p=>nQ P p.2&&match prog p.1 with
 | some nf=>dg P F p.2 nf
 | none=>true
theorem lM{tbl:List (Nat×Nat)}{g f:Nat}(h:tbl.lookup g=some f):(g,f)∈tbl:=by
 induction tbl with
 | nil=>cases h
 | cons p r ih =>
  obtain⟨a,b⟩:=p
  rw[x0g]at h
  cases e:g==a with
  | true=>rw[e]at h;simp at e h;subst e;subst h;simp
  | false=>rw[e]at h;simp[ih h]
theorem seat{P:Program}{tbl:List (Nat×Nat)}{ty:Nat->TypeId}{prog:Nat->Option al}(hm:P.follows .mixedOrders=true)(hl:laidOutB P=true)(h:zE P ⟨P,fun g=>tbl.lookup g,ty,fun _=>.nilIface⟩ prog tbl=true) :
  bC P ⟨P,fun g=>tbl.lookup g,ty,fun _=>.nilIface⟩ (ee P ⟨P,fun g=>tbl.lookup g,ty,fun _=>.nilIface⟩)/\av prog (ee P ⟨P,fun g=>tbl.lookup g,ty,fun _=>.nilIface⟩):=by
 have key:∀g f,tbl.lookup g=some f->nQ P f=true/\∀nf,prog g=some nf->dg P ⟨P,fun g=>tbl.lookup g,ty,fun _=>.nilIface⟩ f nf=true:=fun g f e=>by
  have:=x0f.1 h _ (lM e)
  simp only[x0a]at this
  refine⟨this.1,fun nf hnf=>?_⟩
  have:=this.2
  rw[hnf]at this
  exact this
 exact sy hm (fun g f e=>(key g f e).1) hl rfl (fun g f nf e hp=>(key g f e).2 nf hp)
end Go.Gv

namespace Go.Gv
open Go.RowKit
def zG(P:Program)(F:Fid)(bH:Nat->Option eL)(tbl:List (Nat×Nat)):Bool:=tbl.all fun p=>match bH p.1 with
 | some nd=>qc P F p.2 nd&&(F nd.g).isSome
 | none=>true
theorem seatD{P:Program}{tbl:List (Nat×Nat)}{ty:Nat->TypeId}{prog:Nat->Option al}{bH:Nat->Option eL}(hm:P.follows .mixedOrders=true)(hl:laidOutB P=true)(h:zE P ⟨P,fun g=>tbl.lookup g,ty,fun _=>.nilIface⟩ prog tbl=true)
  (hd:zG P ⟨P,fun g=>tbl.lookup g,ty,fun _=>.nilIface⟩ bH tbl=true) :
  io prog bH (ee P ⟨P,fun g=>tbl.lookup g,ty,fun _=>.nilIface⟩):=by
 have hs:=(seat hm hl h).1
 refine qJ hm hs (fun g f nf e hp=>?_) (fun g f nd e hp=>?_)
 ·have:=x0f.1 h _ (lM e)
  simp only[x0a,hp]at this
  exact this.2
 ·have:=x0f.1 hd _ (lM e)
  simp only[hp,x0a]at this
  exact⟨this.1,Option.isSome_iff_exists.1 this.2⟩
end Go.Gv

namespace Go.Gv
open Go.Proofs
def TryzTbl : List (Nat × Nat) := [(0, 2), (884, 3), (885, 4), (886, 5), (887, 6), (888, 7), (856, 8), (862, 9), (863, 10), (372, 11), (889, 12), (890, 13), (891, 14), (892, 15), (893, 16), (894, 17), (895, 18), (213, 19), (896, 20), (19, 21), (897, 22), (874, 23), (875, 24), (876, 25), (880, 26), (234, 27), (376, 28), (11, 29), (898, 30), (899, 31), (900, 32), (901, 33), (902, 34), (373, 35), (903, 36), (58, 37), (313, 38), (904, 39), (905, 40), (906, 41), (907, 42), (908, 43), (909, 44), (910, 45), (253, 46), (254, 47), (911, 48), (912, 49), (913, 50), (882, 51), (883, 52), (42, 53), (366, 54), (523, 55), (243, 56), (244, 57), (881, 58), (273, 59), (307, 60), (308, 61), (35, 62), (914, 63), (377, 64), (915, 65), (70, 66), (71, 67), (916, 68), (917, 69), (265, 70), (99, 71), (327, 72), (271, 73), (221, 74), (256, 75), (918, 76), (919, 77), (920, 78), (921, 79), (922, 80), (923, 81), (924, 82), (925, 83), (280, 86), (302, 87), (303, 88), (304, 89), (305, 90), (306, 91), (298, 92), (309, 93), (310, 94), (311, 95), (127, 96), (88, 97), (926, 98), (105, 99), (113, 100), (112, 101), (103, 102), (106, 103), (107, 104), (108, 105), (301, 106), (261, 107), (268, 108), (263, 109), (927, 110), (44, 111), (928, 112), (929, 113), (930, 114), (932, 116), (933, 117), (934, 118), (935, 119), (936, 120), (937, 121), (938, 122), (939, 123), (940, 124), (941, 125), (942, 126), (164, 127), (943, 128), (944, 129), (945, 130), (111, 141), (220, 142), (315, 143), (223, 144), (316, 145), (317, 146), (318, 147), (328, 148), (91, 150), (104, 153), (264, 154), (225, 155), (946, 156), (947, 157), (948, 158), (51, 159), (949, 160), (950, 161), (441, 162), (951, 163), (952, 164), (953, 165), (954, 166), (955, 167), (956, 168), (957, 169), (471, 170), (168, 171), (169, 172), (170, 173), (171, 174), (958, 175), (959, 176), (299, 182), (333, 183), (262, 184), (334, 185), (335, 186), (92, 188), (110, 189), (266, 190), (267, 191), (960, 192), (59, 193), (52, 194), (480, 195), (961, 196), (962, 197), (963, 198), (964, 199), (965, 200), (966, 201), (967, 202), (455, 203), (968, 204), (969, 205), (970, 206), (499, 207), (172, 208), (173, 209), (174, 210), (175, 211), (176, 212), (177, 213), (178, 214), (72, 215), (179, 216), (180, 217), (181, 218), (182, 219), (339, 221), (102, 226), (971, 227), (972, 228), (973, 229), (974, 230), (975, 231), (976, 232), (977, 233), (45, 234), (978, 235), (979, 236), (183, 237), (184, 238), (89, 239), (185, 240), (980, 245), (98, 246), (981, 247), (982, 248), (983, 249), (984, 250), (985, 251), (986, 252), (987, 253), (53, 256), (988, 257), (989, 258), (990, 259), (991, 260), (992, 261), (993, 262), (994, 263), (995, 264), (996, 265), (60, 266), (61, 267), (997, 268), (998, 269), (999, 270), (1000, 271), (1001, 272), (73, 273), (74, 274), (75, 275), (76, 276), (77, 277), (90, 278), (96, 279), (97, 280), (100, 281), (101, 282), (109, 283), (340, 301), (341, 302), (342, 303), (343, 304)]
def TryzTys : List (Nat × Nat) := [(0, 9), (1, 4), (2, 3), (20, 227), (3, 169), (4, 34)]
set_option maxRecDepth 100000 in
theorem Tryz_all : zE Tryz.prog ⟨Tryz.prog, fun g => TryzTbl.lookup g, fun t => (TryzTys.lookup t).getD 0, fun _ => .nilIface⟩ prog TryzTbl = true := by kernel_rfl
set_option maxRecDepth 100000 in
theorem Tryz_allD : zG Tryz.prog ⟨Tryz.prog, fun g => TryzTbl.lookup g, fun t => (TryzTys.lookup t).getD 0, fun _ => .nilIface⟩ bH TryzTbl = true := by kernel_rfl
end Go.Gv

namespace Go.Gv
open Go.RowKit
theorem tV{P:Program}{F:Fid}{g:Nat}{ds:List D}{d:D}(h:∀f,F g=some f->∀(M:Mem) (w:World) (vs:List Value),aA F M ds vs->∃v,ae F M d v/\Calls P f vs.toArray w (fun e w'=>e=.returned v/\w'=w)):ee P F g ds d []:=by
 refine⟨trivial,fun f hf M w vs hh r=>?_⟩
 obtain⟨v,hv,hc⟩:=h f hf M w vs r
 refine hc.mono ?_
 rintro e w' ⟨rfl,rfl⟩
 exact⟨v,M,rfl,Bel.refl _,Mem.le_refl _,fun p h1 h2=>absurd h1 h2,hh,hv⟩
end Go.Gv

namespace Go.Proofs
open Go.Shelf
def Tryz.lays189_ren : Go.Shelf.Ren := ⟨fun | 189 => 54 | 125 => 85 | 257 => 84 | 128 => 140 | 129 => 141 | 294 => 131 | 295 => 132 | 296 => 133 | 297 => 134 | 298 => 135 | 299 => 136 | 216 => 137 | 300 => 138 | 301 => 139 | 328 => 177 | 329 => 178 | 330 => 179 | 331 => 180 | 332 => 181 | 215 => 182 | 343 => 220 | n => n, fun | 28 => 26 | 3 => 3 | 46 => 155 | 0 => 0 | 51 => 224 | 53 => 179 | 4 => 4 | 183 => 217 | 182 => 216 | 131 => 221 | 5 => 5 | 9 => 9 | 218 => 261 | 222 => 265 | 228 => 304 | 229 => 239 | n => n, fun | n => n⟩
theorem Tryz.lays189 : Go.Proofs.Lays.n189 Tryz.prog Tryz.lays189_ren := {
 mixed := by kernel_rfl
 f125 := Tryz.func85.trans (congrArg some (by kernel_rfl))
 f128 := Tryz.func140.trans (congrArg some (by kernel_rfl))
 f129 := Tryz.func141.trans (congrArg some (by kernel_rfl))
 f189 := Tryz.func54.trans (congrArg some (by kernel_rfl))
 f215 := Tryz.func182.trans (congrArg some (by kernel_rfl))
 f216 := Tryz.func137.trans (congrArg some (by kernel_rfl))
 f257 := Tryz.func84.trans (congrArg some (by kernel_rfl))
 f294 := Tryz.func131.trans (congrArg some (by kernel_rfl))
 f295 := Tryz.func132.trans (congrArg some (by kernel_rfl))
 f296 := Tryz.func133.trans (congrArg some (by kernel_rfl))
 f297 := Tryz.func134.trans (congrArg some (by kernel_rfl))
 f298 := Tryz.func135.trans (congrArg some (by kernel_rfl))
 f299 := Tryz.func136.trans (congrArg some (by kernel_rfl))
 f300 := Tryz.func138.trans (congrArg some (by kernel_rfl))
 f301 := Tryz.func139.trans (congrArg some (by kernel_rfl))
 f328 := Tryz.func177.trans (congrArg some (by kernel_rfl))
 f329 := Tryz.func178.trans (congrArg some (by kernel_rfl))
 f330 := Tryz.func179.trans (congrArg some (by kernel_rfl))
 f331 := Tryz.func180.trans (congrArg some (by kernel_rfl))
 f332 := Tryz.func181.trans (congrArg some (by kernel_rfl))
 f343 := Tryz.func220.trans (congrArg some (by kernel_rfl))
 t0 := Tryz.underlying0
 a0 := Tryz.isAgg0
 z0 := Tryz.sizeOf0
 v0 := Tryz.zeroValue0
 t3 := Tryz.underlying3
 a3 := Tryz.isAgg3
 z3 := Tryz.sizeOf3
 v3 := Tryz.zeroValue3
 t4 := Tryz.underlying4
 a4 := Tryz.isAgg4
 z4 := Tryz.sizeOf4
 v4 := Tryz.zeroValue4
 t5 := Tryz.underlying5
 a5 := Tryz.isAgg5
 z5 := Tryz.sizeOf5
 v5 := Tryz.zeroValue5
 t9 := Tryz.underlying9
 a9 := Tryz.isAgg9
 z9 := Tryz.sizeOf9
 v9 := Tryz.zeroValue9
 t28 := Tryz.underlying26
 a28 := Tryz.isAgg26
 z28 := Tryz.sizeOf26
 v28 := Tryz.zeroValue26
 t46 := Tryz.underlying155
 a46 := Tryz.isAgg155
 z46 := Tryz.sizeOf155
 v46 := Tryz.zeroValue155
 t51 := Tryz.underlying224
 a51 := Tryz.isAgg224
 z51 := Tryz.sizeOf224
 v51 := Tryz.zeroValue224
 t53 := Tryz.underlying179
 a53 := Tryz.isAgg179
 z53 := Tryz.sizeOf179
 v53 := Tryz.zeroValue179
 t131 := Tryz.underlying221
 a131 := Tryz.isAgg221
 z131 := Tryz.sizeOf221
 v131 := Tryz.zeroValue221
 t182 := Tryz.underlying216
 a182 := Tryz.isAgg216
 z182 := Tryz.sizeOf216
 v182 := Tryz.zeroValue216
 t183 := Tryz.underlying217
 a183 := Tryz.isAgg217
 z183 := Tryz.sizeOf217
 v183 := Tryz.zeroValue217
 t218 := Tryz.underlying261
 a218 := Tryz.isAgg261
 z218 := Tryz.sizeOf261
 v218 := Tryz.zeroValue261
 t222 := Tryz.underlying265
 a222 := Tryz.isAgg265
 z222 := Tryz.sizeOf265
 v222 := Tryz.zeroValue265
 t228 := Tryz.underlying304
 a228 := Tryz.isAgg304
 z228 := Tryz.sizeOf304
 v228 := Tryz.zeroValue304
 t229 := Tryz.underlying239
 a229 := Tryz.isAgg239
 z229 := Tryz.sizeOf239
 v229 := Tryz.zeroValue239 }
def Tryz.laysNm220_ren : Go.Shelf.Ren := ⟨fun | 20 => 55 | n => n, fun | 22 => 26 | 3 => 3 | 4 => 4 | 0 => 0 | n => n, fun | n => n⟩
theorem Tryz.laysNm220 : Go.Proofs.Lays2.n20 Tryz.prog Tryz.laysNm220_ren := {
 mixed := by kernel_rfl
 f20 := Tryz.func55.trans (congrArg some (by kernel_rfl))
 t0 := Tryz.underlying0
 a0 := Tryz.isAgg0
 z0 := Tryz.sizeOf0
 v0 := Tryz.zeroValue0
 t3 := Tryz.underlying3
 a3 := Tryz.isAgg3
 z3 := Tryz.sizeOf3
 v3 := Tryz.zeroValue3
 t4 := Tryz.underlying4
 a4 := Tryz.isAgg4
 z4 := Tryz.sizeOf4
 v4 := Tryz.zeroValue4
 t22 := Tryz.underlying26
 a22 := Tryz.isAgg26
 z22 := Tryz.sizeOf26
 v22 := Tryz.zeroValue26
 i3 := by kernel_rfl }
def Tryz.lays171_ren : Go.Shelf.Ren := ⟨fun | 171 => 96 | 243 => 149 | 246 => 187 | 283 => 222 | 284 => 223 | 285 => 224 | 286 => 225 | 129 => 141 | 317 => 241 | 318 => 242 | 319 => 243 | 320 => 244 | 337 => 254 | 338 => 255 | n => n, fun | 3 => 3 | 9 => 9 | 2 => 2 | 4 => 4 | 171 => 308 | 0 => 0 | 53 => 179 | 37 => 310 | 5 => 5 | 173 => 311 | 212 => 322 | 51 => 224 | 20 => 20 | 213 => 323 | 46 => 155 | 232 => 333 | 233 => 334 | n => n, fun | 17 => 2 | 18 => 3 | 19 => 4 | n => n⟩
theorem Tryz.lays171 : Go.Proofs.Lays.n171 Tryz.prog Tryz.lays171_ren := {
 mixed := by kernel_rfl
 f129 := Tryz.func141.trans (congrArg some (by kernel_rfl))
 f171 := Tryz.func96.trans (congrArg some (by kernel_rfl))
 f243 := Tryz.func149.trans (congrArg some (by kernel_rfl))
 f246 := Tryz.func187.trans (congrArg some (by kernel_rfl))
 f283 := Tryz.func222.trans (congrArg some (by kernel_rfl))
 f284 := Tryz.func223.trans (congrArg some (by kernel_rfl))
 f285 := Tryz.func224.trans (congrArg some (by kernel_rfl))
 f286 := Tryz.func225.trans (congrArg some (by kernel_rfl))
 f317 := Tryz.func241.trans (congrArg some (by kernel_rfl))
 f318 := Tryz.func242.trans (congrArg some (by kernel_rfl))
 f319 := Tryz.func243.trans (congrArg some (by kernel_rfl))
 f320 := Tryz.func244.trans (congrArg some (by kernel_rfl))
 f337 := Tryz.func254.trans (congrArg some (by kernel_rfl))
 f338 := Tryz.func255.trans (congrArg some (by kernel_rfl))
 t0 := Tryz.underlying0
 a0 := Tryz.isAgg0
 z0 := Tryz.sizeOf0
 v0 := Tryz.zeroValue0
 t2 := Tryz.underlying2
 a2 := Tryz.isAgg2
 z2 := Tryz.sizeOf2
 v2 := Tryz.zeroValue2
 t3 := Tryz.underlying3
 a3 := Tryz.isAgg3
 z3 := Tryz.sizeOf3
 v3 := Tryz.zeroValue3
 t4 := Tryz.underlying4
 a4 := Tryz.isAgg4
 z4 := Tryz.sizeOf4
 v4 := Tryz.zeroValue4
 t5 := Tryz.underlying5
 a5 := Tryz.isAgg5
 z5 := Tryz.sizeOf5
 v5 := Tryz.zeroValue5
 t9 := Tryz.underlying9
 a9 := Tryz.isAgg9
 z9 := Tryz.sizeOf9
 v9 := Tryz.zeroValue9
 t20 := Tryz.underlying20
 a20 := Tryz.isAgg20
 z20 := Tryz.sizeOf20
 v20 := Tryz.zeroValue20
 t37 := Tryz.underlying310
 a37 := Tryz.isAgg310
 z37 := Tryz.sizeOf310
 v37 := Tryz.zeroValue310
 t46 := Tryz.underlying155
 a46 := Tryz.isAgg155
 z46 := Tryz.sizeOf155
 v46 := Tryz.zeroValue155
 t51 := Tryz.underlying224
 a51 := Tryz.isAgg224
 z51 := Tryz.sizeOf224
 v51 := Tryz.zeroValue224
 t53 := Tryz.underlying179
 a53 := Tryz.isAgg179
 z53 := Tryz.sizeOf179
 v53 := Tryz.zeroValue179
 t171 := Tryz.underlying308
 a171 := Tryz.isAgg308
 z171 := Tryz.sizeOf308
 v171 := Tryz.zeroValue308
 t173 := Tryz.underlying311
 a173 := Tryz.isAgg311
 z173 := Tryz.sizeOf311
 v173 := Tryz.zeroValue311
 t212 := Tryz.underlying322
 a212 := Tryz.isAgg322
 z212 := Tryz.sizeOf322
 v212 := Tryz.zeroValue322
 t213 := Tryz.underlying323
 a213 := Tryz.isAgg323
 z213 := Tryz.sizeOf323
 t232 := Tryz.underlying333
 a232 := Tryz.isAgg333
 z232 := Tryz.sizeOf333
 v232 := Tryz.zeroValue333
 t233 := Tryz.underlying334
 a233 := Tryz.isAgg334
 z233 := Tryz.sizeOf334
 v233 := Tryz.zeroValue334
 g17 := by kernel_rfl
 g18 := by kernel_rfl
 g19 := by kernel_rfl }
open Go.RowKit Go.Sort Go.Lib in
theorem Tryz.strconv_Itoa_small (i : Nat) (hi : i < 100) (w : World) :
  Calls Tryz.prog 96 #[.int .i64 i] w fun e w' => e = .returned (.string ⟨(Lib.decDigits i).toArray⟩) /\ w' = w := Any.strconv_Itoa_small Tryz.lays171 i hi w
end Go.Proofs

namespace Go.Gv
open Go.Sort
section
variable{P:Program}{F:Fid}{α:Type}[Inhabited α]
def jY(encD:α->D)(d:Array α):List (List D):=d.toList.map fun x=>[encD x]
theorem oM{f:FuncId}(enc:α->Value)(encD:α->D)(hflat:∀M x u,ae F M (encD x) u->u=enc x)(hrep:∀M x,ae F M (encD x) (enc x))(d d':Array α)(hsz:d'.size=d.size)(ds:List D)
  (hnone:d.size=0->∀(M:Mem) (w:World) (vs:List Value) (A:Option Addr),(∀p v,M p=some v->w.cell? p=some v)->aA F M ds vs->Calls P f (.slice A 0 0::vs).toArray w fun e w'=>e=.returned (.tuple #[])/\∃n os,w'=grow (Sort.ahead w n) os)
  (hrun:∀(M:Mem) (w:World) (vs:List Value) (blk off cap:Nat),(∀p v,M p=some v->w.cell? p=some v)->(∀p:Addr,p.block=blk->M p=none)->aA F M ds vs->Holds enc w blk off d->blk<w.heap.size ->
   Calls P f (.slice (some ⟨blk,off,none⟩) d.size cap::vs).toArray w fun e w'=>e=.returned (.tuple #[])/\∃n os,w'=grow (putRow enc (Sort.ahead w n) blk off d') os):wJ P F f 1 (jY encD d) ds (jY encD d'):=by
 intro M w vs hh r
 have hl:(jY encD d).length=d.size:=by simp[jY]
 refine⟨fun e A=>?_,fun b o T us cap hM hb hcell hcap hle hu hc=>?_⟩
 ·have h0:d.size=0:=by rw[<- hl,e];rfl
  refine(hnone h0 M w vs A hh r).mono ?_
  rintro e0 w' ⟨rfl,n,os,rfl⟩
  exact⟨rfl,rfl,rfl,rfl,by simp[grow,Sort.ahead],fun k hk=>by simp only[grow,Sort.ahead];rw[Array.getElem?_append_left hk],Nat.le_add_right _ _⟩
 ·rw[hl]at hcap ⊢
  have hH:Holds enc w b o d:=fun j hj=>by
   obtain⟨u,k1,k2⟩:=hc j [encD d[j]] 0 (encD d[j]) (by simp[jY,hj]) rfl
   have:=hflat _ _ _ k2
   subst this
   have e1:d[j]! = d[j]:=x0K d j hj
   rw[e1]
   have k3:us[o+j]? = some (enc d[j]):=by simpa using k1
   constructor
   ·simp[World.cell?,hcell,k3]
   ·simp[World.frozen?,hcell]
  refine(hrun M w vs b o cap hh hM r hH hb).mono ?_
  rintro e0 w' ⟨rfl,n,os,rfl⟩
  have hput:(grow (putRow enc (Sort.ahead w n) b o d') os).heap[b]? = some (.cells (putCells enc o d' us.toArray) T (0,0)):=by
   simp only[grow,putRow,mapBlock,Sort.ahead]
   rw[Array.getElem?_append_left (by simpa using hb),x1H,if_pos rfl,hcell]
   rfl
  refine⟨rfl,(putCells enc o d' us.toArray).toList,by rw[x1r];exact hput,by simp[putCells],fun i r off x hi hr=>?_,⟨rfl,rfl,rfl,by simp[grow,putRow,mapBlock,Sort.ahead],fun k hk hne=>?_,Nat.le_add_right _ _⟩⟩
  ·simp only[jY,x0y,x0i]at hi
   obtain⟨y,h1,rfl⟩:=hi
   have ho:off=0:=by
    have:=(x0c.1 hr).1
    simpa using this
   subst ho
   simp only[x1i,x0h]at hr
   subst hr
   have hi2:i<d'.size:=by have:=(x0c.1 h1).1;simpa using this
   have hy:d'[i]! = y:=by
    rw[x0K d' i hi2]
    have:=(x0c.1 h1).2
    simpa using this
   refine⟨enc y,?_,hrep _ _⟩
   have hlt:o+i<us.length:=by
    have:o+cap*1<=us.length:=hle
    omega
   rw[Nat.mul_one,x0L,Array.getElem?_toList]
   simp only[putCells,Array.getElem?_mapIdx,x1A]
   rw[x0e hlt]
   simp only[x1j]
   rw[if_pos ⟨by omega,by omega⟩,show o+i-o=i by omega,hy]
  ·simp only[grow,putRow,mapBlock,Sort.ahead]
   rw[Array.getElem?_append_left (by simpa using hk),x1H,if_neg (Ne.symm hne)]
end
end Go.Gv

namespace Go.Gv
open Go.Sort Go.Proofs Go.Shelf
section
variable{P:Program}{F:Fid}{ρ:Ren}
def AM(zs:List Int):List (List D):=zs.map fun n=>[.int .i64 n]
theorem xY{zs:List Int}{i:Nat}{r:List D}{off:Nat}{d:D}(h1:(AM zs)[i]? = some r)(h2:r[off]? = some d):∃x,zs[i]? = some x/\off=0/\d=.int .i64 x:=by
 simp only[AM,x0y,x0i]at h1
 obtain⟨x,h1,rfl⟩:=h1
 have ho:off=0:=by have:=(x0c.1 h2).1;simpa using this
 subst ho
 simp only[x1i,x0h]at h2
 exact⟨x,h1,rfl,h2.symm⟩
theorem tz{M:Mem}{zs:List Int}{us:List Value}{o:Nat}(hc:∀i r off d,(AM zs)[i]? = some r->r[off]? = some d->∃u,us[o+i*1+off]? = some u/\ae F M d u):∀j x,zs[j]? = some x->us[o+j]? = some (.int .i64 x):=by
 intro j x hj
 obtain⟨u,k1,k2⟩:=hc j [.int .i64 x] 0 (.int .i64 x) (by simp[AM,hj]) rfl
 simp only[ae]at k2
 subst k2
 simpa using k1
theorem oe(Ly:Lays.n189 P ρ){g:Nat}(hg:∀f,F g=some f->f=ρ.f 189)(zs:List Int)(hz:zs.length<2^40) :
  ee P F g [.own 1 (zs.map fun n=>[.int .i64 n])] .any [.own 1 ((zs.mergeSort fun x y=>decide (x<=y)).map fun n=>[.int .i64 n]),.nilp]:=by
 refine⟨trivial,fun f hf=>⟨rfl,?_⟩⟩
 obtain rfl:=hg f hf
 have k:=oM (P:=P) (F:=F) (f:=ρ.f 189) (Value.int .i64) (D.int .i64) (fun M x u h=>by simpa only[ae]using h) (fun M x=>by simp only[ae]) zs.toArray (zs.mergeSort fun x y=>decide (x<=y)).toArray (by simp[List.length_mergeSort]) []
  (fun h M w vs A hh r=>by
   simp only[aA]at r
   subst r
   refine(Any.slices_Sort_int_none Ly A 0 w).mono ?_
   rintro e w' ⟨rfl,rfl⟩
   exact⟨rfl,0,#[],by simp[grow,Sort.ahead]⟩)
  (fun M w vs blk off cap hh hM r hH hb=>by
   simp only[aA]at r
   subst r
   have:=Any.slices_Sort_int Ly blk off cap zs w hH hb (by omega)
   simpa using this)
 simpa[jY]using k
theorem oL(L:Lays2.n20 P ρ){g:Nat}(hg:∀f,F g=some f->f=ρ.f 20)(zs:List Int)(hz:zs.length<2^40) :
  ee P F g [.own 1 (zs.map fun n=>[.int .i64 n])] .any [.own 1 ((Lib.compact zs).map fun n=>[.int .i64 n]),.nils,.nils]:=by
 refine⟨trivial,fun f hf=>⟨rfl,?_⟩⟩
 obtain rfl:=hg f hf
 refine sO.to ?_
 intro M w vs hh
 have nil:∀{b:Option Nat},oO F M w b [] vs->vs=[]:=fun h=>x0x h.1.symm
 refine⟨fun e A r=>?_,fun b o T us cap r hM hb hcell hcap hmc hle hu hc=>?_⟩
 ·rw[nil r]
  have h0:zs=[]:=by simpa using e
  subst h0
  refine(Any.slices_Compact_int_empty L A 0 w).mono ?_
  rintro e w' ⟨rfl,rfl⟩
  exact⟨_,rfl,Bel.refl _,.inl ⟨rfl,A,rfl⟩⟩
 ·rw[nil r]
  have hget:=tz hc
  have hl:(zs.map fun n=>[D.int .i64 n]).length=zs.length:=by simp
  rw[hl]at hcap ⊢
  have hH:Holds (Value.int .i64) w b o zs.toArray:=fun j hj=>by
   have hj2:j<zs.length:=by simpa using hj
   have e1:zs.toArray[j]! = zs[j]:=by rw[x0K zs.toArray j hj];simp
   have k3:=hget j zs[j] (x0e hj2)
   rw[e1]
   exact⟨by simp[World.cell?,hcell,k3],by simp[World.frozen?,hcell]⟩
  obtain⟨d',hd'⟩:∃d',d'=(Lib.compact zs++List.replicate (zs.length-(Lib.compact zs).length) 0).toArray:=⟨_,rfl⟩
  have hcl:(Lib.compact zs).length<=zs.length:=by
   unfold Lib.compact Lib.compactUpTo
   rw[x1c]
   have:=List.length_filter_le (Lib.keeps zs.toArray) (List.range zs.length)
   simpa using this
  have hsz:d'.size=zs.length:=by rw[hd'];simp;omega
  refine(Any.slices_Compact_int L b o cap zs w hH (by omega) hcap).mono ?_
  rintro e w' ⟨rfl,q,rfl⟩
  rw[<- hd']
  have hput:(putRow (Value.int .i64) (Sort.ahead w q) b o d').heap[b]? = some (.cells (putCells (Value.int .i64) o d' us.toArray) T (0,0)):=by
   simp only[putRow,mapBlock,Sort.ahead]
   rw[x1H,if_pos rfl,hcell]
   rfl
  refine⟨_,rfl,(putCells (Value.int .i64) o d' us.toArray).toList,by rw[x1r];exact hput,by simp[putCells],⟨rfl,rfl,rfl,by simp[putRow,mapBlock,Sort.ahead],fun k hk hne=>?_,Nat.le_add_right _ _⟩,.inl ⟨by simp,by simp;omega,fun i r off d h1 h2=>?_⟩⟩
  ·simp only[putRow,mapBlock,Sort.ahead]
   rw[x1H,if_neg (Ne.symm hne)]
  ·obtain⟨x,h3,rfl,rfl⟩:=xY h1 h2
   have hi:i<(Lib.compact zs).length:=(x0c.1 h3).1
   refine⟨.int .i64 x,?_,by simp only[ae]⟩
   have hlt:o+i<us.length:=by omega
   have hy:d'[i]! = x:=by
    rw[x0K d' i (by omega)]
    have:d'[i]? = some x:=by rw[hd'];simp[x0v hi,h3]
    exact(Array.getElem?_eq_some_iff.1 this).2
   rw[Nat.mul_one,x0L,Array.getElem?_toList]
   simp only[putCells,Array.getElem?_mapIdx,x1A]
   rw[x0e hlt]
   simp only[x1j]
   rw[if_pos ⟨by omega,by omega⟩,show o+i-o=i by omega,hy]
end
end Go.Gv

namespace Go.Gv
structure Tag {α:Type _} (x:α):Type where
@[simp] theorem Kt{k n}:isV (.int k n)=true:=zR
@[simp] theorem Id{b}:isV (.bool b)=true:=zR
@[simp] theorem Ky{s}:isV (.str s)=true:=zR
@[simp] theorem Ie:isV (.nils)=true:=zR
@[simp] theorem Kp{ds}:isV (.agg ds)=true:=zR
@[simp] theorem Kz{ds}:isV (.tup ds)=true:=zR
@[simp] theorem Ms{es}:isV (.sl es)=true:=zR
@[simp] theorem Kv{ds}:isV (.ptr ds)=true:=zR
@[simp] theorem Mr{g ds}:isV (.fn g ds)=true:=zR
@[simp] theorem Ku{sz es}:isV (.own sz es)=false:=zR
@[simp] theorem Kw{p k n}:isV (.ref p k n)=false:=zR
@[simp] theorem Ko{p i off}:isV (.adr p i off)=false:=zR
@[simp] theorem Kq{ds}:isV (.agx ds)=false:=zR
@[simp] theorem Kr{g ds}:isV (.fnx g ds)=false:=zR
@[simp] theorem Ks{T n}:isV (.ifi T n)=true:=zR
@[simp] theorem Mm{es}:isP (.sl es)=true:=zR
@[simp] theorem J8{ds}:isP (.ptr ds)=true:=zR
@[simp] theorem J9{p k n}:isP (.ref p k n)=true:=zR
@[simp] theorem J7{p i off}:isP (.adr p i off)=true:=zR
@[simp] theorem Kd:isS (.any)=true:=zR
@[simp] theorem Mn:isS (.bb)=true:=zR
@[simp] theorem Gd:bP (.bb)=[]:=zR
@[simp] theorem Kg{k n}:isS (.int k n)=true:=zR
@[simp] theorem Ia{b}:isS (.bool b)=true:=zR
@[simp] theorem Km{s}:isS (.str s)=true:=zR
@[simp] theorem Ib:isS (.nilp)=true:=zR
@[simp] theorem Ic:isS (.nils)=true:=zR
@[simp] theorem Kc{ds}:isS (.agg ds)=true:=zR
@[simp] theorem Kn{ds}:isS (.tup ds)=true:=zR
@[simp] theorem Mq{es}:isS (.sl es)=true:=zR
@[simp] theorem Ki{ds}:isS (.ptr ds)=true:=zR
@[simp] theorem Mo{g ds}:isS (.fn g ds)=true:=zR
@[simp] theorem Kh{b}:isS (.mrf b)=true:=zR
@[simp] theorem Kk{p k n}:isS (.ref p k n)=true:=zR
@[simp] theorem Kb{p i off}:isS (.adr p i off)=true:=zR
@[simp] theorem Kj{ds}:isS (.ptx ds)=ds.all isP:=zR
@[simp] theorem Ke{T p i off}:isS (.ifa T p i off)=true:=zR
@[simp] theorem Kf{T n}:isS (.ifi T n)=true:=zR
@[simp] theorem HU{k n}:aH (.int k n)=true:=zR
@[simp] theorem FK{b}:aH (.bool b)=true:=zR
@[simp] theorem HX{s}:aH (.str s)=true:=zR
@[simp] theorem FL:aH (.nils)=true:=zR
@[simp] theorem HY{ds}:aH (.tup ds)=false:=zR
@[simp] theorem J5{es}:aH (.sl es)=true:=zR
@[simp] theorem HV{sz es}:aH (.own sz es)=false:=zR
@[simp] theorem J6{sz es}:isO (.own sz es)=true:=zR
@[simp] theorem H0{k n}:bq (.int k n)=true:=zR
@[simp] theorem HZ{T n}:bq (.ifi T n)=true:=zR
@[simp] theorem J4{sz es}:isB (.blk sz es)=true:=zR
@[simp] theorem FD{k n}:fy (.int k n)=false:=zR
@[simp] theorem DE{b}:fy (.bool b)=false:=zR
@[simp] theorem DF:fy (.nils)=false:=zR
@[simp] theorem FA{ds}:fy (.agg ds)=false:=zR
@[simp] theorem FJ{ds}:fy (.tup ds)=false:=zR
@[simp] theorem HT{es}:fy (.sl es)=false:=zR
@[simp] theorem FE{ds}:fy (.ptr ds)=false:=zR
@[simp] theorem FG{p k n}:fy (.ref p k n)=false:=zR
@[simp] theorem Fz{p i off}:fy (.adr p i off)=false:=zR
@[simp] theorem FB{ds}:fy (.agx ds)=false:=zR
@[simp] theorem FF{ds}:fy (.ptx ds)=false:=zR
@[simp] theorem FC{T n}:fy (.ifi T n)=false:=zR
@[simp] theorem FH{k es}:fy (.slv k es)=false:=zR
@[simp] theorem B8{k n}:cellsOf (.int k n)=[.int k n]:=zR
@[simp] theorem Ah{b}:cellsOf (.bool b)=[.bool b]:=zR
@[simp] theorem Cb{s}:cellsOf (.str s)=[.str s]:=zR
@[simp] theorem B7{ds}:cellsOf (.agg ds)=ds:=zR
@[simp] theorem Cc{ds}:cellsOf (.tup ds)=[.tup ds]:=zR
@[simp] theorem Db{es}:cellsOf (.sl es)=[.sl es]:=zR
@[simp] theorem B9{p k n}:cellsOf (.ref p k n)=[.ref p k n]:=zR
@[simp] theorem E6{k n}:dY (.int k n)=.int k n:=zR
@[simp] theorem C7{b}:dY (.bool b)=.bool b:=zR
@[simp] theorem E9{s}:dY (.str s)=.str s:=zR
@[simp] theorem E5{ds}:dY (.agg ds)=.agg ds:=zR
@[simp] theorem Fa{ds}:dY (.tup ds)=.tup ds:=zR
@[simp] theorem GN{es}:dY (.sl es)=.sl es:=zR
@[simp] theorem E7{p k n}:dY (.ref p k n)=.ref p k n:=zR
@[simp] theorem Fg:bW (.any)=.any:=zR
@[simp] theorem Fh{k n}:bW (.int k n)=.int k n:=zR
@[simp] theorem C9{b}:bW (.bool b)=.bool b:=zR
@[simp] theorem Fj{s}:bW (.str s)=.str s:=zR
@[simp] theorem Da:bW (.nils)=.nils:=zR
@[simp] theorem Fk{ds}:bW (.tup ds)=.tup ds:=zR
@[simp] theorem G6{es}:bW (.sl es)=.sl es:=zR
@[simp] theorem Fi{sz es}:bW (.own sz es)=.sl es:=zR
@[simp] theorem Cs{k n}:bA (.int k n)=[]:=zR
@[simp] theorem Cx{s}:bA (.str s)=[]:=zR
@[simp] theorem Cy{ds}:bA (.tup ds)=[]:=zR
@[simp] theorem DW{es}:bA (.sl es)=[]:=zR
@[simp] theorem Ct{ds}:bA (.ptr ds)=[]:=zR
@[simp] theorem Cv{p k n}:bA (.ref p k n)=[p.root]:=zR
@[simp] theorem Cr{p i off}:bA (.adr p i off)=[p.root]:=zR
@[simp] theorem Cu{ds}:bA (.ptx ds)=[]:=zR
@[simp] theorem D0:bP (.any)=[]:=zR
@[simp] theorem D4{k n}:bP (.int k n)=[]:=zR
@[simp] theorem Cz{b}:bP (.bool b)=[]:=zR
@[simp] theorem Eb{s}:bP (.str s)=[]:=zR
@[simp] theorem CA:bP (.nilp)=[]:=zR
@[simp] theorem CB:bP (.nils)=[]:=zR
@[simp] theorem DY{ds}:bP (.agg ds)=[]:=zR
@[simp] theorem Ec{ds}:bP (.tup ds)=[]:=zR
@[simp] theorem Gf{es}:bP (.sl es)=[]:=zR
@[simp] theorem D6{ds}:bP (.ptr ds)=[]:=zR
@[simp] theorem Ge{g ds}:bP (.fn g ds)=[]:=zR
@[simp] theorem D1{sz es}:bP (.blk sz es)=[]:=zR
@[simp] theorem D5{b}:bP (.mrf b)=[b]:=zR
@[simp] theorem D8{p k n}:bP (.ref p k n)=[p.root]:=zR
@[simp] theorem DX{p i off}:bP (.adr p i off)=[p.root]:=zR
@[simp] theorem DZ{ds}:bP (.agx ds)=ds.flatMap bA:=zR
@[simp] theorem D7{ds}:bP (.ptx ds)=ds.flatMap bA:=zR
@[simp] theorem D2{T p i off}:bP (.ifa T p i off)=[p.root]:=zR
@[simp] theorem D3{T n}:bP (.ifi T n)=[]:=zR
@[simp] theorem D9{k es}:bP (.slv k es)=[]:=zR
@[simp] theorem JN{f:Nat->D}{k n}:dp1 f (.int k n)=(.int k n):=zR
@[simp] theorem JR{f:Nat->D}{s}:dp1 f (.str s)=(.str s):=zR
@[simp] theorem LR{f:Nat->D}{es}:dp1 f (.sl es)=(.sl es):=zR
@[simp] theorem JO{f:Nat->D}{ds}:dp1 f (.ptr ds)=(.ptr ds):=zR
@[simp] theorem JP{f:Nat->D}{p k n}:dp1 f (.ref p k n)=(match aQ f p with|some (_,es)=>.sl (((es.drop k).take n).map fun e=>e.map bW)|none=>.any):=zR
@[simp] theorem JM{f:Nat->D}{p i off}:dp1 f (.adr p i off)=(match aQ f p with|some (_,es)=>.ptr (((es[i]?.getD []).drop off).map bW)|none=>.any):=zR
@[simp] theorem LX{f:Nat->D}{k n}:dp f (.int k n)=(.int k n):=zR
@[simp] theorem JU{f:Nat->D}{b}:dp f (.bool b)=(.bool b):=zR
@[simp] theorem L8{f:Nat->D}{s}:dp f (.str s)=(.str s):=zR
@[simp] theorem JV{f:Nat->D}:dp f (.nilp)=(.nilp):=zR
@[simp] theorem JW{f:Nat->D}:dp f (.nils)=(.nils):=zR
@[simp] theorem LT{f:Nat->D}{ds}:dp f (.agg ds)=(.agg ds):=zR
@[simp] theorem L9{f:Nat->D}{ds}:dp f (.tup ds)=(.tup ds):=zR
@[simp] theorem MQ{f:Nat->D}{es}:dp f (.sl es)=(.sl es):=zR
@[simp] theorem LY{f:Nat->D}{ds}:dp f (.ptr ds)=(.ptr ds):=zR
@[simp] theorem MP{f:Nat->D}{g ds}:dp f (.fn g ds)=(.fn g ds):=zR
@[simp] theorem L0{f:Nat->D}{p k n}:dp f (.ref p k n)=(match aQ f p with|some (_,es)=>.sl (((es.drop k).take n).map fun e=>e.map bW)|none=>.any):=zR
@[simp] theorem LS{f:Nat->D}{p i off}:dp f (.adr p i off)=(match aQ f p with|some (_,es)=>.ptr (((es[i]?.getD []).drop off).map bW)|none=>.any):=zR
@[simp] theorem LU{f:Nat->D}{ds}:dp f (.agx ds)=(.agg (ds.map (dp1 f))):=zR
@[simp] theorem LZ{f:Nat->D}{ds}:dp f (.ptx ds)=(.ptr (ds.map (dp1 f))):=zR
@[simp] theorem LV{f:Nat->D}{g ds}:dp f (.fnx g ds)=(.fn g (ds.map (dp1 f))):=zR
@[simp] theorem LW{f:Nat->D}{T n}:dp f (.ifi T n)=(.ifi T n):=zR
@[simp] theorem Fn{f:Nat->D}{k n}:bu f (.int k n)=(True):=zR
@[simp] theorem Hk{f:Nat->D}{es}:bu f (.sl es)=(True):=zR
@[simp] theorem Fp{f:Nat->D}{ds}:bu f (.ptr ds)=(True):=zR
@[simp] theorem Fq{f:Nat->D}{p k n}:bu f (.ref p k n)=(match aQ f p with|some (_,es)=>k+n<=es.length|none=>False):=zR
@[simp] theorem Fm{f:Nat->D}{p i off}:bu f (.adr p i off)=(match aQ f p with|some _=>True|none=>False):=zR
@[simp] theorem Hq{f:Nat->D}{k n}:bS f (.int k n)=(True):=zR
@[simp] theorem Fs{f:Nat->D}{b}:bS f (.bool b)=(True):=zR
@[simp] theorem Hv{f:Nat->D}{s}:bS f (.str s)=(True):=zR
@[simp] theorem Ft{f:Nat->D}:bS f (.nilp)=(True):=zR
@[simp] theorem Fu{f:Nat->D}:bS f (.nils)=(True):=zR
@[simp] theorem Hm{f:Nat->D}{ds}:bS f (.agg ds)=(True):=zR
@[simp] theorem Hw{f:Nat->D}{ds}:bS f (.tup ds)=(True):=zR
@[simp] theorem JT{f:Nat->D}{es}:bS f (.sl es)=(True):=zR
@[simp] theorem Hr{f:Nat->D}{ds}:bS f (.ptr ds)=(True):=zR
@[simp] theorem JS{f:Nat->D}{g ds}:bS f (.fn g ds)=(True):=zR
@[simp] theorem Ht{f:Nat->D}{p k n}:bS f (.ref p k n)=(match aQ f p with|some (_,es)=>k+n<=es.length|none=>False):=zR
@[simp] theorem Hl{f:Nat->D}{p i off}:bS f (.adr p i off)=(match aQ f p with|some _=>True|none=>False):=zR
@[simp] theorem Hn{f:Nat->D}{ds}:bS f (.agx ds)=(∀d∈ds,bu f d):=zR
@[simp] theorem Hs{f:Nat->D}{ds}:bS f (.ptx ds)=(∀d∈ds,bu f d):=zR
@[simp] theorem Ho{f:Nat->D}{g ds}:bS f (.fnx g ds)=(∀d∈ds,bu f d):=zR
@[simp] theorem Hp{f:Nat->D}{T n}:bS f (.ifi T n)=True:=zR
@[simp] theorem KB{p i0 o k n}:ldc p i0 o (.int k n)=.int k n:=zR
@[simp] theorem Io{p i0 o b}:ldc p i0 o (.bool b)=.bool b:=zR
@[simp] theorem KG{p i0 o s}:ldc p i0 o (.str s)=.str s:=zR
@[simp] theorem Ip{p i0 o}:ldc p i0 o (.nils)=.nils:=zR
@[simp] theorem My{p i0 o es}:ldc p i0 o (.sl es)=.sl es:=zR
@[simp] theorem KC{c i o sz es}:ldc (.r c) i o (.own sz es)=.ref (.n c i o) 0 es.length:=zR
@[simp] theorem KD{p0 i0 o k es}:ldc p0 i0 o (.slv k es)=.slv k es:=zR
def slx(b:Bool)(es:List (List D)):D:=match b,es with
 | true,[]=>.nils
 | _,es=>.sl es
@[simp] theorem bx{es}:slx false es=.sl es:=by cases es<;>rfl
@[simp] theorem oj{b x es}:slx b (x::es)=.sl (x::es):=by cases b<;>rfl
theorem jA(b:Bool)(es:List (List D)):slx b es=.sl es\/(slx b es=.nils/\es=[]):=by cases b<;>cases es<;>simp[slx]
@[simp] theorem Kx{b es}:isV (slx b es)=true:=by cases b<;>cases es<;>rfl
@[simp] theorem Ka{b es}:isP (slx b es)=true:=by cases b<;>cases es<;>rfl
@[simp] theorem Kl{b es}:isS (slx b es)=true:=by cases b<;>cases es<;>rfl
@[simp] theorem HW{b es}:aH (slx b es)=true:=by cases b<;>cases es<;>rfl
@[simp] theorem FI{b es}:fy (slx b es)=false:=by cases b<;>cases es<;>rfl
@[simp] theorem Ca{b es}:cellsOf (slx b es)=[slx b es]:=by cases b<;>cases es<;>rfl
@[simp] theorem E8{b es}:dY (slx b es)=slx b es:=by cases b<;>cases es<;>rfl
@[simp] theorem Cw{b es}:bA (slx b es)=[]:=by cases b<;>cases es<;>rfl
@[simp] theorem Ea{b es}:bP (slx b es)=[]:=by cases b<;>cases es<;>rfl
@[simp] theorem JQ{f:Nat->D}{b es}:dp1 f (slx b es)=slx b es:=by cases b<;>cases es<;>rfl
@[simp] theorem L7{f:Nat->D}{b es}:dp f (slx b es)=slx b es:=by cases b<;>cases es<;>rfl
@[simp] theorem Fr{f:Nat->D}{b es}:bu f (slx b es)=True:=by cases b<;>cases es<;>rfl
@[simp] theorem Hu{f:Nat->D}{b es}:bS f (slx b es)=True:=by cases b<;>cases es<;>rfl
@[simp] theorem KF{p i o b es}:ldc p i o (slx b es)=slx b es:=by cases b<;>cases es<;>rfl
def vR(d:D)(K:Nat->Prop)(_:Tag K):Prop:=match d with
 | .sl es=>K es.length
 | .nils=>K 0
 | .ref _ _ n=>K n
 | .rfx n _ _=>K n
 | _=>False
@[simp] theorem KH{es K u}:vR (.sl es) K u=K es.length:=zR
@[simp] theorem F7{K u}:vR .nils K u=K 0:=zR
@[simp] theorem It{p k n K u}:vR (.ref p k n) K u=K n:=zR
@[simp] theorem Iu{b es K u}:vR (slx b es) K u=K es.length:=by cases b<;>cases es<;>rfl
@[simp] theorem Gw{n ds}:pack true n ds=.agg (ds.take n):=zR
@[simp] theorem El{n ds}:pack false n ds=ds.headD .any:=zR
@[simp] theorem Iw{t}:ab [] t=.any:=rfl
def lk(b:Bool)(d:D)(r:Env)(t:Nat):D:=match b with
 | true=>d
 | false=>ab r t
@[simp] theorem KI{d r t}:lk true d r t=d:=rfl
@[simp] theorem Iv{d r t}:lk false d r t=ab r t:=rfl
@[simp] theorem F8{s d r t}:ab ((s,d)::r) t=lk (s==t) d r t:=by
 by_cases h:s=t
 ·subst h;simp[ab]
 ·rw[show(s==t)=false by simp[h]];simp[ab,h]
@[simp] theorem FN{e}:rN [] e=[]:=zR
@[simp] theorem DJ{t ts e}:rN (t::ts) e=(t,ab e t)::rN ts e:=zR
@[simp] theorem CJ:mO []=[]:=zR
@[simp] theorem Bg{t d r}:mO ((t,d)::r)=bP d++mO r:=zR
@[simp] theorem GL{e ks}:vp e [] ks=ks:=zR
@[simp] theorem E4{e r rs ks}:vp e (r::rs) ks=vp e rs (if (ks.map (·.1)).contains r then ks else ks++[(r,ab e r)]):=zR
def j7(f:Nat->D)(d:D)(ns:List Nat)(K:List D->List Nat->Prop)(_:Tag K):Prop:=fB f d ns K
def mb(f:Nat->D)(d:D)(K:D->List Nat->Prop)(_:Tag K):Prop:=dO f d K
def ra(f:Nat->D)(ds:List D)(K:List D->List Nat->Prop)(_:Tag K):Prop:=j6 f ds K
def C3(b n:Nat)(x:D)(K:D->List Nat->Prop)(_:Tag K):Prop:=match x with
 | .blk sz es=>es.length=n/\(∀e∈es,∀c∈e,aH c=true)/\K (.own sz es) [b]
 | _=>False
@[simp] theorem GE{b n sz es K u}:C3 b n (.blk sz es) K u=(es.length=n/\(∀e∈es,∀c∈e,aH c=true)/\K (.own sz es) [b]):=zR
theorem iQ{f:Nat->D}{d:D}{K:D->List Nat->Prop}{u}(h:aH d=true):mb f d K u=K d []:=by
 cases d<;>simp[aH]at h<;>simp[mb,dO,aH]
theorem pL{f:Nat->D}{d:D}{K:List D->List Nat->Prop}{u}(h:aH d=true):j7 f d [] K u=K [d] []:=by
 cases d<;>simp[aH]at h<;>simp[j7,fB,dO,aH,eI]
@[simp] theorem GG{f ds K u}:j7 f (.agg ds) [] K u=((∀c∈ds,aH c=true)/\K ds []):=by simp[j7,fB,eI]
@[simp] theorem GH{f ds K u}:j7 f (.agx ds) [] K u=ra f ds (fun cs bs=>bD bs=true/\K cs bs) ⟨⟩:=by simp[j7,ra,fB,eI]
@[simp] theorem GJ{f b k n K u}:j7 f (.ref (.r b) k n) [] K u=(k=0/\C3 b n (f b) (fun c bs=>K [c] bs) ⟨⟩):=by
 simp only[j7,fB,dO,C3,eI,if_true,true_or,true_and]
 cases f b<;>rfl
@[simp] theorem E0{f K u}:ra f [] K u=K [] []:=zR
@[simp] theorem C6{f d ds K u}:ra f (d::ds) K u=mb f d (fun c bs=>ra f ds (fun cs bs'=>K (c::cs) (bs++bs')) ⟨⟩) ⟨⟩:=zR
@[simp] theorem EY{f k n K u}:mb f (.int k n) K u=K (.int k n) []:=iQ rfl
@[simp] theorem GI{f k n K u}:j7 f (.int k n) [] K u=K [.int k n] []:=pL rfl
@[simp] theorem C4{f n K u}:mb f (.bool n) K u=K (.bool n) []:=iQ rfl
@[simp] theorem E1{f n K u}:j7 f (.bool n) [] K u=K [.bool n] []:=pL rfl
@[simp] theorem EZ{f n K u}:mb f (.str n) K u=K (.str n) []:=iQ rfl
@[simp] theorem C5{f  K u}:mb f .nils K u=K .nils []:=iQ rfl
@[simp] theorem GF{f n K u}:mb f (.sl n) K u=K (.sl n) []:=iQ rfl
@[simp] theorem JB{f n K u}:j7 f (.sl n) [] K u=K [.sl n] []:=pL rfl
def qA(f:Nat->D)(sz:Nat)(ps:List (Nat×Opd))(es:List (List D))(bs:List Nat)(K:List (List D)->List Nat->Prop)(_:Tag K):Prop:=eK f sz [] ps es bs K
@[simp] theorem Em{f sz es bs K u}:qA f sz [] es bs K u=K es bs:=zR
@[simp] theorem CH{f sz i x ps es bs K u}:qA f sz ((i,x)::ps) es bs K u=(i<es.length/\j7 f (vd f x) [] (fun cs bs'=>cs.length=sz/\qA f sz ps (es.set i cs) (bs++bs') K ⟨⟩) ⟨⟩):=zR
def mB(f:Nat->D)(mv:Bool)(d:D)(sz:Nat)(K:List (List D)->List Nat->Prop)(_:Tag K):Prop:=eT f mv d sz K
def Et(b n sz:Nat)(x:D)(K:List (List D)->List Nat->Prop)(_:Tag K):Prop:=match x with
 | .blk sz' es=>sz'=sz/\es.length=n/\(∀e∈es,∀c∈e,isC c=true)/\K es [b]
 | _=>False
@[simp] theorem I9{b n sz sz' es K u}:Et b n sz (.blk sz' es) K u=(sz'=sz/\es.length=n/\(∀e∈es,∀c∈e,isC c=true)/\K es [b]):=zR
def Eu(k n sz:Nat)(x:Option (Nat×List (List D)))(K:List (List D)->List Nat->Prop)(_:Tag K):Prop:=match x with
 | some (sz',es)=>sz'=sz/\k+n<=es.length/\(∀e∈(es.drop k).take n,∀c∈e,aH c=true)/\K ((es.drop k).take n) []
 | none=>False
@[simp] theorem Gx{k n sz sz' es K u}:Eu k n sz (some (sz',es)) K u=(sz'=sz/\k+n<=es.length/\(∀e∈(es.drop k).take n,∀c∈e,aH c=true)/\K ((es.drop k).take n) []):=zR
@[simp] theorem Jc{f mv es sz K u}:mB f mv (.sl es) sz K u=((∀e∈es,e.length=sz/\∀c∈e,aH c=true)/\K es []):=zR
@[simp] theorem Jb{f b k n sz K u}:mB f true (.ref (.r b) k n) sz K u=(k=0/\Et b n sz (f b) K ⟨⟩):=by
 simp only[mB,eT,Et]
 cases f b<;>rfl
@[simp] theorem Gz{f p k n sz K u}:mB f false (.ref p k n) sz K u=Eu k n sz (aQ f p) K ⟨⟩:=by
 simp only[mB,eT,Eu]
 cases aQ f p<;>rfl
def fd(f:Nat->D)(o:Option Opd)(dflt:Nat)(K:Nat->Prop)(_:Tag K):Prop:=dP f o dflt K
def GX(d:D)(K:Nat->Prop)(_:Tag K):Prop:=match d with
 | .int _ n=>0<=n/\K n.toNat
 | _=>False
@[simp] theorem GY{k n K u}:GX (.int k n) K u=(0<=n/\K n.toNat):=zR
@[simp] theorem B1{f n K u}:fd f none n K u=K n:=zR
@[simp] theorem B4{f x n K u}:fd f (some x) n K u=GX (vd f x) K ⟨⟩:=zR
def lX(x:Option (List D))(K:List D->Prop)(_:Tag K):Prop:=match x with
 | some r=>K r
 | none=>False
@[simp] theorem Gy{r K u}:lX (some r) K u=K r:=zR
theorem kV{x:Option (List D)}{K:List D->Prop}{u}:lX x K u=∃r,x=some r/\K r:=by
 cases x<;>simp[lX]
def qy(x:Option D)(K:Nat->List (List D)->Prop)(_:Tag K):Prop:=match x with
 | some (.own sz es)=>K sz es
 | _=>False
@[simp] theorem IZ{sz es K u}:qy (some (.own sz es)) K u=K sz es:=zR
theorem qz{x:Option D}{K:Nat->List (List D)->Prop}{u}:qy x K u=∃sz es,x=some (.own sz es)/\K sz es:=by
 cases x with
 | none=>simp[qy]
 | some d =>
  cases d<;>simp[qy]
  exact⟨fun h=>⟨_,_,⟨rfl,rfl⟩,h⟩,by rintro⟨_,_,⟨rfl,rfl⟩,h⟩;exact h⟩
def fZ(x:D)(K:Nat->List (List D)->Prop)(_:Tag K):Prop:=match x with
 | .blk sz es=>K sz es
 | _=>False
@[simp] theorem GW{sz es K u}:fZ (.blk sz es) K u=K sz es:=zR
abbrev CC:=Nat->List D->D->List D->Prop
abbrev KT:=List (Nat×D)->List (Nat×Bool)->Prop
section
variable{C:CC}{Q:cd->Env->Prop}{e e':Env}{d:D}
def wN(C:CC)(c:cv)(Q:cd->Env->Prop)(_:Tag (c,Q))(e:Env):Prop:=wpN C c Q e
def uP(C:CC)(c:cv)(Q:cd->Env->Prop)(_:Tag (c,Q))(e:Env):Prop:=wpN C (.loop c) Q e
def v6(C:CC)(K:Env->Prop)(ns:List ay)(_:Tag (K,ns))(e:Env):Prop:=ik C K ns e
def vZ(C:CC)(hs:List Nat)(K:Env->Prop)(ns:List ay)(_:Tag (K,ns))(e:Env)(acc:List (List Nat×List Nat)):Prop:=iN C hs K ns e acc
def HR(hs:List Nat)(acc:List (List Nat×List Nat)):Prop:=jM hs acc.reverse=true
theorem aF{hs:List Nat}{acc:List (List Nat×List Nat)}(h:jM hs acc.reverse=true):HR hs acc:=h
def Cf(C:CC)(K:Env->Prop)(ns:List ay)(e:Env):KT:=fun ws ks=>ik C K ns (ws++cC ks e)
def G9(C:CC)(hs:List Nat)(K:Env->Prop)(ns:List ay)(e:Env)(R:List Nat)(acc:List (List Nat×List Nat)):KT:=fun ws ks=>wOk R ws ks=true/\iN C hs K ns (ws++cC ks e) ((R,wrK ws ks)::acc)
def dC(Q:cd->Env->Prop)(_:Tag Q)(t:cd)(e:Env):Prop:=Q t e
def fin(res:List (Nat×Option (Nat×Bool)))(d:D):cd->Env->Prop:=fun t e=>(match t with
   | .ext _=>False
   | _=>True)/\dw res d e
def Bm(C:CC)(y:cv)(Q:cd->Env->Prop):cd->Env->Prop:=fun t e'=>match t with
  | .nrm=>wpN C y Q e'
  | t=>Q t e'
def pO(id:Nat)(Q:cd->Env->Prop):cd->Env->Prop:=fun t e'=>match t with
  | .ext i=>if i=id then Q .nrm e' else Q (.ext i) e'
  | t=>Q t e'
def Bb(keep:List Nat)(Q:cd->Env->Prop):Env->Prop:=fun e'=>Q .nrm (prune keep e')
def kOf(C:CC)(hs:Option (List Nat))(K:Env->Prop)(ns:List ay)(e:Env)(R:List Nat)(acc:List (List Nat×List Nat)):KT :=
 match hs with
 | none=>Cf C K ns e
 | some hs=>G9 C hs K ns e R acc
def doW(C:CC)(hs:Option (List Nat))(K:Env->Prop)(ns:List ay)(_:Tag (hs,K,ns))(e:Env)(R:List Nat)(acc:List (List Nat×List Nat))(ws:List (Nat×D))(ks:List (Nat×Bool)):Prop:=kOf C hs K ns e R acc ws ks
def opW(C:CC)(hs:Option (List Nat))(K:Env->Prop)(ns:List ay)(dst:Option Nat)(op:NOp)(_:Tag (hs,K,ns,dst,op))(e:Env)(R:List Nat)(acc:List (List Nat×List Nat)):Prop:=aB C (ab e) dst (kOf C hs K ns e R acc) op
def dW(C:CC)(hs:Option (List Nat))(K:Env->Prop)(ns:List ay)(dst:Option Nat)(_:Tag (hs,K,ns))(e:Env)(R:List Nat)(acc:List (List Nat×List Nat))(d:D):Prop:=df dst (kOf C hs K ns e R acc) d
def rg(C:CC)(g:Nat)(hs:Option (List Nat))(K:Env->Prop)(ns:List ay)(dst:Option Nat)(_:Tag (hs,K,ns))(e:Env)(R:List Nat)(acc:List (List Nat×List Nat))(pure:Bool)(ds:List D):Prop :=
 ∃d,C g ds d []/\(isF d=true\/pure=true)/\df dst (kOf C hs K ns e R acc) d
theorem az{prog:Nat->Option al}(hC:av prog C){g:Nat}{nf:al}{ds:List D}(hp:prog g=some nf)(hl:ds.length=nf.np)(h:wN C nf.body (fin nf.res d) ⟨⟩ (params 0 ds)):C g ds d []:=hC.1.1 g nf ds d hp hl h
def Ay(res:List (Nat×Option (Nat×Bool)))(sz:Nat)(es:List (List D)):cd->Env->Prop:=fun t e=>(match t with
   | .ext _=>False
   | _=>True)/\jX res sz es e
theorem qN{prog:Nat->Option al}(hC:av prog C){g:Nat}{nf:al}{ds:List D}{sz:Nat}{es:List (List D)}(hp:prog g=some nf)(hl:ds.length=nf.np)(h:wN C nf.body (Ay nf.res sz es) ⟨⟩ (params 0 ds)):C g ds .any [.own sz es]:=hC.1.2.2.1 g nf ds sz es hp hl h
def tc(res:List (Nat×Option (Nat×Bool)))(d:D)(sz:Nat)(es':List (List D)):cd->Env->Prop:=fun t e=>(match t with
   | .ext _=>False
   | _=>True)/\(0<es'.length/\ab e 10015=.blk sz es')/\dw res d ((10015,.any)::e)
theorem iF{prog:Nat->Option al}(hC:im prog C){g:Nat}{nf:al}{W:List D}{d:D}{sz:Nat}{es es':List (List D)}(hp:prog g=some nf)(hl:W.length=nf.np)(h:wN C nf.body (tc nf.res d sz es') ⟨⟩ (params 0 W++[(10015,.blk sz es)])):C g (.blk sz es::W) d [.blk sz es',.nilp]:=hC.2.2.2.2.2.1 g nf W d sz es es' hp hl h
def wY(C:CC)(g:Nat)(hs:Option (List Nat))(K:Env->Prop)(ns:List ay)(t:Nat)(_:Tag (hs,K,ns))(e:Env)(R:List Nat)(acc:List (List Nat×List Nat))(ds:List D):Prop :=
 ∃sz es,C g ds .any [.own sz es]/\kOf C hs K ns e R acc [(t,.ref (.r (rt t 0)) 0 es.length),(rt t 0,.blk sz es)] [(rt t 0,true)]
theorem lw{g:Nat}{hs:Option (List Nat)}{K:Env->Prop}{ns:List ay}{t:Nat}{u:Tag (hs,K,ns)}{R:List Nat}{acc:List (List Nat×List Nat)}{ds:List D}{sz:Nat}{es:List (List D)}(h:C g ds .any [.own sz es])(hk:doW C hs K ns ⟨⟩ e R acc [(t,.ref (.r (rt t 0)) 0 es.length),(rt t 0,.blk sz es)] [(rt t 0,true)]):wY C g hs K ns t u e R acc ds:=⟨sz,es,h,hk⟩
def sS(C:CC)(g:Nat)(hs:Option (List Nat))(K:Env->Prop)(ns:List ay)(dst:Option Nat)(_:Tag (hs,K,ns))(e:Env)(R:List Nat)(acc:List (List Nat×List Nat))(b sz:Nat)(es:List (List D))(ds:List D)(p:Bool):Prop:=match dst with
 | none=>∃es':List (List D),es'.length=es.length/\(∀e∈es',e.length=sz/\∀c∈e,aH c=true)/\(p=true\/∀e∈es',∀c∈e,bq c=true)/\C g (.own sz es::ds) .any [.own sz es',.nilp]/\doW C hs K ns ⟨⟩ e R acc [(b,.blk sz es')] []
 | some t=>(∃es':List (List D),es'.length=es.length/\(∀e∈es',e.length=sz/\∀c∈e,aH c=true)/\(p=true\/∀e∈es',∀c∈e,bq c=true)/\C g (.own sz es::ds) .any [.own sz es',.nilp]/\doW C hs K ns ⟨⟩ e R acc [(t,.tup []),(b,.blk sz es')] [])\/(b≠rt t 0/\0<sz/\∃es':List (List D),(∀e∈es',e.length=sz/\∀c∈e,aH c=true)/\(p=true\/∀e∈es',∀c∈e,bq c=true)/\C g (.own sz es::ds) .any [.own sz es',.nils]/\doW C hs K ns ⟨⟩ e R acc [(t,.ref (.r (rt t 0)) 0 es'.length),(rt t 0,.blk sz es'),(b,.any)] [(rt t 0,true)])
theorem vu{t:Nat}{g:Nat}{hs:Option (List Nat)}{K:Env->Prop}{ns:List ay}{u:Tag (hs,K,ns)}{R:List Nat}{acc:List (List Nat×List Nat)}{b sz:Nat}{es es':List (List D)}{ds:List D}{p:Bool}(h:C g (.own sz es::ds) .any [.own sz es',.nilp])(hp:(p=true\/∀e∈es',∀c∈e,bq c=true))(hl:es'.length=es.length)(hu:(∀e∈es',e.length=sz/\∀c∈e,aH c=true))(hk:doW C hs K ns ⟨⟩ e R acc [(t,.tup []),(b,.blk sz es')] []):sS C g hs K ns (some t) u e R acc b sz es ds p:=.inl ⟨es',hl,hu,hp,h,hk⟩
def EK(C:CC)(g:Nat)(hs:Option (List Nat))(K:Env->Prop)(ns:List ay)(dst:Option Nat)(_:Tag (hs,K,ns))(e:Env)(R:List Nat)(acc:List (List Nat×List Nat))(b n:Nat)(xs:List Opd)(d:D):Prop:=match d with
 | .blk sz es=>es.length=n/\(∀e∈es,∀c∈e,aH c=true)/\(∀x∈xs,bS (fbE (ab e) b) (vd (fbE (ab e) b) x))/\sS C g hs K ns dst ⟨⟩ e R acc b sz es (xs.map (dpv (fbE (ab e) b))) (xs.all fun y=>isV (vd (fbE (ab e) b) y))
 | _=>False
def Jp(C:CC)(g:Nat)(hs:Option (List Nat))(K:Env->Prop)(ns:List ay)(dst:Option Nat)(_:Tag (hs,K,ns))(e:Env)(R:List Nat)(acc:List (List Nat×List Nat))(xs:List Opd)(d:D):Prop:=match d with
 | .ref (.r b) k n=>k=0/\EK C g hs K ns dst ⟨⟩ e R acc b n xs (ab e b)
 | _=>False
@[simp] theorem Mi{f:Nat->D}{b t:Nat}:fbE f b t=if t=b then .any else f t:=zR
theorem aa{g:Nat}{hs:Option (List Nat)}{K:Env->Prop}{ns:List ay}{dst:Option Nat}{u:Tag (hs,K,ns)}{R:List Nat}{acc:List (List Nat×List Nat)}{p:Bool}{ds:List D}(h:C g ds d [])(hf:isF d=true\/p=true)(hk:dW C hs K ns dst ⟨⟩ e R acc d):rg C g hs K ns dst u e R acc p ds:=⟨d,h,hf,hk⟩
def qI(S:Type)(G:S->Env)(I:S->Prop)(m:S->Nat)(s:S)(Q:cd->Env->Prop):cd->Env->Prop:=fun t e'=>match t with
    | .nrm=>∃s',I s'/\m s'<m s/\j5 e' (G s')
    | t=>Q t e'
theorem aC{c:cv}{u:Tag (c,Q)}(S:Type)(G:S->Env)(I:S->Prop)(m:S->Nat)(s0:S)(h0:I s0)(hw:j5 e (G s0))
  (h:∀s,I s->wN C c (qI S G I m s Q) ⟨⟩ (G s)):uP C c Q u e:=⟨S,G,I,m,s0,h0,hw,h⟩
@[simp] theorem LI{u}:wN C .skip Q u e=dC Q ⟨⟩ .nrm e:=zR
@[simp] theorem ML{hs keep ops u}:wN C (.reg false hs keep ops) Q u e=v6 C (Bb keep Q) ops ⟨⟩ e:=zR
@[simp] theorem LF{hs keep ops u}:wN C (.reg true hs keep ops) Q u e=vZ C hs (Bb keep Q) ops ⟨⟩ e []:=zR
@[simp] theorem MN{x y u}:wN C (.seq x y) Q u e=wN C x (Bm C y Q) ⟨⟩ e:=zR
def brB(b:Bool)(X Y:Prop)(_:Tag (X,Y)):Prop:=(b=true->X)/\(b=false->Y)
theorem aj{b:Bool}{X Y:Prop}{u}(h1:b=true->X)(h2:b=false->Y):brB b X Y u:=⟨h1,h2⟩
@[simp] theorem G3{X Y:Prop}{u}:brB true X Y u=X:=by simp[brB]
@[simp] theorem Ff{X Y:Prop}{u}:brB false X Y u=Y:=by simp[brB]
def cdW(C:CC)(x y:cv)(Q:cd->Env->Prop)(_:Tag (x,y,Q))(e:Env)(d:D):Prop:=match d with
 | .bool b=>brB b (wN C x Q ⟨⟩ e) (wN C y Q ⟨⟩ e) ⟨⟩
 | .bb=>wN C x Q ⟨⟩ e/\wN C y Q ⟨⟩ e
 | _=>False
@[simp] theorem LN{x y u}:cdW C x y Q u e .bb=(wN C x Q ⟨⟩ e/\wN C y Q ⟨⟩ e):=zR
@[simp] theorem G4{x y u b}:cdW C x y Q u e (.bool b)=brB b (wN C x Q ⟨⟩ e) (wN C y Q ⟨⟩ e) ⟨⟩:=zR
@[simp] theorem LE{c x y u}:wN C (.cond c x y) Q u e=cdW C x y Q ⟨⟩ e (vd (ab e) c):=zR
@[simp] theorem Jz{id c u}:wN C (.block id c) Q u e=wN C c (pO id Q) ⟨⟩ e:=zR
@[simp] theorem LH{c u}:wN C (.loop c) Q u e=uP C c Q ⟨⟩ e:=zR
@[simp] theorem LG{id u}:wN C (.exit id) Q u e=dC Q ⟨⟩ (.ext id) e:=zR
@[simp] theorem MM{u}:wN C .ret Q u e=dC Q ⟨⟩ .ret e:=zR
@[simp] theorem Au{y u}:dC (Bm C y Q) u .nrm e=wN C y Q ⟨⟩ e:=zR
@[simp] theorem At{y u i}:dC (Bm C y Q) u (.ext i) e=dC Q ⟨⟩ (.ext i) e:=zR
@[simp] theorem Av{y u}:dC (Bm C y Q) u .ret e=dC Q ⟨⟩ .ret e:=zR
@[simp] theorem xx{id u}:dC (pO id Q) u .nrm e=dC Q ⟨⟩ .nrm e:=zR
@[simp] theorem xw{id u i}:dC (pO id Q) u (.ext i) e=if i=id then dC Q ⟨⟩ .nrm e else dC Q ⟨⟩ (.ext i) e:=zR
@[simp] theorem xy{id u}:dC (pO id Q) u .ret e=dC Q ⟨⟩ .ret e:=zR
@[simp] theorem Ar{r u}:dC (fin r d) u .ret e=dw r d e:=by simp[dC,fin]
@[simp] theorem z6{r sz es}{u:Tag (Ay r sz es)}:dC (Ay r sz es) u .ret e=jX r sz es e:=by simp[dC,Ay]
@[simp] theorem z7{r d sz es}{u:Tag (tc r d sz es)}:dC (tc r d sz es) u .nrm e=((0<es.length/\ab e 10015=.blk sz es)/\dw r d ((10015,.any)::e)):=by simp[dC,tc]
@[simp] theorem z8{r d sz es}{u:Tag (tc r d sz es)}:dC (tc r d sz es) u .ret e=((0<es.length/\ab e 10015=.blk sz es)/\dw r d ((10015,.any)::e)):=by simp[dC,tc]
@[simp] theorem xA{S G I m s u}:dC (qI S G I m s Q) u .nrm e=∃s',I s'/\m s'<m s/\j5 e (G s'):=zR
@[simp] theorem xz{S G I m s u i}:dC (qI S G I m s Q) u (.ext i) e=dC Q ⟨⟩ (.ext i) e:=zR
@[simp] theorem xB{S G I m s u}:dC (qI S G I m s Q) u .ret e=dC Q ⟨⟩ .ret e:=zR
end
section
variable{C:CC}{Q:cd->Env->Prop}{e:Env}{K:Env->Prop}{dst:Option Nat}{d:D}{hs:Option (List Nat)}{ns:List ay}{R:List Nat}{acc:List (List Nat×List Nat)}{u:Tag (hs,K,ns)}
@[simp] theorem IX{keep u}:v6 C (Bb keep Q) [] u e=dC Q ⟨⟩ .nrm (prune keep e):=zR
@[simp] theorem IW{h keep u}:vZ C h (Bb keep Q) [] u e acc=(HR h acc/\dC Q ⟨⟩ .nrm (prune keep e)):=zR
@[simp] theorem Gr{dst op ns u}:v6 C K (⟨dst,op,none⟩::ns) u e=opW C none K ns dst op ⟨⟩ e [] []:=zR
@[simp] theorem Gp{h dst op ns u}:vZ C h K (⟨dst,op,none⟩::ns) u e acc=(chk (ab e) ⟨dst,op,none⟩=true/\opW C (some h) K ns dst op ⟨⟩ e (fL (ab e) ⟨dst,op,none⟩) acc):=zR
def pD(C:CC)(h:List Nat)(K:Env->Prop)(ns:List ay)(_:Tag (h,K,ns))(e:Env)(dst:Option Nat)(R:List Nat)(acc:List (List Nat×List Nat)):Prop:=gk e dst fun e'=>iN C h K ns e' ((R,rq dst)::acc)
@[simp] theorem Ey{h t ns u}:pD C h K ns u e (some t) R acc=vZ C h K ns ⟨⟩ ((t,.tup [])::e) ((R,[4*t])::acc):=zR
def gdT(C:CC)(K:Env->Prop)(ns:List ay)(dst:Option Nat)(op:NOp)(s:Nat)(want:Bool)(_:Tag (K,ns))(e:Env)(d:D):Prop:=match d with
 | .bool b=>(b=want->opW C none K ns dst op ⟨⟩ ((s,.bool want)::e) [] [])/\(b=!want->dW C none K ns dst ⟨⟩ ((s,.bool !want)::e) [] [] (.tup []))
 | .tup []=>dW C none K ns dst ⟨⟩ e [] [] (.tup [])
 | _=>False
@[simp] theorem HG{op s b u}:gdT C K ns dst op s true u e (.bool b)=brB b (opW C none K ns dst op ⟨⟩ ((s,.bool true)::e) [] []) (dW C none K ns dst ⟨⟩ ((s,.bool false)::e) [] [] (.tup [])) ⟨⟩:=zR
@[simp] theorem Fy{op s b u}:gdT C K ns dst op s false u e (.bool b)=brB b (dW C none K ns dst ⟨⟩ ((s,.bool true)::e) [] [] (.tup [])) (opW C none K ns dst op ⟨⟩ ((s,.bool false)::e) [] []) ⟨⟩:=by
 simp only[gdT,brB,Bool.not_false];exact propext ⟨fun h=>⟨h.2,h.1⟩,fun h=>⟨h.2,h.1⟩⟩
@[simp] theorem HF{op s want u}:gdT C K ns dst op s want u e (.tup [])=dW C none K ns dst ⟨⟩ e [] [] (.tup []):=zR
@[simp] theorem Gs{dst op s want ns u}:v6 C K (⟨dst,op,some (s,want)⟩::ns) u e=gdT C K ns dst op s want ⟨⟩ e (ab e s):=by
 simp only[v6,ik,opW,sJ,gk,gdT,dW,df,kOf,Cf,cC]
 cases ab e s<;>cases dst<;>(first|rfl|(rename_i x _ ;cases x<;>rfl)|(rename_i x;cases x<;>rfl))
def gdD(C:CC)(h:List Nat)(K:Env->Prop)(ns:List ay)(dst:Option Nat)(op:NOp)(want:Bool)(_:Tag (K,ns))(e:Env)(R:List Nat)(acc:List (List Nat×List Nat))(d:D):Prop:=match d with
 | .bool b=>(b=want->opW C (some h) K ns dst op ⟨⟩ e R acc)/\(b=!want->pD C h K ns ⟨⟩ e dst R acc)
 | .tup []=>pD C h K ns ⟨⟩ e dst R acc
 | _=>False
@[simp] theorem HE{h op b u}:gdD C h K ns dst op true u e R acc (.bool b)=brB b (opW C (some h) K ns dst op ⟨⟩ e R acc) (pD C h K ns ⟨⟩ e dst R acc) ⟨⟩:=zR
@[simp] theorem Fx{h op b u}:gdD C h K ns dst op false u e R acc (.bool b)=brB b (pD C h K ns ⟨⟩ e dst R acc) (opW C (some h) K ns dst op ⟨⟩ e R acc) ⟨⟩:=by
 simp only[gdD,brB,Bool.not_false];exact propext ⟨fun h=>⟨h.2,h.1⟩,fun h=>⟨h.2,h.1⟩⟩
@[simp] theorem HD{h op want u}:gdD C h K ns dst op want u e R acc (.tup [])=pD C h K ns ⟨⟩ e dst R acc:=zR
@[simp] theorem Gq{h dst op s want ns u}:vZ C h K (⟨dst,op,some (s,want)⟩::ns) u e acc=(chk (ab e) ⟨dst,op,some (s,want)⟩=true/\gdD C h K ns dst op want ⟨⟩ e (fL (ab e) ⟨dst,op,some (s,want)⟩) acc (ab e s)):=zR
@[simp] theorem Hj{K ns u ws ks}:doW C none K ns u e R acc ws ks=v6 C K ns ⟨⟩ (ws++cC ks e):=zR
@[simp] theorem Hi{h K ns u ws ks}:doW C (some h) K ns u e R acc ws ks=(wOk R ws ks=true/\vZ C h K ns ⟨⟩ (ws++cC ks e) ((R,wrK ws ks)::acc)):=zR
@[simp] theorem JL{t}:dW C hs K ns (some t) u e R acc d=doW C hs K ns ⟨⟩ e R acc [(t,d)] []:=zR
def bf(ks:List (Nat×Bool))(d:D):D:=if aG ks d then .any else d
theorem cU(ks:List (Nat×Bool))(d:D):bf ks d=bif aG ks d then .any else d:=by
 unfold bf;cases aG ks d<;>rfl
@[simp] theorem F6:cC [] e=e:=zR
@[simp] theorem F5{k ks}:cC (k::ks) []=[]:=zR
@[simp] theorem DP{k ks s d}:cC (k::ks) ((s,d)::e)=(s,bf (k::ks) d)::cC (k::ks) e:=zR
@[simp] theorem FR{ks}:bf ks .any=.any:=by simp[bf]
@[simp] theorem FV{ks k n}:bf ks (.int k n)=.int k n:=by simp[bf,aG,cV,aO]
@[simp] theorem DN{ks n}:bf ks (.bool n)=.bool n:=by simp[bf,aG,cV,aO]
@[simp] theorem F3{ks n}:bf ks (.str n)=.str n:=by simp[bf,aG,cV,aO]
@[simp] theorem Ii{ks}:bf ks .bb=.bb:=by simp[bf,aG,cV,aO]
@[simp] theorem DO{ks}:bf ks .nils=.nils:=by simp[bf,aG,cV,aO]
@[simp] theorem FP{ks n}:bf ks (.agg n)=.agg n:=by simp[bf,aG,cV,aO]
@[simp] theorem F4{ks n}:bf ks (.tup n)=.tup n:=by simp[bf,aG,cV,aO]
@[simp] theorem Ik{ks n}:bf ks (.sl n)=.sl n:=by simp[bf,aG,cV,aO]
@[simp] theorem FY{ks n}:bf ks (.ptr n)=.ptr n:=by simp[bf,aG,cV,aO]
@[simp] theorem FS{ks g n}:bf ks (.blk g n)=.blk g n:=by simp[bf,aG,cV,aO]
@[simp] theorem Ij{ks kt et xs vs}:bf ks (.mp kt et xs vs)=.mp kt et xs vs:=by simp[bf,aG,cV,aO]
@[simp] theorem F0{b all ks p k n}:bf ((b,all)::ks) (.ref p k n)=if a7 b all p then .any else bf ks (.ref p k n):=by
 have h:bf ((b,all)::ks) (.ref p k n)=bif (a7 b all p||aG ks (.ref p k n)) then .any else .ref p k n:=cU ..
 rw[h,cU]
 cases a7 b all p<;>rfl
@[simp] theorem FO{b all ks p k n}:bf ((b,all)::ks) (.adr p k n)=if a7 b all p then .any else bf ks (.adr p k n):=by
 have h:bf ((b,all)::ks) (.adr p k n)=bif (a7 b all p||aG ks (.adr p k n)) then .any else .adr p k n:=cU ..
 rw[h,cU]
 cases a7 b all p<;>rfl
@[simp] theorem FQ{b all ks n}:bf ((b,all)::ks) (.agx n)=if n.any (aO b all) then .any else bf ks (.agx n):=by
 have h:bf ((b,all)::ks) (.agx n)=bif (n.any (aO b all)||aG ks (.agx n)) then .any else .agx n:=cU ..
 rw[h,cU]
 cases n.any (aO b all)<;>rfl
@[simp] theorem FU{ks T n}:bf ks (.ifi T n)=.ifi T n:=by simp[bf,aG,cV,aO]
@[simp] theorem FT{b all ks T p k n}:bf ((b,all)::ks) (.ifa T p k n)=if a7 b all p then .any else bf ks (.ifa T p k n):=by
 have h:bf ((b,all)::ks) (.ifa T p k n)=bif (a7 b all p||aG ks (.ifa T p k n)) then .any else .ifa T p k n:=cU ..
 rw[h,cU]
 cases a7 b all p<;>rfl
@[simp] theorem FX{d}:bf [] d=d:=by simp[bf,aG]
@[simp] theorem F2{ks b es}:bf ks (slx b es)=slx b es:=by cases b<;>cases es<;>simp[slx]
def mF(C:CC)(hs:Option (List Nat))(K:Env->Prop)(ns:List ay)(dst:Option Nat)(_:Tag (hs,K,ns))(e:Env)(R:List Nat)(acc:List (List Nat×List Nat))(sz:Nat)(es:List (List D))(i:Nat):Prop :=
 ∃c,es[i]? = some c/\c.length=sz/\df dst (kOf C hs K ns e R acc) (.ptr c)
@[simp] theorem HP{α:Type}[Inhabited α]{sz:Nat}{xs:List α}{f:α->List D}{i:Nat}:mF C hs K ns dst u e R acc sz (xs.map f) i=(i<xs.length/\(f xs[i]!).length=sz/\dW C hs K ns dst ⟨⟩ e R acc (.ptr (f xs[i]!))):=by
 apply propext
 unfold mF dW
 constructor
 ·rintro⟨c,h,h1,h2⟩
  rw[x0y,x0i]at h
  obtain⟨x,hx,rfl⟩:=h
  obtain⟨hi,rfl⟩:=x0c.1 hx
  rw[x0K xs i hi]
  exact⟨hi,h1,h2⟩
 ·rintro⟨hi,h1,h2⟩
  rw[x0K xs i hi]at h1 h2
  exact⟨_,by rw[x0y,x0e hi];rfl,h1,h2⟩
def C8(C:CC)(hs:Option (List Nat))(K:Env->Prop)(ns:List ay)(dst:Option Nat)(_:Tag (hs,K,ns))(e:Env)(R:List Nat)(acc:List (List Nat×List Nat))(s:List UInt8)(i:Nat):Prop :=
 ∃b,s[i]? = some b/\df dst (kOf C hs K ns e R acc) (.int .u8 b.toNat)
@[simp] theorem JI{s:List UInt8}{i:Nat}:C8 C hs K ns dst u e R acc s i=(i<s.length/\dW C hs K ns dst ⟨⟩ e R acc (.int .u8 (s[i]!).toNat)):=by
 apply propext
 unfold C8 dW
 constructor
 ·rintro⟨b,h,h2⟩
  obtain⟨hi,rfl⟩:=x0c.1 h
  rw[x0K s i hi]
  exact⟨hi,h2⟩
 ·rintro⟨hi,h2⟩
  rw[x0K s i hi]at h2
  exact⟨_,x0e hi,h2⟩
def tP(C:CC)(hs:Option (List Nat))(K:Env->Prop)(ns:List ay)(dst:Option Nat)(_:Tag (hs,K,ns))(e:Env)(R:List Nat)(acc:List (List Nat×List Nat))(n:Nat)(ag:Bool)(p:Pa)(es:List (List D))(i off:Nat):Prop :=
 ∃r,es[i]? = some r/\off+n<=r.length/\match ag with
    | true=>(((r.drop off).take n).all isV=true->df dst (kOf C hs K ns e R acc) (.agg ((r.drop off).take n))) /\
      (((r.drop off).take n).all isV=false->df dst (kOf C hs K ns e R acc) (.agx (((r.drop off).take n).mapIdx fun j c=>ldc p i (off+j) c)))
    | false=>df dst (kOf C hs K ns e R acc) (ldc p i off ((r.drop off).headD .any))
theorem kW{n:Nat}{ag:Bool}{p:Pa}{es:List (List D)}{i off:Nat}{r:List D}(hr:es[i]? = some r)(hl:off+n<=r.length)(hk:match ag with
    | true=>(((r.drop off).take n).all isV=true->dW C hs K ns dst ⟨⟩ e R acc (.agg ((r.drop off).take n))) /\
      (((r.drop off).take n).all isV=false->dW C hs K ns dst ⟨⟩ e R acc (.agx (((r.drop off).take n).mapIdx fun j c=>ldc p i (off+j) c)))
    | false=>dW C hs K ns dst ⟨⟩ e R acc (ldc p i off ((r.drop off).headD .any))):tP C hs K ns dst u e R acc n ag p es i off:=by
 refine⟨r,hr,hl,?_⟩
 cases ag<;>exact hk
end
section
variable{C:CC}{Q:cd->Env->Prop}{e:Env}{K:Env->Prop}{dst:Option Nat}{hs:Option (List Nat)}{ns:List ay}{R:List Nat}{acc:List (List Nat×List Nat)}{u:Tag (hs,K,ns)}
@[simp] theorem Lk{x v1}:opW C hs K ns dst (.mov x) v1 e R acc=(isS (vd (ab e) x)=true/\dW C hs K ns dst ⟨⟩ e R acc (vd (ab e) x)):=zR
@[simp] theorem Lo{x v1}:opW C hs K ns dst (.nck x) v1 e R acc=(match (generalizing:=false) vd (ab e) x with
  | .ptr ds=>dW C hs K ns dst ⟨⟩ e R acc (.ptr ds)
  | .adr p i off=>dW C hs K ns dst ⟨⟩ e R acc (.adr p i off)
  | .ptx ds=>dW C hs K ns dst ⟨⟩ e R acc (.ptx ds)
  | _=>False):=zR
@[simp] theorem IV{c a b v1}:opW C hs K ns dst (.pick c a b) v1 e R acc=(match (generalizing:=false) vd (ab e) c with
  | .bool v=>(v=true->isS (vd (ab e) a)=true/\dW C hs K ns dst ⟨⟩ e R acc (vd (ab e) a))/\(v=false->isS (vd (ab e) b)=true/\dW C hs K ns dst ⟨⟩ e R acc (vd (ab e) b))
  | _=>False):=zR
@[simp] theorem KZ{op x y v1}:opW C hs K ns dst (.bin op x y) v1 e R acc=(match (generalizing:=false) vd (ab e) x,vd (ab e) y with
  | .int k a,.int k' b=>match (generalizing:=false) op with
   | .add=>k=k'/\dW C hs K ns dst ⟨⟩ e R acc (.int k (k.wrap (a+b)))
   | .sub=>k=k'/\dW C hs K ns dst ⟨⟩ e R acc (.int k (k.wrap (a-b)))
   | .mul=>k=k'/\dW C hs K ns dst ⟨⟩ e R acc (.int k (k.wrap (a*b)))
   | .quo=>k=k'/\b≠0/\dW C hs K ns dst ⟨⟩ e R acc (.int k (k.wrap (a.tdiv b)))
   | .rem=>k=k'/\b≠0/\dW C hs K ns dst ⟨⟩ e R acc (.int k (a.tmod b))
   | .and=>k=k'/\dW C hs K ns dst ⟨⟩ e R acc (.int k (bits .and k a b))
   | .or=>k=k'/\dW C hs K ns dst ⟨⟩ e R acc (.int k (bits .or k a b))
   | .xor=>k=k'/\dW C hs K ns dst ⟨⟩ e R acc (.int k (bits .xor k a b))
   | .andNot=>k=k'/\dW C hs K ns dst ⟨⟩ e R acc (.int k (bits .andNot k a b))
   | .shl=>0<=b/\dW C hs K ns dst ⟨⟩ e R acc (.int k (k.wrap (a*2^(min b.toNat k.bits))))
   | .shr=>0<=b/\dW C hs K ns dst ⟨⟩ e R acc (.int k (a.fdiv (2^(min b.toNat k.bits))))
   | .eql=>k=k'/\dW C hs K ns dst ⟨⟩ e R acc (.bool (decide (a=b)))
   | .neq=>k=k'/\dW C hs K ns dst ⟨⟩ e R acc (.bool (!decide (a=b)))
   | .lss=>k=k'/\dW C hs K ns dst ⟨⟩ e R acc (.bool (decide (a<b)))
   | .leq=>k=k'/\dW C hs K ns dst ⟨⟩ e R acc (.bool (decide (a<=b)))
   | .gtr=>k=k'/\dW C hs K ns dst ⟨⟩ e R acc (.bool (decide (b<a)))
   | .geq=>k=k'/\dW C hs K ns dst ⟨⟩ e R acc (.bool (decide (b<=a)))
  | .str a,.str b=>match (generalizing:=false) op with
   | .eql=>dW C hs K ns dst ⟨⟩ e R acc (.bool (decide (a=b)))
   | .neq=>dW C hs K ns dst ⟨⟩ e R acc (.bool (!decide (a=b)))
   | .add=>((a++b).length:Int)<=9223372036854775807/\dW C hs K ns dst ⟨⟩ e R acc (.str (a++b))
   | .lss=>dW C hs K ns dst ⟨⟩ e R acc (.bool (Op.bytesLess a b))
   | .leq=>dW C hs K ns dst ⟨⟩ e R acc (.bool (Op.bytesLess a b||a==b))
   | .gtr=>dW C hs K ns dst ⟨⟩ e R acc (.bool !(Op.bytesLess a b||a==b))
   | .geq=>dW C hs K ns dst ⟨⟩ e R acc (.bool !(Op.bytesLess a b))
   | _=>False
  | _,_=>False):=zR
@[simp] theorem MH{op x v1}:opW C hs K ns dst (.un op x) v1 e R acc=(match (generalizing:=false) vd (ab e) x with
  | .bool b=>match (generalizing:=false) op with
   | .not=>dW C hs K ns dst ⟨⟩ e R acc (.bool (!b))
   | _=>False
  | .int k n=>match (generalizing:=false) op with
   | .neg=>dW C hs K ns dst ⟨⟩ e R acc (.int k (k.wrap (0-n)))
   | _=>False
  | _=>False):=zR
@[simp] theorem IO{k x v1}:opW C hs K ns dst (.conv k x) v1 e R acc=(match (generalizing:=false) vd (ab e) x with
  | .int _ n=>dW C hs K ns dst ⟨⟩ e R acc (.int k (k.wrap n))
  | _=>False):=zR
@[simp] theorem KY{neg ks x y v1}:opW C hs K ns dst (.beq neg ks x y) v1 e R acc=(match (generalizing:=false) vd (ab e) x,vd (ab e) y with
  | .bool a,.bool b=>ks=[]/\dW C hs K ns dst ⟨⟩ e R acc (.bool ((a==b) != neg))
  | .agg a,.agg b=>ks≠[]/\match (generalizing:=false) cq ks a b with
   | some r=>dW C hs K ns dst ⟨⟩ e R acc (.bool (r != neg))
   | none=>False
  | .nils,.nils=>ks=[9]/\dW C hs K ns dst ⟨⟩ e R acc (.bool (!neg))
  | .sl es,.nils=>ks=[9]/\(0<es.length->dW C hs K ns dst ⟨⟩ e R acc (.bool neg))/\(es.length=0->dW C hs K ns dst ⟨⟩ e R acc .bb)
  | .nilp,.nilp=>ks=[8]/\dW C hs K ns dst ⟨⟩ e R acc (.bool (!neg))
  | .ptr _,.nilp=>ks=[8]/\dW C hs K ns dst ⟨⟩ e R acc (.bool neg)
  | _,_=>False):=zR
@[simp] theorem Ld{off n ag x v1}:opW C hs K ns dst (.fld off n ag x) v1 e R acc=(match (generalizing:=false) vd (ab e) x with
  | .agg ds=>off+n<=ds.length/\dW C hs K ns dst ⟨⟩ e R acc (pack ag n (ds.drop off))
  | .agx ds=>off+n<=ds.length/\match (generalizing:=false) ag with
   | true=>dW C hs K ns dst ⟨⟩ e R acc (.agx ((ds.drop off).take n))
   | false=>dW C hs K ns dst ⟨⟩ e R acc ((ds.drop off).headD .any)
  | _=>False):=zR
@[simp] theorem IR{len sz ag x i v1}:opW C hs K ns dst (.idxA len sz ag x i) v1 e R acc=(match (generalizing:=false) vd (ab e) x,vd (ab e) i with
  | .agg ds,.int _ j=>0<=j/\j<len/\j.toNat*sz+sz<=ds.length/\dW C hs K ns dst ⟨⟩ e R acc (pack ag sz (ds.drop (j.toNat*sz)))
  | .agx ds,.int _ j=>0<=j/\j<len/\j.toNat*sz+sz<=ds.length/\match (generalizing:=false) ag with
   | true=>dW C hs K ns dst ⟨⟩ e R acc (.agx ((ds.drop (j.toNat*sz)).take sz))
   | false=>dW C hs K ns dst ⟨⟩ e R acc ((ds.drop (j.toNat*sz)).headD .any)
  | _,_=>False):=zR
@[simp] theorem Lp{len sz x v1}:opW C hs K ns dst (.slA len sz x) v1 e R acc=(match (generalizing:=false) vd (ab e) x with
  | .ptr ds=>0<len/\0<sz/\len*sz<=ds.length/\dW C hs K ns dst ⟨⟩ e R acc (.sl (bY sz len ds))
  | _=>False):=zR
@[simp] theorem IS{x i v1}:opW C hs K ns dst (.idxS x i) v1 e R acc=(match (generalizing:=false) vd (ab e) x,vd (ab e) i with
  | .str s,.int _ j=>0<=j/\C8 C hs K ns dst ⟨⟩ e R acc s j.toNat
  | _,_=>False):=zR
@[simp] theorem Lb{i x v1}:opW C hs K ns dst (.ext i x) v1 e R acc=(match (generalizing:=false) vd (ab e) x with
  | .tup ds=>∃d,ds[i]? = some d/\dW C hs K ns dst ⟨⟩ e R acc d
  | .tpx ds=>∃d,ds[i]? = some d/\dW C hs K ns dst ⟨⟩ e R acc d
  | _=>False):=zR
@[simp] theorem Lc{off x v1}:opW C hs K ns dst (.fad off x) v1 e R acc=(match (generalizing:=false) vd (ab e) x with
  | .adr p i o=>dW C hs K ns dst ⟨⟩ e R acc (.adr p i (o+off))
  | .ptr ds=>dW C hs K ns dst ⟨⟩ e R acc (.ptr (ds.drop off))
  | .ptx ds=>dW C hs K ns dst ⟨⟩ e R acc (.ptx (ds.drop off))
  | _=>False):=zR
@[simp] theorem IP{len sz x i v1}:opW C hs K ns dst (.iadA len sz x i) v1 e R acc=(match (generalizing:=false) vd (ab e) x,vd (ab e) i with
  | .adr p r o,.int _ j=>0<=j/\j<len/\dW C hs K ns dst ⟨⟩ e R acc (.adr p r (o+j.toNat*sz))
  | .ptr ds,.int _ j=>0<=j/\j<len/\dW C hs K ns dst ⟨⟩ e R acc (.ptr (ds.drop (j.toNat*sz)))
  | _,_=>False):=zR
@[simp] theorem MC{n ag x v1}:opW C hs K ns dst (.ld n ag x) v1 e R acc=(match (generalizing:=false) vd (ab e) x with
  | .adr p i off=>match (generalizing:=false) aQ (ab e) p with
   | some (_,es)=>tP C hs K ns dst ⟨⟩ e R acc n ag p es i off
   | none=>False
  | .ptr ds=>n<=ds.length/\dW C hs K ns dst ⟨⟩ e R acc (pack ag n ds)
  | .ptx ds=>n<=ds.length/\match (generalizing:=false) ag with
   | true=>((ds.take n).all isV=true->dW C hs K ns dst ⟨⟩ e R acc (.agg (ds.take n)))/\((ds.take n).all isV=false->dW C hs K ns dst ⟨⟩ e R acc (.agx (ds.take n)))
   | false=>0<n/\dW C hs K ns dst ⟨⟩ e R acc (ds.headD .any)
  | _=>False):=zR
@[simp] theorem K0{zs parts v1}:opW C hs K ns dst (.bld zs parts) v1 e R acc=((∀p∈parts,isS (vd (ab e) p.2.2)=true/\p.1+p.2.1<=zs.length/\match (generalizing:=false) vd (ab e) p.2.2 with
    | .agg ds=>ds.length=p.2.1
    | .agx ds=>ds.length=p.2.1
    | .any=>False
    | .tpx _=>False
    | .ptx _=>False
    | .rfx _ _ _=>False
    | .fny _ _ _=>False
    | .fnx _ _=>False
    | _=>p.2.1=1) /\
   ((parts.all fun p=>isV (vd (ab e) p.2.2))=true->dW C hs K ns dst ⟨⟩ e R acc (.agg (gL zs (parts.map fun p=>(p.1,p.2.1,vd (ab e) p.2.2))))) /\
   ((parts.all fun p=>isV (vd (ab e) p.2.2))=false->dW C hs K ns dst ⟨⟩ e R acc (.agx (gL zs (parts.map fun p=>(p.1,p.2.1,dY (vd (ab e) p.2.2))))))):=zR
@[simp] theorem IT{x v1}:opW C hs K ns dst (.lens x) v1 e R acc=(match (generalizing:=false) vd (ab e) x with
  | .str s=>dW C hs K ns dst ⟨⟩ e R acc (.int .i64 s.length)
  | _=>False):=zR
@[simp] theorem MD{g xs v1}:opW C hs K ns dst (.mk g xs) v1 e R acc=((∀x∈xs,isP (vd (ab e) x)=true)/\((xs.all fun x=>isV (vd (ab e) x))=true->dW C hs K ns dst ⟨⟩ e R acc (.fn g (xs.map (vd (ab e)))))/\((xs.all fun x=>isV (vd (ab e) x))=false->dW C hs K ns dst ⟨⟩ e R acc (.fnx g (xs.map (vd (ab e)))))):=zR
@[simp] theorem ME{x y v1}:opW C hs K ns dst (.mn x y) v1 e R acc=(match (generalizing:=false) vd (ab e) x,vd (ab e) y with
  | .int k a,.int k' b=>k=k'/\dW C hs K ns dst ⟨⟩ e R acc (.int k (if b<a then b else a))
  | _,_=>False):=zR
@[simp] theorem MF{x y v1}:opW C hs K ns dst (.mx x y) v1 e R acc=(match (generalizing:=false) vd (ab e) x,vd (ab e) y with
  | .int k a,.int k' b=>k=k'/\dW C hs K ns dst ⟨⟩ e R acc (.int k (if a<b then b else a))
  | _,_=>False):=zR
@[simp] theorem Gg{x y c v1}:opW C hs K ns dst (.add64 x y c) v1 e R acc=(match (generalizing:=false) vd (ab e) x,vd (ab e) y,vd (ab e) c with
  | .int .u64 a,.int .u64 b,.int .u64 k=>0<=a/\a<18446744073709551616/\0<=b/\b<18446744073709551616/\0<=k/\k<=1 /\
    dW C hs K ns dst ⟨⟩ e R acc (.tup [.int .u64 ((a+b+k)%18446744073709551616),.int .u64 ((a+b+k)/18446744073709551616)])
  | _,_,_=>False):=zR
@[simp] theorem Gn{x y c v1}:opW C hs K ns dst (.sub64 x y c) v1 e R acc=(match (generalizing:=false) vd (ab e) x,vd (ab e) y,vd (ab e) c with
  | .int .u64 a,.int .u64 b,.int .u64 k=>0<=a/\a<18446744073709551616/\0<=b/\b<18446744073709551616/\0<=k/\k<=1 /\
    dW C hs K ns dst ⟨⟩ e R acc (.tup [.int .u64 ((a-b-k)%18446744073709551616),.int .u64 (if a<b+k then 1 else 0)])
  | _,_,_=>False):=zR
@[simp] theorem IU{sz v1}:opW C hs K ns dst (.nilo sz) v1 e R acc=(match (generalizing:=false) dst with
  | some t=>0<sz/\doW C hs K ns ⟨⟩ e R acc [(t,.ref (.r (rt t 0)) 0 0),(rt t 0,.blk sz [])] [(rt t 0,true)]
  | none=>False):=zR
@[simp] theorem K9{x t v1}:opW C hs K ns (some t) (.box [] x) v1 e R acc=j7 (ab e) (vd (ab e) x) [] (fun cs bs=>bs.contains (rt t 0)=false/\doW C hs K ns ⟨⟩ e R acc ((t,.adr (.r (rt t 0)) 0 0)::(rt t 0,.blk cs.length [cs])::bB bs) [(rt t 0,true)]) ⟨⟩:=zR
@[simp] theorem KV{zs v1}:opW C hs K ns dst (.alc zs) v1 e R acc=(match (generalizing:=false) dst with
  | some t=>doW C hs K ns ⟨⟩ e R acc [(t,.adr (.r (rt t 0)) 0 0),(rt t 0,.blk zs.length [zs])] [(rt t 0,true)]
  | none=>False):=zR
@[simp] theorem K2{sz len zs parts t v1}:opW C hs K ns (some t) (.bls sz len zs [] parts) v1 e R acc=qA (ab e) sz parts (List.replicate len zs) [] (fun es bs=>bD bs=true/\bs.contains (rt t 0)=false/\doW C hs K ns ⟨⟩ e R acc ((t,.ref (.r (rt t 0)) 0 len)::(rt t 0,.blk sz es)::bB bs) [(rt t 0,true)]) ⟨⟩:=zR
@[simp] theorem Lj{sz by_ zs n c v1}:opW C hs K ns dst (.mks sz by_ zs n c) v1 e R acc=(match (generalizing:=false) dst with
  | some t=>match (generalizing:=false) vd (ab e) n,vd (ab e) c with
   | .int _ n,.int _ c=>0<=n/\n<=c/\c*by_<=140737488355328/\doW C hs K ns ⟨⟩ e R acc [(t,.ref (.r (rt t 0)) 0 n.toNat),(rt t 0,.blk sz (List.replicate c.toNat zs))] [(rt t 0,true)]
   | _,_=>False
  | none=>False):=zR
def stM(C:CC)(hs:Option (List Nat))(K:Env->Prop)(ns:List ay)(_:Tag (hs,K,ns))(e:Env)(R:List Nat)(acc:List (List Nat×List Nat))(n:Nat)(v:D)(cs:List D)(bs:List Nat)(a:D):Prop:=match a with
 | .adr (.r b) i off=>bs.contains b=false/\fZ (ab e b) (fun sz es=>lX es[i]? (fun r=>off+n<=r.length/\doW C hs K ns ⟨⟩ e R acc ((b,.blk sz (bE es i off n cs))::bB bs) (stK v [] b)) ⟨⟩) ⟨⟩
 | .adr (.n b i0 o0) i off=>bs=[]/\(∀c∈cs,aH c=true)/\fZ (ab e b) (fun sz0 es0=>lX es0[i0]? (fun row0=>qy row0[o0]? (fun sz es=>lX es[i]? (fun r=>off+n<=r.length/\doW C hs K ns ⟨⟩ e R acc [(b,.blk sz0 (bE es0 i0 o0 1 [.own sz (bE es i off n cs)]))] []) ⟨⟩) ⟨⟩) ⟨⟩) ⟨⟩
 | _=>False
@[simp] theorem MS{n v cs bs b i off}:stM C hs K ns u e R acc n v cs bs (.adr (.r b) i off)=(bs.contains b=false/\fZ (ab e b) (fun sz es=>lX es[i]? (fun r=>off+n<=r.length/\doW C hs K ns ⟨⟩ e R acc ((b,.blk sz (bE es i off n cs))::bB bs) (stK v [] b)) ⟨⟩) ⟨⟩):=zR
@[simp] theorem MR{n v cs bs b i0 o0 i off}:stM C hs K ns u e R acc n v cs bs (.adr (.n b i0 o0) i off)=(bs=[]/\(∀c∈cs,aH c=true)/\fZ (ab e b) (fun sz0 es0=>lX es0[i0]? (fun row0=>qy row0[o0]? (fun sz es=>lX es[i]? (fun r=>off+n<=r.length/\doW C hs K ns ⟨⟩ e R acc [(b,.blk sz0 (bE es0 i0 o0 1 [.own sz (bE es i off n cs)]))] []) ⟨⟩) ⟨⟩) ⟨⟩) ⟨⟩):=zR
@[simp] theorem MG{n a v v1}:opW C hs K ns dst (.st n [] a v) v1 e R acc=(dst=none/\j7 (ab e) (vd (ab e) v) [] (fun cs bs=>cs.length=n/\stM C hs K ns ⟨⟩ e R acc n (vd (ab e) v) cs bs (vd (ab e) a)) ⟨⟩):=by
 show(dst=none/\fB (ab e) (vd (ab e) v) [] _)=(dst=none/\fB (ab e) (vd (ab e) v) [] _)
 congr 1
 congr 1
 funext cs bs
 cases vd (ab e) a<;>try rfl
 rename_i p i off
 cases p with
 | r b =>
  simp only[stM,fZ,kV]
  cases ab e b<;>rfl
 | n b i0 o0 =>
  simp only[stM,fZ,kV,qz]
  cases ab e b<;>rfl
def vr(C:CC)(hs:Option (List Nat))(K:Env->Prop)(ns:List ay)(_:Tag (hs,K,ns))(e:Env)(R:List Nat)(acc:List (List Nat×List Nat))(t sz by_:Nat)(rowsY:List (List D))(bs:List Nat)(x:D):Prop:=match x with
 | .nils=>rowsY.length*by_<=140737488355328/\doW C hs K ns ⟨⟩ e R acc ((t,.ref (.r (rt t 0)) 0 rowsY.length)::(rt t 0,.blk sz rowsY)::bB bs) [(rt t 0,true)]
 | .ref (.r c) k n=>c≠rt t 0/\bs.contains c=false/\fZ (ab e c) (fun sz' es=>sz'=sz/\k+n<=es.length/\(n+rowsY.length)*by_<=140737488355328 /\
      doW C hs K ns ⟨⟩ e R acc ((t,.ref (.r (rt t 0)) 0 (n+rowsY.length))::(rt t 0,.blk sz ((es.drop k).take n++rowsY))::(c,.any)::bB bs) [(rt t 0,true)]) ⟨⟩
 | .ref (.n c i o) k n=>c≠rt t 0/\bs.contains c=false/\fZ (ab e c) (fun sz0 es0=>lX es0[i]? (fun row0=>qy row0[o]? (fun sz' es=>sz'=sz/\k+n<=es.length/\(n+rowsY.length)*by_<=140737488355328 /\
      doW C hs K ns ⟨⟩ e R acc ((t,.ref (.r (rt t 0)) 0 (n+rowsY.length))::(rt t 0,.blk sz ((es.drop k).take n++rowsY))::(c,.blk sz0 (bE es0 i o 1 [.any]))::bB bs) [(rt t 0,true)]) ⟨⟩) ⟨⟩) ⟨⟩
 | _=>False
@[simp] theorem Fb{t sz by_ rowsY bs}:vr C hs K ns u e R acc t sz by_ rowsY bs .nils=(rowsY.length*by_<=140737488355328/\doW C hs K ns ⟨⟩ e R acc ((t,.ref (.r (rt t 0)) 0 rowsY.length)::(rt t 0,.blk sz rowsY)::bB bs) [(rt t 0,true)]):=zR
@[simp] theorem LM{t sz by_ rowsY bs c k n}:vr C hs K ns u e R acc t sz by_ rowsY bs (.ref (.r c) k n)=(c≠rt t 0/\bs.contains c=false/\fZ (ab e c) (fun sz' es=>sz'=sz/\k+n<=es.length/\(n+rowsY.length)*by_<=140737488355328 /\
      doW C hs K ns ⟨⟩ e R acc ((t,.ref (.r (rt t 0)) 0 (n+rowsY.length))::(rt t 0,.blk sz ((es.drop k).take n++rowsY))::(c,.any)::bB bs) [(rt t 0,true)]) ⟨⟩):=zR
@[simp] theorem LK{t sz by_ rowsY bs c i o k n}:vr C hs K ns u e R acc t sz by_ rowsY bs (.ref (.n c i o) k n)=(c≠rt t 0/\bs.contains c=false/\fZ (ab e c) (fun sz0 es0=>lX es0[i]? (fun row0=>qy row0[o]? (fun sz' es=>sz'=sz/\k+n<=es.length/\(n+rowsY.length)*by_<=140737488355328 /\
      doW C hs K ns ⟨⟩ e R acc ((t,.ref (.r (rt t 0)) 0 (n+rowsY.length))::(rt t 0,.blk sz ((es.drop k).take n++rowsY))::(c,.blk sz0 (bE es0 i o 1 [.any]))::bB bs) [(rt t 0,true)]) ⟨⟩) ⟨⟩) ⟨⟩):=zR
@[simp] theorem KW{sz by_ mv x y t v1}:opW C hs K ns (some t) (.app sz by_ mv x y) v1 e R acc=mB (ab e) mv (vd (ab e) y) sz (fun rowsY bs=>bs.contains (rt t 0)=false/\vr C hs K ns ⟨⟩ e R acc t sz by_ rowsY bs (vd (ab e) x)) ⟨⟩:=by
 unfold opW mB
 simp only[aB]
 congr 1
 funext rowsY bs
 congr 1
 cases vd (ab e) x<;>try rfl
 rename_i p k n
 cases p with
 | r c =>
  simp only[vr,fZ]
  cases ab e c<;>rfl
 | n c i o =>
  simp only[vr,fZ,kV,qz]
  cases hl:ab e c<;>try rfl
  rename_i sz0 es0
  refine congrArg _ (congrArg _ (propext ⟨?_,?_⟩))
  ·rintro⟨row0,h1,es,h2,h3⟩
   exact⟨row0,h1,sz,es,h2,rfl,h3⟩
  ·rintro⟨row0,h1,sz',es,h2,rfl,h3⟩
   exact⟨row0,h1,es,h2,h3⟩
@[simp] theorem Jo{g b n xs sz es}:EK C g hs K ns dst u e R acc b n xs (.blk sz es)=(es.length=n/\(∀e∈es,∀c∈e,aH c=true)/\(∀x∈xs,bS (fbE (ab e) b) (vd (fbE (ab e) b) x))/\sS C g hs K ns dst ⟨⟩ e R acc b sz es (xs.map (dpv (fbE (ab e) b))) (xs.all fun y=>isV (vd (fbE (ab e) b) y))):=zR
@[simp] theorem Jq{g xs b k n}:Jp C g hs K ns dst u e R acc xs (.ref (.r b) k n)=(k=0/\EK C g hs K ns dst ⟨⟩ e R acc b n xs (ab e b)):=zR
@[simp] theorem Gl{g x xs v1}:opW C hs K ns dst (.callS g x xs) v1 e R acc=(Jp C g hs K ns dst ⟨⟩ e R acc xs (vd (ab e) x)):=by
 cases dst<;>rfl
def GQ(n:Nat)(d:D):Prop:=match d with
 | .blk _ es=>es.length=n/\∀e∈es,∀c∈e,bq c=true
 | _=>False
def BZ(f:Nat->D)(b:Nat)(d:D):Prop:=match d with
 | .ref (.r c) k n=>k=0/\c≠b/\GQ n (f c)
 | d=>isV d=true
@[simp] theorem JC{f:Nat->D}{b:Nat}{x:Opd}:m9 f b x=BZ f b (vd f x):=by
 unfold m9 BZ GQ
 cases vd f x<;>rfl
def Ao(C:CC)(g:Nat)(hs:Option (List Nat))(K:Env->Prop)(ns:List ay)(t:Nat)(_:Tag (hs,K,ns))(e:Env)(R:List Nat)(acc:List (List Nat×List Nat))(sz:Nat)(W:List (List D))(ds:List D)(q:Nat×D):Prop :=
 ∃es':List (List D),(∀e∈es',e.length=sz/\∀c∈e,bq c=true)/\C g (.own sz W::ds) .any [.own sz es',.nils,.nils]/\doW C hs K ns ⟨⟩ e R acc [(t,.ref (.r (rt t 0)) 0 es'.length),(rt t 0,.blk sz es'),q] [(rt t 0,true)]
theorem Ap{g:Nat}{hs:Option (List Nat)}{K:Env->Prop}{ns:List ay}{t:Nat}{u:Tag (hs,K,ns)}{e:Env}{R:List Nat}{acc:List (List Nat×List Nat)}{sz:Nat}{W es':List (List D)}{ds:List D}{q:Nat×D}(h:C g (.own sz W::ds) .any [.own sz es',.nils,.nils])(hu:∀e∈es',e.length=sz/\∀c∈e,bq c=true)
  (hk:doW C hs K ns ⟨⟩ e R acc [(t,.ref (.r (rt t 0)) 0 es'.length),(rt t 0,.blk sz es'),q] [(rt t 0,true)]):Ao C g hs K ns t u e R acc sz W ds q:=⟨es',hu,h,hk⟩
def An(C:CC)(g:Nat)(hs:Option (List Nat))(K:Env->Prop)(ns:List ay)(t:Nat)(_:Tag (hs,K,ns))(e:Env)(R:List Nat)(acc:List (List Nat×List Nat))(xs:List Opd)(d:D):Prop:=match d with
 | .ref (.r b) k n=>fZ (ab e b) (fun sz es=>k+n<=es.length/\b≠rt t 0/\0<sz/\(∀e∈(es.drop k).take n,∀c∈e,bq c=true)/\(∀x∈xs,m9 (ab e) b x)/\Ao C g hs K ns t ⟨⟩ e R acc sz ((es.drop k).take n) (xs.map (oD (ab e))) (b,.any)) ⟨⟩
 | .ref (.n b i o) k n=>fZ (ab e b) (fun sz0 es0=>lX es0[i]? (fun row0=>qy row0[o]? (fun sz es=>k+n<=es.length/\b≠rt t 0/\0<sz/\(∀e∈(es.drop k).take n,∀c∈e,bq c=true)/\(∀x∈xs,m9 (ab e) b x) /\
   Ao C g hs K ns t ⟨⟩ e R acc sz ((es.drop k).take n) (xs.map (oD (ab e))) (b,.blk sz0 (bE es0 i o 1 [.any]))) ⟨⟩) ⟨⟩) ⟨⟩
 | _=>False
@[simp] theorem Ma{g xs t b k n}:An C g hs K ns t u e R acc xs (.ref (.r b) k n)=fZ (ab e b) (fun sz es=>k+n<=es.length/\b≠rt t 0/\0<sz/\(∀e∈(es.drop k).take n,∀c∈e,bq c=true)/\(∀x∈xs,m9 (ab e) b x)/\Ao C g hs K ns t ⟨⟩ e R acc sz ((es.drop k).take n) (xs.map (oD (ab e))) (b,.any)) ⟨⟩:=zR
@[simp] theorem Gh{g x xs t v1}:opW C hs K ns (some t) (.callE g x xs) v1 e R acc=An C g hs K ns t ⟨⟩ e R acc xs (vd (ab e) x):=by
 unfold opW
 simp only[aB]
 cases vd (ab e) x<;>try rfl
 rename_i p k n
 cases p with
 | r b =>
  simp only[An,fZ,aQ,Pa.root,de]
  cases ab e b<;>rfl
 | n b i o =>
  simp only[An,fZ,kV,qz,aQ,Pa.root,de]
  cases hl:ab e b<;>try rfl
  rename_i sz0 es0
  simp only
  cases hi:es0[i]? with
  | none=>simp
  | some row0 =>
   simp only[x1B,x0h,exists_eq_left']
   cases ho:row0[o]? with
   | none=>simp
   | some d =>
    cases d
    case own sz es=>exact propext ⟨fun h=>⟨sz,es,rfl,h⟩,fun⟨sz',es',h0,h⟩=>by cases h0;exact h⟩
    all_goals simp
@[simp] theorem Gi{g xs t v1}:opW C hs K ns (some t) (.callF g xs) v1 e R acc=((∀x∈xs,bS (ab e) (vd (ab e) x))/\wY C g hs K ns t ⟨⟩ e R acc (xs.map (dpv (ab e)))):=zR
@[simp] theorem IM{g xs x0 v1}:opW C hs K ns dst (.call g xs x0) v1 e R acc=((∀x∈xs,bS (ab e) (vd (ab e) x))/\rg C g hs K ns dst ⟨⟩ e R acc (xs.all fun x=>isV (vd (ab e) x)) (xs.map (dpv (ab e)))):=zR
def pN(C:CC)(hs:Option (List Nat))(K:Env->Prop)(ns:List ay)(t:Nat)(_:Tag (hs,K,ns))(e:Env)(R:List Nat)(acc:List (List Nat×List Nat))(d:D):Prop:=match d with
 | .ref (.r c) k n=>if c=rt t 0 then doW C hs K ns ⟨⟩ e R acc [(t,.ref (.r c) k n)] [] else match ab e c with
  | .blk sz es=>doW C hs K ns ⟨⟩ e R acc [(t,.ref (.r (rt t 0)) k n),(rt t 0,.blk sz es),(c,.any)] [(rt t 0,true)]
  | _=>False
 | d=>isS d=true/\doW C hs K ns ⟨⟩ e R acc [(t,d)] []
@[simp] theorem KX{t x v1}:opW C hs K ns (some t) (.asg x) v1 e R acc=pN C hs K ns t ⟨⟩ e R acc (vd (ab e) x):=zR
@[simp] theorem GR{t c k n}:pN C hs K ns t u e R acc (.ref (.r c) k n)=(if c=rt t 0 then doW C hs K ns ⟨⟩ e R acc [(t,.ref (.r c) k n)] [] else match ab e c with
  | .blk sz es=>doW C hs K ns ⟨⟩ e R acc [(t,.ref (.r (rt t 0)) k n),(rt t 0,.blk sz es),(c,.any)] [(rt t 0,true)]
  | _=>False):=zR
@[simp] theorem Fd{t b i o k n}:pN C hs K ns t u e R acc (.ref (.n b i o) k n)=doW C hs K ns ⟨⟩ e R acc [(t,.ref (.n b i o) k n)] []:=by simp[pN]
@[simp] theorem Fc{t}:pN C hs K ns t u e R acc .nils=doW C hs K ns ⟨⟩ e R acc [(t,.nils)] []:=by simp[pN]
@[simp] theorem JD{t es}:pN C hs K ns t u e R acc (.sl es)=doW C hs K ns ⟨⟩ e R acc [(t,.sl es)] []:=by simp[pN]
@[simp] theorem GS{t b es}:pN C hs K ns t u e R acc (slx b es)=doW C hs K ns ⟨⟩ e R acc [(t,slx b es)] []:=by
 rcases jA b es with h|⟨h,_⟩<;>rw[h]<;>simp
def HB(C:CC)(hs:Option (List Nat))(K:Env->Prop)(ns:List ay)(t:Nat)(_:Tag (hs,K,ns))(e:Env)(R:List Nat)(acc:List (List Nat×List Nat))(d:D):Prop:=match d with
 | .ref (.r c) k n=>bu (ab e) (.ref (.r c) k n)/\doW C hs K ns ⟨⟩ e R acc [(t,dp1 (ab e) (.ref (.r c) k n)),(c,.any)] []
 | d=>isS d=true/\doW C hs K ns ⟨⟩ e R acc [(t,d)] []
@[simp] theorem Le{t x v1}:opW C hs K ns (some t) (.frz x) v1 e R acc=HB C hs K ns t ⟨⟩ e R acc (vd (ab e) x):=zR
@[simp] theorem HC{t c k n}:HB C hs K ns t u e R acc (.ref (.r c) k n)=(bu (ab e) (.ref (.r c) k n)/\doW C hs K ns ⟨⟩ e R acc [(t,dp1 (ab e) (.ref (.r c) k n)),(c,.any)] []):=zR
def Dg(C:CC)(hs:Option (List Nat))(K:Env->Prop)(ns:List ay)(t:Nat)(_:Tag (hs,K,ns))(e:Env)(R:List Nat)(acc:List (List Nat×List Nat))(sz:Nat)(rows:List (List D))(b k n:Nat)(d:D):Prop:=match d with
 | .blk sz' es=>sz'=sz/\k+n<=es.length/\(∀e∈es,∀c∈e,aH c=true)/\(∀e∈rows,∀c∈e,aH c=true)/\kOf C hs K ns e R acc [(t,.int .i64 (min rows.length n:Nat)),(b,.blk sz (iY es k (rows.take n)))] []
 | _=>False
@[simp] theorem Ha{t sz rows b k n sz' es}:Dg C hs K ns t u e R acc sz rows b k n (.blk sz' es)=(sz'=sz/\k+n<=es.length/\(∀e∈es,∀c∈e,aH c=true)/\(∀e∈rows,∀c∈e,aH c=true)/\doW C hs K ns ⟨⟩ e R acc [(t,.int .i64 (min rows.length n:Nat)),(b,.blk sz (iY es k (rows.take n)))] []):=zR
def Hb(C:CC)(hs:Option (List Nat))(K:Env->Prop)(ns:List ay)(t:Nat)(_:Tag (hs,K,ns))(e:Env)(R:List Nat)(acc:List (List Nat×List Nat))(sz:Nat)(rows:List (List D))(d:D):Prop:=match d with
 | .ref (.r b) k n=>(n=0->kOf C hs K ns e R acc [(t,.int .i64 0)] [])/\(0<n->Dg C hs K ns t ⟨⟩ e R acc sz rows b k n (ab e b))
 | _=>False
@[simp] theorem Hc{t sz rows b k n}:Hb C hs K ns t u e R acc sz rows (.ref (.r b) k n)=((n=0->doW C hs K ns ⟨⟩ e R acc [(t,.int .i64 0)] [])/\(0<n->Dg C hs K ns t ⟨⟩ e R acc sz rows b k n (ab e b))):=zR
@[simp] theorem La{t sz x y v1}:opW C hs K ns (some t) (.cpy sz x y) v1 e R acc=mB (ab e) false (vd (ab e) y) sz (fun rows bs=>bs=[]/\0<rows.length/\Hb C hs K ns t ⟨⟩ e R acc sz rows (vd (ab e) x)) ⟨⟩:=zR
def AS(C:CC)(hs:Option (List Nat))(K:Env->Prop)(ns:List ay)(t:Nat)(_:Tag (hs,K,ns))(e:Env)(R:List Nat)(acc:List (List Nat×List Nat))(n c i off:Nat)(d:D):Prop:=match d with
 | .blk _ es=>∃r,es[i]? = some r/\off+n<=r.length/\doW C hs K ns ⟨⟩ e R acc [(t,.agg (((r.drop off).take n).map bW)),(c,.any)] []
 | _=>False
@[simp] theorem Iq{t n c i off sz es}:AS C hs K ns t u e R acc n c i off (.blk sz es)=lX es[i]? (fun r=>off+n<=r.length/\doW C hs K ns ⟨⟩ e R acc [(t,.agg (((r.drop off).take n).map bW)),(c,.any)] []) ⟨⟩:=by
 simp only[AS,kV]
def Ir(C:CC)(hs:Option (List Nat))(K:Env->Prop)(ns:List ay)(t:Nat)(_:Tag (hs,K,ns))(e:Env)(R:List Nat)(acc:List (List Nat×List Nat))(n:Nat)(d:D):Prop:=match d with
 | .adr (.r c) i off=>AS C hs K ns t ⟨⟩ e R acc n c i off (ab e c)
 | _=>False
@[simp] theorem Is{t n c i off}:Ir C hs K ns t u e R acc n (.adr (.r c) i off)=AS C hs K ns t ⟨⟩ e R acc n c i off (ab e c):=zR
@[simp] theorem Lf{t n x v1}:opW C hs K ns (some t) (.ldF n x) v1 e R acc=Ir C hs K ns t ⟨⟩ e R acc n (vd (ab e) x):=zR
def EA(C:CC)(hs:Option (List Nat))(K:Env->Prop)(ns:List ay)(t:Nat)(_:Tag (hs,K,ns))(e:Env)(R:List Nat)(acc:List (List Nat×List Nat))(len sz c:Nat)(d:D):Prop:=match d with
 | .blk _ [row]=>0<len/\0<sz/\row.length=len*sz/\(∀d∈row,aH d=true)/\doW C hs K ns ⟨⟩ e R acc [(t,.ref (.r (rt t 0)) 0 len),(rt t 0,.blk sz (bY sz len row)),(c,.any)] [(rt t 0,true)]
 | _=>False
@[simp] theorem Jh{t len sz c sz0 row}:EA C hs K ns t u e R acc len sz c (.blk sz0 [row])=(0<len/\0<sz/\row.length=len*sz/\(∀d∈row,aH d=true)/\doW C hs K ns ⟨⟩ e R acc [(t,.ref (.r (rt t 0)) 0 len),(rt t 0,.blk sz (bY sz len row)),(c,.any)] [(rt t 0,true)]):=zR
def Ji(C:CC)(hs:Option (List Nat))(K:Env->Prop)(ns:List ay)(t:Nat)(_:Tag (hs,K,ns))(e:Env)(R:List Nat)(acc:List (List Nat×List Nat))(len sz:Nat)(d:D):Prop:=match d with
 | .adr (.r c) i off=>i=0/\off=0/\c≠rt t 0/\EA C hs K ns t ⟨⟩ e R acc len sz c (ab e c)
 | _=>False
@[simp] theorem Jj{t len sz c i off}:Ji C hs K ns t u e R acc len sz (.adr (.r c) i off)=(i=0/\off=0/\c≠rt t 0/\EA C hs K ns t ⟨⟩ e R acc len sz c (ab e c)):=zR
@[simp] theorem Lq{len sz x t v1}:opW C hs K ns (some t) (.slM len sz x) v1 e R acc=Ji C hs K ns t ⟨⟩ e R acc len sz (vd (ab e) x):=zR
def oE(C:CC)(hs:Option (List Nat))(K:Env->Prop)(ns:List ay)(dst:Option Nat)(_:Tag (hs,K,ns))(e:Env)(R:List Nat)(acc:List (List Nat×List Nat))(d:D):Prop:=match d with
 | .agx ds=>dW C hs K ns dst ⟨⟩ e R acc (.ptx ds)
 | .agg ds=>dW C hs K ns dst ⟨⟩ e R acc (.ptr ds)
 | d=>aH d=true/\dW C hs K ns dst ⟨⟩ e R acc (.ptr [d])
@[simp] theorem Dc{k n}:eA (.int k n)=[.int k n]:=zR
@[simp] theorem Fw{f:Nat->D}{es}:fN f [] es=es:=zR
@[simp] theorem Do{f:Nat->D}{p ps es}:fN f (p::ps) es=fN f ps (es.set p.1 (eA (vd f p.2))):=zR
@[simp] theorem IK{sz len zs parts v1}:opW C hs K ns dst (.blsF sz len zs parts) v1 e R acc=((∀p∈parts,p.1<len/\(eA (vd (ab e) p.2)).length=sz/\∀c∈eA (vd (ab e) p.2),aH c=true)/\0<len /\
   (∀r∈fN (ab e) parts (List.replicate len zs),∀c∈r,aH c=true)/\dW C hs K ns dst ⟨⟩ e R acc (.sl (fN (ab e) parts (List.replicate len zs)))):=zR
attribute [simp] Dd
@[simp] theorem IL{x v1}:opW C hs K ns dst (.boxF x) v1 e R acc=oE C hs K ns dst ⟨⟩ e R acc (vd (ab e) x):=zR
@[simp] theorem G0{ds}:oE C hs K ns dst u e R acc (.agx ds)=dW C hs K ns dst ⟨⟩ e R acc (.ptx ds):=zR
@[simp] theorem GZ{ds}:oE C hs K ns dst u e R acc (.agg ds)=dW C hs K ns dst ⟨⟩ e R acc (.ptr ds):=zR
@[simp] theorem G1{k n}:oE C hs K ns dst u e R acc (.int k n)=dW C hs K ns dst ⟨⟩ e R acc (.ptr [.int k n]):=by simp[oE]
@[simp] theorem Fe:oE C hs K ns dst u e R acc .nils=dW C hs K ns dst ⟨⟩ e R acc (.ptr [.nils]):=by simp[oE]
@[simp] theorem JH{es}:oE C hs K ns dst u e R acc (.sl es)=dW C hs K ns dst ⟨⟩ e R acc (.ptr [.sl es]):=by simp[oE]
@[simp] theorem G2{b es}:oE C hs K ns dst u e R acc (slx b es)=dW C hs K ns dst ⟨⟩ e R acc (.ptr [slx b es]):=by
 rcases jA b es with h|⟨h,_⟩<;>rw[h]<;>simp
@[simp] theorem Lg{x v1}:opW C hs K ns dst (.len x) v1 e R acc=vR (vd (ab e) x) (fun n=>dW C hs K ns dst ⟨⟩ e R acc (.int .i64 n)) ⟨⟩:=by
 show res (ab e) _ (.len x)=_
 simp only[res,vR]
 cases vd (ab e) x<;>rfl
def vP(C:CC)(hs:Option (List Nat))(K:Env->Prop)(ns:List ay)(dst:Option Nat)(_:Tag (hs,K,ns))(e:Env)(R:List Nat)(acc:List (List Nat×List Nat))(sz:Nat)(x i:D):Prop:=match (generalizing:=false) x,i with
  | .sl es,.int _ j=>0<=j/\mF C hs K ns dst ⟨⟩ e R acc sz es j.toNat
  | .slv _ es,.int _ j=>0<=j/\mF C hs K ns dst ⟨⟩ e R acc sz es j.toNat
  | .rfx n sz' ds,.int _ j=>0<=j/\j.toNat<n/\sz'=sz/\dW C hs K ns dst ⟨⟩ e R acc (.ptx (ds.drop (j.toNat*sz)))
  | .ref p k n,.int _ j=>0<=j/\j.toNat<n/\match (generalizing:=false) aQ (ab e) p with
   | some (sz',_)=>sz'=sz/\dW C hs K ns dst ⟨⟩ e R acc (.adr p (k+j.toNat) 0)
   | none=>False
  | _,_=>False
@[simp] theorem IQ{sz x i v1}:opW C hs K ns dst (.iadS sz x i) v1 e R acc=vP C hs K ns dst ⟨⟩ e R acc sz (vd (ab e) x) (vd (ab e) i):=zR
@[simp] theorem J1{sz es k j}:vP C hs K ns dst u e R acc sz (.sl es) (.int k j)=(0<=j/\mF C hs K ns dst ⟨⟩ e R acc sz es j.toNat):=zR
@[simp] theorem HL{sz q es k j}:vP C hs K ns dst u e R acc sz (.slv q es) (.int k j)=(0<=j/\mF C hs K ns dst ⟨⟩ e R acc sz es j.toNat):=zR
@[simp] theorem HM{sz b es k j}:vP C hs K ns dst u e R acc sz (slx b es) (.int k j)=(0<=j/\mF C hs K ns dst ⟨⟩ e R acc sz es j.toNat):=by
 rcases jA b es with h|⟨h,rfl⟩
 ·rw[h];rfl
 ·rw[h];simp[vP,mF]
@[simp] theorem HK{sz p k n k' j}:vP C hs K ns dst u e R acc sz (.ref p k n) (.int k' j)=(0<=j/\j.toNat<n/\match (generalizing:=false) aQ (ab e) p with
   | some (sz',_)=>sz'=sz/\dW C hs K ns dst ⟨⟩ e R acc (.adr p (k+j.toNat) 0)
   | none=>False):=zR
def Ez(C:CC)(hs:Option (List Nat))(K:Env->Prop)(ns:List ay)(dst:Option Nat)(_:Tag (hs,K,ns))(e:Env)(R:List Nat)(acc:List (List Nat×List Nat))(sz:Nat)(x:D)(lo hi:Option Opd):Prop:=match (generalizing:=false) x with
  | .sl es=>(∀e∈es,e.length=sz)/\fd (ab e) hi es.length (fun h=>fd (ab e) lo 0 (fun l=>l<=h/\h<=es.length/\dW C hs K ns dst ⟨⟩ e R acc (.sl ((es.take h).drop l))) ⟨⟩) ⟨⟩
  | .nils=>fd (ab e) hi 0 (fun h=>fd (ab e) lo 0 (fun l=>l<=h/\h<=0/\dW C hs K ns dst ⟨⟩ e R acc (.sl [])) ⟨⟩) ⟨⟩
  | .ref p k n=>match (generalizing:=false) aQ (ab e) p with
   | some (sz',_)=>sz'=sz/\fd (ab e) hi n (fun h=>fd (ab e) lo 0 (fun l=>l<=h/\h<=n/\dW C hs K ns dst ⟨⟩ e R acc (.ref p (k+l) (h-l))) ⟨⟩) ⟨⟩
   | none=>False
  | _=>False
@[simp] theorem Lr{sz x lo hi v1}:opW C hs K ns dst (.slc sz x lo hi) v1 e R acc=Ez C hs K ns dst ⟨⟩ e R acc sz (vd (ab e) x) lo hi:=zR
@[simp] theorem Lu{sz es lo hi}:Ez C hs K ns dst u e R acc sz (.sl es) lo hi=((∀e∈es,e.length=sz)/\fd (ab e) hi es.length (fun h=>fd (ab e) lo 0 (fun l=>l<=h/\h<=es.length/\dW C hs K ns dst ⟨⟩ e R acc (.sl ((es.take h).drop l))) ⟨⟩) ⟨⟩):=zR
@[simp] theorem Jg{sz p k n lo hi}:Ez C hs K ns dst u e R acc sz (.ref p k n) lo hi=(match (generalizing:=false) aQ (ab e) p with
   | some (sz',_)=>sz'=sz/\fd (ab e) hi n (fun h=>fd (ab e) lo 0 (fun l=>l<=h/\h<=n/\dW C hs K ns dst ⟨⟩ e R acc (.ref p (k+l) (h-l))) ⟨⟩) ⟨⟩
   | none=>False):=zR
@[simp] theorem Gm{x xs v1}:opW C hs K ns dst (.callv x xs) v1 e R acc=(match (generalizing:=false) vd (ab e) x with
  | .fn g cs=>(∀x∈xs,bS (ab e) (vd (ab e) x))/\rg C g hs K ns dst ⟨⟩ e R acc (xs.all fun x=>isV (vd (ab e) x)) (xs.map (dpv (ab e))++cs)
  | .fnx g cs=>(∀x∈xs,bS (ab e) (vd (ab e) x))/\(∀c∈cs,bu (ab e) c)/\rg C g hs K ns dst ⟨⟩ e R acc false (xs.map (dpv (ab e))++cs.map (dp1 (ab e)))
  | _=>False):=by
 simp only[opW,aB,rg,df,x0j,or_false]
 cases vd (ab e) x<;>rfl
def mpT(x:D)(K:Nat->Nat->List D->List D->Prop)(_:Tag K):Prop:=match x with
 | .mp kt et ks vs=>K kt et ks vs
 | _=>False
@[simp] theorem Mz{kt et ks vs K u}:mpT (.mp kt et ks vs) K u=K kt et ks vs:=zR
@[simp] theorem Li{kt et t v1}:opW C hs K ns (some t) (.mkm kt et) v1 e R acc=doW C hs K ns ⟨⟩ e R acc [(t,.mrf (rt t 0)),(rt t 0,.mp kt et [] [])] [(rt t 0,true)]:=zR
def mlM(C:CC)(hs:Option (List Nat))(K:Env->Prop)(ns:List ay)(dst:Option Nat)(_:Tag (hs,K,ns))(e:Env)(R:List Nat)(acc:List (List Nat×List Nat))(sh:KSh)(kt et:Nat)(ok:Bool)(z x m:D):Prop:=match m with
 | .mrf b=>mpT (ab e b) (fun kt' et' ks vs=>kt'=kt/\et'=et/\dK sh x/\match ok with
    | true=>dW C hs K ns dst ⟨⟩ e R acc (.tup [(cJ ks vs x).getD z,.bool (cJ ks vs x).isSome])
    | false=>dW C hs K ns dst ⟨⟩ e R acc ((cJ ks vs x).getD z)) ⟨⟩
 | _=>False
@[simp] theorem KJ{sh kt et ok z x b}:mlM C hs K ns dst u e R acc sh kt et ok z x (.mrf b)=mpT (ab e b) (fun kt' et' ks vs=>kt'=kt/\et'=et/\dK sh x/\match ok with
    | true=>dW C hs K ns dst ⟨⟩ e R acc (.tup [(cJ ks vs x).getD z,.bool (cJ ks vs x).isSome])
    | false=>dW C hs K ns dst ⟨⟩ e R acc ((cJ ks vs x).getD z)) ⟨⟩:=zR
@[simp] theorem Ll{sh kt et ok z m x v1}:opW C hs K ns dst (.mpl sh kt et ok z m x) v1 e R acc=mlM C hs K ns dst ⟨⟩ e R acc sh kt et ok z (vd (ab e) x) (vd (ab e) m):=by
 show res (ab e) _ (.mpl sh kt et ok z m x)=_
 simp only[res,mlM]
 cases vd (ab e) m<;>rfl
def muM(C:CC)(hs:Option (List Nat))(K:Env->Prop)(ns:List ay)(_:Tag (hs,K,ns))(e:Env)(R:List Nat)(acc:List (List Nat×List Nat))(sh:KSh)(kt et:Nat)(z x v m:D):Prop:=match m with
 | .mrf b=>mpT (ab e b) (fun kt' et' ks vs=>kt'=kt/\et'=et/\ks.length<maxLen/\dK sh x/\i5 z v/\doW C hs K ns ⟨⟩ e R acc [(b,.mp kt et (x::ks) (v::vs))] []) ⟨⟩
 | _=>False
@[simp] theorem KM{sh kt et z x v b}:muM C hs K ns u e R acc sh kt et z x v (.mrf b)=mpT (ab e b) (fun kt' et' ks vs=>kt'=kt/\et'=et/\ks.length<maxLen/\dK sh x/\i5 z v/\doW C hs K ns ⟨⟩ e R acc [(b,.mp kt et (x::ks) (v::vs))] []) ⟨⟩:=zR
@[simp] theorem Lm{sh kt et z m x v v1}:opW C hs K ns dst (.mpu sh kt et z m x v) v1 e R acc=(dst=none/\muM C hs K ns ⟨⟩ e R acc sh kt et z (vd (ab e) x) (vd (ab e) v) (vd (ab e) m)):=by
 show(dst=none/\_)=_
 congr 1
end
@[simp] theorem Cq{q n ds}:dK (.ints q n) (.agg ds)=(ds.length=n/\∀d∈ds,∃x,d=.int q x/\rK q x):=zR
@[simp] theorem Dj{b z}:i5 (.bool z) (.bool b)=True:=zR
@[simp] theorem Fv{q q' n z}:i5 (.int q z) (.int q' n)=(q'=q/\rK q n):=zR
@[simp] theorem HQ{n:Int}:rK .i64 n=(-9223372036854775808<=n/\n<=9223372036854775807):=by
 have e1:IntKind.i64.min=-9223372036854775808:=rfl
 have e2:IntKind.i64.max=9223372036854775807:=rfl
 simp[rK,Lit.wf,e1,e2]
attribute [simp] je fR bZ fQ cF bT aW fx yk okR tN kC cB
attribute [simp] vd params dw jX Es n9 kB kR wa prune j5 isC gL aQ bE dpv bB stK a7 rt chk rdS rdR frR fwR gq rdN fL wrK mnR Ek ldN ai jd rH wOk Pa.root cq bD
end Go.Gv

namespace Go.Gv
def ja(c:Int):Bool:=(97<=c&&c<=122)||(65<=c&&c<=90)
def mM(c:Int):Bool:=48<=c&&c<=57
def f8(c:UInt8):Bool:=ja c.toNat||mM c.toNat||c.toNat==95
def c9(s:List UInt8):Nat:=(s.takeWhile f8).length
def mE(n:Int):Bool:=-1125899906842624<=n&&n<=1125899906842624
def jT(s:List UInt8):Bool:=s≠[]&&s.length<=20&&ja (s[0]!).toNat&&c9 s==s.length
theorem ue(s:List UInt8):c9 s<=s.length:=by unfold c9;exact(List.takeWhile_prefix _).length_le
theorem t7{α:Type}(p:α->Bool):∀(s:List α) (i:Nat) (h:i<s.length),i<=(s.takeWhile p).length->(p s[i]=true->i+1<=(s.takeWhile p).length)/\(p s[i]=false->i=(s.takeWhile p).length)
 | [],i,h,_=>by simp at h
 | x::s,0,h,_=>by
  constructor<;>intro h1<;>simp at h1<;>simp[h1]
 | x::s,i+1,h,h2=>by
  rw[List.takeWhile_cons]at h2 ⊢
  split at h2
  ·rename_i hp
   simp only[hp,if_true,x0F,List.getElem_cons_succ]at h2 ⊢
   have:=t7 p s i (by simpa using h) (by omega)
   exact⟨fun e=>by have:=this.1 e;omega,fun e=>by have:=this.2 e;omega⟩
  ·simp at h2
theorem qU{s:List UInt8}{i:Nat}(h:i<s.length)(hi:i<=c9 s):f8 s[i]=true->i+1<=c9 s:=(t7 f8 s i h hi).1
theorem qV{s:List UInt8}{i:Nat}(h:i<s.length)(hi:i<=c9 s):f8 s[i]=false->i=c9 s:=(t7 f8 s i h hi).2
theorem ah{n m:Int}(h:n=m)(h2:-9223372036854775808<=m/\m<9223372036854775808):IntKind.wrap .i64 n=m:=by
 subst h
 have e1:IntKind.i64.signed=true:=rfl
 have e2:(2^(IntKind.i64.bits-1):Int)=9223372036854775808:=rfl
 have e3:(2^IntKind.i64.bits:Int)=18446744073709551616:=rfl
 unfold IntKind.wrap
 simp only[e1,e2,e3,x1G,x0b]
 split<;>omega
variable{C:CC}(hC:av prog C)
include hC
theorem Al(c:Int):C 88 [.int .u8 c] (.bool (mM c)) []:=by
 refine az hC (nf:=N88) rfl rfl ?_
 simp[N88,mM]
 refine aj (fun h=>?_) (fun h=>?_)<;>simp at h<;>simp[h]<;>omega
theorem rP(c:Int):C 70 [.int .u8 c] (.bool (ja c)) []:=by
 refine az hC (nf:=N70) rfl rfl ?_
 simp[N70,ja]
 repeat' (refine aj (fun h=>?_) (fun h=>?_)<;>simp at h<;>simp[h]<;>try omega)
theorem EV(s:List UInt8)(hs:s.length<2^62):C 71 [.str s] (.int .i64 (c9 s)) []:=by
 refine az hC (nf:=N71) rfl rfl ?_
 simp[N71]
 refine aC Nat (fun i=>[(0,.str s),(3,.int .i64 i)]) (fun i=>i<=c9 s) (fun i=>c9 s-i) 0 (by simp) (by simp) ?_
 intro i hi
 have hle:c9 s<=s.length:=ue s
 by_cases hl:i<s.length
 ·simp[hl]
  refine aa (rP hC _) (.inl rfl) ?_
  have hstep:f8 s[i]=true->i+1<=c9 s:=qU hl hi
  have hstop:f8 s[i]=false->i=c9 s:=qV hl hi
  simp only[f8]at hstep hstop
  have hw:IntKind.wrap .i64 ((i:Int)+1)=((i+1:Nat):Int):=ah (by omega) (by omega)
  cases h1:ja s[i].toNat with
  | true =>
   simp[h1,hw]at hstep ⊢
   exact⟨i+1,by omega,by omega,rfl⟩
  | false =>
   simp[h1,hl]
   refine aa (Al hC _) (.inl rfl) ?_
   cases h2:mM s[i].toNat with
   | true =>
    simp[h1,h2,hw]at hstep ⊢
    exact⟨i+1,by omega,by omega,rfl⟩
   | false =>
    simp[hl]
    refine aj (fun h3=>?_) (fun h3=>?_)<;>simp at h3
    ·simp[hw,hl]
     have:=hstep (by simp[show s[i].toNat=95 by omega])
     exact⟨i+1,this,by omega,rfl⟩
    ·have h4:¬s[i].toNat=95:=by omega
     simp[h1,h2,h4]at hstop ⊢
     omega
 ·simp[hl]
  have:i=c9 s:=by omega
  omega
theorem wD(s:List UInt8):C 58 [.str s] (.bool (jT s)) []:=by
 refine az hC (nf:=N58) rfl rfl ?_
 simp[N58]
 refine aj (fun h=>?_) (fun h=>?_)<;>simp at h
 ·have hp:0<s.length:=List.length_pos_iff.2 h
  simp[h,hp]
  refine aj (fun h2=>?_) (fun h2=>?_)<;>simp at h2
  ·simp[h2,hp]
   refine aa (rP hC _) (.inl rfl) ?_
   simp
   refine aj (fun h3=>?_) (fun h3=>?_)
   ·simp[h3,h2]
    refine aa (EV hC s (by omega)) (.inl rfl) ?_
    simp[jT,h,h3,show s.length<=20 by omega,hp,Int.ofNat_inj]
    rw[x0S];simp
   ·simp[jT,h,h3,hp]
  ·simp[h2,jT]
   omega
 ·subst h
  simp[jT]
end Go.Gv

namespace Go.Gv
structure SlI where
 n:Bool
 l:List Int
 deriving Inhabited
structure Sec where
 name:List UInt8
 height:Int
 price:Int
 areaN:Bool
 area:List (Int×Int)
 convN:Bool
 conv:List (Int×Int)
 deriving Inhabited
def gA{α:Type}(p:α->Bool)(xs:List α):Int:=match xs.findIdx? p with
 | some i=>i
 | none=>-1
theorem dT{α:Type}{p:α->Bool}{xs:List α}{i:Nat}(hj:∀(j:Nat) (h:j<xs.length),j<i->p xs[j]=false)(hi:i<xs.length)(h:p xs[i]=true):gA p xs=i:=by
 have:xs.findIdx? p=some i:=by
  rw[x1F]
  exact⟨hi,h,fun j hji=>by simp[hj j (by omega) hji]⟩
 simp[gA,this]
theorem dS{α:Type}{p:α->Bool}{xs:List α}(hj:∀(j:Nat) (h:j<xs.length),p xs[j]=false):gA p xs=-1:=by
 have:xs.findIdx? p=none:=by
  rw[List.findIdx?_eq_none_iff]
  intro x hx
  obtain⟨j,h,rfl⟩:=x0H.1 hx
  exact hj j h
 simp[gA,this]
theorem gT{α:Type}(p:α->Bool)(xs:List α):decide (0<=gA p xs)=xs.any p:=by
 unfold gA
 split
 ·rename_i i h
  rw[x1F]at h
  obtain⟨h1,h2,_⟩:=h
  have:xs.any p=true:=x0P.2 ⟨_,x0u h1,h2⟩
  simp[this]
 ·rename_i h
  rw[List.findIdx?_eq_none_iff]at h
  have:xs.any p=false:=by rw[x1h];intro x hx;simp[h x hx]
  simp[this]
variable{C:CC}(hC:av prog C)
include hC
theorem xS{b:Bool}{xs:List Int}{g:Nat}{cs:List D}(p:Int->Bool)(hs:xs.length<2^62)(hp:∀x∈xs,C g (.int .i64 x::cs) (.bool (p x)) []):C 35 [slx b (xs.map fun x=>[.int .i64 x]),.fn g cs] (.int .i64 (gA p xs)) []:=by
 refine az hC (nf:=N35) rfl rfl ?_
 simp[N35]
 refine aC Nat (fun i=>[(0,slx b (xs.map fun x=>[.int .i64 x])),(1,.fn g cs),(7,.int .i64 xs.length),(8,.int .i64 i)]) (fun i=>i<=xs.length/\∀(j:Nat) (h:j<xs.length),j<i->p xs[j]=false) (fun i=>xs.length-i) 0 (by simp) (by simp) ?_
 rintro i ⟨hi,hj⟩
 simp
 refine aj (fun h=>?_) (fun h=>?_)<;>simp[h]<;>simp at h
 ·have hw:IntKind.wrap .i64 ((i:Int)+1)=((i+1:Nat):Int):=ah (by omega) (by omega)
  have hc:=hp _ (x0u h)
  simp[h,x1u]at hc ⊢
  refine aa hc (.inl rfl) ?_
  simp
  refine aj (fun h1=>?_) (fun h1=>?_)<;>simp[h1,hw]
  ·rw[dT hj h h1]
  ·refine⟨i+1,⟨by omega,fun j hl hjj=>?_⟩,by omega,rfl⟩
   rcases x1f.1 hjj with h2|rfl
   ·exact hj j hl h2
   ·exact h1
 ·rw[dS (fun j hl=>hj j hl (by omega))]
theorem fP{b:Bool}{xs:List Int}{g:Nat}{cs:List D}(p:Int->Bool)(hs:xs.length<2^62)(hp:∀x∈xs,C g (.int .i64 x::cs) (.bool (p x)) []):C 11 [slx b (xs.map fun x=>[.int .i64 x]),.fn g cs] (.bool (xs.any p)) []:=by
 refine az hC (nf:=N11) rfl rfl ?_
 simp[N11]
 refine aa (xS hC p hs hp) (.inl rfl) ?_
 simp[gT]
end Go.Gv

namespace Go.Gv
section
variable{C:CC}
theorem jw{f:Nat->D}{dst:Option Nat}{K K':KT}{o:NOp}(h:aB C f dst K o)(hk:∀ws ks,K ws ks->K' ws ks):aB C f dst K' o:=by
 obtain⟨ws,ks,h1,h2⟩:=n8 h
 exact h2 K' (hk ws ks h1)
theorem iD{e:Env}{dst:Option Nat}{K K':Env->Prop}(h:gk e dst K)(hk:∀e,K e->K' e):gk e dst K':=by
 unfold gk at h ⊢
 split at h
 ·exact hk _ h
 ·exact hk _ h
theorem il{K K':Env->Prop}(hk:∀e,K e->K' e):∀(ns:List ay) (e:Env),ik C K ns e->ik C K' ns e
 | [],e,h=>hk e h
 | o::os,e,h=>by
  rw[ik]at h ⊢
  split at h
  ·exact jw h (fun ws ks h1=>il hk os _ h1)
  ·split at h
   ·exact⟨fun hb=>jw (h.1 hb) (fun ws ks h1=>il hk os _ h1),fun hb=>iD (h.2 hb) (fun e h1=>il hk os e h1)⟩
   ·exact iD h (fun e h1=>il hk os e h1)
   ·exact h.elim
theorem ij{hs:List Nat}{K K':Env->Prop}(hk:∀e,K e->K' e):∀(ns:List ay) (e:Env) (acc:List (List Nat×List Nat)),iN C hs K ns e acc->iN C hs K' ns e acc
 | [],e,acc,h=>⟨h.1,hk e h.2⟩
 | o::os,e,acc,h=>by
  rw[iN]at h ⊢
  refine⟨h.1,?_⟩
  have h:=h.2
  split at h
  ·exact jw h (fun ws ks h1=>⟨h1.1,ij hk os _ _ h1.2⟩)
  ·split at h
   ·exact⟨fun hb=>jw (h.1 hb) (fun ws ks h1=>⟨h1.1,ij hk os _ _ h1.2⟩),fun hb=>iD (h.2 hb) (fun e h1=>ij hk os e _ h1)⟩
   ·exact iD h (fun e h1=>ij hk os e _ h1)
   ·exact h.elim
theorem d6:∀(c:cv) (Q Q':cd->Env->Prop) (e:Env),(∀t e,Q t e->Q' t e)->wpN C c Q e->wpN C c Q' e
 | .skip,Q,Q',e,hq,h=>hq _ _ h
 | .reg dr hs keep ops,Q,Q',e,hq,h=>by
  cases dr with
  | false=>exact il (fun e h=>hq _ _ h) ops e h
  | true=>exact ij (fun e h=>hq _ _ h) ops e [] h
 | .seq x y,Q,Q',e,hq,h=>d6 x _ _ e (fun t e h=>by
   cases t with
   | nrm=>exact d6 y Q Q' e hq h
   | ext i=>exact hq _ _ h
   | ret=>exact hq _ _ h) h
 | .cond c x y,Q,Q',e,hq,h=>by
  rw[wpN]at h ⊢
  split at h
  ·exact⟨fun hb=>d6 x Q Q' e hq (h.1 hb),fun hb=>d6 y Q Q' e hq (h.2 hb)⟩
  ·exact⟨d6 x Q Q' e hq h.1,d6 y Q Q' e hq h.2⟩
  ·exact h.elim
 | .block id c,Q,Q',e,hq,h=>d6 c _ _ e (fun t e h=>by
   cases t with
   | nrm=>exact hq _ _ h
   | ext i =>
    simp only at h ⊢
    split
    ·rename_i hi;rw[if_pos hi]at h;exact hq _ _ h
    ·rename_i hi;rw[if_neg hi]at h;exact hq _ _ h
   | ret=>exact hq _ _ h) h
 | .loop c,Q,Q',e,hq,h=>by
  obtain⟨S,G,I,m,s0,h1,h2,h3⟩:=h
  refine⟨S,G,I,m,s0,h1,h2,fun s hs=>d6 c _ _ _ (fun t e h=>?_) (h3 s hs)⟩
  cases t with
  | nrm=>exact h
  | ext i=>exact hq _ _ h
  | ret=>exact hq _ _ h
 | .exit id,Q,Q',e,hq,h=>hq _ _ h
 | .ret,Q,Q',e,hq,h=>hq _ _ h
def A4(id:Nat)(S:Type)(G:S->Env)(J:S->Prop)(Q:cd->Env->Prop):cd->Env->Prop:=fun t e=>match t with
 | .ext i=>if i=id then ∃s,J s/\j5 e (G s) else Q (.ext i) e
 | t=>Q t e
variable{Q:cd->Env->Prop}{e:Env}
@[simp] theorem As{id S G J u i}:dC (A4 id S G J Q) u (.ext i) e=if i=id then ∃s,J s/\j5 e (G s) else dC Q ⟨⟩ (.ext i) e:=zR
theorem rV{c:cv}{u:Tag (c,Q)}(id:Nat)(S:Type)(G:S->Env)(J:S->Prop)(h:uP C c (A4 id S G J Q) ⟨⟩ e)(hr:∀s e,J s->j5 e (G s)->dC Q ⟨⟩ (.ext id) e):uP C c Q u e :=
 d6 (.loop c) (A4 id S G J Q) Q e (fun t e g=>by
  cases t with
  | nrm=>exact g
  | ret=>exact g
  | ext i =>
   simp only[A4]at g
   by_cases hi:i=id
   ·rw[if_pos hi]at g
    obtain⟨s,h1,h2⟩:=g
    rw[hi]
    exact hr s e h1 h2
   ·rw[if_neg hi]at g
    exact g) h
end
@[simp] theorem Ja{C:CC}{hs:Option (List Nat)}{K:Env->Prop}{ns:List ay}{dst:Option Nat}{u:Tag (hs,K,ns)}{e:Env}{R:List Nat}{acc:List (List Nat×List Nat)}{α:Type}[Inhabited α]{n:Nat}{ag:Bool}{p:Pa}{xs:List α}{f:α->List D}{i off:Nat} :
  tP C hs K ns dst u e R acc n ag p (xs.map f) i off=(i<xs.length/\off+n<=(f xs[i]!).length/\match ag with
    | true=>((((f xs[i]!).drop off).take n).all isV=true->dW C hs K ns dst ⟨⟩ e R acc (.agg (((f xs[i]!).drop off).take n))) /\
      ((((f xs[i]!).drop off).take n).all isV=false->dW C hs K ns dst ⟨⟩ e R acc (.agx ((((f xs[i]!).drop off).take n).mapIdx fun j c=>ldc p i (off+j) c)))
    | false=>dW C hs K ns dst ⟨⟩ e R acc (ldc p i off (((f xs[i]!).drop off).headD .any))):=by
 apply propext
 constructor
 ·rintro⟨r,h,h1,h2⟩
  rw[x0y,x0i]at h
  obtain⟨x,hx,rfl⟩:=h
  obtain⟨hi,rfl⟩:=x0c.1 hx
  rw[x0K xs i hi]
  refine⟨hi,h1,?_⟩
  cases ag<;>exact h2
 ·rintro⟨hi,h1,h2⟩
  rw[x0K xs i hi]at h1 h2
  refine kW (r:=f xs[i]) (by rw[x0y,x0e hi];rfl) h1 ?_
  cases ag<;>exact h2
@[simp] theorem FZ{b all ks n}:bf ((b,all)::ks) (.ptx n)=if n.any (aO b all) then .any else bf ks (.ptx n):=by
 have h:bf ((b,all)::ks) (.ptx n)=bif (n.any (aO b all)||aG ks (.ptx n)) then .any else .ptx n:=cU ..
 rw[h,cU]
 cases n.any (aO b all)<;>rfl
@[simp] theorem Gb{b all n es}:aO b all (slx n es)=false:=by cases n<;>cases es<;>rfl
@[simp] theorem Ga{b all p k n}:aO b all (.ref p k n)=a7 b all p:=zR
@[simp] theorem F9{b all k n}:aO b all (.int k n)=false:=zR
@[simp] theorem DU{b all n}:aO b all (.bool n)=false:=zR
@[simp] theorem Gc{b all n}:aO b all (.str n)=false:=zR
@[simp] theorem DV{b all}:aO b all .nils=false:=zR
@[simp] theorem Ix{b all n}:aO b all (.sl n)=false:=zR
@[simp] theorem FW{b all ks c}:bf ((b,all)::ks) (.mrf c)=if (all&&c==b) then .any else bf ks (.mrf c):=by
 have h:bf ((b,all)::ks) (.mrf c)=bif ((all&&c==b)||aG ks (.mrf c)) then .any else .mrf c:=cU ..
 rw[h,cU]
 cases all&&c==b<;>rfl
end Go.Gv

namespace Go.Gv
section
variable{C:CC}{hs:Option (List Nat)}{K:Env->Prop}{ns:List ay}{dst:Option Nat}{u:Tag (hs,K,ns)}{e:Env}{R:List Nat}{acc:List (List Nat×List Nat)}
theorem aD{sz:Nat}{es:List (List D)}{i:Nat}{c:List D}(h:es[i]? = some c):mF C hs K ns dst u e R acc sz es i=(c.length=sz/\dW C hs K ns dst ⟨⟩ e R acc (.ptr c)):=by
 apply propext
 unfold mF dW
 rw[h]
 exact⟨fun⟨_,h1,h2⟩=>by cases h1;exact h2,fun h2=>⟨c,rfl,h2⟩⟩
theorem cx{n:Nat}{ag:Bool}{p:Pa}{es:List (List D)}{i off:Nat}{r:List D}(hr:es[i]? = some r):tP C hs K ns dst u e R acc n ag p es i off=(off+n<=r.length/\match ag with
    | true=>(((r.drop off).take n).all isV=true->dW C hs K ns dst ⟨⟩ e R acc (.agg ((r.drop off).take n))) /\
      (((r.drop off).take n).all isV=false->dW C hs K ns dst ⟨⟩ e R acc (.agx (((r.drop off).take n).mapIdx fun j c=>ldc p i (off+j) c)))
    | false=>dW C hs K ns dst ⟨⟩ e R acc (ldc p i off ((r.drop off).headD .any))):=by
 apply propext
 constructor
 ·rintro⟨r',h,h1,h2⟩
  rw[hr]at h
  cases h
  refine⟨h1,?_⟩
  cases ag<;>exact h2
 ·rintro⟨h1,h2⟩
  refine kW hr h1 ?_
  cases ag<;>exact h2
@[simp] theorem HN{sz:Nat}{c0:List D}{es:List (List D)}:mF C hs K ns dst u e R acc sz (c0::es) 0=(c0.length=sz/\dW C hs K ns dst ⟨⟩ e R acc (.ptr c0)):=aD rfl
theorem yJ{n:Nat}{ag:Bool}{p:Pa}{off:Nat}{c0:List D}{es:List (List D)}:tP C hs K ns dst u e R acc n ag p (c0::es) 0 off=(off+n<=c0.length/\match ag with
    | true=>(((c0.drop off).take n).all isV=true->dW C hs K ns dst ⟨⟩ e R acc (.agg ((c0.drop off).take n))) /\
      (((c0.drop off).take n).all isV=false->dW C hs K ns dst ⟨⟩ e R acc (.agx (((c0.drop off).take n).mapIdx fun j c=>ldc p 0 (off+j) c)))
    | false=>dW C hs K ns dst ⟨⟩ e R acc (ldc p 0 off ((c0.drop off).headD .any))):=cx rfl
@[simp] theorem HO{sz:Nat}{c0 c1:List D}{es:List (List D)}:mF C hs K ns dst u e R acc sz (c0::c1::es) 1=(c1.length=sz/\dW C hs K ns dst ⟨⟩ e R acc (.ptr c1)):=aD rfl
theorem yK{n:Nat}{ag:Bool}{p:Pa}{off:Nat}{c0 c1:List D}{es:List (List D)}:tP C hs K ns dst u e R acc n ag p (c0::c1::es) 1 off=(off+n<=c1.length/\match ag with
    | true=>(((c1.drop off).take n).all isV=true->dW C hs K ns dst ⟨⟩ e R acc (.agg ((c1.drop off).take n))) /\
      (((c1.drop off).take n).all isV=false->dW C hs K ns dst ⟨⟩ e R acc (.agx (((c1.drop off).take n).mapIdx fun j c=>ldc p 1 (off+j) c)))
    | false=>dW C hs K ns dst ⟨⟩ e R acc (ldc p 1 off ((c1.drop off).headD .any))):=cx rfl
theorem yL{n:Nat}{ag:Bool}{p:Pa}{off:Nat}{c0 c1 c2:List D}{es:List (List D)}:tP C hs K ns dst u e R acc n ag p (c0::c1::c2::es) 2 off=(off+n<=c2.length/\match ag with
    | true=>(((c2.drop off).take n).all isV=true->dW C hs K ns dst ⟨⟩ e R acc (.agg ((c2.drop off).take n))) /\
      (((c2.drop off).take n).all isV=false->dW C hs K ns dst ⟨⟩ e R acc (.agx (((c2.drop off).take n).mapIdx fun j c=>ldc p 2 (off+j) c)))
    | false=>dW C hs K ns dst ⟨⟩ e R acc (ldc p 2 off ((c2.drop off).headD .any))):=cx rfl
attribute [simp] yJ yK yL
end
end Go.Gv

namespace Go.Gv
structure Spt where
 x:Int
 y:Int
 z:Int
 deriving Inhabited,DecidableEq
structure Fce where
 a:Int
 b:Int
 c:Int
 k:Int
 deriving Inhabited,DecidableEq
structure Msh where
 sn:Bool
 s:List Spt
 fn:Bool
 f:List Fce
def ol(s:Spt):List D:=[.int .i64 s.x,.int .i64 s.y,.int .i64 s.z]
def cu(f:Fce):List D:=[.int .i64 f.a,.int .i64 f.b,.int .i64 f.c,.int .i64 f.k]
def b0(m:Msh):List D:=[slx m.sn (m.s.map ol),slx m.fn (m.f.map cu)]
theorem gm(s:Spt):ol s=[.int .i64 s.x,.int .i64 s.y,.int .i64 s.z]:=zR
theorem aP(f:Fce):cu f=[.int .i64 f.a,.int .i64 f.b,.int .i64 f.c,.int .i64 f.k]:=zR
theorem af(m:Msh):b0 m=[slx m.sn (m.s.map ol),slx m.fn (m.f.map cu)]:=zR
def spt(m:Msh)(i:Nat):Spt:=m.s[i]!
def fce(m:Msh)(i:Nat):Fce:=m.f[i]!
@[simp high] theorem MJ(m:Msh)(i:Nat):m.s[i]! = spt m i:=zR
@[simp high] theorem Mk(m:Msh)(i:Nat):m.f[i]! = fce m i:=zR
@[simp] theorem nu(m:Msh)(i:Nat)(h:i<m.f.length):m.f[i]=fce m i:=(x0K m.f i h).symm
abbrev Pnt:=Int×Int
def ptD(p:Pnt):List D:=[.int .i64 p.1,.int .i64 p.2]
def ptS(s:Spt):Pnt:=(s.x,s.y)
def okP(p:Pnt):Bool:=-16777216<=p.1&&p.1<=16777216&&-16777216<=p.2&&p.2<=16777216
def bG(s:Spt):Bool:=-16777216<=s.x&&s.x<=16777216&&-16777216<=s.y&&s.y<=16777216&&-4194304<=s.z&&s.z<=4194304
theorem qx{s:Spt}(h:bG s=true):okP (ptS s)=true:=by
 simp only[bG,x0a,x0b]at h
 show okP (s.x,s.y)=true
 simp[okP]
 omega
def dV(a b c:Pnt):Int:=(b.1-a.1)*(c.2-a.2)-(b.2-a.2)*(c.1-a.1)
theorem jW{a b k l:Int}(h1:-k<=a)(h2:a<=k)(h3:-l<=b)(h4:b<=l):-(k*l)<=a*b/\a*b<=k*l:=by
 have hk:0<=k:=by omega
 have hl:0<=l:=by omega
 have e1:=x1x (show 0<=k-a by omega) (show 0<=l-b by omega)
 have e2:=x1x (show 0<=k+a by omega) (show 0<=l+b by omega)
 have e3:=x1x (show 0<=k-a by omega) (show 0<=l+b by omega)
 have e4:=x1x (show 0<=k+a by omega) (show 0<=l-b by omega)
 simp only[Int.sub_mul,Int.mul_sub,Int.add_mul,Int.mul_add]at e1 e2 e3 e4
 omega
theorem dD{p:Pnt}(h:okP p=true):-16777216<=p.1/\p.1<=16777216/\-16777216<=p.2/\p.2<=16777216:=by
 simp only[okP,x0a,x0b]at h
 omega
theorem qR{a b c:Pnt}(ha:okP a=true)(hb:okP b=true)(hc:okP c=true) :
  (-1125899906842624<=(b.1-a.1)*(c.2-a.2)/\(b.1-a.1)*(c.2-a.2)<=1125899906842624)/\(-1125899906842624<=(b.2-a.2)*(c.1-a.1)/\(b.2-a.2)*(c.1-a.1)<=1125899906842624):=by
 have:=dD ha
 have:=dD hb
 have:=dD hc
 exact⟨jW (k:=33554432) (l:=33554432) (by omega) (by omega) (by omega) (by omega),jW (k:=33554432) (l:=33554432) (by omega) (by omega) (by omega) (by omega)⟩
abbrev Tri:=Pnt×Pnt×Pnt
def cm(t:Tri):List D:=[.int .i64 t.1.1,.int .i64 t.1.2,.int .i64 t.2.1.1,.int .i64 t.2.1.2,.int .i64 t.2.2.1,.int .i64 t.2.2.2]
def okT(t:Tri):Bool:=okP t.1&&okP t.2.1&&okP t.2.2
def lh(t:Tri):Int:=dV t.1 t.2.1 t.2.2
def mI(p q:Pnt)(u:Tri):Bool:=dV p q u.1<=0&&dV p q u.2.1<=0&&dV p q u.2.2<=0
def tW(t u:Tri):Bool:=mI t.1 t.2.1 u||mI t.2.1 t.2.2 u||mI t.2.2 t.1 u
def ovT(t u:Tri):Bool:=!tW t u&&!tW u t
def aS(m:Msh)(f:Fce):Tri:=(ptS (spt m f.a.toNat),ptS (spt m f.b.toNat),ptS (spt m f.c.toNat))
def crn(f:Fce):Nat->Int
 | 0=>f.a
 | 1=>f.b
 | 2=>f.c
 | 3=>f.a
 | 4=>f.b
 | _=>f.c
def eF(n:Nat)(a:Int):Bool:=0<=a&&a<n
def inS(m:Msh)(f:Fce):Bool:=eF m.s.length f.a&&eF m.s.length f.b&&eF m.s.length f.c
theorem lJ{m:Msh}{f:Fce}(h:inS m f=true):(0<=f.a/\f.a.toNat<m.s.length)/\(0<=f.b/\f.b.toNat<m.s.length)/\(0<=f.c/\f.c.toNat<m.s.length):=by
 simp only[inS,eF,x0a,x0b]at h
 omega
variable{C:CC}(hC:av prog C)
include hC
theorem si(p:Pnt):C 313 [.agg (ptD p)] (.bool (okP p)) []:=by
 refine az hC (nf:=N313) rfl rfl ?_
 simp[N313,ptD,okP]
 repeat' (refine aj (fun h=>?_) (fun h=>?_)<;>simp at h<;>simp[h]<;>try omega)
theorem yd(s:Spt):C 303 [.agg (ol s)] (.bool (bG s)) []:=by
 have k:=si hC (s.x,s.y)
 simp[ptD,okP]at k
 refine az hC (nf:=N303) rfl rfl ?_
 simp[N303,ol,bG]
 refine aa k (.inl rfl) ?_
 simp
 repeat' (refine aj (fun h=>?_) (fun h=>?_)<;>simp at h<;>simp[h]<;>try omega)
theorem rY(m:Msh):C 302 [.agg (b0 m)] (.bool (decide (m.s.length<=2000)&&decide (m.f.length<=4000))) []:=by
 refine az hC (nf:=N302) rfl rfl ?_
 simp[N302,b0]
 refine aj (fun h=>?_) (fun h=>?_)<;>simp at h<;>simp[h]
 ·rw[decide_eq_true (show m.s.length<=2000 by omega)]
  simp
  exact Iff.intro (fun h2=>by omega) (fun h2=>by omega)
 ·omega
theorem kH(m:Msh)(i:Nat)(h:i<m.s.length):C 304 [.agg (b0 m),.int .i64 i] (.agg (ptD (ptS (spt m i)))) []:=by
 refine az hC (nf:=N304) rfl rfl ?_
 simp[N304,b0,h,gm,ptD,ptS]
 exact aF (by decide +kernel)
theorem nL(f:Fce):C 305 [.agg (cu f)] (.agg [.int .i64 f.a,.int .i64 f.b,.int .i64 f.c]) []:=by
 refine az hC (nf:=N305) rfl rfl ?_
 simp[N305,cu]
theorem qm(f:Fce)(k:Nat)(hk:k<3):C 298 [.agg (cu f),.int .i64 k] (.agg [.int .i64 (crn f k),.int .i64 (crn f (k+1))]) []:=by
 have k1:=nL hC f
 refine az hC (nf:=N298) rfl rfl ?_
 rw[cu]at k1 ⊢
 simp[N298]
 refine aa k1 (.inl rfl) ?_
 have w:IntKind.wrap .i64 ((k:Int)+1)=((k+1:Nat):Int):=ah (by omega) (by omega)
 have w0:IntKind.wrap .i64 1=1:=by decide
 have w1:IntKind.wrap .i64 2=2:=by decide
 have w2:IntKind.wrap .i64 3=3:=by decide
 rcases(by omega:k=0\/k=1\/k=2)with rfl|rfl|rfl<;>simp[crn,w0,w1,w2]<;>exact aF (by decide +kernel)
theorem qn{a b c:Pnt}(ha:okP a=true)(hb:okP b=true)(hc:okP c=true):C 308 [.agg (ptD a),.agg (ptD b),.agg (ptD c)] (.int .i64 (dV a b c)) []:=by
 have:=dD ha
 have:=dD hb
 have:=dD hc
 have h4:=qR ha hb hc
 refine az hC (nf:=N308) rfl rfl ?_
 have w1:IntKind.wrap .i64 (b.1-a.1)=b.1-a.1:=ah rfl (by omega)
 have w2:IntKind.wrap .i64 (c.2-a.2)=c.2-a.2:=ah rfl (by omega)
 have w3:IntKind.wrap .i64 (b.2-a.2)=b.2-a.2:=ah rfl (by omega)
 have w4:IntKind.wrap .i64 (c.1-a.1)=c.1-a.1:=ah rfl (by omega)
 have w5:IntKind.wrap .i64 ((b.1-a.1)*(c.2-a.2))=(b.1-a.1)*(c.2-a.2):=ah rfl (by omega)
 have w6:IntKind.wrap .i64 ((b.2-a.2)*(c.1-a.1))=(b.2-a.2)*(c.1-a.1):=ah rfl (by omega)
 have w7:IntKind.wrap .i64 ((b.1-a.1)*(c.2-a.2)-(b.2-a.2)*(c.1-a.1))=dV a b c:=ah rfl (by rw[dV];omega)
 simp[N308,ptD,w1,w2,w3,w4,w5,w6,w7]
theorem yf(m:Msh)(f:Fce)(h:inS m f=true):C 307 [.agg (b0 m),.agg (cu f)] (.agg (cm (aS m f))) []:=by
 obtain⟨⟨a1,a2⟩,⟨b1,b2⟩,⟨c1,c2⟩⟩:=lJ h
 have ka:=kH hC m f.a.toNat a2
 have kb:=kH hC m f.b.toNat b2
 have kc:=kH hC m f.c.toNat c2
 rw[x1g a1]at ka
 rw[x1g b1]at kb
 rw[x1g c1]at kc
 refine az hC (nf:=N307) rfl rfl ?_
 rw[b0]at ka kb kc ⊢
 simp[N307,cu]
 simp[ptD]at ka kb kc
 refine aa ka (.inl rfl) ?_
 simp
 refine aa kb (.inl rfl) ?_
 simp
 refine aa kc (.inl rfl) ?_
 simp[cm,aS]
 exact aF (by decide +kernel)
end Go.Gv

namespace Go.Gv
structure Ggt where
 n:List UInt8
 p:Pnt
 deriving Inhabited,DecidableEq
def ggC(g:Ggt):List D:=[.str g.n,.int .i64 g.p.1,.int .i64 g.p.2]
structure Srs where
 a:Int
 s:Int
 b:Bool
 d:List Int
 deriving Inhabited
def srC(s:Srs):List D:=[.int .i64 s.a,.int .i64 s.s,slx s.b (s.d.map fun n=>[.int .i64 n])]
theorem cO(s:Srs):srC s=[.int .i64 s.a,.int .i64 s.s,slx s.b (s.d.map fun n=>[.int .i64 n])]:=zR
def ml(t:Int):Bool:=decide (-68719476736<=t)&&decide (t<=68719476736)
def xq(d:Int):Bool:=decide (d < -1)||decide (4194304<d)
def srB(s:Srs):Bool:=ml s.a&&decide (1<=s.s)&&decide (s.s<=86400)&&decide (s.d.length<=10000)&&ml (s.a+s.s*s.d.length)&&!s.d.any xq
variable{C:CC}(hC:av prog C)
include hC
theorem vQ(t:Int):C 909 [.int .i64 t] (.bool (ml t)) []:=by
 refine az hC (nf:=N909) rfl rfl ?_
 simp[N909,ml]
 refine aj (fun h=>?_) (fun h=>?_)<;>simp at h<;>simp[h]
 intro _
 omega
theorem Du(d:Int):C 910 [.int .i64 d] (.bool (xq d)) []:=by
 refine az hC (nf:=N910) rfl rfl ?_
 simp[N910,xq]
 refine aj (fun h=>?_) (fun h=>?_)<;>simp at h<;>simp[h]
 intro _
 omega
theorem rI(s:Srs)(hl:s.d.length<2^40):C 894 [.agg (srC s)] (.bool (srB s)) []:=by
 have k1:=vQ hC
 refine az hC (nf:=N894) rfl rfl ?_
 simp[N894,cO]
 refine aa (k1 s.a) (.inl rfl) ?_
 cases c1:ml s.a
 ·simp[srB,c1]
 simp
 refine aj (fun c2=>?_) (fun c2=>?_)<;>simp at c2<;>simp[c2]
 ·simp[srB];omega
 refine aj (fun c3=>?_) (fun c3=>?_)<;>simp at c3<;>simp[c3]
 ·simp[srB];omega
 refine aj (fun c4=>?_) (fun c4=>?_)<;>simp at c4<;>simp[c4]
 ·simp[srB];omega
 have b1:-68719476736<=s.a/\s.a<=68719476736:=by simpa[ml]using c1
 have hm:(0:Int)<=s.s*s.d.length/\s.s*s.d.length<=864000000:=by
  refine⟨x1x (by omega) (by omega),?_⟩
  have h1:=Int.mul_le_mul (a:=s.s) (b:=(s.d.length:Int)) (c:=86400) (d:=10000) (by omega) (by omega) (by omega) (by omega)
  omega
 have e1:IntKind.wrap .i64 (s.s*(s.d.length:Int))=s.s*s.d.length:=ah rfl (by omega)
 have e2:IntKind.wrap .i64 (s.a+s.s*(s.d.length:Int))=s.a+s.s*s.d.length:=ah rfl (by omega)
 have k2:=fP hC (b:=s.b) (xs:=s.d) (g:=910) (cs:=[]) xq (by omega) (fun x _=>Du hC x)
 rw[e1,e2]
 refine aa (k1 _) (.inl rfl) ?_
 cases c5:ml (s.a+s.s*s.d.length)
 ·simp[srB,c5]
 simp
 refine aa k2 (.inl rfl) ?_
 have c4':s.d.length<=10000:=by omega
 simp[srB,c1,c2,c3,c4',c5]
theorem Dz{b:Bool}{xs:List Ggt}{g:Nat}{cs:List D}(p:Ggt->Bool)(hs:xs.length<2^62)(hp:∀x∈xs,C g (.agg (ggC x)::cs) (.bool (p x)) []):C 897 [slx b (xs.map ggC),.fn g cs] (.int .i64 (gA p xs)) []:=by
 refine az hC (nf:=N897) rfl rfl ?_
 simp[N897]
 refine aC Nat (fun i=>[(0,slx b (xs.map ggC)),(1,.fn g cs),(7,.int .i64 xs.length),(8,.int .i64 i)]) (fun i=>i<=xs.length/\∀(j:Nat) (h:j<xs.length),j<i->p xs[j]=false) (fun i=>xs.length-i) 0 (by simp) (by simp) ?_
 rintro i ⟨hi,hj⟩
 simp
 refine aj (fun h=>?_) (fun h=>?_)<;>simp[h]<;>simp at h
 ·have hw:IntKind.wrap .i64 ((i:Int)+1)=((i+1:Nat):Int):=ah (by omega) (by omega)
  have hc:=hp _ (x0u h)
  simp[h,ggC]at hc ⊢
  refine aa hc (.inl rfl) ?_
  simp
  refine aj (fun h1=>?_) (fun h1=>?_)<;>simp[h1,hw]
  ·rw[dT hj h h1]
  ·refine⟨i+1,⟨by omega,fun j hl hjj=>?_⟩,by omega,rfl⟩
   rcases x1f.1 hjj with h2|rfl
   ·exact hj j hl h2
   ·exact h1
 ·rw[dS (fun j hl=>hj j hl (by omega))]
theorem xR{b:Bool}{xs:List Ggt}{g:Nat}{cs:List D}(p:Ggt->Bool)(hs:xs.length<2^62)(hp:∀x∈xs,C g (.agg (ggC x)::cs) (.bool (p x)) []):C 887 [slx b (xs.map ggC),.fn g cs] (.bool (xs.any p)) []:=by
 refine az hC (nf:=N887) rfl rfl ?_
 simp[N887]
 refine aa (Dz hC p hs hp) (.inl rfl) ?_
 simp[gT]
end Go.Gv

namespace Go.Gv
def re(l:List Ggt)(i:Nat):Bool:=jT l[i]!.n&&okP l[i]!.p&&!(l.take i).any fun x=>decide (x.n=l[i]!.n)
def arV(l:List Ggt):Bool:=decide (1<=l.length)&&decide (l.length<=100)&&(List.range l.length).all (re l)
theorem sQ{l:List Ggt}{i:Nat}(h:i<l.length)(h2:re l i=false):arV l=false:=by
 unfold arV
 have:(List.range l.length).all (re l)=false:=by
  rw[List.all_eq_false]
  exact⟨i,x0V.2 h,by simp[h2]⟩
 rw[this,Bool.and_false]
variable{C:CC}(hC:av prog C)
include hC
theorem GT(x g:Ggt):C 904 [.agg (ggC x),.ptr (ggC g)] (.bool (decide (x.n=g.n))) []:=by
 refine az hC (nf:=N904) rfl rfl ?_
 simp[N904,ggC]
set_option maxHeartbeats 1000000 in
theorem oP(b:Bool)(l:List Ggt)(hl:l.length<2^40):C 892 [slx b (l.map ggC)] (.bool (arV l)) []:=by
 refine az hC (nf:=N892) rfl rfl ?_
 simp[N892]
 refine aj (fun c1=>?_) (fun c1=>?_)<;>simp at c1<;>simp[c1]
 ·have e:decide (1<=l.length)=false:=decide_eq_false (by omega)
  simp only[arV,e,x1I]
 refine aj (fun c2=>?_) (fun c2=>?_)<;>simp at c2<;>simp[c2]
 ·have e:decide (l.length<=100)=false:=decide_eq_false (by omega)
  simp only[arV,e,x1I,Bool.and_false]
 have hsl:slx b (l.map ggC)=.sl (l.map ggC):=by
  cases l with
  | nil=>simp at c1
  | cons g l=>exact oj
 simp only[hsl]
 refine aC Nat (fun i=>[(0,.sl (l.map ggC)),(13,.sl (l.map ggC)),(14,.int .i64 l.length),(15,.int .i64 i)]) (fun i=>i<=l.length/\∀j,j<i->re l j=true) (fun i=>l.length-i) 0 (by simp) (by simp) ?_
 rintro i ⟨hi,hj⟩
 simp
 refine aj (fun h=>?_) (fun h=>?_)<;>simp[h]<;>simp at h
 ·have hw:IntKind.wrap .i64 ((i:Int)+1)=((i+1:Nat):Int):=ah (by omega) (by omega)
  have e0:l[i]! = l[i]:=x0K l i h
  have k2:=si hC l[i].p
  simp only[ptD]at k2
  simp[h,ggC]
  refine aa (wD hC l[i].n) (.inl rfl) ?_
  cases c3:jT l[i].n
  ·simp
   exact sQ h (by simp[re,e0,c3])
  simp
  refine aa k2 (.inl rfl) ?_
  cases c4:okP l[i].p
  ·simp
   exact sQ h (by simp[re,e0,c4])
  have ev:∀e∈l.map ggC,e.length=3:=fun e he=>by
   obtain⟨g,_,rfl⟩:=x0p.1 he
   rfl
  have k3:=xR hC (b:=false) (xs:=l.take i) (g:=904) (cs:=[.ptr (ggC l[i])]) (fun x=>decide (x.n=l[i].n)) (by simp;omega) (fun x _=>GT hC x l[i])
  rw[bx,List.map_take]at k3
  simp only[ggC]at k3
  simp
  refine⟨fun g _=>rfl,by omega,aa k3 (.inl rfl) ?_⟩
  cases c5:(l.take i).any fun x=>decide (x.n=l[i].n)
  ·simp[hw]
   refine⟨i+1,⟨by omega,fun j hjj=>?_⟩,by omega,rfl⟩
   rcases x1f.1 hjj with h2|rfl
   ·exact hj j h2
   ·simp only[re,e0,c3,c4,c5];rfl
  ·simp
   exact sQ h (by simp only[re,e0,c3,c4,c5];rfl)
 ·have e:i=l.length:=by omega
  subst e
  simp[arV]
  refine⟨⟨by omega,by omega⟩,fun j hj'=>hj j hj'⟩
theorem wh(m:Msh):C 886 [.agg (b0 m)] (.bool (decide (m.s.length<=40)&&decide (m.f.length<=40))) []:=by
 refine az hC (nf:=N886) rfl rfl ?_
 simp[N886,af]
 refine aj (fun h=>?_) (fun h=>?_)<;>simp at h<;>simp[h]
 ·rw[x0S];simp;omega
 ·intro _;omega
def sH(l:List Int):Int:=l.foldl (fun a x=>IntKind.wrap .i64 (a+x)) 0
theorem tr(b:Bool)(l:List Int)(hl:l.length<2^40):C 890 [slx b (l.map fun n=>[.int .i64 n])] (.int .i64 (sH l)) []:=by
 refine az hC (nf:=N890) rfl rfl ?_
 simp[N890]
 refine aC Nat (fun i=>[(3,.int .i64 (sH (l.take i))),(6,slx b (l.map fun n=>[.int .i64 n])),(7,.int .i64 l.length),(8,.int .i64 i)]) (fun i=>i<=l.length) (fun i=>l.length-i) 0 (by simp) (by simp[sH]) ?_
 intro i hi
 simp
 refine aj (fun h=>?_) (fun h=>?_)<;>simp[h]<;>simp at h
 ·have hw:IntKind.wrap .i64 ((i:Int)+1)=((i+1:Nat):Int):=ah (by omega) (by omega)
  have e1:sH (l.take (i+1))=IntKind.wrap .i64 (sH (l.take i)+l[i]):=by
   rw[x1d h]
   simp only[sH,List.foldl_append,List.foldl_cons,List.foldl_nil]
  simp[h,hw]
  exact⟨i+1,by omega,by omega,e1.symm,rfl⟩
 ·have e:i=l.length:=by omega
  subst e
  simp
end Go.Gv

namespace Go.Gv
def sqX(g:Ggt)(p:Pnt)(f:Int):Int:=IntKind.wrap .i64 (IntKind.wrap .i64 (f*g.p.1)-p.1)
def sqY(g:Ggt)(p:Pnt)(f:Int):Int:=IntKind.wrap .i64 (IntKind.wrap .i64 (f*g.p.2)-p.2)
def sqF(g:Ggt)(p:Pnt)(f:Int):Int:=IntKind.wrap .i64 (IntKind.wrap .i64 (sqX g p f*sqX g p f)+IntKind.wrap .i64 (sqY g p f*sqY g p f))
def nrN(l:List Ggt)(p:Pnt)(f:Int):Nat->Nat
 | 0=>0
 | i+1=>if sqF l[i]! p f<sqF l[nrN l p f i]! p f then i else nrN l p f i
theorem nS{l:List Ggt}{p:Pnt}{f:Int}:∀{i:Nat},i<=l.length->0<l.length->nrN l p f i<l.length
 | 0,_,h=>h
 | i+1,hi,h=>by
  rw[nrN]
  split
  ·omega
  ·exact nS (by omega) h
variable{C:CC}(hC:av prog C)
include hC
theorem sE(g:Ggt)(p:Pnt)(f:Int):C 915 [.agg (ggC g),.agg (ptD p),.int .i64 f] (.int .i64 (sqF g p f)) []:=by
 refine az hC (nf:=N915) rfl rfl ?_
 simp[N915,ggC,ptD]
 refine⟨aF (by decide +kernel),?_⟩
 rfl
set_option maxHeartbeats 1000000 in
theorem vW(b:Bool)(l:List Ggt)(hl:l.length<2^40)(h0:0<l.length)(p:Pnt)(f:Int):C 903 [slx b (l.map ggC),.agg (ptD p),.int .i64 f] (.int .i64 (nrN l p f l.length)) []:=by
 refine az hC (nf:=N903) rfl rfl ?_
 simp[N903,ptD]
 refine aC Nat (fun i=>[(0,slx b (l.map ggC)),(2,.int .i64 f),(4,.ptr [.int .i64 p.1,.int .i64 p.2]),(7,.int .i64 (nrN l p f i)),(10,slx b (l.map ggC)),(11,.int .i64 l.length),(12,.int .i64 i)]) (fun i=>i<=l.length) (fun i=>l.length-i) 0 (by simp) (by simp[nrN]) ?_
 intro i hi
 simp
 refine aj (fun h=>?_) (fun h=>?_)<;>simp[h]<;>simp at h
 ·have hw:IntKind.wrap .i64 ((i:Int)+1)=((i+1:Nat):Int):=ah (by omega) (by omega)
  have hb:=nS (p:=p) (f:=f) hi h0
  have k1:=sE hC l[i] p f
  have k2:=sE hC l[nrN l p f i] p f
  have e1:l[i]! = l[i]:=x0K l i h
  have e2:l[nrN l p f i]! = l[nrN l p f i]:=x0K l _ hb
  simp only[ggC,ptD]at k1 k2
  simp[h,hb,ggC]
  refine aa k1 (.inl rfl) ?_
  simp[hb,ggC]
  refine aa k2 (.inl rfl) ?_
  simp
  refine⟨aF (by decide +kernel),?_⟩
  refine aj (fun c=>?_) (fun c=>?_)<;>simp at c<;>simp[hw]
  ·refine⟨i+1,by omega,by omega,?_,rfl⟩
   rw[nrN,e1,e2,if_pos c]
  ·refine⟨i+1,by omega,by omega,?_,rfl⟩
   rw[nrN,e1,e2,if_neg (by omega)]
 ·have e:i=l.length:=by omega
  subst e
  simp
theorem Ex(x y:Srs)(h1:x.a=y.a)(h2:x.s=y.s)(h3:x.d=y.d)(hl:x.d.length<2^40):C 895 [.agg (srC x),.agg (srC y)] (.bool true) []:=by
 obtain⟨a,s,b,d⟩:=x
 obtain⟨a',s',b',d'⟩:=y
 simp only at h1 h2 h3
 subst h1
 subst h2
 subst h3
 simp only at hl
 refine az hC (nf:=N895) rfl rfl ?_
 simp[N895,cO]
 refine aC Nat (fun i=>[(2,.ptr [.int .i64 a,.int .i64 s,slx b (d.map fun n=>[.int .i64 n])]),(3,.ptr [.int .i64 a,.int .i64 s,slx b' (d.map fun n=>[.int .i64 n])]),(5,.int .i64 i)]) (fun i=>i<=d.length) (fun i=>d.length-i) 0 (by simp) (by simp) ?_
 intro i hi
 simp
 refine aj (fun h=>?_) (fun h=>?_)<;>simp[h]<;>simp at h
 ·have hw:IntKind.wrap .i64 ((i:Int)+1)=((i+1:Nat):Int):=ah (by omega) (by omega)
  simp[h,hw]
  exact⟨aF (by decide +kernel),i+1,by omega,by omega,by omega⟩
end Go.Gv

namespace Go.Gv
open Go.Lib
theorem rX(a:Nat)(ha:a<18446744073709551616):bits .and .u64 (a:Int) 4294967295=((a%4294967296:Nat):Int):=by
 have h:=bits_and_u64_nat a 4294967295 ha (by omega)
 have e:a &&& 4294967295=a%4294967296:=Nat.and_two_pow_sub_one_eq_mod a 32
 rw[e]at h
 exact h
theorem tY(a k:Nat):Int.fdiv (a:Int) (2^k)=((a/2^k:Nat):Int):=by
 rw[Int.fdiv_eq_ediv_of_nonneg _ (by exact Int.pow_nonneg (by omega))]
 norm_cast
theorem uZ(a:Nat):Int.fdiv (a:Int) (2^min 32 IntKind.u64.bits)=((a/4294967296:Nat):Int):=tY a 32
theorem yg(a b:Nat):(a:Int)*(b:Int)=((a*b:Nat):Int):=(Int.natCast_mul a b).symm
theorem GK(a b:Nat):(a:Int)+(b:Int)=((a+b:Nat):Int):=(Int.natCast_add a b).symm
theorem dB(a:Nat)(ha:a<18446744073709551616):IntKind.u64.wrap (a:Int)=(a:Int):=by
 have e1:IntKind.u64.signed=false:=rfl
 have e3:(2^IntKind.u64.bits:Int)=18446744073709551616:=rfl
 unfold IntKind.wrap
 simp only[e1,e3,x1I]
 simp
 omega
theorem zX(a:Nat):IntKind.u64.wrap (a:Int)=((a%18446744073709551616:Nat):Int):=by
 have e1:IntKind.u64.signed=false:=rfl
 have e3:(2^IntKind.u64.bits:Int)=18446744073709551616:=rfl
 unfold IntKind.wrap
 simp only[e1,e3,x1I]
 simp
variable{C:CC}(hC:av prog C)
include hC
theorem ui(x y:Nat)(hx:x<18446744073709551616)(hy:y<18446744073709551616):C 91 [.int .u64 x,.int .u64 y] (.tup [.int .u64 ((x*y/18446744073709551616:Nat):Int),.int .u64 ((x*y%18446744073709551616:Nat):Int)]) []:=by
 refine az hC (nf:=N91) rfl rfl ?_
 obtain⟨bd,bt,bw,hhi⟩:=Lib.mul64_hi x y hx hy
 have ba:=Lib.half_mul_le (a:=x/4294967296) (b:=y/4294967296) (by omega) (by omega)
 have bb:=Lib.half_mul_le (a:=x/4294967296) (b:=y%4294967296) (by omega) (by omega)
 have bc:=Lib.half_mul_le (a:=x%4294967296) (b:=y/4294967296) (by omega) (by omega)
 have ba':x/4294967296*(y/4294967296)<18446744073709551616:=by omega
 have bb':x/4294967296*(y%4294967296)<18446744073709551616:=by omega
 have bc':x%4294967296*(y/4294967296)<18446744073709551616:=by omega
 have bh1:x/4294967296*(y/4294967296)+(x/4294967296*(y%4294967296)+x%4294967296*(y%4294967296)/4294967296)/4294967296<18446744073709551616:=by omega
 have bh:x/4294967296*(y/4294967296)+(x/4294967296*(y%4294967296)+x%4294967296*(y%4294967296)/4294967296)/4294967296+((x/4294967296*(y%4294967296)+x%4294967296*(y%4294967296)/4294967296)%4294967296+x%4294967296*(y/4294967296))/4294967296<18446744073709551616:=by omega
 simp[N91]
 simp only[rX x hx,rX y hy,uZ,yg,GK,dB _ bd,dB _ bb',dB _ bt,rX _ bt,dB _ bc',dB _ bw,dB _ ba',dB _ bh1,dB _ bh,zX (x*y)]
 rw[hhi]
 exact⟨by omega,by omega⟩
end Go.Gv

namespace Go.Gv
theorem CO(a:Nat):Int.fdiv (a:Int) (2^min 16 IntKind.u64.bits)=((a/65536:Nat):Int):=tY a 16
theorem Bo(a:Nat):Int.fdiv (a:Int) (2^min 8 IntKind.u64.bits)=((a/256:Nat):Int):=tY a 8
theorem JA(a:Nat)(h:a<256):IntKind.u8.wrap (a:Int)=(a:Int):=by
 have e1:IntKind.u8.signed=false:=rfl
 have e3:(2^IntKind.u8.bits:Int)=256:=rfl
 unfold IntKind.wrap
 simp only[e1,e3,x1I]
 simp
 omega
theorem tA:S1.length=256/\∀n:Fin 256,S1[n.val]?.getD 0=UInt8.ofNat (bitLen n.val)/\bitLen n.val<=8:=by decide +kernel
theorem eP{x n z:Nat}{m:Int}(hz:z<256)(hm:m=n)(hn:n<=56)(h:n+bitLen z=bitLen x):0<=IntKind.u8.wrap (z:Int)/\(IntKind.u8.wrap (z:Int)).toNat<S1.length/\IntKind.i64.wrap (m+IntKind.i64.wrap ↑(S1[(IntKind.u8.wrap (z:Int)).toNat]?.getD default).toNat)=(bitLen x:Int):=by
 rw[JA z hz]
 obtain⟨h1,h2⟩:=tA
 obtain⟨h3,h4⟩:=h2 ⟨z,hz⟩
 have e:(S1[(z:Int).toNat]?.getD default).toNat=bitLen z:=by
  show(S1[z]?.getD 0).toNat=bitLen z
  simp only at h3 h4
  rw[h3,UInt8.toNat_ofNat']
  omega
 simp only at h4
 rw[e]
 have e2:IntKind.i64.wrap (bitLen z:Int)=(bitLen z:Int):=ah rfl (by omega)
 refine⟨by omega,by omega,?_⟩
 rw[e2,hm]
 exact ah (by omega) (by omega)
variable{C:CC}(hC:av prog C)
include hC
theorem Ae(x:Nat)(hx:x<18446744073709551616):C 111 [.int .u64 x] (.int .i64 (bitLen x)) []:=by
 refine az hC (nf:=N111) rfl rfl ?_
 have key:∀(b z:Nat),2^b<=z->bitLen z=b+bitLen (z/2^b):=fun b z h=>bitLen_shift z b (by
  have:=Nat.div_pos h (Nat.two_pow_pos b)
  omega)
 simp[N111]
 refine aj (fun h1=>?_) (fun h1=>?_)<;>simp at h1
 ·obtain⟨y,hy⟩:∃y:Nat,y=x/4294967296:=⟨_,rfl⟩
  have e1:Int.fdiv (x:Int) (2^min 32 IntKind.u64.bits)=(y:Int):=by rw[uZ,hy]
  have k1:=key 32 x (by omega)
  simp[e1]
  refine aj (fun h2=>?_) (fun h2=>?_)<;>simp at h2
  ·obtain⟨z,hz⟩:∃z:Nat,z=y/65536:=⟨_,rfl⟩
   have e2:Int.fdiv (y:Int) (2^min 16 IntKind.u64.bits)=(z:Int):=by rw[CO,hz]
   have k2:=key 16 y (by omega)
   simp[e2]
   refine aj (fun h3=>?_) (fun h3=>?_)<;>simp at h3
   ·obtain⟨v,hv⟩:∃v:Nat,v=z/256:=⟨_,rfl⟩
    have e3:Int.fdiv (z:Int) (2^min 8 IntKind.u64.bits)=(v:Int):=by rw[Bo,hv]
    have k3:=key 8 z (by omega)
    simp[e3]
    refine eP (n:=56) (by omega) ?_ (by omega) ?_
    ·decide
    ·simp only[Nat.reducePow]at k1 k2 k3
     rw[<- hy]at k1;rw[<- hz]at k2;rw[<- hv]at k3;omega
   ·simp
    refine eP (n:=48) (by omega) ?_ (by omega) ?_
    ·decide
    ·simp only[Nat.reducePow]at k1 k2
     rw[<- hy]at k1;rw[<- hz]at k2;omega
  ·simp
   refine aj (fun h3=>?_) (fun h3=>?_)<;>simp at h3
   ·obtain⟨v,hv⟩:∃v:Nat,v=y/256:=⟨_,rfl⟩
    have e3:Int.fdiv (y:Int) (2^min 8 IntKind.u64.bits)=(v:Int):=by rw[Bo,hv]
    have k3:=key 8 y (by omega)
    simp[e3]
    refine eP (n:=40) (by omega) ?_ (by omega) ?_
    ·decide
    ·simp only[Nat.reducePow]at k1 k3
     rw[<- hy]at k1;rw[<- hv]at k3;omega
   ·simp
    refine eP (n:=32) (by omega) ?_ (by omega) ?_
    ·decide
    ·simp only[Nat.reducePow]at k1
     rw[<- hy]at k1;omega
 ·simp
  refine aj (fun h2=>?_) (fun h2=>?_)<;>simp at h2
  ·obtain⟨z,hz⟩:∃z:Nat,z=x/65536:=⟨_,rfl⟩
   have e2:Int.fdiv (x:Int) (2^min 16 IntKind.u64.bits)=(z:Int):=by rw[CO,hz]
   have k2:=key 16 x (by omega)
   simp[e2]
   refine aj (fun h3=>?_) (fun h3=>?_)<;>simp at h3
   ·obtain⟨v,hv⟩:∃v:Nat,v=z/256:=⟨_,rfl⟩
    have e3:Int.fdiv (z:Int) (2^min 8 IntKind.u64.bits)=(v:Int):=by rw[Bo,hv]
    have k3:=key 8 z (by omega)
    simp[e3]
    refine eP (n:=24) (by omega) ?_ (by omega) ?_
    ·decide
    ·simp only[Nat.reducePow]at k2 k3
     rw[<- hz]at k2;rw[<- hv]at k3;omega
   ·simp
    refine eP (n:=16) (by omega) ?_ (by omega) ?_
    ·decide
    ·simp only[Nat.reducePow]at k2
     rw[<- hz]at k2;omega
  ·simp
   refine aj (fun h3=>?_) (fun h3=>?_)<;>simp at h3
   ·obtain⟨v,hv⟩:∃v:Nat,v=x/256:=⟨_,rfl⟩
    have e3:Int.fdiv (x:Int) (2^min 8 IntKind.u64.bits)=(v:Int):=by rw[Bo,hv]
    have k3:=key 8 x (by omega)
    simp[e3]
    refine eP (n:=8) (by omega) ?_ (by omega) ?_
    ·decide
    ·simp only[Nat.reducePow]at k3
     rw[<- hv]at k3;omega
   ·simp
    have:=eP (x:=x) (n:=0) (m:=0) (z:=x) (by omega) rfl (by omega) (by omega)
    simpa using this
theorem lp(x:Nat)(hx:x<18446744073709551616):C 102 [.int .u64 x] (.int .i64 ((64-bitLen x:Nat):Int)) []:=by
 have hb:bitLen x<=64:=by
  unfold bitLen
  split
  ·omega
  ·rename_i h
   have:=(Nat.log2_lt h).2 (show x<2^64 by omega)
   omega
 refine az hC (nf:=N102) rfl rfl ?_
 simp[N102]
 refine aa (Ae hC x hx) (.inl rfl) ?_
 have e:IntKind.wrap .i64 (64-(bitLen x:Int))=((64-bitLen x:Nat):Int):=ah (by omega) (by omega)
 simp[e]
end Go.Gv

namespace Go.Gv
structure DvI (u d a b q r:Nat):Prop where
 sum:q*a+r=u
 ge:(u*4294967296+d)/(a*4294967296+b)<=q
 rlt:r<4294967296
 qle:q<=4294967297
section
variable{u d a b q r:Nat}
theorem Dv.mul(h:q*a+r=u):q*(a*4294967296+b)+r*4294967296=u*4294967296+q*b:=by
 subst h
 rw[Nat.mul_add,<- Nat.mul_assoc,x0D]
 omega
theorem Dv.lt(_:0<a)(hu:u<a*4294967296+b)(hd:d<4294967296):(u*4294967296+d)/(a*4294967296+b)<4294967296:=by
 rw[Nat.div_lt_iff_lt_mul (by omega)]
 have:(u+1)*4294967296<=(a*4294967296+b)*4294967296:=x0o _ hu
 omega
theorem DvI.first(ha:2147483648<=a)(ha2:a<4294967296)(hb:b<4294967296)(hu:u<a*4294967296+b)(hd:d<4294967296):DvI u d a b (u/a) (u%a) where
 sum:=by rw[x1M];exact x1k u a
 rlt:=by have:=Nat.mod_lt u (show 0<a by omega);omega
 ge:=by
  rw[Nat.le_div_iff_mul_le (by omega)]
  have h:=Nat.div_mul_le_self (u*4294967296+d) (a*4294967296+b)
  generalize (u*4294967296+d)/(a*4294967296+b)=Q at *
  rw[Nat.mul_add,<- Nat.mul_assoc]at h
  generalize Q*b=z at *
  generalize Q*a=x at *
  omega
 qle:=by
  have:u/a<4294967298:=by
   rw[Nat.div_lt_iff_lt_mul (by omega)]
   omega
  omega
theorem DvI.more(h:DvI u d a b q r)(ha:0<a)(hu:u<a*4294967296+b)(hd:d<4294967296)(hc:4294967296<=q\/4294967296*r+d<q*b):(u*4294967296+d)/(a*4294967296+b)+1<=q:=by
 rcases hc with hc|hc
 ·have:=Dv.lt (d:=d) ha hu hd
  omega
 ·have h1:=Dv.mul (b:=b) h.sum
  have:(u*4294967296+d)/(a*4294967296+b)<q:=by
   rw[Nat.div_lt_iff_lt_mul (by omega)]
   generalize q*(a*4294967296+b)=z at *
   generalize q*b=x at *
   omega
  omega
theorem DvI.done(h:DvI u d a b q r)(ha:0<a)(hc:q*b<=4294967296*r+d):q=(u*4294967296+d)/(a*4294967296+b):=by
 have h1:=Dv.mul (b:=b) h.sum
 have h2:=h.ge
 have:q<=(u*4294967296+d)/(a*4294967296+b):=by
  rw[Nat.le_div_iff_mul_le (by omega)]
  generalize q*(a*4294967296+b)=z at *
  generalize q*b=x at *
  omega
 omega
theorem DvI.next(h:DvI u d a b q r)(ha:0<a)(hu:u<a*4294967296+b)(hd:d<4294967296)(hc:4294967296<=q\/4294967296*r+d<q*b) :
  1<=q/\(q-1)*a+(r+a)=u/\(u*4294967296+d)/(a*4294967296+b)<=q-1/\q-1<=4294967296:=by
 have h1:=h.more ha hu hd hc
 have h2:=h.qle
 have h3:=h.sum
 generalize (u*4294967296+d)/(a*4294967296+b)=Q at *
 obtain⟨q',rfl⟩:∃q',q=q'+1:=⟨q-1,by omega⟩
 refine⟨by omega,?_,by omega,by omega⟩
 rw[x0D]at h3
 simp only[Nat.add_sub_cancel]
 omega
theorem Dv.stop(hs:q*a+r=u)(hg:(u*4294967296+d)/(a*4294967296+b)<=q)(hq:q<=4294967296)(ha:0<a)(hb:b<4294967296)(hr:4294967296<=r):q=(u*4294967296+d)/(a*4294967296+b):=by
 have h1:=Dv.mul (b:=b) hs
 have h3:q*b<=4294967296*4294967295:=Nat.mul_le_mul hq (by omega)
 have:q<=(u*4294967296+d)/(a*4294967296+b):=by
  rw[Nat.le_div_iff_mul_le (by omega)]
  generalize q*(a*4294967296+b)=z at *
  generalize q*b=x at *
  omega
 omega
theorem DvI.bnd(h:DvI u d a b q r)(hb:b<4294967296):q*b<18446744073709551616:=by
 have:=Nat.mul_le_mul h.qle (show b<=4294967295 by omega)
 omega
end
theorem Di{N y S A K un0 y':Nat}(hy:0<y)(hs:0<S)(hy':y'=y*S)(hn:N*S=A*K+un0) :
  A/y'*K+(A%y'*K+un0)/y'=N/y/\(A%y'*K+un0)%y'/S=N%y:=by
 have hyp:0<y':=by rw[hy'];exact Nat.mul_pos hy hs
 have e1:=x1k A y'
 have e2:=x1k (A%y'*K+un0) y'
 have l2:=Nat.mod_lt (A%y'*K+un0) hyp
 have tot:y'*(A/y'*K+(A%y'*K+un0)/y')+(A%y'*K+un0)%y'=N*S:=by
  rw[hn,Nat.mul_add,x0T,e2,<- Nat.mul_assoc,<- x0T,<- x0D,e1]
 have hq:N*S/y'=A/y'*K+(A%y'*K+un0)/y':=by
  rw[<- tot,Nat.mul_add_div hyp,Nat.div_eq_of_lt l2,x0L]
 have hr:N*S%y'=(A%y'*K+un0)%y':=by
  rw[<- tot,Nat.mul_add_mod,Nat.mod_eq_of_lt l2]
 rw[hy',Nat.mul_div_mul_right _ _ hs]at hq
 rw[hy',Nat.mul_mod_mul_right]at hr
 rw[hy']at *
 exact⟨hq.symm,by rw[<- hr,Nat.mul_div_cancel _ hs]⟩
end Go.Gv

namespace Go.Gv
theorem zH(a b:Nat):Int.tdiv (a:Int) (b:Int)=((a/b:Nat):Int):=by
 rw[Int.tdiv_eq_ediv_of_nonneg (by omega)];norm_cast
theorem Js(a b:Nat):Int.tmod (a:Int) (b:Int)=((a%b:Nat):Int):=by
 rw[Int.tmod_eq_emod_of_nonneg (by omega)];norm_cast
theorem jl(a:Int):IntKind.u64.wrap a=a%18446744073709551616:=by
 have e1:IntKind.u64.signed=false:=rfl
 have e3:(2^IntKind.u64.bits:Int)=18446744073709551616:=rfl
 unfold IntKind.wrap
 simp only[e1,e3,x1I]
 simp
theorem orN(a b i:Nat)(hb:b<2^i)(h:a*2^i+b<18446744073709551616):bits .or .u64 ((a*2^i:Nat):Int) (b:Int)=((a*2^i+b:Nat):Int):=by
 rw[bits_or_u64_nat _ _ (by omega) (by omega),x1M a,Nat.two_pow_add_eq_or_of_lt hb]
theorem vV(a m b s:Nat):(a*m+b)*s=a*s*m+b*s:=by rw[x0D,Nat.mul_right_comm]
theorem Jt{H B W U d1 d0:Nat}(hU:U=H+B)(h1:d1=W/4294967296)(h0:d0=W%4294967296):H*18446744073709551616+(B*18446744073709551616+W)=(U*4294967296+d1)*4294967296+d0:=by omega
theorem Ei{y s:Nat}(h0:y≠0)(hy:y<18446744073709551616)(hs:s=64-bitLen y):s<=63/\9223372036854775808<=y*2^s/\y*2^s<18446744073709551616:=by
 obtain⟨h1,h2⟩:=bitLen_spec y
 have h3:=h2 h0
 have hb:bitLen y<=64:=by
  unfold bitLen
  rw[if_neg h0]
  have:=(Nat.log2_lt h0).2 (show y<2^64 by omega)
  omega
 have hb1:1<=bitLen y:=by unfold bitLen;rw[if_neg h0];omega
 have e:bitLen y+s=64:=by omega
 refine⟨by omega,?_,?_⟩
 ·have:=x0o (2^s) h3
  rw[<- Nat.pow_add,show bitLen y-1+s=63 by omega]at this
  omega
 ·have:=Nat.mul_lt_mul_of_pos_right h1 (Nat.two_pow_pos s)
  rw[<- Nat.pow_add,e]at this
  omega
variable{C:CC}(hC:av prog C)
include hC
theorem uh(hi lo y:Nat)(h:hi<y)(hy:y<18446744073709551616)(hl:lo<18446744073709551616) :
  C 92 [.int .u64 hi,.int .u64 lo,.int .u64 y] (.tup [.int .u64 (((hi*18446744073709551616+lo)/y:Nat):Int),.int .u64 (((hi*18446744073709551616+lo)%y:Nat):Int)]) []:=by
 refine az hC (nf:=N92) rfl rfl ?_
 have h1:¬y=0:=by omega
 have h2:¬y<=hi:=by omega
 generalize hres:D.tup [D.int .u64 (((hi*18446744073709551616+lo)/y:Nat):Int),.int .u64 (((hi*18446744073709551616+lo)%y:Nat):Int)]=res
 simp[N92]
 refine aj (fun h=>?_) (fun _=>?_)
 ·simp at h;omega
 simp
 refine aj (fun h=>?_) (fun _=>?_)
 ·simp at h;omega
 simp
 refine aj (fun h=>?_) (fun h3=>?_)
 ·simp at h
  have:hi=0:=by omega
  subst this
  have hq:lo/y<18446744073709551616:=by have:=Nat.div_le_self lo y;omega
  obtain⟨q,hq'⟩:∃q,q=lo/y:=⟨_,rfl⟩
  obtain⟨r,hr'⟩:∃r,r=lo%y:=⟨_,rfl⟩
  have e1:Int.tdiv (lo:Int) (y:Int)=(q:Int):=by rw[zH,hq']
  have e2:Int.tmod (lo:Int) (y:Int)=(r:Int):=by rw[Js,hr']
  simp[h1,e1,e2,dB q (by omega)]
  refine⟨aF (by decide +kernel),?_⟩
  rw[<- hres,hq',hr',x0X,x07]
 simp
 refine aa (lp hC y hy) (.inl rfl) ?_
 generalize hs:64-bitLen y=s
 obtain⟨s1,s2,s3⟩:=Ei h1 hy hs.symm
 have w1:IntKind.u64.wrap (s:Int)=(s:Int):=dB _ (by omega)
 have w2:IntKind.u64.wrap (64-(s:Int))=((64-s:Nat):Int):=by rw[jl];omega
 have m1:min s IntKind.u64.bits=s:=by show min s 64=s;omega
 have m2:min (64-s) IntKind.u64.bits=64-s:=by show min (64-s) 64=64-s;omega
 obtain⟨Y,hY⟩:∃Y,Y=y*2^s:=⟨_,rfl⟩
 obtain⟨H,hH⟩:∃H,H=hi*2^s:=⟨_,rfl⟩
 obtain⟨W,hW⟩:∃W,W=lo*2^s%18446744073709551616:=⟨_,rfl⟩
 obtain⟨B,hB⟩:∃B,B=lo/2^(64-s):=⟨_,rfl⟩
 rw[<- hY]at s2 s3
 have hHY:H+2^s<=Y:=by
  have:=x0o (2^s) h
  rw[hH,hY]
  rw[x0W]at this
  exact this
 have hBs:B<2^s:=by
  rw[hB,Nat.div_lt_iff_lt_mul (Nat.two_pow_pos _),<- Nat.pow_add,show s+(64-s)=64 by omega]
  exact hl
 obtain⟨U,hU⟩:∃U,U=H+B:=⟨_,rfl⟩
 have hUY:U<Y:=by omega
 have eY:IntKind.u64.wrap ((y:Int)*2^s)=(Y:Int):=by
  rw[show(y:Int)*2^s=(Y:Int) by rw[hY];norm_cast];exact dB _ s3
 have eH:IntKind.u64.wrap ((hi:Int)*2^s)=(H:Int):=by
  rw[show(hi:Int)*2^s=(H:Int) by rw[hH];norm_cast];exact dB _ (by omega)
 have eW:IntKind.u64.wrap ((lo:Int)*2^s)=(W:Int):=by
  rw[show(lo:Int)*2^s=((lo*2^s:Nat):Int) by norm_cast,zX,hW]
 have eB:Int.fdiv (lo:Int) (2^(64-s))=(B:Int):=by rw[tY,hB]
 have eU:bits .or .u64 (H:Int) (B:Int)=(U:Int):=by
  rw[hU,hH];exact orN hi B s hBs (by omega)
 obtain⟨Y1,hY1⟩:∃Y1,Y1=Y/4294967296:=⟨_,rfl⟩
 obtain⟨Y0,hY0⟩:∃Y0,Y0=Y%4294967296:=⟨_,rfl⟩
 obtain⟨d1,hd1⟩:∃d1,d1=W/4294967296:=⟨_,rfl⟩
 obtain⟨d0,hd0⟩:∃d0,d0=W%4294967296:=⟨_,rfl⟩
 have eY1:Int.fdiv (Y:Int) (2^min 32 IntKind.u64.bits)=(Y1:Int):=by rw[uZ,hY1]
 have eY0:bits .and .u64 (Y:Int) 4294967295=(Y0:Int):=by rw[rX _ s3,hY0]
 have hW64:W<18446744073709551616:=by rw[hW];exact Nat.mod_lt _ (by omega)
 have ed1:Int.fdiv (W:Int) (2^min 32 IntKind.u64.bits)=(d1:Int):=by rw[uZ,hd1]
 have ed0:bits .and .u64 (W:Int) 4294967295=(d0:Int):=by rw[rX _ hW64,hd0]
 have hY1a:2147483648<=Y1:=by omega
 have hY1b:Y1<4294967296:=by omega
 have hY0b:Y0<4294967296:=by omega
 have hd1b:d1<4294967296:=by omega
 have hd0b:d0<4294967296:=by omega
 have hYs:Y1*4294967296+Y0=Y:=by omega
 have nz:¬Y1=0:=by omega
 have inv1:=DvI.first hY1a hY1b hY0b (u:=U) (d:=d1) (by omega) hd1b
 obtain⟨q,hq⟩:∃q,q=U/Y1:=⟨_,rfl⟩
 obtain⟨r,hr⟩:∃r,r=U%Y1:=⟨_,rfl⟩
 rw[<- hq,<- hr]at inv1
 have eq1:Int.tdiv (U:Int) (Y1:Int)=(q:Int):=by rw[zH,hq]
 have eq2:IntKind.u64.wrap (q:Int)=(q:Int):=dB _ (by have:=inv1.qle;omega)
 have sub1:∀(u a q r:Nat),q*a+r=u->u<18446744073709551616->IntKind.u64.wrap ((u:Int)-IntKind.u64.wrap ((q:Int)*(a:Int)))=(r:Int):=fun u a q r e hu=>by
  rw[yg,jl,jl]
  generalize q*a=z at *
  omega
 have er:IntKind.u64.wrap ((U:Int)-IntKind.u64.wrap ((q:Int)*(Y1:Int)))=(r:Int):=sub1 _ _ _ _ inv1.sum (by omega)
 simp[w1,w2,m1,m2,eY,eH,eW,eB,eU,eY1,eY0,ed1,ed0,eq1,eq2,er,nz]
 have bm:∀{u d q r:Nat},DvI u d Y1 Y0 q r->IntKind.u64.wrap ((q:Int)*(Y0:Int))=((q*Y0:Nat):Int):=fun i=>by rw[yg];exact dB _ (i.bnd hY0b)
 have bp:∀{u d q r:Nat},d<4294967296->DvI u d Y1 Y0 q r->IntKind.u64.wrap (IntKind.u64.wrap (4294967296*(r:Int))+(d:Int))=((4294967296*r+d:Nat):Int):=fun{u d q r} hd i=>by
  have:=i.rlt
  rw[show(4294967296:Int)*(r:Int)=((4294967296*r:Nat):Int) by omega,dB (4294967296*r) (by omega),GK]
  exact dB _ (by omega)
 obtain⟨Q1,hQ1⟩:∃Q1,Q1=(U*4294967296+d1)/(Y1*4294967296+Y0):=⟨_,rfl⟩
 refine rV 0 Nat (fun x=>[(2,.int .u64 Y),(8,.int .u64 s),(9,.int .u64 Y1),(10,.int .u64 Y0),(11,.int .u64 U),(13,.int .u64 d1),(14,.int .u64 d0),(15,.int .u64 x)]) (fun x=>x=Q1) ?_ ?_
 ·refine aC (Nat×Nat) (fun x=>[(2,.int .u64 Y),(8,.int .u64 s),(9,.int .u64 Y1),(10,.int .u64 Y0),(11,.int .u64 U),(13,.int .u64 d1),(14,.int .u64 d0),(15,.int .u64 x.1),(16,.int .u64 x.2)]) (fun x=>DvI U d1 Y1 Y0 x.1 x.2) (fun x=>4294967296-x.2) (q,r) inv1 (by simp) ?_
  rintro⟨a,c⟩ inv
  simp only at inv
  have b1:=bm inv
  have b2:=bp hd1b inv
  have b3:=inv.rlt
  have b4:=inv.qle
  have fin:(4294967296<=a\/4294967296*c+d1<a*Y0)->∃a' c':Nat,IntKind.u64.wrap ((a:Int)-1)=(a':Int)/\IntKind.u64.wrap ((c:Int)+(Y1:Int))=(c':Int)/\c'=c+Y1/\(4294967296<=c'->a'=Q1)/\(c'<4294967296->DvI U d1 Y1 Y0 a' c'):=fun hc=>by
   obtain⟨n1,n2,n3,n4⟩:=inv.next (by omega) (by rw[hYs];exact hUY) hd1b hc
   refine⟨a-1,c+Y1,by rw[jl];omega,by rw[jl];omega,rfl,fun hc=>(Dv.stop n2 n3 n4 (by omega) hY0b hc).trans hQ1.symm,fun hc=>⟨n2,n3,hc,by omega⟩⟩
  simp
  refine aj (fun c1=>?_) (fun c1=>?_)<;>simp[c1]<;>simp at c1
  ·obtain⟨a',c',k1,k2,k3,k4,k5⟩:=fin (.inl (by omega))
   simp[k1,k2]
   refine aj (fun c2=>?_) (fun c2=>?_)<;>simp[c2,k1,k2]<;>simp at c2
   ·rw[k4 (by omega)]
   ·exact⟨_,_,k5 (by omega),by omega,rfl,rfl⟩
  ·simp[b1,b2]
   refine aj (fun c3=>?_) (fun c3=>?_)<;>simp[c3]<;>simp at c3
   ·obtain⟨a',c',k1,k2,k3,k4,k5⟩:=fin (.inr (by omega))
    simp[k1,k2]
    refine aj (fun c2=>?_) (fun c2=>?_)<;>simp[c2,k1,k2]<;>simp at c2
    ·rw[k4 (by omega)]
    ·exact⟨_,_,k5 (by omega),by omega,rfl,rfl⟩
   ·rw[(inv.done (by omega) (by omega)).trans hQ1.symm]
 intro q1 e hq1 hw
 subst hq1
 simp at hw
 obtain⟨g2,g8,g9,g10,g11,g13,g14,g15⟩:=hw
 obtain⟨V,hV⟩:∃V,V=(U*4294967296+d1)%(Y1*4294967296+Y0):=⟨_,rfl⟩
 have hVY:V<Y:=by rw[hV,hYs];exact Nat.mod_lt _ (by omega)
 have sum1:q1*Y+V=U*4294967296+d1:=by rw[hQ1,hV,hYs,x1M];exact x1k _ _
 have eV:IntKind.u64.wrap (IntKind.u64.wrap (IntKind.u64.wrap ((U:Int)*4294967296)+(d1:Int))-IntKind.u64.wrap ((q1:Int)*(Y:Int)))=(V:Int):=by
  rw[yg q1 Y]
  simp only[jl]
  generalize q1*Y=z at *
  omega
 have inv2:=DvI.first hY1a hY1b hY0b (u:=V) (d:=d0) (by omega) hd0b
 obtain⟨q2,hq2⟩:∃q,q=V/Y1:=⟨_,rfl⟩
 obtain⟨r2,hr2⟩:∃r,r=V%Y1:=⟨_,rfl⟩
 rw[<- hq2,<- hr2]at inv2
 have eq3:Int.tdiv (V:Int) (Y1:Int)=(q2:Int):=by rw[zH,hq2]
 have eq4:IntKind.u64.wrap (q2:Int)=(q2:Int):=dB _ (by have:=inv2.qle;omega)
 have er2:IntKind.u64.wrap ((V:Int)-IntKind.u64.wrap ((q2:Int)*(Y1:Int)))=(r2:Int):=sub1 _ _ _ _ inv2.sum (by omega)
 simp[g2,g8,g9,g10,g11,g13,g14,g15,eV,eq3,eq4,er2,nz]
 obtain⟨Q0,hQ0⟩:∃Q0,Q0=(V*4294967296+d0)/(Y1*4294967296+Y0):=⟨_,rfl⟩
 refine rV 2 Nat (fun x=>[(2,.int .u64 Y),(8,.int .u64 s),(14,.int .u64 d0),(15,.int .u64 q1),(17,.int .u64 V),(18,.int .u64 x)]) (fun x=>x=Q0) ?_ ?_
 ·refine aC (Nat×Nat) (fun x=>[(2,.int .u64 Y),(8,.int .u64 s),(9,.int .u64 Y1),(10,.int .u64 Y0),(14,.int .u64 d0),(15,.int .u64 q1),(16,.int .u64 x.2),(17,.int .u64 V),(18,.int .u64 x.1)]) (fun x=>DvI V d0 Y1 Y0 x.1 x.2) (fun x=>4294967296-x.2) (q2,r2) inv2 (by simp) ?_
  rintro⟨a,c⟩ inv
  simp only at inv
  have b1:=bm inv
  have b2:=bp hd0b inv
  have b3:=inv.rlt
  have b4:=inv.qle
  have fin:(4294967296<=a\/4294967296*c+d0<a*Y0)->∃a' c':Nat,IntKind.u64.wrap ((a:Int)-1)=(a':Int)/\IntKind.u64.wrap ((c:Int)+(Y1:Int))=(c':Int)/\c'=c+Y1/\(4294967296<=c'->a'=Q0)/\(c'<4294967296->DvI V d0 Y1 Y0 a' c'):=fun hc=>by
   obtain⟨n1,n2,n3,n4⟩:=inv.next (by omega) (by rw[hYs];exact hVY) hd0b hc
   refine⟨a-1,c+Y1,by rw[jl];omega,by rw[jl];omega,rfl,fun hc=>(Dv.stop n2 n3 n4 (by omega) hY0b hc).trans hQ0.symm,fun hc=>⟨n2,n3,hc,by omega⟩⟩
  simp
  refine aj (fun c1=>?_) (fun c1=>?_)<;>simp[c1]<;>simp at c1
  ·obtain⟨a',c',k1,k2,k3,k4,k5⟩:=fin (.inl (by omega))
   simp[k1,k2]
   refine aj (fun c2=>?_) (fun c2=>?_)<;>simp[c2,k1,k2]<;>simp at c2
   ·rw[k4 (by omega)]
   ·exact⟨_,_,k5 (by omega),by omega,rfl,rfl⟩
  ·simp[b1,b2]
   refine aj (fun c3=>?_) (fun c3=>?_)<;>simp[c3]<;>simp at c3
   ·obtain⟨a',c',k1,k2,k3,k4,k5⟩:=fin (.inr (by omega))
    simp[k1,k2]
    refine aj (fun c2=>?_) (fun c2=>?_)<;>simp[c2,k1,k2]<;>simp at c2
    ·rw[k4 (by omega)]
    ·exact⟨_,_,k5 (by omega),by omega,rfl,rfl⟩
   ·rw[(inv.done (by omega) (by omega)).trans hQ0.symm]
 intro q0 e hq0 hw
 subst hq0
 simp at hw
 obtain⟨g2,g8,g14,g15,g17,g18⟩:=hw
 have l1:q1<4294967296:=by rw[hQ1];exact Dv.lt (by omega) (by omega) hd1b
 have l0:q0<4294967296:=by rw[hQ0];exact Dv.lt (by omega) (by omega) hd0b
 obtain⟨R,hR⟩:∃R,R=(V*4294967296+d0)%(Y1*4294967296+Y0):=⟨_,rfl⟩
 have hRY:R<Y:=by rw[hR,hYs];exact Nat.mod_lt _ (by omega)
 have sum0:q0*Y+R=V*4294967296+d0:=by rw[hQ0,hR,hYs,x1M];exact x1k _ _
 have eR:IntKind.u64.wrap (IntKind.u64.wrap (IntKind.u64.wrap ((V:Int)*4294967296)+(d0:Int))-IntKind.u64.wrap ((q0:Int)*(Y:Int)))=(R:Int):=by
  rw[yg q0 Y]
  simp only[jl]
  generalize q0*Y=z at *
  omega
 obtain⟨Z,hZ⟩:∃Z,Z=R/2^s:=⟨_,rfl⟩
 have eZ:Int.fdiv (R:Int) (2^s)=(Z:Int):=by rw[tY,hZ]
 have eQ:IntKind.u64.wrap (IntKind.u64.wrap ((q1:Int)*4294967296)+(q0:Int))=((q1*4294967296+q0:Nat):Int):=by
  simp only[jl]
  omega
 obtain⟨T,hT⟩:∃T,T=q1*4294967296+q0:=⟨_,rfl⟩
 rw[<- hT]at eQ
 simp[g2,g8,g14,g15,g17,g18,w1,m1,eR,eZ,eQ]
 have hW2:lo*2^s=B*18446744073709551616+W:=by
  have e1:lo*2^s/18446744073709551616=B:=by
   rw[hB,show(18446744073709551616:Nat)=2^(64-s)*2^s by rw[<- Nat.pow_add,show 64-s+s=64 by omega],Nat.mul_div_mul_right _ _ (Nat.two_pow_pos s)]
  have e2:=x1k (lo*2^s) 18446744073709551616
  omega
 have tot:(hi*18446744073709551616+lo)*2^s=(U*4294967296+d1)*4294967296+d0:=by
  rw[vV,hW2,<- hH]
  exact Jt hU hd1 hd0
 obtain⟨f1,f2⟩:=Di (N:=hi*18446744073709551616+lo) (y:=y) (S:=2^s) (A:=U*4294967296+d1) (K:=4294967296) (un0:=d0) (y':=Y1*4294967296+Y0) (by omega) (Nat.two_pow_pos s) (by rw[hYs,hY]) tot
 rw[<- hV,<- hQ1,<- hQ0,<- hT]at f1
 rw[<- hV,<- hR,<- hZ]at f2
 rw[<- hres,f1,f2]
end Go.Gv

namespace Go.Gv
variable{C:CC}(hC:av prog C)
include hC
end Go.Gv

namespace Go.Gv
open Go.Lib
theorem Je(a k m:Nat)(hm:m=a*2^k%18446744073709551616):IntKind.u64.wrap ((a:Int)*2^k)=(m:Int):=by
 have e:(a:Int)*2^k=((a*2^k:Nat):Int):=by push_cast;rfl
 rw[e,zX,hm]
theorem uw{n:Int}{m:Nat}(h:n=m\/n=m+18446744073709551616\/n=m-18446744073709551616)(hm:m<18446744073709551616):IntKind.u64.wrap n=(m:Int):=by
 rw[jl];omega
end Go.Gv

namespace Go.Gv
open Go.Lib
theorem Jd(a m:Nat)(hm:m=a*16%18446744073709551616):IntKind.u64.wrap ((a:Int)*2^min 4 IntKind.u64.bits)=(m:Int):=Je a 4 m hm
theorem CN(a m:Nat)(hm:m=a*1152921504606846976%18446744073709551616):IntKind.u64.wrap ((a:Int)*2^min 60 IntKind.u64.bits)=(m:Int):=Je a 60 m hm
theorem CP(a:Nat):Int.fdiv (a:Int) (2^min 60 IntKind.u64.bits)=((a/1152921504606846976:Nat):Int):=tY a 60
theorem Jf(a:Nat):Int.fdiv (a:Int) (2^min 4 IntKind.u64.bits)=((a/16:Nat):Int):=tY a 4
theorem yc(a:Nat)(ha:a<18446744073709551616):bits .and .u64 (a:Int) 1152921504606846975=((a%1152921504606846976:Nat):Int):=by
 have h:=bits_and_u64_nat a 1152921504606846975 ha (by omega)
 have e:a &&& 1152921504606846975=a%1152921504606846976:=Nat.and_two_pow_sub_one_eq_mod a 60
 rw[e]at h
 exact h
theorem IY(a b:Nat)(hb:b<16)(h:a*16+b<18446744073709551616):bits .or .u64 ((a*16:Nat):Int) (b:Int)=((a*16+b:Nat):Int):=orN a b 4 hb h
theorem MI(a b:Nat)(hb:b<1152921504606846976)(h:a*1152921504606846976+b<18446744073709551616):bits .or .u64 ((a*1152921504606846976:Nat):Int) (b:Int)=((a*1152921504606846976+b:Nat):Int):=orN a b 60 hb h
def fq(p:Nat)(neg:Bool):D:=.agg [.int .u64 ((p/18446744073709551616:Nat):Int),.int .u64 ((p%18446744073709551616:Nat):Int),.bool neg]
def wiD(p:Nat):D:=.agg [.int .i64 ((p/1152921504606846976:Nat):Int),.int .i64 ((p%1152921504606846976:Nat):Int)]
variable{C:CC}(hC:av prog C)
include hC
theorem jH(n:Nat)(h:n<9223372036854775808):C 112 [.int .i64 n] (.int .u64 (n:Int)) []:=by
 refine az hC (nf:=N112) rfl rfl ?_
 have h0:¬(n:Int)<0:=by omega
 simp[N112,h0,dB n (by omega)]
theorem gY(a b:Int)(n:Bool):C 113 [.int .u64 a,.int .u64 b,.bool n] (.agg [.int .u64 a,.int .u64 b,.bool (n&&(!decide (a=0)||!decide (b=0)))]) []:=by
 refine az hC (nf:=N113) rfl rfl ?_
 simp[N113]
 cases n<;>simp
 by_cases h:a=0<;>simp[h]
theorem zZ(x y:Nat)(hx:x<9223372036854775808)(hy:y<9223372036854775808):C 103 [.int .i64 x,.int .i64 y] (fq (x*y) false) []:=by
 refine az hC (nf:=N103) rfl rfl ?_
 have h0:¬(x:Int)<0:=by omega
 have h1:¬(y:Int)<0:=by omega
 have hm:=ui hC x y (by omega) (by omega)
 rw[fq]
 obtain⟨zh,hzh⟩:∃zh,zh=x*y/18446744073709551616:=⟨_,rfl⟩
 obtain⟨zl,hzl⟩:∃zl,zl=x*y%18446744073709551616:=⟨_,rfl⟩
 rw[<- hzh,<- hzl]at hm ⊢
 simp[N103]
 refine aa (jH hC x hx) (.inl rfl) ?_
 simp
 refine aa (jH hC y hy) (.inl rfl) ?_
 simp
 refine aa hm (.inl rfl) ?_
 simp[h0,h1]
 refine aa (gY hC zh zl false) (.inl rfl) ?_
 simp
theorem lm(n:Nat)(h:n<9223372036854775808):C 110 [.int .u64 n,.bool false] (.tup [.int .i64 n,.int .i64 0]) []:=by
 refine az hC (nf:=N110) rfl rfl ?_
 have h1:(n:Int)<=9223372036854775807:=by omega
 have h2:IntKind.i64.wrap (n:Int)=(n:Int):=ah rfl (by omega)
 simp[N110,h1,h2]
theorem tK(p d:Nat)(up:Bool)(q:Nat)(hd:d<9223372036854775808)(hp:p/18446744073709551616<d)(hq:q<9223372036854775808)(hv:q=if up then(p+d-1)/d else p/d)(hqd:p/d+1<9223372036854775808):C 104 [fq p false,.int .i64 d,.bool up] (.tup [.int .i64 q,.int .i64 0]) []:=by
 obtain⟨ph,hph⟩:∃z,z=p/18446744073709551616:=⟨_,rfl⟩
 obtain⟨pl,hpl⟩:∃z,z=p%18446744073709551616:=⟨_,rfl⟩
 have hpp:ph*18446744073709551616+pl=p:=by omega
 obtain⟨q0,hq0⟩:∃z,z=p/d:=⟨_,rfl⟩
 obtain⟨r0,hr0⟩:∃z,z=p%d:=⟨_,rfl⟩
 have hdiv:=uh hC ph pl d (by omega) (by omega) (by omega)
 rw[hpp,<- hq0,<- hr0]at hdiv
 have hd0:0<d:=by omega
 have hdp:d*q0+r0=p:=by rw[hq0,hr0];exact x1k p d
 have hrd:r0<d:=by rw[hr0];exact Nat.mod_lt _ hd0
 have hup:up=true->q=if 0<r0 then q0+1 else q0:=by
  rintro rfl
  simp only[if_true]at hv
  rw[hv,<- hdp]
  by_cases h:0<r0
  ·rw[if_pos h,show d*q0+r0+d-1=d*q0+(d+(r0-1)) by omega,Nat.mul_add_div hd0,Nat.add_div_left _ hd0,Nat.div_eq_of_lt (by omega)]
  ·rw[if_neg h,show d*q0+r0+d-1=d*q0+(d-1) by omega,Nat.mul_add_div hd0,Nat.div_eq_of_lt (by omega)]
   rfl
 rw[fq,<- hph,<- hpl]
 have h1:¬(d:Int)<=(ph:Int):=by omega
 have h2:¬(d:Int)<0:=by omega
 have h3:IntKind.u64.wrap ((q0:Int)+1)=((q0+1:Nat):Int):=uw (by omega) (by omega)
 refine az hC (nf:=N104) rfl rfl ?_
 simp[N104]
 refine aa (jH hC d hd) (.inl rfl) ?_
 simp[h1]
 refine aa hdiv (.inl rfl) ?_
 simp[h2]
 cases up
 ·have e:q=q0:=by rw[hv,hq0];rfl
  subst e
  refine aj (fun h=>?_) (fun h=>?_)<;>simp at h<;>simp[h]
  ·refine aa (lm hC q hq) (.inl rfl) ?_
   simp
  ·refine aa (lm hC q hq) (.inl rfl) ?_
   simp
 ·have hv:=hup rfl
  by_cases h:0<r0
  ·have hi:(0:Int)<r0:=by omega
   rw[if_pos h]at hv
   subst hv
   have h4:¬((q0:Int)+1=0):=by omega
   simp[hi,h3,h4,h]
   refine aa (lm hC (q0+1) hq) (.inl rfl) ?_
   simp
  ·have hi:¬(0:Int)<r0:=by omega
   rw[if_neg h]at hv
   subst hv
   simp[hi,h]
   refine aa (lm hC q hq) (.inl rfl) ?_
   simp
end Go.Gv

namespace Go.Gv
open Go.Lib
variable{C:CC}(hC:av prog C)
include hC
theorem sL(p:Nat)(h:p<1329227995784915872903807060280344576):C 106 [wiD p] (.bool true) []:=by
 obtain⟨ph,hph⟩:∃z,z=p/1152921504606846976:=⟨_,rfl⟩
 obtain⟨pl,hpl⟩:∃z,z=p%1152921504606846976:=⟨_,rfl⟩
 rw[wiD,<- hph,<- hpl]
 have h1:(-1152921504606846976:Int)<=ph:=by omega
 have h2:(ph:Int)<1152921504606846976:=by omega
 have h3:(0:Int)<=pl:=by omega
 have h4:(pl:Int)<1152921504606846976:=by omega
 refine az hC (nf:=N106) rfl rfl ?_
 simp[N106,h1,h2,h3,h4]
theorem nV(p:Nat)(h:p<1329227995784915872903807060280344576):C 105 [fq p false] (.tup [wiD p,.int .i64 0]) []:=by
 obtain⟨ph,hph⟩:∃z,z=p/1152921504606846976:=⟨_,rfl⟩
 obtain⟨pl,hpl⟩:∃z,z=p%1152921504606846976:=⟨_,rfl⟩
 obtain⟨zh,hzh⟩:∃z,z=p/18446744073709551616:=⟨_,rfl⟩
 obtain⟨zl,hzl⟩:∃z,z=p%18446744073709551616:=⟨_,rfl⟩
 rw[wiD,fq,<- hph,<- hpl,<- hzh,<- hzl]
 obtain⟨zt,hzt⟩:∃z,z=zl/1152921504606846976:=⟨_,rfl⟩
 have h1:¬(72057594037927936:Int)<zh:=by omega
 have h2:¬(zh:Int)=72057594037927936:=by omega
 have e1:=Jd zh (zh*16) (by omega)
 have e2:=CP zl
 rw[<- hzt]at e2
 have e3:=IY zh zt (by omega) (by omega)
 have e4:IntKind.i64.wrap ((zh*16+zt:Nat):Int)=(ph:Int):=ah (by omega) (by omega)
 have e5:=yc zl (by omega)
 have e6:IntKind.i64.wrap ((zl%1152921504606846976:Nat):Int)=(pl:Int):=ah (by omega) (by omega)
 refine az hC (nf:=N105) rfl rfl ?_
 simp[N105,h1,h2,e2,-Int.natCast_mul,-Int.natCast_emod]
 refine⟨aF (by decide +kernel),?_⟩
 rw[e1,e3,e4,e5,e6]
 simp
theorem BV(p:Nat)(h:p<1329227995784915872903807060280344576):C 108 [wiD p] (fq p false) []:=by
 obtain⟨ph,hph⟩:∃z,z=p/1152921504606846976:=⟨_,rfl⟩
 obtain⟨pl,hpl⟩:∃z,z=p%1152921504606846976:=⟨_,rfl⟩
 obtain⟨zh,hzh⟩:∃z,z=p/18446744073709551616:=⟨_,rfl⟩
 obtain⟨zl,hzl⟩:∃z,z=p%18446744073709551616:=⟨_,rfl⟩
 rw[wiD,fq,<- hph,<- hpl,<- hzh,<- hzl]
 have h1:(0:Int)<=ph:=by omega
 obtain⟨w,hw⟩:∃z,z=ph%16:=⟨_,rfl⟩
 have e1:Int.fdiv (ph:Int) (2^min 4 IntKind.u64.bits)=(zh:Int):=by rw[Jf];omega
 have e2:IntKind.u64.wrap ((ph:Int)*2^min 60 IntKind.u64.bits)=((w*1152921504606846976:Nat):Int):=CN ph _ (by omega)
 have e3:IntKind.u64.wrap (pl:Int)=(pl:Int):=dB pl (by omega)
 have e4:bits .or .u64 ((w*1152921504606846976:Nat):Int) (pl:Int)=(zl:Int):=by
  rw[MI w pl (by omega) (by omega)];omega
 refine az hC (nf:=N108) rfl rfl ?_
 simp[N108]
 refine aa (jH hC ph (by omega)) (.inl rfl) ?_
 simp[h1]
 rw[e1,e2,e3,e4]
 simp
end Go.Gv

namespace Go.Gv
theorem A3(p:Nat):∃a b:Int,fq p false=.agg [.int .u64 a,.int .u64 b,.bool false]:=⟨_,_,rfl⟩
theorem ua(p:Nat):∃a b:Int,wiD p=.agg [.int .i64 a,.int .i64 b]:=⟨_,_,rfl⟩
variable{C:CC}(hC:av prog C)
include hC
theorem lq(x y:Nat)(hx:x<9223372036854775808)(hy:y<9223372036854775808)(h:x*y<1329227995784915872903807060280344576):C 99 [.int .i64 x,.int .i64 y] (.tup [wiD (x*y),.int .i64 0]) []:=by
 have k1:=zZ hC x y hx hy
 have k2:=nV hC (x*y) h
 obtain⟨a,b,e1⟩:=A3 (x*y)
 obtain⟨c,d,e2⟩:=ua (x*y)
 rw[e1]at k1 k2
 rw[e2]at k2 ⊢
 refine az hC (nf:=N99) rfl rfl ?_
 simp[N99]
 refine aa k1 (.inl rfl) ?_
 simp
 refine aa k2 (.inr rfl) ?_
 simp
end Go.Gv

namespace Go.Gv
def jQ(x y:Int):Int:=if x<y then -1 else if y<x then 1 else 0
theorem vx(p r:Nat):(if jQ ((p/1152921504606846976:Nat):Int) ((r/1152921504606846976:Nat):Int)≠0 then jQ ((p/1152921504606846976:Nat):Int) ((r/1152921504606846976:Nat):Int) else jQ ((p%1152921504606846976:Nat):Int) ((r%1152921504606846976:Nat):Int))=jQ p r:=by
 unfold jQ
 have h1:=x1k p 1152921504606846976
 have h2:=x1k r 1152921504606846976
 have h3:=Nat.mod_lt p (show 0<1152921504606846976 by decide)
 have h4:=Nat.mod_lt r (show 0<1152921504606846976 by decide)
 obtain⟨a,ha⟩:∃a,a=p/1152921504606846976:=⟨_,rfl⟩
 obtain⟨b,hb⟩:∃b,b=r/1152921504606846976:=⟨_,rfl⟩
 obtain⟨c,hc⟩:∃c,c=p%1152921504606846976:=⟨_,rfl⟩
 obtain⟨d,hd⟩:∃d,d=r%1152921504606846976:=⟨_,rfl⟩
 rw[<- ha,<- hb,<- hc,<- hd]
 rw[<- ha,<- hc]at h1
 rw[<- hb,<- hd]at h2
 rw[<- hc]at h3
 rw[<- hd]at h4
 clear ha hb hc hd
 by_cases e1:a<b
 ·have:(a:Int)<b:=by omega
  rw[if_pos this,if_pos (by decide),if_pos (by omega)]
 ·by_cases e2:b<a
  ·have h5:(b:Int)<a:=by omega
   rw[if_neg (show ¬(a:Int)<b by omega),if_pos h5,if_pos (by decide),if_neg (by omega),if_pos (by omega)]
  ·have:a=b:=by omega
   subst this
   have z:(if (a:Int)<a then(-1:Int) else if (a:Int)<a then 1 else 0)=0:=by simp
   rw[z,if_neg (show ¬(0:Int)≠0 by decide)]
   by_cases e3:c<d
   ·rw[if_pos (show(c:Int)<d by omega),if_pos (by omega)]
   ·rw[if_neg (show ¬(c:Int)<d by omega)]
    by_cases e4:d<c
    ·rw[if_pos (show(d:Int)<c by omega),if_neg (by omega),if_pos (by omega)]
    ·rw[if_neg (show ¬(d:Int)<c by omega),if_neg (by omega),if_neg (by omega)]
variable{C:CC}(hC:av prog C)
include hC
theorem uL(x:Int):C 299 [.int .i64 x] (.bool false) []:=by
 refine az hC (nf:=N299) rfl rfl ?_
 simp[N299]
theorem oW(x y:Int):C 267 [.int .i64 x,.int .i64 y] (.int .i64 (jQ x y)) []:=by
 have k1:=uL hC x
 have k2:=uL hC y
 refine az hC (nf:=N267) rfl rfl ?_
 simp[N267]
 refine aa k1 (.inl rfl) ?_
 simp
 refine aa k2 (.inl rfl) ?_
 simp
 refine aj (fun c1=>?_) (fun c1=>?_)<;>simp at c1<;>simp[c1]
 ·rw[jQ,if_pos c1]
 ·refine aj (fun c2=>?_) (fun c2=>?_)<;>simp at c2<;>simp[c2]
  ·rw[jQ,if_neg (by omega),if_pos c2]
  ·rw[jQ,if_neg (by omega),if_neg (by omega)]
theorem Ai(a b:Int):C 266 [.sl [[.int .i64 a],[.int .i64 b]]] (.int .i64 (if a≠0 then a else b)) []:=by
 have w1:IntKind.wrap .i64 1=1:=by decide
 have w2:IntKind.wrap .i64 2=2:=by decide
 refine az hC (nf:=N266) rfl rfl ?_
 simp[N266]
 refine aC Nat (fun i=>[(3,.int .i64 0),(6,.sl [[.int .i64 a],[.int .i64 b]]),(7,.int .i64 2),(8,.int .i64 i)]) (fun i=>i<=2/\(1<=i->a=0)/\(2<=i->b=0)) (fun i=>2-i) 0 (by simp) (by simp) ?_
 rintro i ⟨hi,s1,s2⟩
 rcases(by omega:i=0\/i=1\/i=2)with rfl|rfl|rfl
 ·by_cases h:a=0
  ·simp[h,w1]
   refine⟨1,?_⟩
   simp[h]
  ·simp[h]
 ·have ha:=s1 (by omega)
  by_cases h:b=0
  ·simp[h,ha,w2]
   refine⟨2,?_⟩
   simp[h,ha]
  ·simp[h,ha]
 ·simp[s1 (by omega),s2 (by omega)]
theorem GA(p r:Nat)(hp:p<1329227995784915872903807060280344576)(hr:r<1329227995784915872903807060280344576):C 225 [wiD p,wiD r] (.tup [.int .i64 (jQ p r),.int .i64 0]) []:=by
 have k1:=sL hC p hp
 have k2:=sL hC r hr
 have k3:=oW hC ((p/1152921504606846976:Nat):Int) ((r/1152921504606846976:Nat):Int)
 have k4:=oW hC ((p%1152921504606846976:Nat):Int) ((r%1152921504606846976:Nat):Int)
 have k5:=Ai hC (jQ ((p/1152921504606846976:Nat):Int) ((r/1152921504606846976:Nat):Int)) (jQ ((p%1152921504606846976:Nat):Int) ((r%1152921504606846976:Nat):Int))
 rw[vx]at k5
 rw[wiD]at k1 k2 ⊢
 rw[wiD]
 obtain⟨a,ha⟩:∃a:Int,a=((p/1152921504606846976:Nat):Int):=⟨_,rfl⟩
 obtain⟨b,hb⟩:∃b:Int,b=((r/1152921504606846976:Nat):Int):=⟨_,rfl⟩
 obtain⟨c,hc⟩:∃c:Int,c=((p%1152921504606846976:Nat):Int):=⟨_,rfl⟩
 obtain⟨d,hd⟩:∃d:Int,d=((r%1152921504606846976:Nat):Int):=⟨_,rfl⟩
 rw[<- ha,<- hc]at k1 ⊢
 rw[<- hb,<- hd]at k2 ⊢
 rw[<- ha,<- hb]at k3 k5
 rw[<- hc,<- hd]at k4 k5
 refine az hC (nf:=N225) rfl rfl ?_
 simp[N225]
 refine aa k1 (.inl rfl) ?_
 simp
 refine aa k2 (.inl rfl) ?_
 simp
 refine aa k3 (.inl rfl) ?_
 simp
 refine aa k4 (.inl rfl) ?_
 simp
 refine aa k5 (.inl rfl) ?_
 simp
 exact aF (by decide +kernel)
end Go.Gv

namespace Go.Gv
open Go.Lib
def wiS(v:Int):D:=.agg [.int .i64 (v/1152921504606846976),.int .i64 (v%1152921504606846976)]
theorem mX(p:Nat):wiS p=wiD p:=by simp[wiS,wiD]
variable{C:CC}(hC:av prog C)
include hC
theorem sK(n:Nat)(h0:0<n)(h:n<9223372036854775808):C 112 [.int .i64 (-(n:Int))] (.int .u64 (n:Int)) []:=by
 have e1:IntKind.u64.wrap (-(n:Int))=((18446744073709551616-n:Nat):Int):=uw (by omega) (by omega)
 have e2:IntKind.u64.wrap (-((18446744073709551616-n:Nat):Int))=(n:Int):=uw (by omega) (by omega)
 have h1:(-(n:Int))<0:=by omega
 refine az hC (nf:=N112) rfl rfl ?_
 obtain⟨z,hz⟩:∃z,z=-(n:Int):=⟨_,rfl⟩
 obtain⟨y,hy⟩:∃y,y=((18446744073709551616-n:Nat):Int):=⟨_,rfl⟩
 rw[<- hz]at e1 h1 ⊢
 rw[<- hy]at e1 e2
 simp[N112,h1,e1,e2]
theorem pv(p:Nat)(h0:0<p)(h:p<1329227995784915872903807060280344576):C 105 [fq p true] (.tup [wiS (-(p:Int)),.int .i64 0]) []:=by
 obtain⟨ph,hph⟩:∃z,z=p/1152921504606846976:=⟨_,rfl⟩
 obtain⟨pl,hpl⟩:∃z,z=p%1152921504606846976:=⟨_,rfl⟩
 obtain⟨zh,hzh⟩:∃z,z=p/18446744073709551616:=⟨_,rfl⟩
 obtain⟨zl,hzl⟩:∃z,z=p%18446744073709551616:=⟨_,rfl⟩
 obtain⟨qh,hqh⟩:∃z,z=(-(p:Int))/1152921504606846976:=⟨_,rfl⟩
 obtain⟨ql,hql⟩:∃z,z=(-(p:Int))%1152921504606846976:=⟨_,rfl⟩
 rw[wiS,fq,<- hzh,<- hzl,<- hqh,<- hql]
 obtain⟨zt,hzt⟩:∃z,z=zl/1152921504606846976:=⟨_,rfl⟩
 have h1:¬(72057594037927936:Int)<zh:=by omega
 have h2:¬(zh:Int)=72057594037927936:=by omega
 have e1:=Jd zh (zh*16) (by omega)
 have e2:=CP zl
 rw[<- hzt]at e2
 have e3:=IY zh zt (by omega) (by omega)
 have e4:IntKind.i64.wrap ((zh*16+zt:Nat):Int)=(ph:Int):=ah (by omega) (by omega)
 have e5:=yc zl (by omega)
 have e6:IntKind.i64.wrap ((zl%1152921504606846976:Nat):Int)=(pl:Int):=ah (by omega) (by omega)
 have e7:IntKind.i64.wrap (-(ph:Int))=-(ph:Int):=ah rfl (by omega)
 have e8:IntKind.i64.wrap (-(ph:Int)-1)=-(ph:Int)-1:=ah rfl (by omega)
 have e9:IntKind.i64.wrap (1152921504606846976-(pl:Int))=1152921504606846976-(pl:Int):=ah rfl (by omega)
 refine az hC (nf:=N105) rfl rfl ?_
 simp[N105,h1,h2,e2,-Int.natCast_mul,-Int.natCast_emod]
 refine⟨aF (by decide +kernel),?_⟩
 rw[e1,e3,e4,e5,e6]
 simp
 refine aj (fun c1=>?_) (fun c1=>?_)<;>simp at c1
 ·simp[c1,e7]
  omega
 ·simp[c1,e7,e8,e9]
  omega
theorem ma(v:Int)(h:-1329227995784915872903807060280344576<=v/\v<1329227995784915872903807060280344576):C 106 [wiS v] (.bool true) []:=by
 obtain⟨ph,hph⟩:∃z,z=v/1152921504606846976:=⟨_,rfl⟩
 obtain⟨pl,hpl⟩:∃z,z=v%1152921504606846976:=⟨_,rfl⟩
 rw[wiS,<- hph,<- hpl]
 have h1:(-1152921504606846976:Int)<=ph:=by omega
 have h2:ph<1152921504606846976:=by omega
 have h3:0<=pl:=by omega
 have h4:pl<1152921504606846976:=by omega
 refine az hC (nf:=N106) rfl rfl ?_
 simp[N106,h1,h2,h3,h4]
end Go.Gv

namespace Go.Gv
variable{C:CC}(hC:av prog C)
include hC
theorem GB(v:Int)(h:-9223372036854775808<v/\v<9223372036854775808):C 265 [.int .i64 v] (wiS v) []:=by
 by_cases h0:v<0
 ·obtain⟨n,rfl⟩:∃n:Nat,v=-(n:Int):=⟨v.natAbs,by omega⟩
  have k1:=sK hC n (by omega) (by omega)
  have k2:=gY hC 0 n true
  have k3:=pv hC n (by omega) (by omega)
  have e1:fq n true=.agg [.int .u64 0,.int .u64 n,.bool true]:=by
   rw[fq,show n/18446744073709551616=0 by omega,show n%18446744073709551616=n by omega];rfl
  have n0:¬(n:Int)=0:=by omega
  rw[e1]at k3
  rw[show(true&&(!decide ((0:Int)=0)||!decide ((n:Int)=0)))=true by simp;omega]at k2
  rw[wiS]at k3 ⊢
  obtain⟨z,hz⟩:∃z,z=-(n:Int):=⟨_,rfl⟩
  rw[<- hz]at k1 k3 h0 ⊢
  obtain⟨a,ha⟩:∃a,a=z/1152921504606846976:=⟨_,rfl⟩
  obtain⟨b,hb⟩:∃b,b=z%1152921504606846976:=⟨_,rfl⟩
  rw[<- ha,<- hb]at k3 ⊢
  refine az hC (nf:=N265) rfl rfl ?_
  simp[N265]
  refine aa k1 (.inl rfl) ?_
  simp[h0]
  refine aa k2 (.inl rfl) ?_
  simp
  refine aa k3 (.inr rfl) ?_
  simp
 ·obtain⟨n,rfl⟩:∃n:Nat,v=(n:Int):=⟨v.natAbs,by omega⟩
  have k1:=jH hC n (by omega)
  have k2:=gY hC 0 n false
  have k3:=nV hC n (by omega)
  have e1:fq n false=.agg [.int .u64 0,.int .u64 n,.bool false]:=by
   rw[fq,show n/18446744073709551616=0 by omega,show n%18446744073709551616=n by omega];rfl
  rw[e1]at k3
  rw[x1I]at k2
  rw[mX]
  rw[wiD]at k3 ⊢
  obtain⟨z,hz⟩:∃z,z=(n:Int):=⟨_,rfl⟩
  obtain⟨a,ha⟩:∃a:Int,a=((n/1152921504606846976:Nat):Int):=⟨_,rfl⟩
  obtain⟨b,hb⟩:∃b:Int,b=((n%1152921504606846976:Nat):Int):=⟨_,rfl⟩
  rw[<- ha,<- hb]at k3 ⊢
  rw[<- hz]at k1 k2 k3 h0 ⊢
  refine az hC (nf:=N265) rfl rfl ?_
  simp[N265]
  refine aa k1 (.inl rfl) ?_
  simp[h0]
  refine aa k2 (.inl rfl) ?_
  simp
  refine aa k3 (.inr rfl) ?_
  simp
end Go.Gv

namespace Go.Gv
open Go.Lib
variable{C:CC}(hC:av prog C)
include hC
end Go.Gv

namespace Go.Gv
open Go.Lib
variable{C:CC}(hC:av prog C)
include hC
end Go.Gv

namespace Go.Gv
variable{C:CC}(hC:av prog C)
include hC
end Go.Gv

namespace Go.Gv
variable{C:CC}(hC:av prog C)
include hC
end Go.Gv

namespace Go.Gv
open Go.Lib
def gV(v:Int):D:=fq v.natAbs (decide (v<0))
theorem gg{v:Int}{p:Nat}{b:Bool}(h1:v.natAbs=p)(h2:decide (v<0)=b):gV v=fq p b:=by rw[gV,h1,h2]
theorem fH(p:Nat)(b:Bool):∃x y:Nat,x=p/18446744073709551616/\y=p%18446744073709551616/\fq p b=.agg [.int .u64 x,.int .u64 y,.bool b]:=⟨_,_,rfl,rfl,rfl⟩
theorem iw{n m:Int}(h:n=m\/n=m+18446744073709551616)(h2:-9223372036854775808<=m/\m<9223372036854775808):IntKind.i64.wrap n=m:=by
 have e1:IntKind.i64.signed=true:=rfl
 have e2:(2^(IntKind.i64.bits-1):Int)=9223372036854775808:=rfl
 have e3:(2^IntKind.i64.bits:Int)=18446744073709551616:=rfl
 unfold IntKind.wrap
 simp only[e1,e2,e3,x1G,x0b]
 split<;>omega
variable{C:CC}(hC:av prog C)
include hC
end Go.Gv

namespace Go.Gv
open Go.Lib
theorem fJ(v:Int):∃h l:Int,h=v/1152921504606846976/\l=v%1152921504606846976/\wiS v=.agg [.int .i64 h,.int .i64 l]:=⟨_,_,rfl,rfl,rfl⟩
variable{C:CC}(hC:av prog C)
include hC
theorem v8(v:Int)(h:-1329227995784915872903807060280344576<v/\v<1329227995784915872903807060280344576):C 105 [gV v] (.tup [wiS v,.int .i64 0]) []:=by
 by_cases v0:v<0
 ·have k:=pv hC v.natAbs (by omega) (by omega)
  rw[show -((v.natAbs:Nat):Int)=v by omega]at k
  rw[gV,decide_eq_true v0]
  exact k
 ·have k:=nV hC v.natAbs (by omega)
  rw[<- mX,show((v.natAbs:Nat):Int)=v by omega]at k
  rw[gV,decide_eq_false v0]
  exact k
set_option maxHeartbeats 2000000 in
theorem oz(v:Int)(h:-1329227995784915872903807060280344576<=v/\v<1329227995784915872903807060280344576):C 108 [wiS v] (gV v) []:=by
 by_cases v0:v<0
 ·obtain⟨ph,pl,hph,hpl,e0⟩:=fJ v
  obtain⟨n,hn⟩:∃n:Nat,n=ph.natAbs:=⟨_,rfl⟩
  obtain⟨l,hl⟩:∃l:Nat,l=pl.natAbs:=⟨_,rfl⟩
  obtain⟨p,hp⟩:∃p,p=v.natAbs:=⟨_,rfl⟩
  obtain⟨zh,zl,hzh,hzl,e1⟩:=fH p true
  have epl:pl=(l:Int):=by omega
  have eph:ph=-(n:Int):=by omega
  have k1:=sK hC n (by omega) (by omega)
  rw[gg hp.symm (decide_eq_true v0),e0,e1,epl,eph]
  have h1:¬(0:Int)<=-(n:Int):=by omega
  obtain⟨w,hw⟩:∃z,z=n%16:=⟨_,rfl⟩
  obtain⟨t,ht⟩:∃z,z=n/16:=⟨_,rfl⟩
  have s1:Int.fdiv (n:Int) (2^min 4 IntKind.u64.bits)=(t:Int):=by rw[Jf,ht]
  have s2:IntKind.u64.wrap ((n:Int)*2^min 60 IntKind.u64.bits)=((w*1152921504606846976:Nat):Int):=CN n _ (by omega)
  have s3:IntKind.u64.wrap (l:Int)=(l:Int):=dB l (by omega)
  have c1:(l:Int)<18446744073709551616:=by omega
  have c2:((w*1152921504606846976:Nat):Int)<18446744073709551616:=by omega
  have s4:(((w*1152921504606846976:Nat):Int)-(l:Int))%18446744073709551616=(zl:Int):=by omega
  have s5:IntKind.u64.wrap ((t:Int)-(if w*1152921504606846976<l then 1 else 0))=(zh:Int):=by
   split<;>exact uw (by omega) (by omega)
  obtain⟨W,hW⟩:∃W,W=w*1152921504606846976:=⟨_,rfl⟩
  rw[<- hW]at s2 s4 s5 c2
  obtain⟨z,hz⟩:∃z,z=-(n:Int):=⟨_,rfl⟩
  rw[<- hz]at k1 h1 ⊢
  have c3:(0:Int)<=W:=by omega
  have c4:(0:Int)<=l:=by omega
  refine az hC (nf:=N108) rfl rfl ?_
  simp[N108]
  refine aa k1 (.inl rfl) ?_
  simp[h1]
  rw[s1,s2,s3]
  simp[c1,c2,s4,s5]
 ·have k:=BV hC v.natAbs (by omega)
  rw[<- mX,show((v.natAbs:Nat):Int)=v by omega]at k
  rw[gV,decide_eq_false v0]
  exact k
set_option maxRecDepth 20000 in
set_option maxHeartbeats 4000000 in
theorem EL(x y:Int)(hx:x.natAbs<170141183460469231731687303715884105728)(hy:y.natAbs<170141183460469231731687303715884105728):C 107 [gV x,gV y] (gV (x+y)) []:=by
 obtain⟨p,hp⟩:∃p,p=x.natAbs:=⟨_,rfl⟩
 obtain⟨r,hr⟩:∃r,r=y.natAbs:=⟨_,rfl⟩
 obtain⟨s,hs⟩:∃s,s=decide (x<0):=⟨_,rfl⟩
 obtain⟨t,ht⟩:∃t,t=decide (y<0):=⟨_,rfl⟩
 rw[gg hp.symm hs.symm,gg hr.symm ht.symm]
 obtain⟨ph,pl,hph,hpl,ep⟩:=fH p s
 obtain⟨rh,rl,hrh,hrl,er⟩:=fH r t
 rw[ep,er]
 have k0:(0:Int)<=pl:=by omega
 have k1:(0:Int)<=rl:=by omega
 have k3:(pl:Int)<18446744073709551616:=by omega
 have k4:(rl:Int)<18446744073709551616:=by omega
 by_cases c:s=t
 ·have e:gV (x+y)=fq (p+r) (s&&!decide (p+r=0)):=gg (by
   subst c
   rw[hs,decide_eq_decide]at ht
   omega) (by
   subst c
   rw[hs]at ht ⊢
   rw[decide_eq_decide]at ht
   rw[x0S]
   simp
   omega)
  obtain⟨dh,dl,hdh,hdl,ed⟩:=fH (p+r) (s&&!decide (p+r=0))
  rw[e,ed]
  have kk:=gY hC dh dl s
  rw[show(s&&(!decide ((dh:Int)=0)||!decide ((dl:Int)=0)))=(s&&!decide (p+r=0)) by
   congr 1;rw[x0S];simp;omega]at kk
  obtain⟨w,hw⟩:∃w,w=(s&&!decide (p+r=0)):=⟨_,rfl⟩
  rw[<- hw]at kk ⊢
  subst c
  clear hs ht hw e ed
  have e1:((pl:Int)+rl)%18446744073709551616=(dl:Int):=by omega
  have e2:IntKind.u64.wrap ((ph:Int)+rh)=(ph:Int)+rh:=uw (m:=ph+rh) (by omega) (by omega)
  have e3:IntKind.u64.wrap ((ph:Int)+rh+((pl:Int)+rl)/18446744073709551616)=(dh:Int):=uw (by omega) (by omega)
  obtain⟨g,hg⟩:∃g,g=((pl:Int)+rl)/18446744073709551616:=⟨_,rfl⟩
  rw[<- hg]at e3
  refine az hC (nf:=N107) rfl rfl ?_
  simp[N107,k0,k1,k3,k4,e1,e2,e3,<- hg]
  refine aa kk (.inl rfl) ?_
  simp
 ·have c3:(s==t)=false:=by simpa using c
  rw[hs,ht,decide_eq_decide]at c
  by_cases l:p<r
  ·have e:gV (x+y)=fq (r-p) (t&&!decide (r-p=0)):=gg (by
    omega) (by
    rw[x0S,ht]
    simp
    omega)
   obtain⟨dh,dl,hdh,hdl,ed⟩:=fH (r-p) (t&&!decide (r-p=0))
   rw[e,ed]
   have kk:=gY hC dh dl t
   rw[show(t&&(!decide ((dh:Int)=0)||!decide ((dl:Int)=0)))=(t&&!decide (r-p=0)) by
    congr 1;rw[x0S];simp;omega]at kk
   obtain⟨w,hw⟩:∃w,w=(t&&!decide (r-p=0)):=⟨_,rfl⟩
   rw[<- hw]at kk ⊢
   have e1:((rl:Int)-pl)%18446744073709551616=(dl:Int):=by omega
   have e2:IntKind.u64.wrap ((rh:Int)-ph)=((rh-ph:Nat):Int):=uw (by omega) (by omega)
   have e3:IntKind.u64.wrap (((rh-ph:Nat):Int)-(if rl<pl then 1 else 0))=(dh:Int):=by
    split<;>exact uw (by omega) (by omega)
   have c5:ph<rh\/(ph=rh/\pl<rl):=by omega
   clear hs ht hw e ed c
   refine az hC (nf:=N107) rfl rfl ?_
   simp[N107,c3]
   rcases c5 with c5|⟨c5,c6⟩
   ·simp[c5,k3,k4,e1,e2]
    rw[e3]
    refine aa kk (.inl rfl) ?_
    simp
   ·have c7:¬rl<pl:=by omega
    have hd:dh=0:=by omega
    have hz:IntKind.u64.wrap 0=0:=dB 0 (by omega)
    subst hd
    clear hph hpl hrh hrl hdh hdl k0 k1
    subst c5
    refine aj (fun c4=>?_) (fun c4=>?_)<;>simp at c4
    simp
    refine aj (fun c4=>?_) (fun c4=>?_)<;>simp at c4
    ·simp[c4,c7,k3,k4,e1,hz]
     refine aa kk (.inl rfl) ?_
     simp
    ·omega
  ·have e:gV (x+y)=fq (p-r) (s&&!decide (p-r=0)):=gg (by
    omega) (by
    rw[x0S,hs]
    simp
    omega)
   obtain⟨dh,dl,hdh,hdl,ed⟩:=fH (p-r) (s&&!decide (p-r=0))
   rw[e,ed]
   have kk:=gY hC dh dl s
   rw[show(s&&(!decide ((dh:Int)=0)||!decide ((dl:Int)=0)))=(s&&!decide (p-r=0)) by
    congr 1;rw[x0S];simp;omega]at kk
   obtain⟨w,hw⟩:∃w,w=(s&&!decide (p-r=0)):=⟨_,rfl⟩
   rw[<- hw]at kk ⊢
   have e1:((pl:Int)-rl)%18446744073709551616=(dl:Int):=by omega
   have e2:IntKind.u64.wrap ((ph:Int)-rh)=((ph-rh:Nat):Int):=uw (by omega) (by omega)
   have e3:IntKind.u64.wrap (((ph-rh:Nat):Int)-(if pl<rl then 1 else 0))=(dh:Int):=by
    split<;>exact uw (by omega) (by omega)
   have c5:¬ph<rh:=by omega
   have c6:ph=rh->¬pl<rl:=by omega
   clear hs ht hw e ed c
   refine az hC (nf:=N107) rfl rfl ?_
   simp[N107,c3]
   simp[c5]
   refine aj (fun c7=>?_) (fun c7=>?_)<;>simp at c7<;>simp[c7]
   ·have c8:¬pl<rl:=c6 (by omega)
    have hd:dh=0:=by omega
    have hz:IntKind.u64.wrap 0=0:=dB 0 (by omega)
    subst hd
    refine aj (fun c4=>?_) (fun c4=>?_)<;>simp at c4<;>simp[c4]
    ·omega
    simp[c8,k3,k4,e1,hz]
    refine aa kk (.inl rfl) ?_
    simp
   ·simp[k3,k4,e1,e2]
    rw[e3]
    refine aa kk (.inl rfl) ?_
    simp
theorem CV(x y:Int)(hx:-664613997892457936451903530140172288<=x/\x<=664613997892457936451903530140172287)(hy:-664613997892457936451903530140172288<y/\y<=664613997892457936451903530140172287):C 327 [wiS x,wiS y] (.tup [wiS (x+y),.int .i64 0]) []:=by
 have k1:=ma hC x (by omega)
 have k2:=ma hC y (by omega)
 have k3:=oz hC x (by omega)
 have k4:=oz hC y (by omega)
 have k5:=EL hC x y (by omega) (by omega)
 have k6:=v8 hC (x+y) (by omega)
 obtain⟨a1,a2,_,_,ea⟩:=fJ x
 obtain⟨b1,b2,_,_,eb⟩:=fJ y
 obtain⟨c1,c2,_,_,ec⟩:=fJ (x+y)
 obtain⟨f1,f2,f3,ef⟩:∃(a1 a2:Nat) (a3:Bool),gV x=.agg [.int .u64 a1,.int .u64 a2,.bool a3]:=⟨_,_,_,rfl⟩
 obtain⟨g1,g2,g3,eg⟩:∃(a1 a2:Nat) (a3:Bool),gV y=.agg [.int .u64 a1,.int .u64 a2,.bool a3]:=⟨_,_,_,rfl⟩
 obtain⟨h1,h2,h3,eh⟩:∃(a1 a2:Nat) (a3:Bool),gV (x+y)=.agg [.int .u64 a1,.int .u64 a2,.bool a3]:=⟨_,_,_,rfl⟩
 rw[ea]at k1 k3 ⊢
 rw[eb]at k2 k4 ⊢
 rw[ef]at k3 k5
 rw[eg]at k4 k5
 rw[eh]at k5 k6
 rw[ec]at k6 ⊢
 clear ea eb ec ef eg eh
 refine az hC (nf:=N327) rfl rfl ?_
 simp[N327]
 refine aa k1 (.inl rfl) ?_
 simp
 refine aa k2 (.inl rfl) ?_
 simp
 refine aa k3 (.inl rfl) ?_
 simp
 refine aa k4 (.inl rfl) ?_
 simp
 refine aa k5 (.inl rfl) ?_
 simp
 refine aa k6 (.inr rfl) ?_
 simp
 exact aF (by decide +kernel)
theorem zW(n:Nat)(h:n<9223372036854775808)(b:Bool):C 110 [.int .u64 n,.bool b] (.tup [.int .i64 (if b then -(n:Int) else n),.int .i64 0]) []:=by
 cases b
 ·exact lm hC n h
 ·by_cases h0:n=0
  ·subst h0
   refine az hC (nf:=N110) rfl rfl ?_
   have hz:IntKind.u64.wrap 0=0:=by decide
   have hz2:IntKind.i64.wrap 0=0:=by decide
   simp[N110,hz,hz2]
  ·have h1:(n:Int)<=9223372036854775808:=by omega
   have h2:IntKind.u64.wrap (-(n:Int))=((18446744073709551616-n:Nat):Int):=uw (by omega) (by omega)
   have h3:IntKind.i64.wrap ((18446744073709551616-n:Nat):Int)=-(n:Int):=iw (by omega) (by omega)
   obtain⟨y,hy⟩:∃y,y=((18446744073709551616-n:Nat):Int):=⟨_,rfl⟩
   rw[<- hy]at h2 h3
   refine az hC (nf:=N110) rfl rfl ?_
   simp[N110,h1,h2,h3]
theorem so(p d:Nat)(up:Bool)(q:Nat)(hp0:0<p)(hd:d<9223372036854775808)(hp:p/18446744073709551616<d)(hq:q<9223372036854775808)(hv:q=if up then p/d else if p%d=0 then p/d else p/d+1)(hqd:p/d+1<9223372036854775808):C 104 [fq p true,.int .i64 d,.bool up] (.tup [.int .i64 (-(q:Int)),.int .i64 0]) []:=by
 obtain⟨ph,hph⟩:∃z,z=p/18446744073709551616:=⟨_,rfl⟩
 obtain⟨pl,hpl⟩:∃z,z=p%18446744073709551616:=⟨_,rfl⟩
 have hpp:ph*18446744073709551616+pl=p:=by omega
 obtain⟨q0,hq0⟩:∃z,z=p/d:=⟨_,rfl⟩
 obtain⟨r0,hr0⟩:∃z,z=p%d:=⟨_,rfl⟩
 have hdiv:=uh hC ph pl d (by omega) (by omega) (by omega)
 rw[hpp,<- hq0,<- hr0]at hdiv
 rw[<- hq0,<- hr0]at hv
 rw[fq,<- hph,<- hpl]
 have h1:¬(d:Int)<=(ph:Int):=by omega
 have h2:¬(d:Int)<0:=by omega
 have h3:IntKind.u64.wrap ((q0:Int)+1)=((q0+1:Nat):Int):=uw (by omega) (by omega)
 have kw:=zW hC q hq (decide (0<q))
 have kq:(if decide (0<q)=true then -(q:Int) else(q:Int))=-(q:Int):=by
  by_cases h:0<q
  ·simp[h]
  ·have:q=0:=by omega
   subst this
   simp
 rw[kq]at kw
 obtain⟨Q,hQ⟩:∃Q,Q=-(q:Int):=⟨_,rfl⟩
 rw[<- hQ]at kw ⊢
 refine az hC (nf:=N104) rfl rfl ?_
 simp[N104]
 refine aa (jH hC d hd) (.inl rfl) ?_
 simp[h1]
 refine aa hdiv (.inl rfl) ?_
 simp[h2]
 cases up
 ·by_cases h:0<r0
  ·have hi:(0:Int)<r0:=by omega
   have e:q=q0+1:=by rw[hv];simp;omega
   subst e
   have h4:¬((q0:Int)+1=0):=by omega
   simp[hi,h3,h4,h]
   simp at kw
   refine aa kw (.inl rfl) ?_
   simp
  ·have hi:¬(0:Int)<r0:=by omega
   have e:q=q0:=by rw[hv];simp;omega
   subst e
   simp[hi,h]
   refine aa kw (.inl rfl) ?_
   simp
 ·have e:q=q0:=by rw[hv];simp
  subst e
  by_cases h:0<r0
  ·have hi:(0:Int)<r0:=by omega
   simp[hi,h]
   refine aa kw (.inl rfl) ?_
   simp
  ·have hi:¬(0:Int)<r0:=by omega
   simp[hi,h]
   refine aa kw (.inl rfl) ?_
   simp
end Go.Gv

namespace Go.Gv
def mnV(s:Srs)(W k:Nat):Int:=if s.d[k]!<0\/W=0 then -1 else s.d[k]!
theorem qM{s:Srs}(h:srB s=true):(-68719476736<=s.a/\s.a<=68719476736)/\(1<=s.s/\s.s<=86400)/\s.d.length<=10000/\∀x∈s.d,-1<=x/\x<=4194304:=by
 simp only[srB,ml,x0a,x0b,x0r,x1h]at h
 obtain⟨⟨⟨⟨⟨h1,h2⟩,h3⟩,h4⟩,_⟩,h6⟩:=h
 refine⟨h1,⟨h2,h3⟩,h4,fun x hx=>?_⟩
 have:=h6 x hx
 simp only[xq,x0E,x0b]at this
 omega
def hiW(v:Int):Int:=v/1152921504606846976
def loW(v:Int):Int:=v%1152921504606846976
theorem l9(v:Int):wiS v=.agg [.int .i64 (hiW v),.int .i64 (loW v)]:=rfl
variable{C:CC}(hC:av prog C)
include hC
set_option maxHeartbeats 2000000 in
theorem DT(hF:∀(v:Int) (d:Nat),0<d->d<=4503599627370496->v.natAbs<=4194304*d->C 271 [wiS v,.int .i64 d] (.tup [.int .i64 (v/d),.int .i64 0]) [])(s:Srs)(hs:srB s=true)(w:List Nat)(hl:w.length<2^40)(hW:w.sum<=4503599627370496)(k:Nat)(hk:k<s.d.length) :
  C 908 [.sl (List.replicate w.length (srC s)),.sl (w.map fun(x:Nat)=>[.int .i64 (x:Int)]),.int .i64 (s.a+k*s.s)] (.tup [.int .i64 (mnV s w.sum k),.int .i64 0]) []:=by
 obtain⟨b1,b2,b3,b4⟩:=qM hs
 have hd:=b4 _ (x0u hk)
 have ek:s.d[k]! = s.d[k]:=x0K s.d k hk
 have esl:slx s.b (s.d.map fun n=>[D.int .i64 n])=.sl (s.d.map fun n=>[D.int .i64 n]):=by
  cases hds:s.d with
  | nil=>rw[hds]at hk;simp at hk
  | cons x l=>exact oj
 have hks:(0:Int)<=k*s.s/\k*s.s<=864000000:=by
  refine⟨x1x (by omega) (by omega),?_⟩
  have h1:=Int.mul_le_mul (a:=(k:Int)) (b:=s.s) (c:=10000) (d:=86400) (by omega) (by omega) (by omega) (by omega)
  omega
 have w0:IntKind.wrap .i64 (s.a+k*s.s-s.a)=k*s.s:=ah (by omega) (by omega)
 have w1:((k:Int)*s.s).tdiv s.s=k:=Int.mul_tdiv_cancel _ (by omega)
 have w2:IntKind.wrap .i64 (((k:Int)*s.s).tdiv s.s)=k:=by rw[w1];exact ah rfl (by omega)
 have k1:=GB hC 0 (by omega)
 rw[l9]at k1
 obtain⟨tt,htt⟩:∃tt,tt=s.a+k*s.s:=⟨_,rfl⟩
 rw[<- htt]at w0 ⊢
 obtain⟨xs,hxs⟩:∃xs:List (List D),xs=List.replicate w.length (srC s):=⟨_,rfl⟩
 have gx:∀{i:Nat},i<w.length->xs[i]? = some [.int .i64 s.a,.int .i64 s.s,.sl (s.d.map fun n=>[.int .i64 n])]:=fun h=>by rw[hxs];simp[h,cO,esl]
 have gl:xs.length=w.length:=by rw[hxs];simp
 obtain⟨ws,hws⟩:∃ws:List (List D),ws=w.map fun(x:Nat)=>[.int .i64 (x:Int)]:=⟨_,rfl⟩
 have gw:∀{i:Nat} (h:i<w.length),ws[i]? = some [.int .i64 (w[i]:Nat)]:=fun h=>by rw[hws];simp[h]
 rw[<- hxs,<- hws]
 clear hxs hws
 refine az hC (nf:=N908) rfl rfl ?_
 simp[N908]
 refine aa k1 (.inl rfl) ?_
 simp
 by_cases hneg:s.d[k]<0
 ·refine aC Nat (fun i=>[(1,.sl ws),(2,.int .i64 tt),(8,.adr (.r 10128) 0 0),(9,.int .i64 0),(16,.sl xs),(17,.int .i64 xs.length),(18,.int .i64 i),(10128,.blk 2 [[.int .i64 (hiW 0),.int .i64 (loW 0)]])]) (fun i=>i<=w.length) (fun i=>w.length-i) 0 (by simp) (by simp) ?_
  intro i hi
  simp
  refine aj (fun h=>?_) (fun h=>?_)<;>simp at h
  ·rw[gl]at h
   have hw:IntKind.wrap .i64 ((i:Int)+1)=((i+1:Nat):Int):=ah (by omega) (by omega)
   simp[h,gl,aD (gx h)]
   rw[w0,w2]
   refine⟨by omega,by omega,by simpa using hk,aF (by decide +kernel),?_⟩
   simp[hk,hneg,hw]
   exact⟨i+1,by omega,by omega,by rw[gl],rfl⟩
  ·have e:i=w.length:=by omega
   subst e
   have e2:mnV s w.sum k=-1:=by rw[mnV,if_pos (.inl (by rw[ek];exact hneg))]
   rw[e2]
   simp[gl]
 ·obtain⟨d,hdn⟩:∃d:Nat,s.d[k]=d:=⟨s.d[k].toNat,by omega⟩
  have hd2:d<=4194304:=by omega
  have sl:∀{i:Nat},i<=w.length->(w.take i).sum<=w.sum:=fun{i} _=>by
   have:=List.sum_append (l₁:=w.take i) (l₂:=w.drop i)
   rw[List.take_append_drop]at this
   omega
  have sb:∀{i:Nat},i<=w.length->(w.take i).sum*d<=4503599627370496*4194304:=fun h=>Nat.mul_le_mul (x1v (sl h) hW) hd2
  refine aC Nat (fun i=>[(1,.sl ws),(2,.int .i64 tt),(8,.adr (.r 10128) 0 0),(9,.int .i64 ((w.take i).sum:Nat)),(16,.sl xs),(17,.int .i64 xs.length),(18,.int .i64 i),(10128,.blk 2 [[.int .i64 (hiW (((w.take i).sum:Nat)*(d:Int))),.int .i64 (loW (((w.take i).sum:Nat)*(d:Int)))]])]) (fun i=>i<=w.length) (fun i=>w.length-i) 0 (by simp) (by simp) ?_
  intro i hi
  simp
  refine aj (fun h=>?_) (fun h=>?_)<;>simp at h
  ·rw[gl]at h
   have hw:IntKind.wrap .i64 ((i:Int)+1)=((i+1:Nat):Int):=ah (by omega) (by omega)
   have es:(w.take (i+1)).sum=(w.take i).sum+w[i]:=by rw[x1d h,List.sum_append];simp
   have b5:=sb hi
   have b6:=sb (i:=i+1) (by omega)
   have b7:=sl (i:=i+1) (by omega)
   have ed:(w.take (i+1)).sum*d=(w.take i).sum*d+w[i]*d:=by rw[es,x0D]
   have k2:=lq hC w[i] d (by omega) (by omega) (by omega)
   rw[<- mX,l9]at k2
   have k3:=CV hC ((w.take i).sum*d:Nat) (w[i]*d:Nat) (by omega) (by omega)
   rw[l9,l9,l9,<- Int.natCast_add,<- ed]at k3
   have w3:IntKind.wrap .i64 (((w.take i).sum:Nat)+(w[i]:Nat):Int)=((w.take (i+1)).sum:Nat):=ah (by omega) (by omega)
   simp[h,gl,aD (gx h)]
   rw[w0,w2]
   refine⟨by omega,by omega,by simpa using hk,aF (by decide +kernel),?_⟩
   have hd0:¬(d:Int)<0:=by omega
   simp only[Int.natCast_mul]at k2 k3
   simp[hk,hdn,hd0,hw,aD (gw h)]
   refine aa k2 (.inl rfl) ?_
   simp
   refine aa k3 (.inl rfl) ?_
   simp[aD (gw h),w3,hw]
   exact⟨i+1,by omega,by omega,rfl,by rw[gl],rfl,rfl,rfl⟩
  ·have e:i=w.length:=by omega
   subst e
   have k4:0<w.sum->C 271 [wiS ((w.sum*d:Nat):Int),.int .i64 w.sum] (.tup [.int .i64 d,.int .i64 0]) []:=fun h0=>by
    have k:=hF ((w.sum*d:Nat):Int) w.sum h0 hW (by rw[Int.natAbs_natCast,x1M];exact x0o _ hd2)
    have e3:((w.sum*d:Nat):Int)/(w.sum:Int)=d:=by
     rw[<- Int.natCast_ediv,Nat.mul_div_cancel_left _ h0]
    rw[e3]at k
    exact k
   simp only[l9,Int.natCast_mul]at k4
   simp[gl,List.take_length]
   refine aj (fun h0=>?_) (fun h0=>?_)<;>simp at h0
   ·have e2:mnV s w.sum k=-1:=by rw[mnV,if_pos (.inr h0)]
    rw[e2]
    simp
   ·have e2:mnV s w.sum k=d:=by rw[mnV,if_neg (by rw[ek];omega),ek,hdn]
    rw[e2]
    simp
    refine aa (k4 (by omega)) (.inl rfl) ?_
    simp
end Go.Gv

namespace Go.Gv
def wV(w:Int):Bool:=decide (w<0)||decide (9007199254740992<w)
variable{C:CC}(hC:av prog C)
include hC
theorem GP(w:Int):C 906 [.int .i64 w] (.bool (wV w)) []:=by
 refine az hC (nf:=N906) rfl rfl ?_
 simp[N906,wV]
 refine aj (fun h=>?_) (fun h=>?_)<;>simp at h<;>simp[h]
 intro _
 omega
theorem GM(s:Srs)(hl:s.d.length<2^40):C 917 [.agg (srC s)] (.bool (!srB s)) []:=by
 have k1:=rI hC s hl
 simp only[cO]at k1
 refine az hC (nf:=N917) rfl rfl ?_
 simp[N917,cO]
 refine aa k1 (.inl rfl) ?_
 simp
theorem DA{b:Bool}{xs:List Srs}{g:Nat}{cs:List D}(p:Srs->Bool)(hs:xs.length<2^62)(hp:∀x∈xs,C g (.agg (srC x)::cs) (.bool (p x)) []):C 926 [slx b (xs.map srC),.fn g cs] (.int .i64 (gA p xs)) []:=by
 refine az hC (nf:=N926) rfl rfl ?_
 simp[N926]
 refine aC Nat (fun i=>[(0,slx b (xs.map srC)),(1,.fn g cs),(7,.int .i64 xs.length),(8,.int .i64 i)]) (fun i=>i<=xs.length/\∀(j:Nat) (h:j<xs.length),j<i->p xs[j]=false) (fun i=>xs.length-i) 0 (by simp) (by simp) ?_
 rintro i ⟨hi,hj⟩
 simp
 refine aj (fun h=>?_) (fun h=>?_)<;>simp[h]<;>simp at h
 ·have hw:IntKind.wrap .i64 ((i:Int)+1)=((i+1:Nat):Int):=ah (by omega) (by omega)
  have hc:=hp _ (x0u h)
  simp[h,srC]at hc ⊢
  refine aa hc (.inl rfl) ?_
  simp
  refine aj (fun h1=>?_) (fun h1=>?_)<;>simp[h1,hw]
  ·rw[dT hj h h1]
  ·refine⟨i+1,⟨by omega,fun j hl hjj=>?_⟩,by omega,rfl⟩
   rcases x1f.1 hjj with h2|rfl
   ·exact hj j hl h2
   ·exact h1
 ·rw[dS (fun j hl=>hj j hl (by omega))]
theorem Dy{b:Bool}{xs:List Srs}{g:Nat}{cs:List D}(p:Srs->Bool)(hs:xs.length<2^62)(hp:∀x∈xs,C g (.agg (srC x)::cs) (.bool (p x)) []):C 916 [slx b (xs.map srC),.fn g cs] (.bool (xs.any p)) []:=by
 refine az hC (nf:=N916) rfl rfl ?_
 simp[N916]
 refine aa (DA hC p hs hp) (.inl rfl) ?_
 simp[gT]
theorem AA(s:Srs)(hl:s.d.length<2^40)(n:Nat)(h0:0<n)(hn:n<=100):C 905 [.sl (List.replicate n (srC s))] (.int .i64 (if srB s then 0 else 1)) []:=by
 have k1:=Dy hC (b:=false) (xs:=List.replicate n s) (g:=917) (cs:=[]) (fun x=>!srB x) (by simp;omega) (fun x hx=>by
  obtain⟨_,rfl⟩:=List.mem_replicate.1 hx
  exact GM hC x hl)
 have e:(List.replicate n s).any (fun x=>!srB x)=!srB s:=by
  obtain⟨m,rfl⟩:∃m,n=m+1:=⟨n-1,by omega⟩
  rw[List.any_replicate]
  simp
 rw[e,bx,List.map_replicate]at k1
 obtain⟨xs,hxs⟩:∃xs,xs=List.replicate n (srC s):=⟨_,rfl⟩
 have gl:xs.length=n:=by rw[hxs];simp
 rw[<- hxs]at k1 ⊢
 refine az hC (nf:=N905) rfl rfl ?_
 simp[N905]
 refine aa k1 (.inl rfl) ?_
 cases srB s
 ·simp
 ·have c1:¬(100:Int)<n:=by omega
  have c2:¬n=0:=by omega
  simp[gl,c1,c2]
set_option maxHeartbeats 1000000 in
theorem xc(s:Srs)(hs:srB s=true)(n:Nat)(h0:0<n)(hn:n<=100):C 907 [.sl (List.replicate n (srC s))] (.tup [.int .i64 s.a,.int .i64 s.d.length,.bool true]) []:=by
 obtain⟨b1,b2,b3,b4⟩:=qM hs
 have hm:(0:Int)<=s.s*s.d.length/\s.s*s.d.length<=864000000:=by
  refine⟨x1x (by omega) (by omega),?_⟩
  have h1:=Int.mul_le_mul (a:=s.s) (b:=(s.d.length:Int)) (c:=86400) (d:=10000) (by omega) (by omega) (by omega) (by omega)
  omega
 have e1:IntKind.wrap .i64 (s.s*(s.d.length:Int))=s.s*s.d.length:=ah rfl (by omega)
 have e2:IntKind.wrap .i64 (s.a+s.s*(s.d.length:Int))=s.a+s.s*s.d.length:=ah rfl (by omega)
 have e3:IntKind.wrap .i64 (s.a+s.s*(s.d.length:Int)-s.a)=s.s*s.d.length:=ah (by omega) (by omega)
 have e4:(s.s*(s.d.length:Int)).tdiv s.s=s.d.length:=by rw[x1L];exact Int.mul_tdiv_cancel _ (by omega)
 have e5:IntKind.wrap .i64 ((s.s*(s.d.length:Int)).tdiv s.s)=s.d.length:=by rw[e4];exact ah rfl (by omega)
 have e6:¬s.s=0:=by omega
 obtain⟨xs,hxs⟩:∃xs:List (List D),xs=List.replicate n (srC s):=⟨_,rfl⟩
 have gl:xs.length=n:=by rw[hxs];simp
 have gx:∀{i:Nat},i<n->xs[i]? = some [.int .i64 s.a,.int .i64 s.s,slx s.b (s.d.map fun n=>[.int .i64 n])]:=fun h=>by rw[hxs];simp[h,cO]
 have gx0:=gx h0
 rw[<- hxs]
 clear hxs
 refine az hC (nf:=N907) rfl rfl ?_
 simp[N907,aD gx0,e1,e2]
 refine aC Nat (fun i=>[(0,.sl xs),(2,.int .i64 s.a),(5,.int .i64 s.s),(6,.int .i64 (s.a+s.s*s.d.length)),(26,.sl xs),(27,.int .i64 n),(28,.int .i64 i)]) (fun i=>i<=n) (fun i=>n-i) 0 (by simp) (by simp[gl]) ?_
 intro i hi
 simp
 refine aj (fun h=>?_) (fun h=>?_)<;>simp at h
 ·have hw:IntKind.wrap .i64 ((i:Int)+1)=((i+1:Nat):Int):=ah (by omega) (by omega)
  simp[h,gl,aD (gx h),aD gx0]
  refine⟨e6,aF (by decide +kernel),?_⟩
  have e7:(IntKind.wrap .i64 0).tmod s.s=0:=by rw[show IntKind.wrap .i64 0=0 from rfl];exact Int.zero_tmod _
  simp[e7,e1,e2,hw]
  exact⟨aF (by decide +kernel),i+1,by omega,by omega,by omega⟩
 ·have e:i=n:=by omega
  subst e
  simp[e3,e5,e6]
  refine⟨aF (by decide +kernel),?_⟩
  have e7:(if 0<s.s*(s.d.length:Int) then s.s*(s.d.length:Int) else 0)=s.s*s.d.length:=by split<;>omega
  rw[e7,e5]
end Go.Gv
