/-
  Texts of the proof: GvR, GvEts, ItTS, GvT, GvT5, GvT6, GvT4, GvU, K1, K3, Q0, Q1, GvW, GvX, GvX2, Q2, K4, K5, K6, K7.
-/
import Derived.Test.YtlipihhhgpnjmaaGreatX4
import Derived.SizedLaws
import Derived.ProofKit
import Derived.Test.YtlipihhhgpnjmaaGreatX5
import Derived.Test.YtlipihhhgpnjmaaGreatProg
import Derived.KernelRfl
import Derived.Shelf.Small.Bits
import Derived.Shelf.Small.Strs
import Derived.Shelf.Small.Wraps
import Derived.Shelf.Strconv.Itoa0
import Derived.Shelf.Sort.Plain
import Derived.Shelf.Bits.Mul64
import Derived.Shelf.Slices.Reverse
import Derived.Shelf.Slices.Equal
import Derived.Ground.Names2Prog
import Derived.Shelf.Slices.Clone
import Derived.Shelf.Slices.CompactI
import Derived.Shelf.Slices.SearchI
import Derived.Shelf.Slices.Cells
import Derived.Shelf.Slices.In.SortNone
import Derived.Shelf.Slices.Empties
import Derived.Shelf.Slices.Empties2
import Derived.Ground.SlgnProg
import Derived.Shelf.SlicesE.Reverse
import Derived.Shelf.SlicesE.Clone
import Derived.Ground.SlsfProg
import Derived.Shelf.SlSortCmp.NoneTotal
import Derived.Sort.Row
import Derived.Sort.Grow
import Derived.Shelf.SlSortCmp.WholeK
import Derived.Shelf.Spec.SlicesInsertGrow
import Derived.Lib.SlicesCompact
import Derived.Lib.Mul64
import Derived.Laws.Bits64b
import Derived.Laws.MathBits
set_option linter.all false
namespace Go.Gv
variable[Drw]
open Go.RowKit Go.ChangeShapes Go.WideShapes Go.ChangeAt
inductive Sh where
 | int (k:IntKind)
 | bool
 | str
 | sl (row:List Sh)
mutual
def il:Sh->D->Prop
 | .int k,d=>∃n,d=.int k n/\(Lit.int k n).wf=true
 | .bool,d=>∃b,d=.bool b
 | .str,d=>∃s,d=.str s/\s.length<140737488355328
 | .sl row,d=>∃es,(d=.sl es\/(d=.nils/\es=[]))/\es.length<140737488355328/\∀e∈es,cD row e
def cD:List Sh->List D->Prop
 | [],ds=>ds=[]
 | s::ss,ds=>∃d r,ds=d::r/\il s d/\cD ss r
end
theorem cD.length:∀{ss:List Sh} {ds:List D},cD ss ds->ds.length=ss.length
 | [],ds,h=>by simp only[cD]at h;simp[h]
 | s::ss,ds,h=>by
  simp only[cD]at h
  obtain⟨d,r,rfl,_,h2⟩:=h
  simp[cD.length h2]
theorem cD.append:∀{ss ts:List Sh} {ds es:List D},cD ss ds->cD ts es->cD (ss++ts) (ds++es)
 | [],ts,ds,es,h,h'=>by simp only[cD]at h;subst h;exact h'
 | s::ss,ts,ds,es,h,h'=>by
  simp only[cD]at h
  obtain⟨d,r,rfl,h1,h2⟩:=h
  exact⟨d,r++es,rfl,h1,cD.append h2 h'⟩
def te(P:Program)(rec:TypeId->Option (List Sh)):List Field->Nat->Option (List Sh)
 | [],_=>some []
 | f::fs,off=>if f.offset=off then(match rec f.type with
   | some l=>if l.length=P.cellsOf f.type then(match te P rec fs (off+l.length) with
    | some r=>some (l++r)
    | none=>none) else none
   | none=>none) else none
def qQ(P:Program):Nat->TypeId->Option (List Sh)
 | 0,_=>none
 | n+1,t=>match P.underlying t with
  | some .bool=>some [.bool]
  | some (.int k)=>some [.int k]
  | some .string=>some [.str]
  | some (.slice e)=>(match qQ P n e with
   | some l=>if l.length=P.cellsOf e/\1<=P.bytesOf e then some [.sl l] else none
   | none=>none)
  | some (.struct fs)=>(match te P (qQ P n) fs.toList 0 with
   | some l=>if l.length=P.cellsOf t then some l else none
   | none=>none)
  | _=>none
section
variable{H:Type}{enc:TypeId×Value->H}{P:Program}{F:Fid}{w:World}{sp:Nat->Bool}
abbrev pz(w:World):Mem:=fun p=>w.cell? p
def Bu(enc:TypeId×Value->H)(P:Program)(F:Fid)(w:World)(sp:Nat->Bool)(n:Nat)(t:TypeId)(shs:List Sh):Prop :=
 ∀(cs:List Value) (d:DataW H) (ps:List MemPlace),DataW.trod enc P w 0 sp true n t cs=some (d,ps)->(d.weights P t).all (·<=reachBytes)=true->∃ds,cD shs ds/\av F (pz w) ds cs
theorem jX{α β:Type}{f:α->Option β}{x:α}{l:List α}{ys:List β}(h:(x::l).mapM f=some ys):∃y r,f x=some y/\l.mapM f=some r/\ys=y::r:=by
 rw[List.mapM_cons]at h
 cases hx:f x with
 | none=>rw[hx]at h;cases h
 | some y =>
  cases hl:l.mapM f with
  | none=>rw[hx,hl]at h;cases h
  | some r =>
   rw[hx,hl]at h
   exact⟨y,r,rfl,rfl,by cases h;rfl⟩
theorem qx{n m:Nat}(ih:∀t shs,qQ P m t=some shs->Bu enc P F w sp n t shs){cs:List Value}:∀(fs:List Field) (off:Nat) (xs:List (DataW H×List MemPlace)) (shs:List Sh),
  (fs.mapM fun f=>DataW.trod enc P w 0 sp true n f.type ((cs.drop f.offset).take (P.cellsOf f.type)))=some xs->te P (qQ P m) fs off=some shs->(DataW.weightsEach P (fs.map (·.type)) (xs.map (·.1))).all (·<=reachBytes)=true->cs.length=off+shs.length ->
   ∃ds,cD shs ds/\av F (pz w) ds (cs.drop off)
 | [],off,xs,shs,_,h2,_,h4=>by
  cases h2
  exact⟨[],rfl,by simp only[av];exact List.drop_of_length_le (by simpa using Nat.le_of_eq h4)⟩
 | f::fs,off,xs,shs,h1,h2,h3,h4=>by
  obtain⟨y,r,e1,e2,rfl⟩:=jX h1
  simp only[te]at h2
  split at h2
  case isFalse=>cases h2
  rename_i ho
  split at h2
  case h_2=>cases h2
  rename_i l hl
  split at h2
  case isFalse=>cases h2
  rename_i hlen
  split at h2
  case h_2=>cases h2
  rename_i rs hr
  cases h2
  simp only[x0F,DataW.weightsEach,List.all_append,x0a]at h3
  rw[x0C]at h4
  obtain⟨ds1,g1,g2⟩:=ih f.type l hl _ y.1 y.2 e1 h3.1
  obtain⟨ds2,g3,g4⟩:=qx ih fs (off+l.length) r rs e2 hr h3.2 (by omega)
  refine⟨ds1++ds2,g1.append g3,?_⟩
  rw[ho,<- hlen]at g2
  have:=g2.append g4
  rwa[<- List.drop_drop,List.take_append_drop]at this
theorem qy{n k:Nat}{e:TypeId}{l:List Sh}{a:Addr}(hl:l.length=k)(ih:Bu enc P F w sp n e l):∀(c s:Nat) (xs:List (DataW H×List MemPlace)),
  ((List.range' s c).mapM fun i=>(w.cells? 0 (a.add (i*k)) k).bind (DataW.trod enc P w 0 sp true n e))=some xs->(DataW.weightsAll P e (xs.map (·.1))).all (·<=reachBytes)=true ->
   ∃(es:List (List D)) (vs:List Value),es.length=c/\xs.length=c/\(∀r∈es,cD l r)/\aZ F (pz w) es vs/\∀j v,vs[j]? = some v->w.cell? (a.add (s*k+j))=some v
 | 0,s,xs,h,_=>by
  cases h
  exact⟨[],[],rfl,rfl,by simp,by simp[aZ],fun j v h=>by simp at h⟩
 | c+1,s,xs,h,hw=>by
  rw[List.range'_succ]at h
  obtain⟨y,r,e1,e2,rfl⟩:=jX h
  rw[Option.bind_eq_some_iff]at e1
  obtain⟨row,c1,c2⟩:=e1
  simp only[x0F,DataW.weightsAll,List.all_append,x0a]at hw
  obtain⟨ds,g1,g2⟩:=ih row y.1 y.2 c2 hw.1
  obtain⟨es,vs,h1,h2,h3,h4,h5⟩:=qy hl ih c (s+1) r e2 hw.2
  have hrow:=World.cells?_some c1
  refine⟨ds::es,row++vs,by simp[h1],by simp[h2],?_,⟨row,vs,rfl,g2,h4⟩,fun j v hj=>?_⟩
  ·intro x hx
   rcases x0H.1 hx with rfl|hx
   ·exact g1
   ·exact h3 x hx
  ·have hrl:row.length=k:=by rw[g2.length,g1.length,hl]
   have addadd:∀i j,(a.add i).add j=a.add (i+j):=fun i j=>by
    unfold Addr.add
    by_cases hi:i=0<;>by_cases hj:j=0<;>simp[hi,hj,x0Y]
   by_cases hjk:j<k
   ·rw[x0A (by omega)]at hj
    have:=hrow.2.2 j hjk
    rw[hj,addadd]at this
    exact this
   ·rw[x0B (by omega)]at hj
    have:=h5 (j-row.length) v hj
    rw[hrl]at this
    rwa[show(s+1)*k+(j-k)=s*k+j by rw[x04];omega]at this
theorem pp:∀(m:Nat) (n:Nat) (t:TypeId) (shs:List Sh),qQ P m t=some shs->Bu enc P F w sp n t shs
 | 0,_,_,_,h=>by cases h
 | m+1,0,t,shs,_=>fun cs d ps h _=>by simp[DataW.trod]at h
 | m+1,n+1,t,shs,h=>by
  intro cs d ps ht hw
  rw[qQ]at h
  split at h
  ·rename_i hu
   cases h
   unfold DataW.trod at ht;rw[hu]at ht
   split at ht<;>try (simp_all;done)
   rename_i b _
   refine⟨[.bool b],⟨_,_,rfl,⟨b,rfl⟩,rfl⟩,by simp[av,ae]⟩
  ·rename_i k hu
   cases h
   unfold DataW.trod at ht;rw[hu]at ht
   split at ht<;>try (simp_all;done)
   rename_i k1 k2 x h1
   simp only[x0s,TypeDesc.int.injEq]at h1
   subst h1
   split at ht
   ·rename_i hk
    obtain⟨rfl,hwf⟩:=hk
    exact⟨[.int _ x],⟨_,_,rfl,⟨x,rfl,hwf⟩,rfl⟩,by simp[av,ae]⟩
   ·cases ht
  ·rename_i hu
   cases h
   unfold DataW.trod at ht;rw[hu]at ht
   split at ht<;>try (simp_all;done)
   rename_i s _
   split at ht
   ·rename_i hs
    simp only[x0s,Prod.mk.injEq]at ht
    obtain⟨rfl,rfl⟩:=ht
    simp only[DataW.weights,List.all_cons,List.all_nil,Bool.and_true,x0b]at hw
    refine⟨[.str s.data.toList],⟨_,_,rfl,⟨_,rfl,?_⟩,rfl⟩,?_⟩
    ·have:=reachBytes_lt;omega
    ·obtain⟨s⟩:=s
     simp[av,ae]
   ·cases ht
  ·rename_i e hu
   split at h
   case h_2=>cases h
   rename_i l hl
   split at h
   case isFalse=>cases h
   rename_i hk
   cases h
   unfold DataW.trod at ht;rw[hu]at ht
   split at ht<;>try (simp_all;done)
   ·refine⟨[.nils],⟨_,_,rfl,⟨[],.inr ⟨rfl,rfl⟩,by simp,by simp⟩,rfl⟩,by simp[av,ae]⟩
   ·rename_i e' a len cap h1
    simp only[x0s,TypeDesc.slice.injEq]at h1
    subst h1
    simp only at ht
    split at ht
    case isFalse=>cases ht
    rename_i hb
    rw[Option.bind_eq_some_iff]at ht
    obtain⟨xs,e1,e2⟩:=ht
    rw[x0p]at e2
    obtain⟨rest,e3,e4⟩:=e2
    simp only[Prod.mk.injEq]at e4
    obtain⟨rfl,rfl⟩:=e4
    simp only[DataW.weights,hu,List.all_cons,List.all_append,x0a,x0b]at hw
    obtain⟨w1,w2,w3⟩:=hw
    rw[List.range_eq_range']at e1
    obtain⟨es,vs,g1,g2,g3,g4,g5⟩:=qy (F:=F) hk.1 (pp m n e l hl) len 0 xs e1 w2
    refine⟨[.sl es],⟨_,_,rfl,⟨es,.inl rfl,?_,g3⟩,rfl⟩,?_⟩
    ·have h5:=reachBytes_lt
     have h6:es.length*1<=(xs.length+rest.length)*P.bytesOf e:=x1B (by omega) hk.2
     simp only[x0S]at w1
     omega
    ·simp only[av]
     refine⟨_,_,rfl,?_,rfl⟩
     simp only[ae]
     refine⟨some a,cap,vs,P.cellsOf e,by rw[g1],by omega,g4,fun r hr=>by rw[(g3 r hr).length,hk.1],fun _=>⟨a,rfl,fun j v hj=>?_⟩⟩
     have:=g5 j v hj
     simpa using this
  ·rename_i fs hu
   split at h
   case h_2=>cases h
   rename_i l hl
   split at h
   case isFalse=>cases h
   rename_i hk
   cases h
   unfold DataW.trod at ht;rw[hu]at ht
   split at ht<;>try (simp_all;done)
   rename_i fs' h1
   simp only[x0s,TypeDesc.struct.injEq]at h1
   subst h1
   split at ht
   case isFalse=>cases ht
   rename_i hc
   rw[x0p]at ht
   obtain⟨xs,e1,e2⟩:=ht
   simp only[Prod.mk.injEq]at e2
   obtain⟨rfl,rfl⟩:=e2
   simp only[DataW.weights,hu]at hw
   obtain⟨ds,g1,g2⟩:=qx (F:=F) (n:=n) (fun t shs h=>pp m n t shs h) fs.toList 0 xs _ e1 hl hw (by omega)
   exact⟨ds,g1,by simpa using g2⟩
  ·cases h
theorem wk{t:TypeId}{fs:Array Field}{m:Nat}{shs:List Sh}{base:Nat}{v:Value}{d:DataW H}{ps:List MemPlace}(hu:P.underlying t=some (.struct fs))(hsh:qQ P m t=some shs)(hv:Value.okWide P w .any base t v)(h:DataW.Trod enc P w 0 sp true t v d ps)(hw:(d.weights P t).all (·<=reachBytes)=true) :
  ∃ds,cD shs ds/\ae F (pz w) (.agg ds) v:=by
 obtain⟨cs,rfl,_⟩:=okWide_struct hu hv
 obtain⟨n,hn⟩:=h
 obtain⟨ds,g1,g2⟩:=pp (F:=F) m n t shs hsh _ d ps hn hw
 exact⟨ds,g1,by simp only[ae];exact⟨cs.toList,by simp,g2⟩⟩
theorem ry{t e:TypeId}{m:Nat}{sh:Sh}{base:Nat}{v:Value}{d:DataW H}{ps:List MemPlace}(hu:P.underlying t=some (.slice e))(hsh:qQ P m t=some [sh])(hv:Value.okWide P w .any base t v)(h:DataW.Trod enc P w 0 sp true t v d ps)(hw:(d.weights P t).all (·<=reachBytes)=true) :
  ∃x,il sh x/\ae F (pz w) x v:=by
 obtain⟨a,len,cap,rfl⟩:=okWide_slice hu hv
 obtain⟨n,hn⟩:=h
 obtain⟨ds,g1,g2⟩:=pp (F:=F) m n t [sh] hsh _ d ps hn hw
 simp only[cD]at g1
 obtain⟨x,r,rfl,g3,rfl⟩:=g1
 simp only[Value.cells,av]at g2
 obtain⟨v',r',e,g4,rfl⟩:=g2
 simp at e
 exact⟨x,g3,by rw[e];exact g4⟩
theorem EI{t:TypeId}{k:IntKind}{base:Nat}{v:Value}{d:DataW H}{ps:List MemPlace}(hu:P.underlying t=some (.int k))(hv:Value.okWide P w .any base t v)(h:DataW.Trod enc P w 0 sp true t v d ps) :
  ∃n,(Lit.int k n).wf=true/\ae F (pz w) (.int k n) v:=by
 obtain⟨n,rfl,_,_,hw⟩:=open_int hu hv h
 exact⟨n,hw,rfl⟩
end
theorem vG{α:Type}{f:α->List D}{es:List (List D)}(h:∀e∈es,∃x,e=f x):∃xs:List α,es=xs.map f:=by
 induction es with
 | nil=>exact⟨[],rfl⟩
 | cons e es ih =>
  obtain⟨x,rfl⟩:=h e (by simp)
  obtain⟨xs,rfl⟩:=ih (fun e he=>h e (by simp[he]))
  exact⟨x::xs,rfl⟩
end Go.Gv
namespace Go.Gv
variable[Drw]
def HD(P:Program)(F:Fid)(prog:Nat->Option ar)(tbl:List (Nat×Nat)):Bool:=tbl.all fun p=>oz P p.2&&match prog p.1 with
 | some nf=>dZ P F p.2 nf
 | none=>true
theorem Av{tbl:List (Nat×Nat)}{g f:Nat}(h:tbl.lookup g=some f):(g,f)∈tbl:=by
 induction tbl with
 | nil=>cases h
 | cons p r ih =>
  obtain⟨a,b⟩:=p
  rw[x0l]at h
  cases e:g==a with
  | true=>rw[e]at h;simp at e h;subst e;subst h;simp
  | false=>rw[e]at h;simp[ih h]
theorem seat{P:Program}{tbl:List (Nat×Nat)}{ty:Nat->TypeId}{prog:Nat->Option ar}(hm:P.follows .mixedOrders=true)(hl:laidOutB P=true)(h:HD P ⟨P,fun g=>tbl.lookup g,ty,fun _=>.nilIface⟩ prog tbl=true) :
  bQ P ⟨P,fun g=>tbl.lookup g,ty,fun _=>.nilIface⟩ (cj P ⟨P,fun g=>tbl.lookup g,ty,fun _=>.nilIface⟩)/\al prog (cj P ⟨P,fun g=>tbl.lookup g,ty,fun _=>.nilIface⟩):=by
 have key:∀g f,tbl.lookup g=some f->oz P f=true/\∀nf,prog g=some nf->dZ P ⟨P,fun g=>tbl.lookup g,ty,fun _=>.nilIface⟩ f nf=true:=fun g f e=>by
  have:=x0f.1 h _ (Av e)
  simp only[x0a]at this
  refine⟨this.1,fun nf hnf=>?_⟩
  have:=this.2
  rw[hnf]at this
  exact this
 exact vJ hm (fun g f e=>(key g f e).1) hl rfl (fun g f nf e hp=>(key g f e).2 nf hp)
end Go.Gv

namespace Go.Gv
open Go.Proofs
def TryzTbl : List (Nat × Nat) := [(0, 2), (1002, 3), (1003, 4), (1004, 5), (1005, 6), (428, 7), (565, 8), (15, 9), (566, 10), (442, 11), (544, 12), (125, 13), (1006, 14), (42, 15), (118, 16), (1007, 17), (1008, 18), (1009, 19), (19, 20), (435, 21), (453, 22), (1010, 23), (455, 24), (1011, 25), (45, 26), (1012, 27), (1013, 28), (1014, 29), (928, 30), (1015, 31), (433, 32), (460, 33), (461, 34), (164, 35), (44, 36), (605, 37), (29, 38), (11, 39), (606, 40), (471, 41), (598, 42), (24, 43), (30, 44), (39, 45), (32, 46), (40, 47), (607, 48), (608, 49), (120, 50), (609, 51), (473, 52), (475, 53), (587, 54), (589, 55), (590, 56), (129, 57), (121, 58), (1016, 59), (1020, 63), (1021, 64), (1022, 65), (448, 66), (1023, 67), (1024, 68), (927, 69), (1025, 70), (1026, 71), (1027, 72), (175, 73), (181, 74), (52, 75), (1028, 76), (949, 77), (470, 78), (472, 79), (491, 80), (492, 81), (493, 82), (494, 83), (495, 84), (496, 85), (497, 86), (168, 87), (169, 88), (170, 89), (171, 90), (51, 91), (636, 92), (315, 93), (35, 94), (499, 95), (47, 96), (31, 97), (184, 98), (122, 99), (481, 100), (441, 101), (474, 102), (58, 103), (629, 104), (627, 105), (628, 106), (630, 107), (631, 108), (266, 109), (267, 110), (632, 111), (633, 112), (1029, 113), (73, 114), (1032, 117), (484, 118), (1033, 119), (946, 120), (947, 121), (948, 122), (1034, 123), (1035, 124), (482, 125), (1036, 127), (922, 128), (503, 129), (504, 130), (509, 131), (510, 132), (511, 133), (172, 134), (173, 135), (174, 136), (176, 137), (177, 138), (178, 139), (72, 140), (179, 141), (180, 142), (182, 143), (59, 144), (333, 145), (53, 146), (506, 147), (480, 148), (70, 149), (71, 150), (647, 151), (299, 154), (1037, 156), (90, 157), (366, 159), (1040, 161), (960, 162), (498, 163), (514, 180), (515, 181), (516, 182), (517, 183), (518, 184), (519, 185), (183, 186), (89, 187), (185, 188), (339, 189), (91, 190), (60, 191), (61, 192), (88, 193), (111, 203), (96, 205), (97, 206), (98, 207), (99, 208), (100, 209), (101, 210), (522, 223), (523, 224), (411, 225), (524, 226), (74, 229), (75, 230), (76, 231), (77, 232), (103, 238), (104, 239), (105, 240), (106, 241), (107, 242), (108, 243), (109, 244), (110, 245), (92, 263), (112, 266), (113, 267), (102, 281)]
def TryzTys : List (Nat × Nat) := [(0, 9), (1, 4), (2, 3)]
set_option maxRecDepth 100000 in
theorem Tryz_all : HD Tryz.prog ⟨Tryz.prog, fun g => TryzTbl.lookup g, fun t => (TryzTys.lookup t).getD 0, fun _ => .nilIface⟩ prog TryzTbl = true := by kernel_rfl
end Go.Gv

namespace Go.Proofs
open Go.Shelf
def Tryz.lays189_ren : Go.Shelf.Ren := ⟨fun | 189 => 159 | 125 => 153 | 257 => 212 | 128 => 202 | 129 => 203 | 294 => 246 | 295 => 247 | 296 => 248 | 297 => 249 | 298 => 250 | 299 => 251 | 216 => 225 | 300 => 252 | 301 => 253 | 328 => 270 | 329 => 234 | 330 => 235 | 331 => 271 | 332 => 272 | 215 => 154 | 343 => 283 | n => n, fun | 28 => 34 | 3 => 3 | 46 => 223 | 0 => 0 | 51 => 260 | 53 => 263 | 4 => 4 | 183 => 268 | 182 => 267 | 131 => 143 | 5 => 5 | 9 => 9 | 218 => 303 | 222 => 307 | 228 => 332 | 229 => 119 | n => n, fun | n => n⟩
theorem Tryz.lays189 : Go.Proofs.Lays.n189 Tryz.prog Tryz.lays189_ren := {
 mixed := by kernel_rfl
 f125 := Tryz.func153.trans (congrArg some (by kernel_rfl))
 f128 := Tryz.func202.trans (congrArg some (by kernel_rfl))
 f129 := Tryz.func203.trans (congrArg some (by kernel_rfl))
 f189 := Tryz.func159.trans (congrArg some (by kernel_rfl))
 f215 := Tryz.func154.trans (congrArg some (by kernel_rfl))
 f216 := Tryz.func225.trans (congrArg some (by kernel_rfl))
 f257 := Tryz.func212.trans (congrArg some (by kernel_rfl))
 f294 := Tryz.func246.trans (congrArg some (by kernel_rfl))
 f295 := Tryz.func247.trans (congrArg some (by kernel_rfl))
 f296 := Tryz.func248.trans (congrArg some (by kernel_rfl))
 f297 := Tryz.func249.trans (congrArg some (by kernel_rfl))
 f298 := Tryz.func250.trans (congrArg some (by kernel_rfl))
 f299 := Tryz.func251.trans (congrArg some (by kernel_rfl))
 f300 := Tryz.func252.trans (congrArg some (by kernel_rfl))
 f301 := Tryz.func253.trans (congrArg some (by kernel_rfl))
 f328 := Tryz.func270.trans (congrArg some (by kernel_rfl))
 f329 := Tryz.func234.trans (congrArg some (by kernel_rfl))
 f330 := Tryz.func235.trans (congrArg some (by kernel_rfl))
 f331 := Tryz.func271.trans (congrArg some (by kernel_rfl))
 f332 := Tryz.func272.trans (congrArg some (by kernel_rfl))
 f343 := Tryz.func283.trans (congrArg some (by kernel_rfl))
 t0 := Tryz.underlying0
 a0 := Tryz.isAgg0
 z0 := Tryz.sizeOf0
 v0 := Tryz.zeroValue0
 t3 := Tryz.underlying3
 a3 := Tryz.isAgg3
 z3 := Tryz.sizeOf3
 v3 := Tryz.zeroValue3
 t4 := Tryz.underlying4
 a4 := Tryz.isAgg4
 z4 := Tryz.sizeOf4
 v4 := Tryz.zeroValue4
 t5 := Tryz.underlying5
 a5 := Tryz.isAgg5
 z5 := Tryz.sizeOf5
 v5 := Tryz.zeroValue5
 t9 := Tryz.underlying9
 a9 := Tryz.isAgg9
 z9 := Tryz.sizeOf9
 v9 := Tryz.zeroValue9
 t28 := Tryz.underlying34
 a28 := Tryz.isAgg34
 z28 := Tryz.sizeOf34
 v28 := Tryz.zeroValue34
 t46 := Tryz.underlying223
 a46 := Tryz.isAgg223
 z46 := Tryz.sizeOf223
 v46 := Tryz.zeroValue223
 t51 := Tryz.underlying260
 a51 := Tryz.isAgg260
 z51 := Tryz.sizeOf260
 v51 := Tryz.zeroValue260
 t53 := Tryz.underlying263
 a53 := Tryz.isAgg263
 z53 := Tryz.sizeOf263
 v53 := Tryz.zeroValue263
 t131 := Tryz.underlying143
 a131 := Tryz.isAgg143
 z131 := Tryz.sizeOf143
 v131 := Tryz.zeroValue143
 t182 := Tryz.underlying267
 a182 := Tryz.isAgg267
 z182 := Tryz.sizeOf267
 v182 := Tryz.zeroValue267
 t183 := Tryz.underlying268
 a183 := Tryz.isAgg268
 z183 := Tryz.sizeOf268
 v183 := Tryz.zeroValue268
 t218 := Tryz.underlying303
 a218 := Tryz.isAgg303
 z218 := Tryz.sizeOf303
 v218 := Tryz.zeroValue303
 t222 := Tryz.underlying307
 a222 := Tryz.isAgg307
 z222 := Tryz.sizeOf307
 v222 := Tryz.zeroValue307
 t228 := Tryz.underlying332
 a228 := Tryz.isAgg332
 z228 := Tryz.sizeOf332
 v228 := Tryz.zeroValue332
 t229 := Tryz.underlying119
 a229 := Tryz.isAgg119
 z229 := Tryz.sizeOf119
 v229 := Tryz.zeroValue119 }
def Tryz.laysNm220_ren : Go.Shelf.Ren := ⟨fun | 20 => 224 | n => n, fun | 22 => 34 | 3 => 3 | 4 => 4 | 0 => 0 | n => n, fun | n => n⟩
theorem Tryz.laysNm220 : Go.Proofs.Lays2.n20 Tryz.prog Tryz.laysNm220_ren := {
 mixed := by kernel_rfl
 f20 := Tryz.func224.trans (congrArg some (by kernel_rfl))
 t0 := Tryz.underlying0
 a0 := Tryz.isAgg0
 z0 := Tryz.sizeOf0
 v0 := Tryz.zeroValue0
 t3 := Tryz.underlying3
 a3 := Tryz.isAgg3
 z3 := Tryz.sizeOf3
 v3 := Tryz.zeroValue3
 t4 := Tryz.underlying4
 a4 := Tryz.isAgg4
 z4 := Tryz.sizeOf4
 v4 := Tryz.zeroValue4
 t22 := Tryz.underlying34
 a22 := Tryz.isAgg34
 z22 := Tryz.sizeOf34
 v22 := Tryz.zeroValue34
 i3 := by kernel_rfl }
def Tryz.laysNm221_ren : Go.Shelf.Ren := ⟨fun | 21 => 185 | 27 => 227 | 28 => 228 | 35 => 264 | 39 => 282 | n => n, fun | 22 => 34 | 3 => 3 | 4 => 4 | 0 => 0 | n => n, fun | n => n⟩
theorem Tryz.laysNm221 : Go.Proofs.Lays2.n21 Tryz.prog Tryz.laysNm221_ren := {
 mixed := by kernel_rfl
 f21 := Tryz.func185.trans (congrArg some (by kernel_rfl))
 f27 := Tryz.func227.trans (congrArg some (by kernel_rfl))
 f28 := Tryz.func228.trans (congrArg some (by kernel_rfl))
 f35 := Tryz.func264.trans (congrArg some (by kernel_rfl))
 f39 := Tryz.func282.trans (congrArg some (by kernel_rfl))
 t0 := Tryz.underlying0
 a0 := Tryz.isAgg0
 z0 := Tryz.sizeOf0
 v0 := Tryz.zeroValue0
 t3 := Tryz.underlying3
 a3 := Tryz.isAgg3
 z3 := Tryz.sizeOf3
 v3 := Tryz.zeroValue3
 t4 := Tryz.underlying4
 a4 := Tryz.isAgg4
 z4 := Tryz.sizeOf4
 v4 := Tryz.zeroValue4
 t22 := Tryz.underlying34
 a22 := Tryz.isAgg34
 z22 := Tryz.sizeOf34
 v22 := Tryz.zeroValue34
 i3 := by kernel_rfl }
def Tryz.lays106_ren : Go.Shelf.Ren := ⟨fun | 106 => 111 | 213 => 155 | 265 => 204 | n => n, fun | 9 => 9 | 3 => 3 | n => n, fun | n => n⟩
theorem Tryz.lays106 : Go.Proofs.Lays.n106 Tryz.prog Tryz.lays106_ren := {
 mixed := by kernel_rfl
 f106 := Tryz.func111.trans (congrArg some (by kernel_rfl))
 f213 := Tryz.func155.trans (congrArg some (by kernel_rfl))
 f265 := Tryz.func204.trans (congrArg some (by kernel_rfl))
 t3 := Tryz.underlying3
 a3 := Tryz.isAgg3
 z3 := Tryz.sizeOf3
 v3 := Tryz.zeroValue3
 t9 := Tryz.underlying9
 a9 := Tryz.isAgg9
 z9 := Tryz.sizeOf9
 v9 := Tryz.zeroValue9 }
def Tryz.pdqL_ren : Go.Shelf.Ren := ⟨fun | 14 => 152 | 20 => 194 | 21 => 195 | 22 => 196 | 23 => 197 | 24 => 198 | 25 => 199 | 26 => 200 | 27 => 201 | 46 => 233 | 47 => 234 | 48 => 235 | 49 => 236 | 50 => 237 | 15 => 153 | 57 => 265 | 28 => 202 | 29 => 203 | n => n, fun | 24 => 53 | 22 => 48 | 3 => 3 | 25 => 191 | 4 => 4 | 0 => 0 | 46 => 268 | 45 => 267 | 50 => 143 | 66 => 303 | 39 => 223 | 55 => 263 | 70 => 307 | 76 => 332 | 77 => 119 | 53 => 260 | 5 => 5 | 9 => 9 | n => n, fun | n => n⟩
theorem Tryz.pdqL : Go.Proofs.SlLaysF0.n14 Tryz.prog Tryz.pdqL_ren := {
 mixed := by kernel_rfl
 f14 := ⟨Tryz.f152.name, by decide, Tryz.func152.trans (congrArg some (by kernel_rfl))⟩
 f15 := Tryz.func153.trans (congrArg some (by kernel_rfl))
 f20 := ⟨Tryz.f194.name, by decide, Tryz.func194.trans (congrArg some (by kernel_rfl))⟩
 f21 := ⟨Tryz.f195.name, by decide, Tryz.func195.trans (congrArg some (by kernel_rfl))⟩
 f22 := ⟨Tryz.f196.name, by decide, Tryz.func196.trans (congrArg some (by kernel_rfl))⟩
 f23 := ⟨Tryz.f197.name, by decide, Tryz.func197.trans (congrArg some (by kernel_rfl))⟩
 f24 := ⟨Tryz.f198.name, by decide, Tryz.func198.trans (congrArg some (by kernel_rfl))⟩
 f25 := ⟨Tryz.f199.name, by decide, Tryz.func199.trans (congrArg some (by kernel_rfl))⟩
 f26 := ⟨Tryz.f200.name, by decide, Tryz.func200.trans (congrArg some (by kernel_rfl))⟩
 f27 := ⟨Tryz.f201.name, by decide, Tryz.func201.trans (congrArg some (by kernel_rfl))⟩
 f28 := Tryz.func202.trans (congrArg some (by kernel_rfl))
 f29 := Tryz.func203.trans (congrArg some (by kernel_rfl))
 f46 := ⟨Tryz.f233.name, by decide, Tryz.func233.trans (congrArg some (by kernel_rfl))⟩
 f47 := Tryz.func234.trans (congrArg some (by kernel_rfl))
 f48 := Tryz.func235.trans (congrArg some (by kernel_rfl))
 f49 := ⟨Tryz.f236.name, by decide, Tryz.func236.trans (congrArg some (by kernel_rfl))⟩
 f50 := ⟨Tryz.f237.name, by decide, Tryz.func237.trans (congrArg some (by kernel_rfl))⟩
 f57 := ⟨Tryz.f265.name, by decide, Tryz.func265.trans (congrArg some (by kernel_rfl))⟩
 t0 := Tryz.underlying0
 a0 := Tryz.isAgg0
 z0 := Tryz.sizeOf0
 v0 := Tryz.zeroValue0
 t3 := Tryz.underlying3
 a3 := Tryz.isAgg3
 z3 := Tryz.sizeOf3
 v3 := Tryz.zeroValue3
 t4 := Tryz.underlying4
 a4 := Tryz.isAgg4
 z4 := Tryz.sizeOf4
 v4 := Tryz.zeroValue4
 t5 := Tryz.underlying5
 a5 := Tryz.isAgg5
 z5 := Tryz.sizeOf5
 v5 := Tryz.zeroValue5
 t9 := Tryz.underlying9
 a9 := Tryz.isAgg9
 z9 := Tryz.sizeOf9
 v9 := Tryz.zeroValue9
 t22 := Tryz.underlying48
 a22 := Tryz.isAgg48
 z22 := Tryz.sizeOf48
 v22 := Tryz.zeroValue48
 t25 := Tryz.underlying191
 a25 := Tryz.isAgg191
 z25 := Tryz.sizeOf191
 v25 := Tryz.zeroValue191
 t39 := Tryz.underlying223
 a39 := Tryz.isAgg223
 z39 := Tryz.sizeOf223
 v39 := Tryz.zeroValue223
 t45 := Tryz.underlying267
 a45 := Tryz.isAgg267
 z45 := Tryz.sizeOf267
 v45 := Tryz.zeroValue267
 t46 := Tryz.underlying268
 a46 := Tryz.isAgg268
 z46 := Tryz.sizeOf268
 v46 := Tryz.zeroValue268
 t50 := Tryz.underlying143
 a50 := Tryz.isAgg143
 z50 := Tryz.sizeOf143
 v50 := Tryz.zeroValue143
 t53 := Tryz.underlying260
 a53 := Tryz.isAgg260
 z53 := Tryz.sizeOf260
 v53 := Tryz.zeroValue260
 t55 := Tryz.underlying263
 a55 := Tryz.isAgg263
 z55 := Tryz.sizeOf263
 v55 := Tryz.zeroValue263
 t66 := Tryz.underlying303
 a66 := Tryz.isAgg303
 z66 := Tryz.sizeOf303
 v66 := Tryz.zeroValue303
 t70 := Tryz.underlying307
 a70 := Tryz.isAgg307
 z70 := Tryz.sizeOf307
 v70 := Tryz.zeroValue307
 t76 := Tryz.underlying332
 a76 := Tryz.isAgg332
 z76 := Tryz.sizeOf332
 v76 := Tryz.zeroValue332
 t77 := Tryz.underlying119
 a77 := Tryz.isAgg119
 z77 := Tryz.sizeOf119
 v77 := Tryz.zeroValue119 }
open Go.Shelf Go.Lib Go.Sort Go.RowKit
set_option maxHeartbeats 4000000 in
set_option maxRecDepth 100000 in
theorem Tryz.sortN_eq {α : Type} [Inhabited α] (k : Nat) (aE : ∀ w, (isAgg (Tryz.pdqL_ren.t 24)).run Tryz.prog w = .ok true w) (zE : ∀ w, (Go.sizeOf (Tryz.pdqL_ren.t 24)).run Tryz.prog w = .ok k w) (enc : α -> List Value) (hk : ∀ x, (enc x).length = k) (h1 : ∀ x, ∀ v ∈ enc x, v.oneCell' = true) (cf : α -> α -> Int) (hO : SWO (ltOf cf)) (g : Nat) (cb : Array Value) (blk off cap : Nat) (d : Array α) (w : World)
  (eg : ∀ args w, (callFunc g args).run Tryz.prog w = .ok (.enter g args) w) (hcmp : CmpLays Tryz.prog g cb enc k cf blk off d.size w) (hH : HoldsK enc k w blk off d) (hblk : blk < w.heap.size) (hsz : d.size < 4611686018427387904) :
  Calls Tryz.prog 107 #[.slice (some ⟨blk, off, none⟩) d.size cap, .func (.func g) #[] cb] w fun e w' =>
   e = .returned (.tuple #[]) /\ ∃ n os, w' = sortWorldK enc k w blk off n (pdq (ltOf cf) d 0 d.size (Lib.bitLen d.size) true true) os := by
 have L := Tryz.pdqL
 have e14 : ∀ args w, (callFunc 152 args).run Tryz.prog w = .ok (.enter 152 args) w := L.f14.enters rfl
 have e15 : ∀ args w, (callFunc 153 args).run Tryz.prog w = .ok (.enter 153 args) w := enters_of L.f15 (by kernel_rfl) rfl
 have hlim : Lib.bitLen d.size < 4611686018427387904 := Nat.lt_of_le_of_lt (Lib.bitLen_le d.size 62 (by omega) (by omega)) (by omega)
 have hp := AnyQ.pdqsortCmpFunc_all (P := Tryz.prog) (ρ := Tryz.pdqL_ren) L k aE zE enc cf g cb hO blk off cap d w eg hcmp ⟨hk, h1, hH, hblk⟩ (d.size + 1) 0 d.size (Lib.bitLen d.size) d w (by omega) rfl (SWK.start hH) (Nat.zero_le _) (Nat.le_refl _) hsz hlim (Or.inl rfl)
 have hl : Calls Tryz.prog 153 #[.int .u64 (d.size : Int)] w fun e w' => e = .returned (.int .i64 (Lib.bitLen d.size : Nat)) /\ w' = w := by
  have h := Any.bits_Len (SlLaysF0.n15.bits (P := Tryz.prog) (ρ := Tryz.pdqL_ren) { L with }) (d.size : Int) w (by omega) (by omega)
  rwa [Int.toNat_natCast] at h
 have wr : IntKind.u64.wrap (d.size : Int) = d.size := by simp [IntKind.wrap, IntKind.bits, IntKind.signed]; omega
 clear hH hcmp hk h1
 replace hp : Calls Tryz.prog 152 #[.slice (some ⟨blk, off, none⟩) d.size cap, .int .i64 0, .int .i64 d.size, .int .i64 (Lib.bitLen d.size : Nat), .func (.func g) #[] cb] w fun e w' => e = .returned (.tuple #[]) /\ SWK enc k w blk off (pdq (ltOf cf) d 0 d.size (Lib.bitLen d.size) true true) w' := hp
 go_enter Tryz.func107, (rfl : Tryz.f107.ntmps = 14)
 go_wp2_with (first | (go_at_fn 153; refine hl.mono ?_; rintro e w' ⟨rfl, rfl⟩) | (go_at_fn 152; refine hp.mono ?_; rintro e w' ⟨rfl, n, os, rfl⟩))
 go_end0
 exact ⟨rfl, n, os, rfl⟩
set_option maxHeartbeats 4000000 in
set_option maxRecDepth 100000 in
theorem Tryz.sortN_none (p : Option Addr) (cap : Nat) (fv : Value) (w : World) : Calls Tryz.prog 107 #[.slice p 0 cap, fv] w fun e w' => e = .returned (.tuple #[]) /\ w' = w := by
 have L := Tryz.pdqL
 have e14 : ∀ args w, (callFunc 152 args).run Tryz.prog w = .ok (.enter 152 args) w := L.f14.enters rfl
 have e15 : ∀ args w, (callFunc 153 args).run Tryz.prog w = .ok (.enter 153 args) w := enters_of L.f15 (by kernel_rfl) rfl
 have hp : ∀ lim W, Calls Tryz.prog 152 #[.slice p 0 cap, .int .i64 0, .int .i64 0, .int .i64 lim, fv] W fun e w' => e = .returned (.tuple #[]) /\ w' = W := fun lim W => AnyF.pdqsortCmpFunc_none (P := Tryz.prog) (ρ := Tryz.pdqL_ren) L p cap lim fv W
 have hl : ∀ W, Calls Tryz.prog 153 #[.int .u64 0] W fun e w' => e = .returned (.int .i64 (Lib.bitLen 0 : Nat)) /\ w' = W := fun W => by
  have h := Any.bits_Len (SlLaysF0.n15.bits (P := Tryz.prog) (ρ := Tryz.pdqL_ren) { L with }) 0 W (by omega) (by omega)
  exact h
 go_enter Tryz.func107, (rfl : Tryz.f107.ntmps = 14)
 go_wp2_with (first | (go_at_fn 153; refine (hl _).mono ?_; rintro e w' ⟨rfl, rfl⟩) | (go_at_fn 152; refine (hp _ _).mono ?_; rintro e w' ⟨rfl, rfl⟩))
 go_end0
 exact ⟨rfl, rfl⟩
end Go.Proofs

namespace Go.Gv
variable[Drw]
open Go.Sort
section
variable{P:Program}{F:Fid}{α:Type}[Inhabited α]
def lJ(encD:α->D)(d:Array α):List (List D):=d.toList.map fun x=>[encD x]
theorem rf{f:FuncId}(enc:α->Value)(encD:α->D)(hflat:∀M x u,ae F M (encD x) u->u=enc x)(hrep:∀M x,ae F M (encD x) (enc x))(d d':Array α)(hsz:d'.size=d.size)(ds:List D)
  (hnone:d.size=0->∀(M:Mem) (w:World) (vs:List Value) (A:Option Addr),(∀p v,M p=some v->w.cell? p=some v)->av F M ds vs->Calls P f (.slice A 0 0::vs).toArray w fun e w'=>e=.returned (.tuple #[])/\∃n os,w'=grow (Sort.ahead w n) os)
  (hrun:∀(M:Mem) (w:World) (vs:List Value) (blk off cap:Nat),(∀p v,M p=some v->w.cell? p=some v)->(∀p:Addr,p.block=blk->M p=none)->av F M ds vs->Holds enc w blk off d->blk<w.heap.size ->
   Calls P f (.slice (some ⟨blk,off,none⟩) d.size cap::vs).toArray w fun e w'=>e=.returned (.tuple #[])/\∃n os,w'=grow (putRow enc (Sort.ahead w n) blk off d') os):xK P F f 1 (lJ encD d) ds (lJ encD d'):=by
 intro M w vs hh r
 have hl:(lJ encD d).length=d.size:=by simp[lJ]
 refine⟨fun e A=>?_,fun b o T us cap hM hb hcell hcap hle hu hc=>?_⟩
 ·have h0:d.size=0:=by rw[<- hl,e];rfl
  refine(hnone h0 M w vs A hh r).mono ?_
  rintro e0 w' ⟨rfl,n,os,rfl⟩
  exact⟨rfl,rfl,rfl,rfl,by simp[grow,Sort.ahead],fun k hk=>by simp only[grow,Sort.ahead];rw[x1t hk],.of (Nat.le_add_right _ _)⟩
 ·rw[hl]at hcap ⊢
  have hH:Holds enc w b o d:=fun j hj=>by
   obtain⟨u,k1,k2⟩:=hc j [encD d[j]] 0 (encD d[j]) (by simp[lJ,hj]) rfl
   have:=hflat _ _ _ k2
   subst this
   have e1:d[j]! = d[j]:=x0c d j hj
   rw[e1]
   have k3:us[o+j]? = some (enc d[j]):=by simpa using k1
   constructor
   ·simp[World.cell?,hcell,k3]
   ·simp[World.frozen?,hcell]
  refine(hrun M w vs b o cap hh hM r hH hb).mono ?_
  rintro e0 w' ⟨rfl,n,os,rfl⟩
  have hput:(grow (putRow enc (Sort.ahead w n) b o d') os).heap[b]? = some (.cells (putCells enc o d' us.toArray) T (0,0)):=by
   simp only[grow,putRow,mapBlock,Sort.ahead]
   rw[x1t (by simpa using hb),x1s,if_pos rfl,hcell]
   rfl
  refine⟨rfl,(putCells enc o d' us.toArray).toList,by rw[x05];exact hput,by simp[putCells],fun i r off x hi hr=>?_,⟨rfl,rfl,rfl,by simp[grow,putRow,mapBlock,Sort.ahead],fun k hk hne=>?_,.of (Nat.le_add_right _ _)⟩⟩
  ·simp only[lJ,x0z,x0p]at hi
   obtain⟨y,h1,rfl⟩:=hi
   have ho:off=0:=by
    have:=(x0d.1 hr).1
    simpa using this
   subst ho
   simp only[x1k,x0s]at hr
   subst hr
   have hi2:i<d'.size:=by have:=(x0d.1 h1).1;simpa using this
   have hy:d'[i]! = y:=by
    rw[x0c d' i hi2]
    have:=(x0d.1 h1).2
    simpa using this
   refine⟨enc y,?_,hrep _ _⟩
   have hlt:o+i<us.length:=by
    have:o+cap*1<=us.length:=hle
    omega
   rw[Nat.mul_one,x1r,Array.getElem?_toList]
   simp only[putCells,Array.getElem?_mapIdx,x1j]
   rw[x0e hlt]
   simp only[x1m]
   rw[if_pos ⟨by omega,by omega⟩,show o+i-o=i by omega,hy]
  ·simp only[grow,putRow,mapBlock,Sort.ahead]
   rw[x1t (by simpa using hk),x1s,if_neg (Ne.symm hne)]
end
end Go.Gv

namespace Go.Gv
open Go.Sort Go.Proofs Go.Shelf
theorem Bel.grownK{w w':World}(h:Bel w w'):∃q os,w'=grow (w.drewN q) os:=by
 refine⟨w'.drawn-w.drawn,w'.heap.extract w.heap.size w'.heap.size,?_⟩
 have hh:w'.heap=w.heap++w'.heap.extract w.heap.size w'.heap.size:=by
  apply Array.ext
  ·have:=h.size
   simp only[Array.size_append,Array.size_extract]
   omega
  ·intro i h1 h2
   by_cases hi:i<w.heap.size
   ·rw[Array.getElem_append_left hi]
    have:=h.block i hi
    rw[x1c h1,x1c hi]at this
    exact Option.some.inj this
   ·rw[Array.getElem_append_right (by omega),Array.getElem_extract]
    congr 1
    omega
 have hd:=h.drawn trivial
 obtain⟨h1,h2,h3,h4,h5,h6⟩:=h
 cases w
 cases w'
 simp only[grow,World.drewN]at *
 subst h1 h2 h3
 congr 1
 omega
theorem tS{α:Type}[Inhabited α]{enc:α->List Value}{k:Nat}{w:World}{blk off n:Nat}{d:Array α}{os:Array Obj}{p:Addr}{v:Value}(hp:p.block≠blk)(h:w.cell? p=some v):(sortWorldK enc k w blk off n d os).cell? p=some v:=by
 have hb:p.block<w.heap.size:=by
  unfold World.cell? at h
  cases e:w.heap[p.block]? with
  | none=>rw[e]at h;cases h
  | some _=>exact(x1O.1 e).1
 have e:(sortWorldK enc k w blk off n d os).heap[p.block]? = w.heap[p.block]?:=by
  simp only[sortWorldK,grow,putRowK,putRow,mapBlock,Sort.ahead]
  rw[x1t (by simpa using hb),x1s,if_neg (Ne.symm hp)]
 unfold World.cell? at h ⊢
 rw[e]
 exact h
section
variable{P:Program}{F:Fid}{α:Type}[Inhabited α]
theorem qI{f:FuncId}(k:Nat)(hk0:0<k)(enc:α->List Value)(encD:α->List D)(hk:∀x,(enc x).length=k)(hkD:∀x,(encD x).length=k)(hflat:∀(M:Mem) (x:α) (i:Nat) (d:D) (u:Value),(encD x)[i]? = some d->ae F M d u->(enc x)[i]? = some u)(hrep:∀M x,av F M (encD x) (enc x))(d d':Array α)(hsz:d'.size=d.size)(ds:List D)
  (hnone:d.size=0->∀(M:Mem) (w:World) (vs:List Value) (A:Option Addr),(∀p v,M p=some v->w.cell? p=some v)->av F M ds vs->Calls P f (.slice A 0 0::vs).toArray w fun e w'=>e=.returned (.tuple #[])/\∃n os,w'=grow (Sort.ahead w n) os)
  (hrun:∀(M:Mem) (w:World) (vs:List Value) (blk off cap:Nat),(∀p v,M p=some v->w.cell? p=some v)->(∀p:Addr,p.block=blk->M p=none)->av F M ds vs->HoldsK enc k w blk off d->blk<w.heap.size ->
   Calls P f (.slice (some ⟨blk,off,none⟩) d.size cap::vs).toArray w fun e w'=>e=.returned (.tuple #[])/\∃n os,w'=sortWorldK enc k w blk off n d' os):xK P F f k (d.toList.map encD) ds (d'.toList.map encD):=by
 intro M w vs hh r
 have hl:(d.toList.map encD).length=d.size:=by simp
 refine⟨fun e A=>?_,fun b o T us cap hM hb hcell hcap hle hu hc=>?_⟩
 ·have h0:d.size=0:=by rw[<- hl,e];rfl
  refine(hnone h0 M w vs A hh r).mono ?_
  rintro e0 w' ⟨rfl,n,os,rfl⟩
  exact⟨rfl,rfl,rfl,rfl,by simp[grow,Sort.ahead],fun k hk=>by simp only[grow,Sort.ahead];rw[x1t hk],fun _=>Nat.le_add_right _ _⟩
 ·rw[hl]at hcap ⊢
  have hH:HoldsK enc k w b o d:=fun j hj=>by
   rw[size_flatK]at hj
   have hi:j/k<d.size:=(x1G hk0).2 hj
   have hm:j%k<k:=x1P _ hk0
   have hx:(encD d[j/k])[j%k]? = some ((encD d[j/k])[j%k]'(by rw[hkD];exact hm)):=x0e _
   obtain⟨u,k1,k2⟩:=hc (j/k) (encD d[j/k]) (j%k) _ (by simp[hi]) hx
   have k3:=hflat _ _ _ _ _ hx k2
   rw[x0Y,x1b (j/k) k,x1u]at k1
   have e1:(flatK enc k d)[j]! = u:=by
    rw[get_flatK _ _ _ _ hj,x0c d (j/k) hi]
    have:=(x0d.1 k3).2
    rw[x0c _ _ (by rw[hk];exact hm)]
    exact this
   rw[e1]
   exact⟨by simp[World.cell?,hcell,k1],by simp[World.frozen?,hcell]⟩
  refine(hrun M w vs b o cap hh hM r hH hb).mono ?_
  rintro e0 w' ⟨rfl,n,os,rfl⟩
  have hput:(sortWorldK enc k w b o n d' os).heap[b]? = some (.cells (putCells id o (flatK enc k d') us.toArray) T (0,0)):=by
   simp only[sortWorldK,grow,putRowK,putRow,mapBlock,Sort.ahead]
   rw[x1t (by simpa using hb),x1s,if_pos rfl,hcell]
   rfl
  refine⟨rfl,(putCells id o (flatK enc k d') us.toArray).toList,by rw[x05];exact hput,by simp[putCells],fun i r off x hi hr=>?_,⟨rfl,rfl,rfl,by simp[sortWorldK,grow,putRowK,putRow,mapBlock,Sort.ahead],fun q hq hne=>?_,fun _=>Nat.le_add_right _ _⟩⟩
  ·simp only[x0z,x0p]at hi
   obtain⟨y,h1,rfl⟩:=hi
   have ho:off<k:=by have:=(x0d.1 hr).1;rwa[hkD]at this
   have hi2:i<d'.size:=by have:=(x0d.1 h1).1;simpa using this
   have hy:d'[i]! = y:=by
    rw[x0c d' i hi2]
    have:=(x0d.1 h1).2
    simpa using this
   obtain⟨u,k1,k2⟩:=(hrep M y).get hr
   have hlt:i*k+off<d'.size*k:=by
    have:i*k+k<=d'.size*k:=by rw[<- x04];exact x0q _ hi2
    omega
   have hlt2:o+i*k+off<us.length:=by
    have h3:d'.size*k<=cap*k:=x0q _ (by omega)
    omega
   refine⟨u,?_,k2⟩
   rw[Array.getElem?_toList]
   simp only[putCells,Array.getElem?_mapIdx,x1j]
   rw[x0e hlt2]
   simp only[x1m,size_flatK]
   rw[if_pos ⟨by omega,by omega⟩,show o+i*k+off-o=i*k+off by omega,get_flatK _ _ _ _ hlt]
   have e1:(i*k+off)/k=i:=by rw[x1b,Nat.mul_add_div hk0,Nat.div_eq_of_lt ho];omega
   have e2:(i*k+off)%k=off:=by rw[x1b,Nat.mul_add_mod,Nat.mod_eq_of_lt ho]
   rw[e1,e2,hy]
   obtain⟨z1,z2⟩:=x0d.1 k1
   rw[x0c (enc y) off z1]
   simp[z2]
  ·simp only[sortWorldK,grow,putRowK,putRow,mapBlock,Sort.ahead]
   rw[x1t (by simpa using hq),x1s,if_neg (Ne.symm hne)]
end
end Go.Gv

namespace Go.Gv
open Go.Sort Go.Proofs Go.Shelf
section
variable{P:Program}{F:Fid}{α:Type}[Inhabited α]
theorem oU{f1:FuncId}(k:Nat)(hk0:0<k)(enc:α->List Value)(encD:α->List D)(hk:∀x,(enc x).length=k)(hkD:∀x,(encD x).length=k)(h1:∀x,∀v∈enc x,v.oneCell'=true)
  (hflat:∀(M:Mem) (x:α) (i:Nat) (d:D) (u:Value),(encD x)[i]? = some d->ae F M d u->(enc x)[i]? = some u) (hrep:∀M x,av F M (encD x) (enc x)) (cf:α->α->Int) (hO:SWO (ltOf cf)) (hT:∀x y,(ltOf cf) x y=false->(ltOf cf) y x=false->x=y) {g cg:Nat} (hg:∀f,F g=some f->f=f1)
  (hnone:∀(p:Option Addr) (cap:Nat) (fv:Value) (w:World),Calls P f1 #[.slice p 0 cap,fv] w fun e w'=>e=.returned (.tuple #[])/\w'=w)
  (htot:∀(g:Nat) (cb:Array Value) (blk off cap:Nat) (d:Array α) (w:World),(∀args w,(callFunc g args).run P w=.ok (.enter g args) w)->CmpLays P g cb enc k cf blk off d.size w->HoldsK enc k w blk off d->blk<w.heap.size->d.size<4611686018427387904 ->
   Calls P f1 #[.slice (some ⟨blk,off,none⟩) d.size cap,.func (.func g) #[] cb] w fun e w'=>e=.returned (.tuple #[])/\∃n os,w'=sortWorldK enc k w blk off n (pdq (ltOf cf) d 0 d.size (Lib.bitLen d.size) true true) os) {cs:List D}
  (hn:∀f,F cg=some f->oz P f=true) (hcl:∀x y,cj P F cg (.agg (encD x)::.agg (encD y)::cs) (.int .i64 (cf x y)) []) (d:List α) (hz:d.length<2^62) :
  cj P F g [.own k (d.map encD),.fn cg cs] .any [.own k ((d.mergeSort fun x y=>!(ltOf cf) y x).map encD),.nilp]:=by
 refine⟨trivial,fun f hf=>⟨rfl,?_⟩⟩
 obtain rfl:=hg f hf
 have key:=qI (P:=P) (F:=F) (f:=f) k hk0 enc encD hk hkD hflat hrep d.toArray (d.mergeSort fun x y=>!(ltOf cf) y x).toArray (by simp) [.fn cg cs] (fun h M w vs A hh r=>by
  simp only[av,ae]at r
  obtain⟨fv,vs',rfl,⟨fi,us,hfi,rfl,hus⟩,rfl⟩:=r
  refine(hnone A 0 _ w).mono ?_
  rintro e w' ⟨rfl,rfl⟩
  exact⟨rfl,0,#[],by simp[grow,Sort.ahead]⟩) (fun M w vs blk off cap hh hM r hH hb=>by
  simp only[av,ae]at r
  obtain⟨fv,vs',rfl,⟨fi,us,hfi,rfl,hus⟩,rfl⟩:=r
  have hcmp:CmpLays P fi us.toArray enc k cf blk off d.toArray.size w:=by
   intro m os dk hdk x y
   have hr:=(hcl x y).2 fi hfi M (sortWorldK enc k w blk off m dk os) (.agg (enc x).toArray::.agg (enc y).toArray::us) (fun p v hpv=>tS (fun e=>by rw[hM p e]at hpv;cases hpv) (hh p v hpv)) (by
    simp only[av,ae]
    exact⟨_,_,rfl,⟨_,rfl,hrep _ _⟩,_,_,rfl,⟨_,rfl,hrep _ _⟩,hus⟩)
   have e:#[Value.agg (enc x).toArray,.agg (enc y).toArray]++us.toArray=(.agg (enc x).toArray::.agg (enc y).toArray::us).toArray:=by simp
   rw[e]
   refine hr.mono ?_
   rintro e w' ⟨v,M',rfl,hbel,_,_,_,hv⟩
   simp only[ae]at hv
   subst hv
   exact⟨rfl,hbel.grownK⟩
  have:=htot fi us.toArray blk off cap d.toArray w (cx (hn fi hfi)) hcmp hH hb (by simpa using hz)
  have hs:=pdq_sorts (ltOf cf) hO d.toArray 0 d.toArray.size (Lib.bitLen d.toArray.size) true true (Nat.zero_le _) (x0k _) (Or.inl rfl)
  have:Calls P f #[.slice (some ⟨blk,off,none⟩) d.toArray.size cap,.func (.func fi) #[] us.toArray] w fun e w'=>e=.returned (.tuple #[])/\∃n os,w'=sortWorldK enc k w blk off n (d.toArray.toList.mergeSort fun x y=>!(ltOf cf) y x).toArray os :=
   this.mono fun _ _ ⟨he,n,os,hw⟩=>⟨he,n,os,by rw[hw,<- sorted_unique_holds hO hT d.toArray _ hs.1 hs.2]⟩
  simpa using this)
 simpa using key
end
theorem xy[Drw]{P:Program}{F:Fid}{ρ:Ren}(L:Lays.n106 P ρ){g:Nat}(hg:∀f,F g=some f->f=ρ.f 106)(a b:List UInt8):cj P F g [.str a,.str b] (.int .i64 (Lib.compareBytes a b)) []:=by
 refine⟨trivial,fun f hf=>?_⟩
 obtain rfl:=hg f hf
 intro M w vs hh r
 simp only[av,ae]at r
 obtain⟨v1,r1,rfl,rfl,v2,r2,rfl,rfl,rfl⟩:=r
 refine(Any.strings_Compare L ⟨a.toArray⟩ ⟨b.toArray⟩ w).mono ?_
 rintro e w' ⟨rfl,rfl⟩
 exact⟨_,M,rfl,Bel.refl _,fun _ _ h=>h,fun p h1 h2=>absurd h1 h2,hh,by simp only[ae]⟩
theorem lq[Drw]{P:Program}{F:Fid}{g:Nat}{ds:List D}{sz:Nat}(h:cj P F g ds .any [.own sz []]):cj P F g ds (.sl []) []:=by
 refine⟨trivial,fun f hf M w vs hh r=>?_⟩
 refine(h.2 f hf M w vs hh r).mono ?_
 have hold:∀{w':World},Bel w w'->∀p v,M p=some v->w'.cell? p=some v:=fun hb p v hp=>(by rw[hb.cell (World.block_lt_of_cell? w p (hh p v hp))];exact hh p v hp)
 rintro e w' (⟨_,_,A,rfl,hb⟩|⟨b,o,T,us,cap,rfl,hb,_,_,hcap,_⟩)
 ·exact⟨_,M,rfl,hb,fun _ _ h=>h,fun p h1 h2=>absurd h1 h2,hold hb,by simp only[ae];exact⟨A,0,[],0,rfl,Nat.zero_le _,rfl,by simp,by simp⟩⟩
 ·exact⟨_,M,rfl,hb,fun _ _ h=>h,fun p h1 h2=>absurd h1 h2,hold hb,by simp only[ae];exact⟨_,cap,[],0,rfl,Nat.zero_le _,rfl,by simp,by simp⟩⟩
end Go.Gv

namespace Go.Gv
variable[Drw]
open Go.Sort Go.Proofs Go.Shelf
section
variable{P:Program}{F:Fid}{ρ:Ren}
def FB(zs:List Int):List (List D):=zs.map fun n=>[.int .i64 n]
theorem jS{zs:List Int}{i:Nat}{r:List D}{off:Nat}{d:D}(h1:(FB zs)[i]? = some r)(h2:r[off]? = some d):∃x,zs[i]? = some x/\off=0/\d=.int .i64 x:=by
 simp only[FB,x0z,x0p]at h1
 obtain⟨x,h1,rfl⟩:=h1
 have ho:off=0:=by have:=(x0d.1 h2).1;simpa using this
 subst ho
 simp only[x1k,x0s]at h2
 exact⟨x,h1,rfl,h2.symm⟩
theorem pS{M:Mem}{zs:List Int}{us:List Value}{o:Nat}(hc:∀i r off d,(FB zs)[i]? = some r->r[off]? = some d->∃u,us[o+i*1+off]? = some u/\ae F M d u):∀j x,zs[j]? = some x->us[o+j]? = some (.int .i64 x):=by
 intro j x hj
 obtain⟨u,k1,k2⟩:=hc j [.int .i64 x] 0 (.int .i64 x) (by simp[FB,hj]) rfl
 simp only[ae]at k2
 subst k2
 simpa using k1
theorem qH(Ly:Lays.n189 P ρ){g:Nat}(hg:∀f,F g=some f->f=ρ.f 189)(zs:List Int)(hz:zs.length<2^40) :
  cj P F g [.own 1 (zs.map fun n=>[.int .i64 n])] .any [.own 1 ((zs.mergeSort fun x y=>decide (x<=y)).map fun n=>[.int .i64 n]),.nilp]:=by
 refine⟨trivial,fun f hf=>⟨rfl,?_⟩⟩
 obtain rfl:=hg f hf
 have k:=rf (P:=P) (F:=F) (f:=ρ.f 189) (Value.int .i64) (D.int .i64) (fun M x u h=>by simpa only[ae]using h) (fun M x=>by simp only[ae]) zs.toArray (zs.mergeSort fun x y=>decide (x<=y)).toArray (by simp[List.length_mergeSort]) []
  (fun h M w vs A hh r=>by
   simp only[av]at r
   subst r
   refine(Any.slices_Sort_int_none Ly A 0 w).mono ?_
   rintro e w' ⟨rfl,rfl⟩
   exact⟨rfl,0,#[],by simp[grow,Sort.ahead]⟩)
  (fun M w vs blk off cap hh hM r hH hb=>by
   simp only[av]at r
   subst r
   have:=Any.slices_Sort_int Ly blk off cap zs w hH hb (by omega)
   simpa using this)
 simpa[lJ]using k
theorem re(L:Lays2.n20 P ρ){g:Nat}(hg:∀f,F g=some f->f=ρ.f 20)(zs:List Int)(hz:zs.length<2^40) :
  cj P F g [.own 1 (zs.map fun n=>[.int .i64 n])] .any [.own 1 ((Lib.compact zs).map fun n=>[.int .i64 n]),.nils,.nils]:=by
 refine⟨trivial,fun f hf=>⟨rfl,?_⟩⟩
 obtain rfl:=hg f hf
 refine sF.to ?_
 intro M w vs hh
 have nil:∀{b:Option Nat},og F M w b [] vs->vs=[]:=fun h=>x0G h.1.symm
 refine⟨fun e A r=>?_,fun b o T us cap r hM hb hcell hcap hmc hle hu hc=>?_⟩
 ·rw[nil r]
  have h0:zs=[]:=by simpa using e
  subst h0
  refine(Any.slices_Compact_int_empty L A 0 w).mono ?_
  rintro e w' ⟨rfl,rfl⟩
  exact⟨_,rfl,Bel.refl _,.inl ⟨rfl,A,rfl⟩⟩
 ·rw[nil r]
  have hget:=pS hc
  have hl:(zs.map fun n=>[D.int .i64 n]).length=zs.length:=by simp
  rw[hl]at hcap ⊢
  have hH:Holds (Value.int .i64) w b o zs.toArray:=fun j hj=>by
   have hj2:j<zs.length:=by simpa using hj
   have e1:zs.toArray[j]! = zs[j]:=by rw[x0c zs.toArray j hj];simp
   have k3:=hget j zs[j] (x0e hj2)
   rw[e1]
   exact⟨by simp[World.cell?,hcell,k3],by simp[World.frozen?,hcell]⟩
  obtain⟨d',hd'⟩:∃d',d'=(Lib.compact zs++List.replicate (zs.length-(Lib.compact zs).length) 0).toArray:=⟨_,rfl⟩
  have hcl:(Lib.compact zs).length<=zs.length:=by
   unfold Lib.compact Lib.compactUpTo
   rw[x0S]
   have:=x08 (Lib.keeps zs.toArray) (List.range zs.length)
   simpa using this
  have hsz:d'.size=zs.length:=by rw[hd'];simp;omega
  refine(Any.slices_Compact_int L b o cap zs w hH (by omega) hcap).mono ?_
  rintro e w' ⟨rfl,q,rfl⟩
  rw[<- hd']
  have hput:(putRow (Value.int .i64) (Sort.ahead w q) b o d').heap[b]? = some (.cells (putCells (Value.int .i64) o d' us.toArray) T (0,0)):=by
   simp only[putRow,mapBlock,Sort.ahead]
   rw[x1s,if_pos rfl,hcell]
   rfl
  refine⟨_,rfl,(putCells (Value.int .i64) o d' us.toArray).toList,by rw[x05];exact hput,by simp[putCells],⟨rfl,rfl,rfl,by simp[putRow,mapBlock,Sort.ahead],fun k hk hne=>?_,.of (Nat.le_add_right _ _)⟩,.inl ⟨by simp,by simp;omega,fun i r off d h1 h2=>?_⟩⟩
  ·simp only[putRow,mapBlock,Sort.ahead]
   rw[x1s,if_neg (Ne.symm hne)]
  ·obtain⟨x,h3,rfl,rfl⟩:=jS h1 h2
   have hi:i<(Lib.compact zs).length:=(x0d.1 h3).1
   refine⟨.int .i64 x,?_,by simp only[ae]⟩
   have hlt:o+i<us.length:=by omega
   have hy:d'[i]! = x:=by
    rw[x0c d' i (by omega)]
    have:d'[i]? = some x:=by rw[hd'];simp[x0A hi,h3]
    exact(x1O.1 this).2
   rw[Nat.mul_one,x1r,Array.getElem?_toList]
   simp only[putCells,Array.getElem?_mapIdx,x1j]
   rw[x0e hlt]
   simp only[x1m]
   rw[if_pos ⟨by omega,by omega⟩,show o+i-o=i by omega,hy]
theorem o8{zs:List Int}{i:Nat}(hi:i<=zs.length)(x:Int)(j:Nat):(zs.take i++x::zs.drop i)[j]? = if j<i then zs[j]? else if j=i then some x else zs[j-1]?:=by
 have hl:(zs.take i).length=i:=by simp;omega
 by_cases h1:j<i
 ·rw[if_pos h1,x0A (by omega),x0D h1]
 ·rw[if_neg h1,x0B (by omega),hl]
  by_cases h2:j=i
  ·subst h2;simp
  ·rw[if_neg h2,show j-i=(j-i-1)+1 by omega,List.getElem?_cons_succ,x0v]
   congr 1
   omega
theorem tR(L:Lays2.n21 P ρ){g:Nat}(hg:∀f,F g=some f->f=ρ.f 21)(zs:List Int)(i:Nat)(x:Int)(hi:i<=zs.length)(hz:zs.length<2^40) :
  cj P F g [.own 1 (zs.map fun n=>[.int .i64 n]),.int .i64 i,.own 1 [[.int .i64 x]]] .any [.own 1 ((zs.take i++x::zs.drop i).map fun n=>[.int .i64 n]),.nils,.nils]:=by
 refine⟨trivial,fun f hf=>⟨rfl,?_⟩⟩
 obtain rfl:=hg f hf
 refine sF.to ?_
 intro M w vs hh
 have args:∀{b:Option Nat},og F M w b [.int .i64 i,.own 1 [[.int .i64 x]]] vs->∃(B o:Nat) (T:TypeId) (us:List Value) (cap:Nat),vs=[.int .i64 i,.slice (some ⟨B,o,none⟩) 1 cap]/\b≠some B/\w.heap[B]? = some (.cells us.toArray T (0,0))/\us[o]? = some (.int .i64 x):=by
  rintro b ⟨h1,h2⟩
  match vs,h1 with
  | [v0,v1],_ =>
   have a:=h2 0 _ _ rfl rfl
   have c:=h2 1 _ _ rfl rfl
   simp only[HK,ae]at a
   subst a
   rcases c with ⟨e,_⟩|⟨B,o,T,us,cap,rfl,h3,h4,h5,h6,h7⟩
   ·cases e
   ·obtain⟨u,k1,k2⟩:=h7 0 [.int .i64 x] 0 (.int .i64 x) rfl rfl
    simp only[ae]at k2
    subst k2
    exact⟨B,o,T,us,cap,rfl,h3,h4,by simpa using k1⟩
 have cellOf:∀{w:World} {b:Nat} {us:List Value} {T:TypeId} {k:Nat} {v:Value},w.heap[b]? = some (.cells us.toArray T (0,0))->us[k]? = some v->w.cell? ⟨b,k,none⟩=some v:=fun h1 h2=>by simp[World.cell?,h1,h2]
 have frz:∀{w:World} {b:Nat} {us:List Value} {T:TypeId} {k:Nat},w.heap[b]? = some (.cells us.toArray T (0,0))->w.frozen? ⟨b,k,none⟩=false:=fun h1=>by simp[World.frozen?,h1]
 have one:∀v∈[Value.int .i64 x],v.oneCell'=true:=by intro v hv;simp at hv;subst hv;rfl
 have hzc:(Value.int .i64 0).cells.size=1:=rfl
 refine⟨fun e A r=>?_,fun b o T us cap r hM hb hcell hcap hmc hle hu hc=>?_⟩
 ·obtain⟨B,o,T,us,cap,rfl,_,h4,h5⟩:=args r
  have h0:zs=[]:=by simpa using e
  subst h0
  have hi0:i=0:=by simpa using hi
  subst hi0
  refine(Any2.slices_Insert_int_end_grow L A 0 0 B o 1 cap [] [.int .i64 x] w (by omega) (by omega) (by omega) (by omega) rfl rfl (fun _=>rfl) (fun a _ j v hj=>by simp at hj) (fun j v hj=>by
   cases j with
   | zero=>simp at hj;subst hj;exact cellOf h4 (by simpa using h5)
   | succ j=>simp at hj) one).mono ?_
  rintro e w' ⟨rfl,rfl⟩
  obtain⟨G,hG⟩:∃G,G=grownCap w (0+1) 0 (ρ.t 3):=⟨_,rfl⟩
  have g1:=grownCap_ge w (0+1) 0 (ρ.t 3)
  have g2:=grownCap_le_maxLen w (0+1) 0 (ρ.t 3) (by decide)
  rw[<- hG]at g1 g2 ⊢
  refine⟨_,rfl,Bel.drewAlloc _ _,.inr ⟨w.heap.size,0,ρ.t 3,(([]++[Value.int .i64 x]).toArray++Builtin.zeroCells (Value.int .i64 0).cells (G-(0+1))).toList,G,by simp,x0k _,?_,by simpa using g1,⟨?_,g2⟩,fun j r' off d h1 h2=>?_⟩⟩
  ·rw[x05];exact heap_alloc_new w.drew _
  ·simp[size_zeroCells,hzc];omega
  ·obtain⟨y,h3,rfl,rfl⟩:=jS h1 h2
   cases j with
   | zero=>simp at h3;subst h3;exact⟨.int .i64 x,by simp,by simp only[ae]⟩
   | succ j=>simp at h3
 ·obtain⟨B,o',T',us',cap',rfl,hne,h4,h5⟩:=args r
  have hBb:B≠b:=fun e=>hne (by rw[e])
  have hget:=pS hc
  have hl:(zs.map fun n=>[D.int .i64 n]).length=zs.length:=by simp
  have hlr:((zs.take i++x::zs.drop i).map fun n=>[D.int .i64 n]).length=zs.length+1:=by simp;omega
  rw[hl]at hcap ⊢
  rw[hlr]
  have hcs:∀j v,(zs.map (Value.int .i64))[j]? = some v->w.cell? ⟨b,o+j,none⟩=some v:=fun j v hj=>by
   rw[x0z,x0p]at hj
   obtain⟨y,hj,rfl⟩:=hj
   exact cellOf hcell (hget j y hj)
  have hvs:∀j v,[Value.int .i64 x][j]? = some v->w.cell? ⟨B,o'+j,none⟩=some v:=fun j v hj=>by
   cases j with
   | zero=>simp at hj;subst hj;exact cellOf h4 (by simpa using h5)
   | succ j=>simp at hj
  have h1c:∀v∈zs.map (Value.int .i64),v.oneCell'=true:=by
   intro v hv
   obtain⟨y,_,rfl⟩:=x0w.1 hv
   rfl
  have hus:o+cap<=us.length:=by simpa using hle
  have here:∀j,j<zs.length+1->zs.length+1<=cap->(w.cell? ⟨b,o+j,none⟩).isSome=true:=fun j hj hr=>by
   have hlt:o+j<us.length:=by omega
   rw[cellOf hcell (x0e hlt)];rfl
  by_cases hroom:zs.length+1<=cap
  ·
   have fin:∀(w':World) (us2:List Value) (n:Nat),us2.length=us.length->w'.heap[b]? = some (.cells us2.toArray T (0,0))->(∀k,k≠b->w'.heap[k]? = w.heap[k]?)->w'.heap.size=w.heap.size->w'.os=w.os->w'.tape=w.tape->w'.output=w.output->w'.drawn=w.drawn+n ->
     (∀j y,(zs.take i++x::zs.drop i)[j]? = some y->us2[o+j]? = some (.int .i64 y)) ->
     ∃v,Ending.returned (Value.slice (some ⟨b,o,none⟩) (zs.length+1) cap)=.returned v/\∃us2:List Value,w'.heap[b]? = some (.cells us2.toArray T (0,0))/\us2.length=us.length/\Ch (fun k=>k=b) w w' /\
      ((v=.slice (some ⟨b,o,none⟩) (zs.length+1) cap/\zs.length+1<=cap/\∀i' r off d,((zs.take i++x::zs.drop i).map fun n=>[D.int .i64 n])[i']? = some r->r[off]? = some d->∃u,us2[o+i'*1+off]? = some u/\ae F M d u)\/fu F M w w' 1 ((zs.take i++x::zs.drop i).map fun n=>[D.int .i64 n]) v):=by
    intro w' us2 n e1 e2 e3 e4 e5 e6 e7 e8 e9
    refine⟨_,rfl,us2,e2,e1,⟨e5,e6,e7,Nat.le_of_eq e4.symm,fun k _ hk=>e3 k hk,.of (by omega)⟩,.inl ⟨rfl,hroom,fun j r' off d h1 h2=>?_⟩⟩
    obtain⟨y,h3,rfl,rfl⟩:=jS h1 h2
    exact⟨.int .i64 y,by simpa using e9 j y h3,by simp only[ae]⟩
   rcases Nat.lt_or_eq_of_le hi with hlt|heq
   ·refine(Any2.slices_Insert_int_shift L b o zs.length cap i B o' 1 cap' (zs.map (Value.int .i64)) [.int .i64 x] w hlt (by omega) hroom hmc hBb (by simp) rfl hcs (fun j hj=>here j hj hroom) (fun j _=>frz hcell) hvs h1c one T' T us'.length us.length
     (by simp[World.shape?,h4]) (by simp[World.shape?,hcell]) (by omega) (frz h4) (frz h4)).mono ?_
    rintro e w' ⟨rfl,rfl⟩
    have hdl:((zs.map (Value.int .i64)).drop i).length=zs.length-i:=by simp
    obtain⟨s1,s2,s3,s4,s5,s6,s7⟩:=cl b T ((zs.map (Value.int .i64)).drop i) (o+(i+1)) us w.drew (by exact hcell) (by rw[hdl];omega)
    obtain⟨us1,hu1⟩:∃us1,us1=us.take (o+(i+1))++(zs.map (Value.int .i64)).drop i++us.drop (o+(i+1)+((zs.map (Value.int .i64)).drop i).length):=⟨_,rfl⟩
    rw[<- hu1]at s1
    have hl1:us1.length=us.length:=by rw[hu1];simp;omega
    obtain⟨t1,t2,t3,t4,t5,t6,t7⟩:=cl b T [Value.int .i64 x] (o+i) us1 _ s1 (by simp;omega)
    have g1:=fun y=>cU (vs:=us) (us:=(zs.map (Value.int .i64)).drop i) (q:=o+(i+1)) (n:=zs.length-i) (x:=y) hdl (by omega)
    have g2:=fun y=>cU (vs:=us1) (us:=[Value.int .i64 x]) (q:=o+i) (n:=1) (x:=y) rfl (by omega)
    rw[hdl]at hu1
    rw[<- hu1]at g1
    refine fin _ _ 1 (by simp;omega) t1 (fun k hk=>(t2 k hk).trans (s2 k hk)) (t3.trans s3) (t4.trans s4) (t5.trans s5) (t6.trans s6) (t7.trans s7) (fun j y hj=>?_)
    have hjl:j<zs.length+1:=by have:=(x0d.1 hj).1;simp at this;omega
    rw[o8 hi]at hj
    show(us1.take (o+i)++[Value.int .i64 x]++us1.drop (o+i+1))[o+j]? = _
    rw[g2]
    by_cases c1:j<i
    ·rw[if_pos c1]at hj
     rw[if_neg (by omega),g1,if_neg (by omega)]
     exact hget j y hj
    ·rw[if_neg c1]at hj
     by_cases c2:j=i
     ·subst c2
      rw[if_pos rfl]at hj
      rw[if_pos (by omega)]
      cases hj
      simp
     ·rw[if_neg c2]at hj
      rw[if_neg (by omega),g1,if_pos (by omega),x0v,show i+(o+j-(o+(i+1)))=j-1 by omega,x0z,hj]
      rfl
   ·subst heq
    refine(Any2.slices_Insert_int_end_room L b o zs.length cap B o' 1 cap' [.int .i64 x] w (by omega) hroom hmc rfl (fun j hj=>by
     have:=here (zs.length+j) (by omega) hroom
     rwa[<- x0Y]at this) (fun j _=>frz hcell) hvs one).mono ?_
    rintro e w' ⟨rfl,rfl⟩
    obtain⟨t1,t2,t3,t4,t5,t6,t7⟩:=cl b T [Value.int .i64 x] (o+zs.length) us w hcell (by simp;omega)
    have g2:=fun y=>cU (vs:=us) (us:=[Value.int .i64 x]) (q:=o+zs.length) (n:=1) (x:=y) rfl (by omega)
    refine fin _ _ 0 (by simp;omega) t1 t2 t3 t4 t5 t6 t7 (fun j y hj=>?_)
    have hjl:j<zs.length+1:=by have:=(x0d.1 hj).1;simp at this;omega
    rw[o8 (x0k _)]at hj
    show(us.take (o+zs.length)++[Value.int .i64 x]++us.drop (o+zs.length+1))[o+j]? = _
    rw[g2]
    by_cases c1:j<zs.length
    ·rw[if_pos c1]at hj
     rw[if_neg (by omega)]
     exact hget j y hj
    ·have c2:j=zs.length:=by omega
     rw[if_neg c1,if_pos c2]at hj
     rw[if_pos (by omega)]
     cases hj
     rw[c2]
     simp
  ·
   have hroom':cap<zs.length+1:=by omega
   obtain⟨G,hG⟩:∃G,G=grownCap w (zs.length+1) cap (ρ.t 3):=⟨_,rfl⟩
   have g1:=grownCap_ge w (zs.length+1) cap (ρ.t 3)
   have g2:=grownCap_le_maxLen w (zs.length+1) cap (ρ.t 3) (by unfold maxLen;omega)
   rcases Nat.lt_or_eq_of_le hi with hlt|heq
   ·refine(Any2.slices_Insert_int_grow L b o zs.length cap i B o' 1 cap' (zs.map (Value.int .i64)) [.int .i64 x] w hlt (by omega) hcap hroom' (by omega) (by simp) rfl hcs hvs h1c one).mono ?_
    rintro e w' ⟨rfl,rfl⟩
    rw[<- hG]at g1 g2 ⊢
    have hdl:((zs.map (Value.int .i64)).drop i).length=zs.length-i:=by simp
    obtain⟨row,hrow⟩:∃row:Array Value,row=((zs.map (Value.int .i64)).take i).toArray++Builtin.zeroCells (Value.int .i64 0).cells (zs.length+1-i)++Builtin.zeroCells (Value.int .i64 0).cells (G-(zs.length+1)):=⟨_,rfl⟩
    rw[<- hrow]
    have hrl:row.toList.length=G:=by rw[hrow];simp[size_zeroCells,hzc];omega
    have hnew:((w.alloc (.cells row (ρ.t 3))).drew).heap[w.heap.size]? = some (.cells row.toList.toArray (ρ.t 3) (0,0)):=by
     rw[x05];exact heap_alloc_new w _
    obtain⟨s1,s2,s3,s4,s5,s6,s7⟩:=cl w.heap.size (ρ.t 3) [Value.int .i64 x] i row.toList ((w.alloc (.cells row (ρ.t 3))).drew) hnew (by simp only[List.length_singleton];omega)
    obtain⟨us1,hu1⟩:∃us1,us1=row.toList.take i++[Value.int .i64 x]++row.toList.drop (i+[Value.int .i64 x].length):=⟨_,rfl⟩
    rw[<- hu1]at s1
    have hl1:us1.length=G:=by rw[hu1];simp only[x0C,x06,x1I,List.length_singleton,hrl];omega
    obtain⟨t1,t2,t3,t4,t5,t6,t7⟩:=cl w.heap.size (ρ.t 3) ((zs.map (Value.int .i64)).drop i) (i+1) us1 ((((w.alloc (.cells row (ρ.t 3))).drew).setCells w.heap.size i [Value.int .i64 x]).drew) s1 (by rw[hdl];omega)
    have gA:=fun y=>cU (vs:=row.toList) (us:=[Value.int .i64 x]) (q:=i) (n:=1) (x:=y) rfl (by omega)
    have gB:=fun y=>cU (vs:=us1) (us:=(zs.map (Value.int .i64)).drop i) (q:=i+1) (n:=zs.length-i) (x:=y) hdl (by omega)
    have ex:∀k,k≠w.heap.size->(w.alloc (.cells row (ρ.t 3))).heap[k]? = w.heap[k]?:=fun k hk=>by
     simp only[World.alloc]
     rw[Array.getElem?_push,if_neg hk]
    have exs:(w.alloc (.cells row (ρ.t 3))).heap.size=w.heap.size+1:=by simp only[World.alloc,Array.size_push]
    have hall:∀k,k≠w.heap.size->(((((w.alloc (.cells row (ρ.t 3))).drew).setCells w.heap.size i [Value.int .i64 x]).drew).setCells w.heap.size (i+1) ((zs.map (Value.int .i64)).drop i)).heap[k]? = w.heap[k]?:=fun k hk=>(t2 k hk).trans ((s2 k hk).trans (ex k hk))
    refine⟨_,rfl,us,(hall b (by omega)).trans hcell,rfl,⟨t4.trans s4,t5.trans s5,t6.trans s6,?_,fun k hk _=>hall k (by omega),?_⟩,.inr ⟨w.heap.size,0,ρ.t 3,_,G,by rw[hlr],x0k _,t1,by rw[hlr];exact g1,⟨?_,g2⟩,fun j r' off d h1 h2=>?_⟩⟩
    ·have:((((w.alloc (.cells row (ρ.t 3))).drew).setCells w.heap.size i [Value.int .i64 x]).drew).heap.size=w.heap.size+1:=s3.trans exs
     rw[t3,this];omega
    ·rw[t7]
     refine dle.of ?_
     show w.drawn<=(((w.alloc (.cells row (ρ.t 3))).drew).setCells w.heap.size i [Value.int .i64 x]).drawn+1
     rw[s7]
     show w.drawn<=w.drawn+1+1
     omega
    ·simp only[x0C,x06,x1I,hl1,x0S];omega
    ·obtain⟨y,hj,rfl,rfl⟩:=jS h1 h2
     refine⟨.int .i64 y,?_,by simp only[ae]⟩
     have hjl:j<zs.length+1:=by have:=(x0d.1 hj).1;simp at this;omega
     rw[o8 hi]at hj
     rw[x1a,Nat.mul_one,x1r,hdl,gB]
     by_cases c1:j<i
     ·rw[if_pos c1]at hj
      rw[if_neg (by omega),hu1]
      show(row.toList.take i++[Value.int .i64 x]++row.toList.drop (i+1))[j]? = _
      rw[gA,if_neg (by omega),hrow]
      have hj2:j<zs.length:=(x0d.1 hj).1
      simp only[Array.toList_append,x1L]
      rw[x0A (by simp;omega)]
      simp only[x0D c1,x0z,hj]
      rfl
     ·rw[if_neg c1]at hj
      by_cases c2:j=i
      ·subst c2
       rw[if_pos rfl]at hj
       rw[if_neg (by omega),hu1]
       show(row.toList.take j++[Value.int .i64 x]++row.toList.drop (j+1))[j]? = _
       rw[gA,if_pos (by omega)]
       cases hj
       simp
      ·rw[if_neg c2]at hj
       rw[if_pos (by omega),x0v,show i+(j+0-(i+1))=j-1 by omega,x0z,hj]
       rfl
   ·subst heq
    refine(Any2.slices_Insert_int_end_grow L (some ⟨b,o,none⟩) zs.length cap B o' 1 cap' (zs.map (Value.int .i64)) [.int .i64 x] w (by omega) hcap hroom' (by omega) (by simp) rfl (fun e=>by cases e) (fun a ha j v hj=>by
     cases ha
     rw[Addr.add_lit]
     exact hcs j v hj) hvs one).mono ?_
    rintro e w' ⟨rfl,rfl⟩
    rw[<- hG]at g1 g2 ⊢
    obtain⟨row,hrow⟩:∃row:Array Value,row=(zs.map (Value.int .i64)++[Value.int .i64 x]).toArray++Builtin.zeroCells (Value.int .i64 0).cells (G-(zs.length+1)):=⟨_,rfl⟩
    rw[<- hrow]
    have hrl:row.toList.length=G:=by rw[hrow];simp[size_zeroCells,hzc];omega
    have hbel:=Bel.drewAlloc w (.cells row (ρ.t 3))
    refine⟨_,rfl,us,(hbel.block b hb).trans hcell,rfl,Ch.of_below hbel _,.inr ⟨w.heap.size,0,ρ.t 3,row.toList,G,by rw[hlr],x0k _,by rw[x05];exact heap_alloc_new w.drew _,by rw[hlr];exact g1,⟨by omega,g2⟩,fun j r' off d h1 h2=>?_⟩⟩
    obtain⟨y,hj,rfl,rfl⟩:=jS h1 h2
    refine⟨.int .i64 y,?_,by simp only[ae]⟩
    have hjl:j<zs.length+1:=by have:=(x0d.1 hj).1;simp at this;omega
    rw[o8 (x0k _)]at hj
    rw[x1a,Nat.mul_one,x1r,hrow]
    simp only[Array.toList_append]
    rw[x0A (by simp;omega)]
    by_cases c1:j<zs.length
    ·rw[if_pos c1]at hj
     rw[x0A (by simpa using c1),x0z,hj]
     rfl
    ·have c2:j=zs.length:=by omega
     rw[if_neg c1,if_pos c2]at hj
     cases hj
     rw[x0B (by simp;omega)]
     simp[c2]
end
end Go.Gv

namespace Go.Gv
structure Tag {α:Type _} (x:α):Type where
@[simp] theorem Ox{k n}:isV (.int k n)=true:=zR
@[simp] theorem MF{b}:isV (.bool b)=true:=zR
@[simp] theorem OB{s}:isV (.str s)=true:=zR
@[simp] theorem MG:isV (.nils)=true:=zR
@[simp] theorem Ou{ds}:isV (.agg ds)=true:=zR
@[simp] theorem OC{ds}:isV (.tup ds)=true:=zR
@[simp] theorem PG{es}:isV (.sl es)=true:=zR
@[simp] theorem Oy{ds}:isV (.ptr ds)=true:=zR
@[simp] theorem PF{g ds}:isV (.fn g ds)=true:=zR
@[simp] theorem Oz{p k n}:isV (.ref p k n)=false:=zR
@[simp] theorem Ot{p i off}:isV (.adr p i off)=false:=zR
@[simp] theorem Ov{ds}:isV (.agx ds)=false:=zR
@[simp] theorem Ow{g ds}:isV (.fnx g ds)=false:=zR
@[simp] theorem Oc{ds}:isP (.ptr ds)=true:=zR
@[simp] theorem Od{p k n}:isP (.ref p k n)=true:=zR
@[simp] theorem Ob{p i off}:isP (.adr p i off)=true:=zR
@[simp] theorem PC:isS (.bb)=true:=zR
@[simp] theorem KN:bV (.bb)=[]:=zR
@[simp] theorem Oh{k n}:isS (.int k n)=true:=zR
@[simp] theorem MC{b}:isS (.bool b)=true:=zR
@[simp] theorem Oo{s}:isS (.str s)=true:=zR
@[simp] theorem MD:isS (.nilp)=true:=zR
@[simp] theorem ME:isS (.nils)=true:=zR
@[simp] theorem Og{ds}:isS (.agg ds)=true:=zR
@[simp] theorem Oq{ds}:isS (.tup ds)=true:=zR
@[simp] theorem PE{es}:isS (.sl es)=true:=zR
@[simp] theorem Oj{ds}:isS (.ptr ds)=true:=zR
@[simp] theorem PD{g ds}:isS (.fn g ds)=true:=zR
@[simp] theorem Oi{b}:isS (.mrf b)=true:=zR
@[simp] theorem Om{p k n}:isS (.ref p k n)=true:=zR
@[simp] theorem Of{p i off}:isS (.adr p i off)=true:=zR
@[simp] theorem Ol{ds}:isS (.ptx ds)=ds.all isP:=zR
@[simp] theorem Mv{k n}:aA (.int k n)=true:=zR
@[simp] theorem Kk{b}:aA (.bool b)=true:=zR
@[simp] theorem Mx{s}:aA (.str s)=true:=zR
@[simp] theorem Kl:aA (.nils)=true:=zR
@[simp] theorem My{ds}:aA (.tup ds)=false:=zR
@[simp] theorem N8{es}:aA (.sl es)=true:=zR
@[simp] theorem N9{k n}:isO (.int k n)=false:=zR
@[simp] theorem MA{b}:isO (.bool b)=false:=zR
@[simp] theorem Oa{s}:isO (.str s)=false:=zR
@[simp] theorem MB:isO (.nils)=false:=zR
@[simp] theorem PB{es}:isO (.sl es)=false:=zR
@[simp] theorem Mz{k n}:bP (.int k n)=true:=zR
@[simp] theorem N7{sz es}:isB (.blk sz es)=true:=zR
@[simp] theorem Kc{k n}:gm (.int k n)=false:=zR
@[simp] theorem It{b}:gm (.bool b)=false:=zR
@[simp] theorem Kh{s}:gm (.str s)=false:=zR
@[simp] theorem Iu:gm (.nils)=false:=zR
@[simp] theorem Ka{ds}:gm (.agg ds)=false:=zR
@[simp] theorem Ki{ds}:gm (.tup ds)=false:=zR
@[simp] theorem Mu{es}:gm (.sl es)=false:=zR
@[simp] theorem Kd{ds}:gm (.ptr ds)=false:=zR
@[simp] theorem Kf{p k n}:gm (.ref p k n)=false:=zR
@[simp] theorem J9{p i off}:gm (.adr p i off)=false:=zR
@[simp] theorem Kb{ds}:gm (.agx ds)=false:=zR
@[simp] theorem Ke{ds}:gm (.ptx ds)=false:=zR
@[simp] theorem G3{k n}:cellsOf (.int k n)=[.int k n]:=zR
@[simp] theorem EQ{b}:cellsOf (.bool b)=[.bool b]:=zR
@[simp] theorem G5{s}:cellsOf (.str s)=[.str s]:=zR
@[simp] theorem ER:cellsOf (.nils)=[.nils]:=zR
@[simp] theorem G2{ds}:cellsOf (.agg ds)=ds:=zR
@[simp] theorem G6{ds}:cellsOf (.tup ds)=[.tup ds]:=zR
@[simp] theorem H2{es}:cellsOf (.sl es)=[.sl es]:=zR
@[simp] theorem G4{p k n}:cellsOf (.ref p k n)=[.ref p k n]:=zR
@[simp] theorem JE{k n}:fw (.int k n)=.int k n:=zR
@[simp] theorem HR{b}:fw (.bool b)=.bool b:=zR
@[simp] theorem JG{s}:fw (.str s)=.str s:=zR
@[simp] theorem HS:fw (.nils)=.nils:=zR
@[simp] theorem JD{ds}:fw (.agg ds)=.agg ds:=zR
@[simp] theorem JI{ds}:fw (.tup ds)=.tup ds:=zR
@[simp] theorem Lz{es}:fw (.sl es)=.sl es:=zR
@[simp] theorem JF{p k n}:fw (.ref p k n)=.ref p k n:=zR
@[simp] theorem JS{k n}:bq (.int k n)=.int k n:=zR
@[simp] theorem H0{b}:bq (.bool b)=.bool b:=zR
@[simp] theorem JV{s}:bq (.str s)=.str s:=zR
@[simp] theorem H1:bq (.nils)=.nils:=zR
@[simp] theorem JW{ds}:bq (.tup ds)=.tup ds:=zR
@[simp] theorem LR{es}:bq (.sl es)=.sl es:=zR
@[simp] theorem JT{sz es}:bq (.own sz es)=.sl es:=zR
@[simp] theorem Hk{k n}:bE (.int k n)=[]:=zR
@[simp] theorem Hp{s}:bE (.str s)=[]:=zR
@[simp] theorem Hq{ds}:bE (.tup ds)=[]:=zR
@[simp] theorem Hl{ds}:bE (.ptr ds)=[]:=zR
@[simp] theorem Hn{p k n}:bE (.ref p k n)=[p.root]:=zR
@[simp] theorem Hj{p i off}:bE (.adr p i off)=[p.root]:=zR
@[simp] theorem Hm{ds}:bE (.ptx ds)=[]:=zR
@[simp] theorem IJ:bV (.any)=[]:=zR
@[simp] theorem IL{k n}:bV (.int k n)=[]:=zR
@[simp] theorem Hr{b}:bV (.bool b)=[]:=zR
@[simp] theorem IS{s}:bV (.str s)=[]:=zR
@[simp] theorem Hs:bV (.nils)=[]:=zR
@[simp] theorem IH{ds}:bV (.agg ds)=[]:=zR
@[simp] theorem IT{ds}:bV (.tup ds)=[]:=zR
@[simp] theorem KP{es}:bV (.sl es)=[]:=zR
@[simp] theorem zio{ds}:bV (.ptr ds)=[]:=zR
@[simp] theorem KO{g ds}:bV (.fn g ds)=[]:=zR
@[simp] theorem IK{sz es}:bV (.blk sz es)=[]:=zR
@[simp] theorem IM{b}:bV (.mrf b)=[b]:=zR
@[simp] theorem IQ{p k n}:bV (.ref p k n)=[p.root]:=zR
@[simp] theorem IG{p i off}:bV (.adr p i off)=[p.root]:=zR
@[simp] theorem II{ds}:bV (.agx ds)=ds.flatMap bE:=zR
@[simp] theorem IP{ds}:bV (.ptx ds)=ds.flatMap bE:=zR
@[simp] theorem NX{f:Nat->D}{k n}:dp1 f (.int k n)=(.int k n):=zR
@[simp] theorem L0{f:Nat->D}{b}:dp1 f (.bool b)=(.bool b):=zR
@[simp] theorem N1{f:Nat->D}{s}:dp1 f (.str s)=(.str s):=zR
@[simp] theorem Pm{f:Nat->D}{es}:dp1 f (.sl es)=(.sl es):=zR
@[simp] theorem NY{f:Nat->D}{ds}:dp1 f (.ptr ds)=(.ptr ds):=zR
@[simp] theorem NZ{f:Nat->D}{p k n}:dp1 f (.ref p k n)=(match aX f p with|some (_,es)=>.sl (((es.drop k).take n).map fun e=>e.map bq)|none=>.any):=zR
@[simp] theorem NW{f:Nat->D}{p i off}:dp1 f (.adr p i off)=(match aX f p with|some (_,es)=>.ptr (((es[i]?.getD []).drop off).map bq)|none=>.any):=zR
@[simp] theorem Pq{f:Nat->D}{k n}:dp f (.int k n)=(.int k n):=zR
@[simp] theorem N4{f:Nat->D}{b}:dp f (.bool b)=(.bool b):=zR
@[simp] theorem Pv{f:Nat->D}{s}:dp f (.str s)=(.str s):=zR
@[simp] theorem N5{f:Nat->D}:dp f (.nils)=(.nils):=zR
@[simp] theorem Pn{f:Nat->D}{ds}:dp f (.agg ds)=(.agg ds):=zR
@[simp] theorem Pw{f:Nat->D}{ds}:dp f (.tup ds)=(.tup ds):=zR
@[simp] theorem P8{f:Nat->D}{es}:dp f (.sl es)=(.sl es):=zR
@[simp] theorem Pr{f:Nat->D}{ds}:dp f (.ptr ds)=(.ptr ds):=zR
@[simp] theorem P0{f:Nat->D}{g ds}:dp f (.fn g ds)=(.fn g ds):=zR
@[simp] theorem Pt{f:Nat->D}{p k n}:dp f (.ref p k n)=(match aX f p with|some (_,es)=>.sl (((es.drop k).take n).map fun e=>e.map bq)|none=>.any):=zR
@[simp] theorem Po{f:Nat->D}{ds}:dp f (.agx ds)=(.agg (ds.map (dp1 f))):=zR
@[simp] theorem Ps{f:Nat->D}{ds}:dp f (.ptx ds)=(.ptr (ds.map (dp1 f))):=zR
@[simp] theorem Pp{f:Nat->D}{g ds}:dp f (.fnx g ds)=(.fn g (ds.map (dp1 f))):=zR
@[simp] theorem JY{f:Nat->D}{k n}:bA f (.int k n)=(True):=zR
@[simp] theorem H8{f:Nat->D}{b}:bA f (.bool b)=(True):=zR
@[simp] theorem J2{f:Nat->D}{s}:bA f (.str s)=(True):=zR
@[simp] theorem L4{f:Nat->D}{es}:bA f (.sl es)=(True):=zR
@[simp] theorem JZ{f:Nat->D}{ds}:bA f (.ptr ds)=(True):=zR
@[simp] theorem J0{f:Nat->D}{p k n}:bA f (.ref p k n)=(match aX f p with|some (_,es)=>k+n<=es.length|none=>False):=zR
@[simp] theorem JX{f:Nat->D}{p i off}:bA f (.adr p i off)=(match aX f p with|some _=>True|none=>False):=zR
@[simp] theorem L8{f:Nat->D}{k n}:bW f (.int k n)=(True):=zR
@[simp] theorem J3{f:Nat->D}{b}:bW f (.bool b)=(True):=zR
@[simp] theorem Md{f:Nat->D}{s}:bW f (.str s)=(True):=zR
@[simp] theorem J4{f:Nat->D}:bW f (.nils)=(True):=zR
@[simp] theorem L5{f:Nat->D}{ds}:bW f (.agg ds)=(True):=zR
@[simp] theorem Me{f:Nat->D}{ds}:bW f (.tup ds)=(True):=zR
@[simp] theorem N3{f:Nat->D}{es}:bW f (.sl es)=(True):=zR
@[simp] theorem L9{f:Nat->D}{ds}:bW f (.ptr ds)=(True):=zR
@[simp] theorem N2{f:Nat->D}{g ds}:bW f (.fn g ds)=(True):=zR
@[simp] theorem Mb{f:Nat->D}{p k n}:bW f (.ref p k n)=(match aX f p with|some (_,es)=>k+n<=es.length|none=>False):=zR
@[simp] theorem L6{f:Nat->D}{ds}:bW f (.agx ds)=(∀d∈ds,bA f d):=zR
@[simp] theorem Ma{f:Nat->D}{ds}:bW f (.ptx ds)=(∀d∈ds,bA f d):=zR
@[simp] theorem L7{f:Nat->D}{g ds}:bW f (.fnx g ds)=(∀d∈ds,bA f d):=zR
@[simp] theorem OE{p i0 o k n}:ldc p i0 o (.int k n)=.int k n:=zR
@[simp] theorem MN{p i0 o b}:ldc p i0 o (.bool b)=.bool b:=zR
@[simp] theorem OH{p i0 o s}:ldc p i0 o (.str s)=.str s:=zR
@[simp] theorem MO{p i0 o}:ldc p i0 o (.nils)=.nils:=zR
@[simp] theorem PH{p i0 o es}:ldc p i0 o (.sl es)=.sl es:=zR
@[simp] theorem OF{c i o sz es}:ldc (.r c) i o (.own sz es)=.ref (.n c i o) 0 es.length:=zR
def slx(b:Bool)(es:List (List D)):D:=match b,es with
 | true,[]=>.nils
 | _,es=>.sl es
@[simp] theorem dc{es}:slx false es=.sl es:=by cases es<;>rfl
theorem nY(b:Bool)(es:List (List D)):slx b es=.sl es\/(slx b es=.nils/\es=[]):=by cases b<;>cases es<;>simp[slx]
@[simp] theorem OA{b es}:isV (slx b es)=true:=by cases b<;>cases es<;>rfl
@[simp] theorem Oe{b es}:isP (slx b es)=true:=by cases b<;>cases es<;>rfl
@[simp] theorem On{b es}:isS (slx b es)=true:=by cases b<;>cases es<;>rfl
@[simp] theorem Mw{b es}:aA (slx b es)=true:=by cases b<;>cases es<;>rfl
@[simp] theorem Kg{b es}:gm (slx b es)=false:=by cases b<;>cases es<;>rfl
@[simp] theorem JU{b es}:bq (slx b es)=slx b es:=by cases b<;>cases es<;>rfl
@[simp] theorem Ho{b es}:bE (slx b es)=[]:=by cases b<;>cases es<;>rfl
@[simp] theorem IR{b es}:bV (slx b es)=[]:=by cases b<;>cases es<;>rfl
@[simp] theorem N0{f:Nat->D}{b es}:dp1 f (slx b es)=slx b es:=by cases b<;>cases es<;>rfl
@[simp] theorem Pu{f:Nat->D}{b es}:dp f (slx b es)=slx b es:=by cases b<;>cases es<;>rfl
@[simp] theorem J1{f:Nat->D}{b es}:bA f (slx b es)=True:=by cases b<;>cases es<;>rfl
@[simp] theorem Mc{f:Nat->D}{b es}:bW f (slx b es)=True:=by cases b<;>cases es<;>rfl
@[simp] theorem OG{p i o b es}:ldc p i o (slx b es)=slx b es:=by cases b<;>cases es<;>rfl
def As(d:D)(K:Nat->Prop)(_:Tag K):Prop:=match d with
 | .sl es=>K es.length
 | .nils=>K 0
 | .ref _ _ n=>K n
 | .rfx n _ _=>K n
 | _=>False
@[simp] theorem OI{es K u}:As (.sl es) K u=K es.length:=zR
@[simp] theorem KG{K u}:As .nils K u=K 0:=zR
@[simp] theorem MV{p k n K u}:As (.ref p k n) K u=K n:=zR
@[simp] theorem MW{b es K u}:As (slx b es) K u=K es.length:=by cases b<;>cases es<;>rfl
@[simp] theorem Ld{n ds}:qi true n ds=.agg (ds.take n):=zR
@[simp] theorem I1{n ds}:qi false n ds=ds.headD .any:=zR
@[simp] theorem MZ{t}:ac [] t=.any:=rfl
def lk(b:Bool)(d:D)(r:Env)(t:Nat):D:=match b with
 | true=>d
 | false=>ac r t
@[simp] theorem OJ{d r t}:lk true d r t=d:=rfl
@[simp] theorem MX{d r t}:lk false d r t=ac r t:=rfl
@[simp] theorem KH{s d r t}:ac ((s,d)::r) t=lk (s==t) d r t:=by
 by_cases h:s=t
 ·subst h;simp[ac]
 ·rw[show(s==t)=false by simp[h]];simp[ac,h]
@[simp] theorem Kq{e}:u2 [] e=[]:=zR
@[simp] theorem Iv{t ts e}:u2 (t::ts) e=(t,ac e t)::u2 ts e:=zR
@[simp] theorem Hy:pi []=[]:=zR
@[simp] theorem Gi{t d r}:pi ((t,d)::r)=bV d++pi r:=zR
@[simp] theorem Lw{e ks}:zu e [] ks=ks:=zR
@[simp] theorem JC{e r rs ks}:zu e (r::rs) ks=zu e rs (if (ks.map (·.1)).contains r then ks else ks++[(r,ac e r)]):=zR
def jH(f:Nat->D)(d:D)(ns:List Nat)(K:List D->List Nat->Prop)(_:Tag K):Prop:=fV f d ns K
def oh(f:Nat->D)(d:D)(K:D->List Nat->Prop)(_:Tag K):Prop:=eC f d K
def ur(f:Nat->D)(ds:List D)(K:List D->List Nat->Prop)(_:Tag K):Prop:=jG f ds K
def HN(b n:Nat)(x:D)(K:D->List Nat->Prop)(_:Tag K):Prop:=match x with
 | .blk sz es=>es.length=n/\(∀e∈es,∀c∈e,aA c=true)/\K (.own sz es) [b]
 | _=>False
@[simp] theorem Lm{b n sz es K u}:HN b n (.blk sz es) K u=(es.length=n/\(∀e∈es,∀c∈e,aA c=true)/\K (.own sz es) [b]):=zR
theorem jF{f:Nat->D}{d:D}{K:D->List Nat->Prop}{u}(h:aA d=true):oh f d K u=K d []:=by
 cases d<;>simp[aA]at h<;>simp[oh,eC,aA]
theorem kE{f:Nat->D}{d:D}{K:List D->List Nat->Prop}{u}(h:aA d=true):jH f d [] K u=K [d] []:=by
 cases d<;>simp[aA]at h<;>simp[jH,fV,eC,aA,dQ]
@[simp] theorem Lp{f ds K u}:jH f (.agg ds) [] K u=((∀c∈ds,aA c=true)/\K ds []):=by simp[jH,fV,dQ]
@[simp] theorem Lq{f ds K u}:jH f (.agx ds) [] K u=ur f ds (fun cs bs=>bG bs=true/\K cs bs) ⟨⟩:=by simp[jH,ur,fV,dQ]
@[simp] theorem Ls{f b k n K u}:jH f (.ref (.r b) k n) [] K u=(k=0/\HN b n (f b) (fun c bs=>K [c] bs) ⟨⟩):=by
 simp only[jH,fV,eC,HN,dQ,if_true,true_or,true_and]
 cases f b<;>rfl
@[simp] theorem Jz{f K u}:ur f [] K u=K [] []:=zR
@[simp] theorem HQ{f d ds K u}:ur f (d::ds) K u=oh f d (fun c bs=>ur f ds (fun cs bs'=>K (c::cs) (bs++bs')) ⟨⟩) ⟨⟩:=zR
@[simp] theorem Jx{f k n K u}:oh f (.int k n) K u=K (.int k n) []:=jF rfl
@[simp] theorem Lr{f k n K u}:jH f (.int k n) [] K u=K [.int k n] []:=kE rfl
@[simp] theorem HO{f n K u}:oh f (.bool n) K u=K (.bool n) []:=jF rfl
@[simp] theorem JA{f n K u}:jH f (.bool n) [] K u=K [.bool n] []:=kE rfl
@[simp] theorem Jy{f n K u}:oh f (.str n) K u=K (.str n) []:=jF rfl
@[simp] theorem Lu{f n K u}:jH f (.str n) [] K u=K [.str n] []:=kE rfl
@[simp] theorem HP{f  K u}:oh f .nils K u=K .nils []:=jF rfl
@[simp] theorem JB{f  K u}:jH f .nils [] K u=K [.nils] []:=kE rfl
@[simp] theorem Lo{f n K u}:oh f (.sl n) K u=K (.sl n) []:=jF rfl
@[simp] theorem NQ{f n K u}:jH f (.sl n) [] K u=K [.sl n] []:=kE rfl
@[simp] theorem Lt{f b n K u}:jH f (slx b n) [] K u=K [slx b n] []:=kE (by simp)
def tE(f:Nat->D)(sz:Nat)(ps:List (Nat×Opd))(es:List (List D))(bs:List Nat)(K:List (List D)->List Nat->Prop)(_:Tag K):Prop:=fP f sz [] ps es bs K
@[simp] theorem I2{f sz es bs K u}:tE f sz [] es bs K u=K es bs:=zR
@[simp] theorem Hw{f sz i x ps es bs K u}:tE f sz ((i,x)::ps) es bs K u=(i<es.length/\jH f (vd f x) [] (fun cs bs'=>cs.length=sz/\tE f sz ps (es.set i cs) (bs++bs') K ⟨⟩) ⟨⟩):=zR
def m3(f:Nat->D)(mv:Bool)(d:D)(sz:Nat)(K:List (List D)->List Nat->Prop)(_:Tag K):Prop:=fH f mv d sz K
def I8(b n sz:Nat)(x:D)(K:List (List D)->List Nat->Prop)(_:Tag K):Prop:=match x with
 | .blk sz' es=>sz'=sz/\es.length=n/\(∀e∈es,∀c∈e,isC c=true)/\K es [b]
 | _=>False
@[simp] theorem Nu{b n sz sz' es K u}:I8 b n sz (.blk sz' es) K u=(sz'=sz/\es.length=n/\(∀e∈es,∀c∈e,isC c=true)/\K es [b]):=zR
def I9(k n sz:Nat)(x:Option (Nat×List (List D)))(K:List (List D)->List Nat->Prop)(_:Tag K):Prop:=match x with
 | some (sz',es)=>sz'=sz/\k+n<=es.length/\(∀e∈(es.drop k).take n,∀c∈e,aA c=true)/\K ((es.drop k).take n) []
 | none=>False
@[simp] theorem Le{k n sz sz' es K u}:I9 k n sz (some (sz',es)) K u=(sz'=sz/\k+n<=es.length/\(∀e∈(es.drop k).take n,∀c∈e,aA c=true)/\K ((es.drop k).take n) []):=zR
@[simp] theorem Ny{f mv es sz K u}:m3 f mv (.sl es) sz K u=((∀e∈es,e.length=sz/\∀c∈e,aA c=true)/\K es []):=zR
@[simp] theorem Nx{f b k n sz K u}:m3 f true (.ref (.r b) k n) sz K u=(k=0/\I8 b n sz (f b) K ⟨⟩):=by
 simp only[m3,fH,I8]
 cases f b<;>rfl
@[simp] theorem Lg{f p k n sz K u}:m3 f false (.ref p k n) sz K u=I9 k n sz (aX f p) K ⟨⟩:=by
 simp only[m3,fH,I9]
 cases aX f p<;>rfl
def iE(f:Nat->D)(o:Option Opd)(dflt:Nat)(K:Nat->Prop)(_:Tag K):Prop:=eD f o dflt K
def LI(d:D)(K:Nat->Prop)(_:Tag K):Prop:=match d with
 | .int _ n=>0<=n/\K n.toNat
 | _=>False
@[simp] theorem LJ{k n K u}:LI (.int k n) K u=(0<=n/\K n.toNat):=zR
@[simp] theorem G0{f n K u}:iE f none n K u=K n:=zR
@[simp] theorem G1{f x n K u}:iE f (some x) n K u=LI (vd f x) K ⟨⟩:=zR
def jl(x:Option (List D))(K:List D->Prop)(_:Tag K):Prop:=match x with
 | some r=>K r
 | none=>False
@[simp] theorem Lf{r K u}:jl (some r) K u=K r:=zR
theorem gC{x:Option (List D)}{K:List D->Prop}{u}:jl x K u=∃r,x=some r/\K r:=by
 cases x<;>simp[jl]
def mQ(x:Option D)(K:Nat->List (List D)->Prop)(_:Tag K):Prop:=match x with
 | some (.own sz es)=>K sz es
 | _=>False
@[simp] theorem Np{sz es K u}:mQ (some (.own sz es)) K u=K sz es:=zR
theorem kU{x:Option D}{K:Nat->List (List D)->Prop}{u}:mQ x K u=∃sz es,x=some (.own sz es)/\K sz es:=by
 cases x with
 | none=>simp[mQ]
 | some d =>
  cases d<;>simp[mQ]
  exact⟨fun h=>⟨_,_,⟨rfl,rfl⟩,h⟩,by rintro⟨_,_,⟨rfl,rfl⟩,h⟩;exact h⟩
def EO(x:Option D)(K:D->Prop)(_:Tag K):Prop:=match x with
 | some d=>K d
 | none=>False
@[simp] theorem JR{d K u}:EO (some d) K u=K d:=zR
theorem EP{x:Option D}{K:D->Prop}{u}:EO x K u=∃d,x=some d/\K d:=by
 cases x<;>simp[EO]
def fx(x:D)(K:Nat->List (List D)->Prop)(_:Tag K):Prop:=match x with
 | .blk sz es=>K sz es
 | _=>False
@[simp] theorem LH{sz es K u}:fx (.blk sz es) K u=K sz es:=zR
abbrev CC:=Nat->List D->D->List D->Prop
abbrev KT:=List (Nat×D)->List (Nat×Bool)->Prop
section
variable{C:CC}{Q:bS->Env->Prop}{e e':Env}{d:D}
def wN(C:CC)(c:cL)(Q:bS->Env->Prop)(_:Tag (c,Q))(e:Env):Prop:=wpN C c Q e
def yi(C:CC)(c:cL)(Q:bS->Env->Prop)(_:Tag (c,Q))(e:Env):Prop:=wpN C (.loop c) Q e
def AF(C:CC)(K:Env->Prop)(ns:List au)(_:Tag (K,ns))(e:Env):Prop:=i9 C K ns e
def AE(C:CC)(hs:List Nat)(K:Env->Prop)(ns:List au)(_:Tag (K,ns))(e:Env)(acc:List (List Nat×List Nat)):Prop:=jB C hs K ns e acc
def Mt(hs:List Nat)(acc:List (List Nat×List Nat)):Prop:=lm hs acc.reverse=true
theorem aw{hs:List Nat}{acc:List (List Nat×List Nat)}(h:lm hs acc.reverse=true):Mt hs acc:=h
def G7(C:CC)(K:Env->Prop)(ns:List au)(e:Env):KT:=fun ws ks=>i9 C K ns (ws++dG ks e)
def LS(C:CC)(hs:List Nat)(K:Env->Prop)(ns:List au)(e:Env)(R:List Nat)(acc:List (List Nat×List Nat)):KT:=fun ws ks=>wOk R ws ks=true/\jB C hs K ns (ws++dG ks e) ((R,wrK ws ks)::acc)
def dA(Q:bS->Env->Prop)(_:Tag Q)(t:bS)(e:Env):Prop:=Q t e
def fin(res:List (Nat×Option (Nat×Bool)))(d:D):bS->Env->Prop:=fun t e=>(match t with
   | .ext _=>False
   | _=>True)/\ef res d e
def Gm(C:CC)(y:cL)(Q:bS->Env->Prop):bS->Env->Prop:=fun t e'=>match t with
  | .nrm=>wpN C y Q e'
  | t=>Q t e'
def sO(id:Nat)(Q:bS->Env->Prop):bS->Env->Prop:=fun t e'=>match t with
  | .ext i=>if i=id then Q .nrm e' else Q (.ext i) e'
  | t=>Q t e'
def Gd(keep:List Nat)(Q:bS->Env->Prop):Env->Prop:=fun e'=>Q .nrm (prune keep e')
def kOf(C:CC)(hs:Option (List Nat))(K:Env->Prop)(ns:List au)(e:Env)(R:List Nat)(acc:List (List Nat×List Nat)):KT :=
 match hs with
 | none=>G7 C K ns e
 | some hs=>LS C hs K ns e R acc
def doW(C:CC)(hs:Option (List Nat))(K:Env->Prop)(ns:List au)(_:Tag (hs,K,ns))(e:Env)(R:List Nat)(acc:List (List Nat×List Nat))(ws:List (Nat×D))(ks:List (Nat×Bool)):Prop:=kOf C hs K ns e R acc ws ks
def opW(C:CC)(hs:Option (List Nat))(K:Env->Prop)(ns:List au)(dst:Option Nat)(op:NOp)(_:Tag (hs,K,ns,dst,op))(e:Env)(R:List Nat)(acc:List (List Nat×List Nat)):Prop:=aG C (ac e) dst (kOf C hs K ns e R acc) op
def dW(C:CC)(hs:Option (List Nat))(K:Env->Prop)(ns:List au)(dst:Option Nat)(_:Tag (hs,K,ns))(e:Env)(R:List Nat)(acc:List (List Nat×List Nat))(d:D):Prop:=en dst (kOf C hs K ns e R acc) d
def uA(C:CC)(g:Nat)(hs:Option (List Nat))(K:Env->Prop)(ns:List au)(dst:Option Nat)(_:Tag (hs,K,ns))(e:Env)(R:List Nat)(acc:List (List Nat×List Nat))(pure:Bool)(ds:List D):Prop :=
 ∃d,C g ds d []/\(isF d=true\/pure=true)/\en dst (kOf C hs K ns e R acc) d
theorem start{prog:Nat->Option ar}(hC:al prog C){g:Nat}{nf:ar}{ds:List D}(hp:prog g=some nf)(hl:ds.length=nf.np)(h:wN C nf.body (fin nf.res d) ⟨⟩ (params 0 ds)):C g ds d []:=hC.1.1 g nf ds d hp hl h
def Fe(res:List (Nat×Option (Nat×Bool)))(sz:Nat)(es:List (List D)):bS->Env->Prop:=fun t e=>(match t with
   | .ext _=>False
   | _=>True)/\lI res sz es e
theorem jp{prog:Nat->Option ar}(hC:al prog C){g:Nat}{nf:ar}{ds:List D}{sz:Nat}{es:List (List D)}(hp:prog g=some nf)(hl:ds.length=nf.np)(h:wN C nf.body (Fe nf.res sz es) ⟨⟩ (params 0 ds)):C g ds .any [.own sz es]:=hC.1.2.2.1 g nf ds sz es hp hl h
def Fg(res:List (Nat×Option (Nat×Bool)))(d:D)(sz:Nat)(es':List (List D)):bS->Env->Prop:=fun t e=>(match t with
   | .ext _=>False
   | _=>True)/\(0<es'.length/\ac e 10015=.blk sz es')/\ef res d ((10015,.any)::e)
theorem Ef{prog:Nat->Option ar}(hC:al prog C){g:Nat}{nf:ar}{ds:List D}{d:D}{sz:Nat}{es es':List (List D)}(hp:prog g=some nf)(hl:ds.length+1=nf.np)(h:wN C nf.body (Fg nf.res d sz es') ⟨⟩ ((0,.adr (.r 10015) 0 0)::(params 1 ds++[(10015,.blk sz es)]))):C g (.blk sz es::ds) d [.blk sz es']:=hC.1.2.2.2.2.1 g nf ds d sz es es' hp hl h
def Ff(res:List (Nat×Option (Nat×Bool)))(sz:Nat)(es:List (List D)):bS->Env->Prop:=fun t e=>(match t with
   | .ext _=>False
   | _=>True)/\nU res sz es e
theorem Ee{prog:Nat->Option ar}(hC:al prog C){g:Nat}{nf:ar}{ds:List D}{sz:Nat}{es es':List (List D)}(hp:prog g=some nf)(hl:ds.length+1=nf.np)(hpu:∀d∈ds,isO d=false)(hsz:0<sz)(h:wN C nf.body (Ff nf.res sz es') ⟨⟩ ((0,.ref (.r 10015) 0 es.length)::(params 1 ds++[(10015,.blk sz es)]))):C g (.own sz es::ds) .any [.own sz es',.nils,.nils]:=hC.1.2.2.2.2.2.2.1 g nf ds sz es es' hp hl hpu hsz h
def Fd(res:List (Nat×Option (Nat×Bool)))(R:D):bS->Env->Prop:=fun t e=>(match t with
   | .ext _=>False
   | _=>True)/\tO res R e
theorem Jr{prog:Nat->Option ar}(hC:al prog C){g:Nat}{nf:ar}{ds:List D}{R:D}(hp:prog g=some nf)(hl:ds.length=nf.np)(hok:okR R=true)(h:wN C nf.body (Fd nf.res R) ⟨⟩ (params 0 ds)):C g ds R [.nils]:=hC.1.2.2.2.2.2.2.2.2 g nf ds R hp hl hok h
def wn(C:CC)(g:Nat)(hs:Option (List Nat))(K:Env->Prop)(ns:List au)(t:Nat)(_:Tag (hs,K,ns))(e:Env)(R:List Nat)(acc:List (List Nat×List Nat))(ds:List D):Prop :=
 (∃d,C g ds d []/\en (some t) (kOf C hs K ns e R acc) d)\/∃d,okR d=true/\C g ds d [.nils]/\kOf C hs K ns e R acc ((t,fZ t d)::aS t d) (fF t d)
theorem zM{g:Nat}{hs:Option (List Nat)}{K:Env->Prop}{ns:List au}{t:Nat}{u:Tag (hs,K,ns)}{R:List Nat}{acc:List (List Nat×List Nat)}{ds:List D}{d:D}(h:C g ds d [.nils])(hok:okR d=true)(hk:doW C hs K ns ⟨⟩ e R acc ((t,fZ t d)::aS t d) (fF t d)):wn C g hs K ns t u e R acc ds:=.inr ⟨d,hok,h,hk⟩
theorem zK{g:Nat}{hs:Option (List Nat)}{K:Env->Prop}{ns:List au}{t:Nat}{u:Tag (hs,K,ns)}{R:List Nat}{acc:List (List Nat×List Nat)}{ds:List D}{d:D}(h:C g ds d [])(hk:dW C hs K ns (some t) ⟨⟩ e R acc d):wn C g hs K ns t u e R acc ds:=.inl ⟨d,h,hk⟩
def BO(C:CC)(g:Nat)(hs:Option (List Nat))(K:Env->Prop)(ns:List au)(t:Nat)(_:Tag (hs,K,ns))(e:Env)(R:List Nat)(acc:List (List Nat×List Nat))(ds:List D):Prop :=
 ∃sz es,C g ds .any [.own sz es]/\kOf C hs K ns e R acc [(t,.ref (.r (rt t 0)) 0 es.length),(rt t 0,.blk sz es)] [(rt t 0,true)]
theorem nu{g:Nat}{hs:Option (List Nat)}{K:Env->Prop}{ns:List au}{t:Nat}{u:Tag (hs,K,ns)}{R:List Nat}{acc:List (List Nat×List Nat)}{ds:List D}{sz:Nat}{es:List (List D)}(h:C g ds .any [.own sz es])(hk:doW C hs K ns ⟨⟩ e R acc [(t,.ref (.r (rt t 0)) 0 es.length),(rt t 0,.blk sz es)] [(rt t 0,true)]):BO C g hs K ns t u e R acc ds:=⟨sz,es,h,hk⟩
def wq(C:CC)(g:Nat)(hs:Option (List Nat))(K:Env->Prop)(ns:List au)(dst:Option Nat)(_:Tag (hs,K,ns))(e:Env)(R:List Nat)(acc:List (List Nat×List Nat))(b sz:Nat)(es:List (List D))(ds:List D)(p:Bool):Prop:=match dst with
 | none=>∃es':List (List D),es'.length=es.length/\(∀e∈es',e.length=sz/\∀c∈e,aA c=true)/\(p=true\/∀e∈es',∀c∈e,bP c=true)/\C g (.own sz es::ds) .any [.own sz es',.nilp]/\doW C hs K ns ⟨⟩ e R acc [(b,.blk sz es')] []
 | some t=>(∃es':List (List D),es'.length=es.length/\(∀e∈es',e.length=sz/\∀c∈e,aA c=true)/\(p=true\/∀e∈es',∀c∈e,bP c=true)/\C g (.own sz es::ds) .any [.own sz es',.nilp]/\doW C hs K ns ⟨⟩ e R acc [(t,.tup []),(b,.blk sz es')] [])\/(b≠rt t 0/\0<sz/\∃es':List (List D),(∀e∈es',e.length=sz/\∀c∈e,aA c=true)/\(p=true\/∀e∈es',∀c∈e,bP c=true)/\C g (.own sz es::ds) .any [.own sz es',.nils]/\doW C hs K ns ⟨⟩ e R acc [(t,.ref (.r (rt t 0)) 0 es'.length),(rt t 0,.blk sz es'),(b,.any)] [(rt t 0,true)])
theorem zN{t:Nat}{g:Nat}{hs:Option (List Nat)}{K:Env->Prop}{ns:List au}{u:Tag (hs,K,ns)}{R:List Nat}{acc:List (List Nat×List Nat)}{b sz:Nat}{es es':List (List D)}{ds:List D}{p:Bool}(h:C g (.own sz es::ds) .any [.own sz es',.nilp])(hp:(p=true\/∀e∈es',∀c∈e,bP c=true))(hl:es'.length=es.length)(hu:(∀e∈es',e.length=sz/\∀c∈e,aA c=true))(hk:doW C hs K ns ⟨⟩ e R acc [(t,.tup []),(b,.blk sz es')] []):wq C g hs K ns (some t) u e R acc b sz es ds p:=.inl ⟨es',hl,hu,hp,h,hk⟩
def Jq(C:CC)(g:Nat)(hs:Option (List Nat))(K:Env->Prop)(ns:List au)(dst:Option Nat)(_:Tag (hs,K,ns))(e:Env)(R:List Nat)(acc:List (List Nat×List Nat))(b n:Nat)(xs:List Opd)(d:D):Prop:=match d with
 | .blk sz es=>es.length=n/\(∀e∈es,∀c∈e,aA c=true)/\(∀x∈xs,bW (fbE (ac e) b) (vd (fbE (ac e) b) x))/\wq C g hs K ns dst ⟨⟩ e R acc b sz es (xs.map (dpv (fbE (ac e) b))) (xs.all fun y=>isV (vd (fbE (ac e) b) y))
 | _=>False
def NF(C:CC)(g:Nat)(hs:Option (List Nat))(K:Env->Prop)(ns:List au)(dst:Option Nat)(_:Tag (hs,K,ns))(e:Env)(R:List Nat)(acc:List (List Nat×List Nat))(xs:List Opd)(d:D):Prop:=match d with
 | .ref (.r b) k n=>k=0/\Jq C g hs K ns dst ⟨⟩ e R acc b n xs (ac e b)
 | _=>False
@[simp] theorem PA{f:Nat->D}{b t:Nat}:fbE f b t=if t=b then .any else f t:=zR
theorem aa{g:Nat}{hs:Option (List Nat)}{K:Env->Prop}{ns:List au}{dst:Option Nat}{u:Tag (hs,K,ns)}{R:List Nat}{acc:List (List Nat×List Nat)}{p:Bool}{ds:List D}(h:C g ds d [])(hf:isF d=true\/p=true)(hk:dW C hs K ns dst ⟨⟩ e R acc d):uA C g hs K ns dst u e R acc p ds:=⟨d,h,hf,hk⟩
def tQ(S:Type)(G:S->Env)(I:S->Prop)(m:S->Nat)(s:S)(Q:bS->Env->Prop):bS->Env->Prop:=fun t e'=>match t with
    | .nrm=>∃s',I s'/\m s'<m s/\lT e' (G s')
    | t=>Q t e'
theorem ay{c:cL}{u:Tag (c,Q)}(S:Type)(G:S->Env)(I:S->Prop)(m:S->Nat)(s0:S)(h0:I s0)(hw:lT e (G s0))
  (h:∀s,I s->wN C c (tQ S G I m s Q) ⟨⟩ (G s)):yi C c Q u e:=⟨S,G,I,m,s0,h0,hw,h⟩
@[simp] theorem Pf{u}:wN C .skip Q u e=dA Q ⟨⟩ .nrm e:=zR
@[simp] theorem PV{hs keep ops u}:wN C (.reg false hs keep ops) Q u e=AF C (Gd keep Q) ops ⟨⟩ e:=zR
@[simp] theorem Pc{hs keep ops u}:wN C (.reg true hs keep ops) Q u e=AE C hs (Gd keep Q) ops ⟨⟩ e []:=zR
@[simp] theorem PX{x y u}:wN C (.seq x y) Q u e=wN C x (Gm C y Q) ⟨⟩ e:=zR
def brB(b:Bool)(X Y:Prop)(_:Tag (X,Y)):Prop:=(b=true->X)/\(b=false->Y)
theorem ab{b:Bool}{X Y:Prop}{u}(h1:b=true->X)(h2:b=false->Y):brB b X Y u:=⟨h1,h2⟩
@[simp] theorem LP{X Y:Prop}{u}:brB true X Y u=X:=by simp[brB]
@[simp] theorem JQ{X Y:Prop}{u}:brB false X Y u=Y:=by simp[brB]
def cdW(C:CC)(x y:cL)(Q:bS->Env->Prop)(_:Tag (x,y,Q))(e:Env)(d:D):Prop:=match d with
 | .bool b=>brB b (wN C x Q ⟨⟩ e) (wN C y Q ⟨⟩ e) ⟨⟩
 | .bb=>wN C x Q ⟨⟩ e/\wN C y Q ⟨⟩ e
 | _=>False
@[simp] theorem Pj{x y u}:cdW C x y Q u e .bb=(wN C x Q ⟨⟩ e/\wN C y Q ⟨⟩ e):=zR
@[simp] theorem LQ{x y u b}:cdW C x y Q u e (.bool b)=brB b (wN C x Q ⟨⟩ e) (wN C y Q ⟨⟩ e) ⟨⟩:=zR
@[simp] theorem Pb{c x y u}:wN C (.cond c x y) Q u e=cdW C x y Q ⟨⟩ e (vd (ac e) c):=zR
@[simp] theorem NL{id c u}:wN C (.block id c) Q u e=wN C c (sO id Q) ⟨⟩ e:=zR
@[simp] theorem Pe{c u}:wN C (.loop c) Q u e=yi C c Q ⟨⟩ e:=zR
@[simp] theorem Pd{id u}:wN C (.exit id) Q u e=dA Q ⟨⟩ (.ext id) e:=zR
@[simp] theorem PW{u}:wN C .ret Q u e=dA Q ⟨⟩ .ret e:=zR
@[simp] theorem E8{y u}:dA (Gm C y Q) u .nrm e=wN C y Q ⟨⟩ e:=zR
@[simp] theorem E7{y u i}:dA (Gm C y Q) u (.ext i) e=dA Q ⟨⟩ (.ext i) e:=zR
@[simp] theorem E9{y u}:dA (Gm C y Q) u .ret e=dA Q ⟨⟩ .ret e:=zR
@[simp] theorem Ct{id u}:dA (sO id Q) u .nrm e=dA Q ⟨⟩ .nrm e:=zR
@[simp] theorem Cs{id u i}:dA (sO id Q) u (.ext i) e=if i=id then dA Q ⟨⟩ .nrm e else dA Q ⟨⟩ (.ext i) e:=zR
@[simp] theorem Cu{id u}:dA (sO id Q) u .ret e=dA Q ⟨⟩ .ret e:=zR
@[simp] theorem E5{r u}:dA (fin r d) u .ret e=ef r d e:=by simp[dA,fin]
@[simp] theorem Ew{r sz es}{u:Tag (Fe r sz es)}:dA (Fe r sz es) u .ret e=lI r sz es e:=by simp[dA,Fe]
@[simp] theorem Ey{r d sz es}{u:Tag (Fg r d sz es)}:dA (Fg r d sz es) u .nrm e=((0<es.length/\ac e 10015=.blk sz es)/\ef r d ((10015,.any)::e)):=by simp[dA,Fg]
@[simp] theorem Ex{r sz es}{u:Tag (Ff r sz es)}:dA (Ff r sz es) u .ret e=nU r sz es e:=by simp[dA,Ff]
@[simp] theorem Ev{r d}{u:Tag (Fd r d)}:dA (Fd r d) u .ret e=tO r d e:=by simp[dA,Fd]
@[simp] theorem Cw{S G I m s u}:dA (tQ S G I m s Q) u .nrm e=∃s',I s'/\m s'<m s/\lT e (G s'):=zR
@[simp] theorem Cv{S G I m s u i}:dA (tQ S G I m s Q) u (.ext i) e=dA Q ⟨⟩ (.ext i) e:=zR
@[simp] theorem Cx{S G I m s u}:dA (tQ S G I m s Q) u .ret e=dA Q ⟨⟩ .ret e:=zR
end
section
variable{C:CC}{Q:bS->Env->Prop}{e:Env}{K:Env->Prop}{dst:Option Nat}{d:D}{hs:Option (List Nat)}{ns:List au}{R:List Nat}{acc:List (List Nat×List Nat)}{u:Tag (hs,K,ns)}
@[simp] theorem Nm{keep u}:AF C (Gd keep Q) [] u e=dA Q ⟨⟩ .nrm (prune keep e):=zR
@[simp] theorem Nl{h keep u}:AE C h (Gd keep Q) [] u e acc=(Mt h acc/\dA Q ⟨⟩ .nrm (prune keep e)):=zR
@[simp] theorem Lb{dst op ns u}:AF C K (⟨dst,op,none⟩::ns) u e=opW C none K ns dst op ⟨⟩ e [] []:=zR
@[simp] theorem K0{h dst op ns u}:AE C h K (⟨dst,op,none⟩::ns) u e acc=(chk (ac e) ⟨dst,op,none⟩=true/\opW C (some h) K ns dst op ⟨⟩ e (gQ (ac e) ⟨dst,op,none⟩) acc):=zR
def su(C:CC)(h:List Nat)(K:Env->Prop)(ns:List au)(_:Tag (h,K,ns))(e:Env)(dst:Option Nat)(R:List Nat)(acc:List (List Nat×List Nat)):Prop:=iB e dst fun e'=>jB C h K ns e' ((R,uK dst)::acc)
@[simp] theorem Jc{h t ns u}:su C h K ns u e (some t) R acc=AE C h K ns ⟨⟩ ((t,.tup [])::e) ((R,[4*t])::acc):=zR
def gdT(C:CC)(K:Env->Prop)(ns:List au)(dst:Option Nat)(op:NOp)(s:Nat)(want:Bool)(_:Tag (K,ns))(e:Env)(d:D):Prop:=match d with
 | .bool b=>(b=want->opW C none K ns dst op ⟨⟩ ((s,.bool want)::e) [] [])/\(b=!want->dW C none K ns dst ⟨⟩ ((s,.bool !want)::e) [] [] (.tup []))
 | .tup []=>dW C none K ns dst ⟨⟩ e [] [] (.tup [])
 | _=>False
@[simp] theorem Mp{op s b u}:gdT C K ns dst op s true u e (.bool b)=brB b (opW C none K ns dst op ⟨⟩ ((s,.bool true)::e) [] []) (dW C none K ns dst ⟨⟩ ((s,.bool false)::e) [] [] (.tup [])) ⟨⟩:=zR
@[simp] theorem J7{op s b u}:gdT C K ns dst op s false u e (.bool b)=brB b (dW C none K ns dst ⟨⟩ ((s,.bool true)::e) [] [] (.tup [])) (opW C none K ns dst op ⟨⟩ ((s,.bool false)::e) [] []) ⟨⟩:=by
 simp only[gdT,brB,Bool.not_false];exact propext ⟨fun h=>⟨h.2,h.1⟩,fun h=>⟨h.2,h.1⟩⟩
@[simp] theorem Mo{op s want u}:gdT C K ns dst op s want u e (.tup [])=dW C none K ns dst ⟨⟩ e [] [] (.tup []):=zR
@[simp] theorem Lc{dst op s want ns u}:AF C K (⟨dst,op,some (s,want)⟩::ns) u e=gdT C K ns dst op s want ⟨⟩ e (ac e s):=by
 simp only[AF,i9,opW,vZ,iB,gdT,dW,en,kOf,G7,dG]
 cases ac e s<;>cases dst<;>(first|rfl|(rename_i x _ ;cases x<;>rfl)|(rename_i x;cases x<;>rfl))
def gdD(C:CC)(h:List Nat)(K:Env->Prop)(ns:List au)(dst:Option Nat)(op:NOp)(want:Bool)(_:Tag (K,ns))(e:Env)(R:List Nat)(acc:List (List Nat×List Nat))(d:D):Prop:=match d with
 | .bool b=>(b=want->opW C (some h) K ns dst op ⟨⟩ e R acc)/\(b=!want->su C h K ns ⟨⟩ e dst R acc)
 | .tup []=>su C h K ns ⟨⟩ e dst R acc
 | _=>False
@[simp] theorem Mn{h op b u}:gdD C h K ns dst op true u e R acc (.bool b)=brB b (opW C (some h) K ns dst op ⟨⟩ e R acc) (su C h K ns ⟨⟩ e dst R acc) ⟨⟩:=zR
@[simp] theorem J6{h op b u}:gdD C h K ns dst op false u e R acc (.bool b)=brB b (su C h K ns ⟨⟩ e dst R acc) (opW C (some h) K ns dst op ⟨⟩ e R acc) ⟨⟩:=by
 simp only[gdD,brB,Bool.not_false];exact propext ⟨fun h=>⟨h.2,h.1⟩,fun h=>⟨h.2,h.1⟩⟩
@[simp] theorem Mm{h op want u}:gdD C h K ns dst op want u e R acc (.tup [])=su C h K ns ⟨⟩ e dst R acc:=zR
@[simp] theorem La{h dst op s want ns u}:AE C h K (⟨dst,op,some (s,want)⟩::ns) u e acc=(chk (ac e) ⟨dst,op,some (s,want)⟩=true/\gdD C h K ns dst op want ⟨⟩ e (gQ (ac e) ⟨dst,op,some (s,want)⟩) acc (ac e s)):=zR
@[simp] theorem LZ{K ns u ws ks}:doW C none K ns u e R acc ws ks=AF C K ns ⟨⟩ (ws++dG ks e):=zR
@[simp] theorem LY{h K ns u ws ks}:doW C (some h) K ns u e R acc ws ks=(wOk R ws ks=true/\AE C h K ns ⟨⟩ (ws++dG ks e) ((R,wrK ws ks)::acc)):=zR
@[simp] theorem NV{t}:dW C hs K ns (some t) u e R acc d=doW C hs K ns ⟨⟩ e R acc [(t,d)] []:=zR
def bu(ks:List (Nat×Bool))(d:D):D:=if aN ks d then .any else d
theorem eL(ks:List (Nat×Bool))(d:D):bu ks d=bif aN ks d then .any else d:=by
 unfold bu;cases aN ks d<;>rfl
@[simp] theorem KF:dG [] e=e:=zR
@[simp] theorem KD{k ks}:dG (k::ks) []=[]:=zR
@[simp] theorem Iz{k ks s d}:dG (k::ks) ((s,d)::e)=(s,bu (k::ks) d)::dG (k::ks) e:=zR
@[simp] theorem Ku{ks}:bu ks .any=.any:=by simp[bu]
@[simp] theorem Kv{ks k n}:bu ks (.int k n)=.int k n:=by simp[bu,aN,dP,aT]
@[simp] theorem Ix{ks n}:bu ks (.bool n)=.bool n:=by simp[bu,aN,dP,aT]
@[simp] theorem KB{ks n}:bu ks (.str n)=.str n:=by simp[bu,aN,dP,aT]
@[simp] theorem MK{ks}:bu ks .bb=.bb:=by simp[bu,aN,dP,aT]
@[simp] theorem Iy{ks}:bu ks .nils=.nils:=by simp[bu,aN,dP,aT]
@[simp] theorem Ks{ks n}:bu ks (.agg n)=.agg n:=by simp[bu,aN,dP,aT]
@[simp] theorem KC{ks n}:bu ks (.tup n)=.tup n:=by simp[bu,aN,dP,aT]
@[simp] theorem C3{ks n}:bu ks (.sl n)=.sl n:=by simp[bu,aN,dP,aT]
@[simp] theorem Aq{ks n}:bu ks (.ptr n)=.ptr n:=by simp[bu,aN,dP,aT]
@[simp] theorem ML{ks g n}:bu ks (.fn g n)=.fn g n:=by simp[bu,aN,dP,aT]
@[simp] theorem rQ{ks g n}:bu ks (.blk g n)=.blk g n:=by simp[bu,aN,dP,aT]
@[simp] theorem MM{ks kt et xs vs}:bu ks (.mp kt et xs vs)=.mp kt et xs vs:=by simp[bu,aN,dP,aT]
@[simp] theorem Kz{b all ks p k n}:bu ((b,all)::ks) (.ref p k n)=if cy b all p then .any else bu ks (.ref p k n):=by
 have h:bu ((b,all)::ks) (.ref p k n)=bif (cy b all p||aN ks (.ref p k n)) then .any else .ref p k n:=eL ..
 rw[h,eL]
 cases cy b all p<;>rfl
@[simp] theorem Kr{b all ks p k n}:bu ((b,all)::ks) (.adr p k n)=if cy b all p then .any else bu ks (.adr p k n):=by
 have h:bu ((b,all)::ks) (.adr p k n)=bif (cy b all p||aN ks (.adr p k n)) then .any else .adr p k n:=eL ..
 rw[h,eL]
 cases cy b all p<;>rfl
@[simp] theorem Kt{b all ks n}:bu ((b,all)::ks) (.agx n)=if n.any (aT b all) then .any else bu ks (.agx n):=by
 have h:bu ((b,all)::ks) (.agx n)=bif (n.any (aT b all)||aN ks (.agx n)) then .any else .agx n:=eL ..
 rw[h,eL]
 cases n.any (aT b all)<;>rfl
@[simp] theorem Kx{d}:bu [] d=d:=by simp[bu,aN]
@[simp] theorem KA{ks b es}:bu ks (slx b es)=slx b es:=by cases b<;>cases es<;>simp[slx]
def tn(C:CC)(hs:Option (List Nat))(K:Env->Prop)(ns:List au)(dst:Option Nat)(_:Tag (hs,K,ns))(e:Env)(R:List Nat)(acc:List (List Nat×List Nat))(sz:Nat)(es:List (List D))(i:Nat):Prop :=
 ∃c,es[i]? = some c/\c.length=sz/\en dst (kOf C hs K ns e R acc) (.ptr c)
@[simp] theorem Ms{α:Type}[Inhabited α]{sz:Nat}{xs:List α}{f:α->List D}{i:Nat}:tn C hs K ns dst u e R acc sz (xs.map f) i=(i<xs.length/\(f xs[i]!).length=sz/\dW C hs K ns dst ⟨⟩ e R acc (.ptr (f xs[i]!))):=by
 apply propext
 unfold tn dW
 constructor
 ·rintro⟨c,h,h1,h2⟩
  rw[x0z,x0p]at h
  obtain⟨x,hx,rfl⟩:=h
  obtain⟨hi,rfl⟩:=x0d.1 hx
  rw[x0c xs i hi]
  exact⟨hi,h1,h2⟩
 ·rintro⟨hi,h1,h2⟩
  rw[x0c xs i hi]at h1 h2
  exact⟨_,by rw[x0z,x0e hi];rfl,h1,h2⟩
def HW(C:CC)(hs:Option (List Nat))(K:Env->Prop)(ns:List au)(dst:Option Nat)(_:Tag (hs,K,ns))(e:Env)(R:List Nat)(acc:List (List Nat×List Nat))(s:List UInt8)(i:Nat):Prop :=
 ∃b,s[i]? = some b/\en dst (kOf C hs K ns e R acc) (.int .u8 b.toNat)
@[simp] theorem NU{s:List UInt8}{i:Nat}:HW C hs K ns dst u e R acc s i=(i<s.length/\dW C hs K ns dst ⟨⟩ e R acc (.int .u8 (s[i]!).toNat)):=by
 apply propext
 unfold HW dW
 constructor
 ·rintro⟨b,h,h2⟩
  obtain⟨hi,rfl⟩:=x0d.1 h
  rw[x0c s i hi]
  exact⟨hi,h2⟩
 ·rintro⟨hi,h2⟩
  rw[x0c s i hi]at h2
  exact⟨_,x0e hi,h2⟩
def AU(C:CC)(hs:Option (List Nat))(K:Env->Prop)(ns:List au)(dst:Option Nat)(_:Tag (hs,K,ns))(e:Env)(R:List Nat)(acc:List (List Nat×List Nat))(n:Nat)(ag:Bool)(p:Pa)(es:List (List D))(i off:Nat):Prop :=
 ∃r,es[i]? = some r/\off+n<=r.length/\match ag with
    | true=>(((r.drop off).take n).all isV=true->en dst (kOf C hs K ns e R acc) (.agg ((r.drop off).take n))) /\
      (((r.drop off).take n).all isV=false->en dst (kOf C hs K ns e R acc) (.agx (((r.drop off).take n).mapIdx fun j c=>ldc p i (off+j) c)))
    | false=>en dst (kOf C hs K ns e R acc) (ldc p i off ((r.drop off).headD .any))
theorem yC{n:Nat}{ag:Bool}{p:Pa}{es:List (List D)}{i off:Nat}{r:List D}(hr:es[i]? = some r)(hl:off+n<=r.length)(hk:match ag with
    | true=>(((r.drop off).take n).all isV=true->dW C hs K ns dst ⟨⟩ e R acc (.agg ((r.drop off).take n))) /\
      (((r.drop off).take n).all isV=false->dW C hs K ns dst ⟨⟩ e R acc (.agx (((r.drop off).take n).mapIdx fun j c=>ldc p i (off+j) c)))
    | false=>dW C hs K ns dst ⟨⟩ e R acc (ldc p i off ((r.drop off).headD .any))):AU C hs K ns dst u e R acc n ag p es i off:=by
 refine⟨r,hr,hl,?_⟩
 cases ag<;>exact hk
@[simp] theorem Nw{n:Nat}{ag:Bool}{p:Pa}{r:List D}{off:Nat}:AU C hs K ns dst u e R acc n ag p [r] 0 off=(off+n<=r.length/\match ag with
    | true=>(((r.drop off).take n).all isV=true->dW C hs K ns dst ⟨⟩ e R acc (.agg ((r.drop off).take n))) /\
      (((r.drop off).take n).all isV=false->dW C hs K ns dst ⟨⟩ e R acc (.agx (((r.drop off).take n).mapIdx fun j c=>ldc p 0 (off+j) c)))
    | false=>dW C hs K ns dst ⟨⟩ e R acc (ldc p 0 off ((r.drop off).headD .any))):=by
 apply propext
 constructor
 ·rintro⟨r',h1,h2,h3⟩
  simp at h1;subst h1
  refine⟨h2,?_⟩
  cases ag<;>exact h3
 ·rintro⟨h2,h3⟩
  refine⟨r,rfl,h2,?_⟩
  cases ag<;>exact h3
end
section
variable{C:CC}{Q:bS->Env->Prop}{e:Env}{K:Env->Prop}{dst:Option Nat}{hs:Option (List Nat)}{ns:List au}{R:List Nat}{acc:List (List Nat×List Nat)}{u:Tag (hs,K,ns)}
@[simp] theorem O5{x v1}:opW C hs K ns dst (.mov x) v1 e R acc=(isS (vd (ac e) x)=true/\dW C hs K ns dst ⟨⟩ e R acc (vd (ac e) x)):=zR
@[simp] theorem O8{x v1}:opW C hs K ns dst (.nck x) v1 e R acc=(match (generalizing:=false) vd (ac e) x with
  | .ptr ds=>dW C hs K ns dst ⟨⟩ e R acc (.ptr ds)
  | .adr p i off=>dW C hs K ns dst ⟨⟩ e R acc (.adr p i off)
  | .ptx ds=>dW C hs K ns dst ⟨⟩ e R acc (.ptx ds)
  | _=>False):=zR
@[simp] theorem Nk{c a b v1}:opW C hs K ns dst (.pick c a b) v1 e R acc=(match (generalizing:=false) vd (ac e) c with
  | .bool v=>(v=true->isS (vd (ac e) a)=true/\dW C hs K ns dst ⟨⟩ e R acc (vd (ac e) a))/\(v=false->isS (vd (ac e) b)=true/\dW C hs K ns dst ⟨⟩ e R acc (vd (ac e) b))
  | _=>False):=zR
@[simp] theorem OQ{op x y v1}:opW C hs K ns dst (.bin op x y) v1 e R acc=(match (generalizing:=false) vd (ac e) x,vd (ac e) y with
  | .int k a,.int k' b=>match (generalizing:=false) op with
   | .add=>k=k'/\dW C hs K ns dst ⟨⟩ e R acc (.int k (k.wrap (a+b)))
   | .sub=>k=k'/\dW C hs K ns dst ⟨⟩ e R acc (.int k (k.wrap (a-b)))
   | .mul=>k=k'/\dW C hs K ns dst ⟨⟩ e R acc (.int k (k.wrap (a*b)))
   | .quo=>k=k'/\b≠0/\dW C hs K ns dst ⟨⟩ e R acc (.int k (k.wrap (a.tdiv b)))
   | .rem=>k=k'/\b≠0/\dW C hs K ns dst ⟨⟩ e R acc (.int k (a.tmod b))
   | .and=>k=k'/\dW C hs K ns dst ⟨⟩ e R acc (.int k (bits .and k a b))
   | .or=>k=k'/\dW C hs K ns dst ⟨⟩ e R acc (.int k (bits .or k a b))
   | .xor=>k=k'/\dW C hs K ns dst ⟨⟩ e R acc (.int k (bits .xor k a b))
   | .andNot=>k=k'/\dW C hs K ns dst ⟨⟩ e R acc (.int k (bits .andNot k a b))
   | .shl=>0<=b/\dW C hs K ns dst ⟨⟩ e R acc (.int k (k.wrap (a*2^(min b.toNat k.bits))))
   | .shr=>0<=b/\dW C hs K ns dst ⟨⟩ e R acc (.int k (a.fdiv (2^(min b.toNat k.bits))))
   | .eql=>k=k'/\dW C hs K ns dst ⟨⟩ e R acc (.bool (decide (a=b)))
   | .neq=>k=k'/\dW C hs K ns dst ⟨⟩ e R acc (.bool (!decide (a=b)))
   | .lss=>k=k'/\dW C hs K ns dst ⟨⟩ e R acc (.bool (decide (a<b)))
   | .leq=>k=k'/\dW C hs K ns dst ⟨⟩ e R acc (.bool (decide (a<=b)))
   | .gtr=>k=k'/\dW C hs K ns dst ⟨⟩ e R acc (.bool (decide (b<a)))
   | .geq=>k=k'/\dW C hs K ns dst ⟨⟩ e R acc (.bool (decide (b<=a)))
  | .str a,.str b=>match (generalizing:=false) op with
   | .eql=>dW C hs K ns dst ⟨⟩ e R acc (.bool (decide (a=b)))
   | .neq=>dW C hs K ns dst ⟨⟩ e R acc (.bool (!decide (a=b)))
   | .add=>((a++b).length:Int)<=9223372036854775807/\dW C hs K ns dst ⟨⟩ e R acc (.str (a++b))
   | .lss=>dW C hs K ns dst ⟨⟩ e R acc (.bool (Op.bytesLess a b))
   | .leq=>dW C hs K ns dst ⟨⟩ e R acc (.bool (Op.bytesLess a b||a==b))
   | .gtr=>dW C hs K ns dst ⟨⟩ e R acc (.bool !(Op.bytesLess a b||a==b))
   | .geq=>dW C hs K ns dst ⟨⟩ e R acc (.bool !(Op.bytesLess a b))
   | _=>False
  | _,_=>False):=zR
@[simp] theorem PP{op x v1}:opW C hs K ns dst (.un op x) v1 e R acc=(match (generalizing:=false) vd (ac e) x with
  | .bool b=>match (generalizing:=false) op with
   | .not=>dW C hs K ns dst ⟨⟩ e R acc (.bool (!b))
   | _=>False
  | .int k n=>match (generalizing:=false) op with
   | .neg=>dW C hs K ns dst ⟨⟩ e R acc (.int k (k.wrap (0-n)))
   | _=>False
  | _=>False):=zR
@[simp] theorem Nd{k x v1}:opW C hs K ns dst (.conv k x) v1 e R acc=(match (generalizing:=false) vd (ac e) x with
  | .int _ n=>dW C hs K ns dst ⟨⟩ e R acc (.int k (k.wrap n))
  | _=>False):=zR
@[simp] theorem OP{neg ks x y v1}:opW C hs K ns dst (.beq neg ks x y) v1 e R acc=(match (generalizing:=false) vd (ac e) x,vd (ac e) y with
  | .bool a,.bool b=>ks=[]/\dW C hs K ns dst ⟨⟩ e R acc (.bool ((a==b) != neg))
  | .agg a,.agg b=>ks≠[]/\match (generalizing:=false) cJ ks a b with
   | some r=>dW C hs K ns dst ⟨⟩ e R acc (.bool (r != neg))
   | none=>False
  | .nils,.nils=>ks=[9]/\dW C hs K ns dst ⟨⟩ e R acc (.bool (!neg))
  | .sl es,.nils=>ks=[9]/\(0<es.length->dW C hs K ns dst ⟨⟩ e R acc (.bool neg))/\(es.length=0->dW C hs K ns dst ⟨⟩ e R acc .bb)
  | .nilp,.nilp=>ks=[8]/\dW C hs K ns dst ⟨⟩ e R acc (.bool (!neg))
  | .ptr _,.nilp=>ks=[8]/\dW C hs K ns dst ⟨⟩ e R acc (.bool neg)
  | _,_=>False):=zR
@[simp] theorem OW{x v1}:opW C hs K ns dst (.cvB x) v1 e R acc=(match (generalizing:=false) vd (ac e) x with
  | .str s=>dW C hs K ns dst ⟨⟩ e R acc (.sl (s.map fun(b:UInt8)=>[.int .u8 (b.toNat:Int)]))
  | _=>False):=zR
@[simp] theorem Nh{x i v1}:opW C hs K ns dst (.idxS x i) v1 e R acc=(match (generalizing:=false) vd (ac e) x,vd (ac e) i with
  | .str s,.int _ j=>0<=j/\HW C hs K ns dst ⟨⟩ e R acc s j.toNat
  | _,_=>False):=zR
@[simp] theorem OX{i x v1}:opW C hs K ns dst (.ext i x) v1 e R acc=(match (generalizing:=false) vd (ac e) x with
  | .tup ds=>∃d,ds[i]? = some d/\dW C hs K ns dst ⟨⟩ e R acc d
  | .tpx ds=>∃d,ds[i]? = some d/\dW C hs K ns dst ⟨⟩ e R acc d
  | _=>False):=zR
@[simp] theorem OY{off x v1}:opW C hs K ns dst (.fad off x) v1 e R acc=(match (generalizing:=false) vd (ac e) x with
  | .adr p i o=>dW C hs K ns dst ⟨⟩ e R acc (.adr p i (o+off))
  | .ptr ds=>dW C hs K ns dst ⟨⟩ e R acc (.ptr (ds.drop off))
  | .ptx ds=>dW C hs K ns dst ⟨⟩ e R acc (.ptx (ds.drop off))
  | _=>False):=zR
@[simp] theorem Nf{len sz x i v1}:opW C hs K ns dst (.iadA len sz x i) v1 e R acc=(match (generalizing:=false) vd (ac e) x,vd (ac e) i with
  | .adr p r o,.int _ j=>0<=j/\j<len/\dW C hs K ns dst ⟨⟩ e R acc (.adr p r (o+j.toNat*sz))
  | .ptr ds,.int _ j=>0<=j/\j<len/\dW C hs K ns dst ⟨⟩ e R acc (.ptr (ds.drop (j.toNat*sz)))
  | _,_=>False):=zR
@[simp] theorem PK{n ag x v1}:opW C hs K ns dst (.ld n ag x) v1 e R acc=(match (generalizing:=false) vd (ac e) x with
  | .adr p i off=>match (generalizing:=false) aX (ac e) p with
   | some (_,es)=>AU C hs K ns dst ⟨⟩ e R acc n ag p es i off
   | none=>False
  | .ptr ds=>n<=ds.length/\dW C hs K ns dst ⟨⟩ e R acc (qi ag n ds)
  | .ptx ds=>n<=ds.length/\match (generalizing:=false) ag with
   | true=>((ds.take n).all isV=true->dW C hs K ns dst ⟨⟩ e R acc (.agg (ds.take n)))/\((ds.take n).all isV=false->dW C hs K ns dst ⟨⟩ e R acc (.agx (ds.take n)))
   | false=>0<n/\dW C hs K ns dst ⟨⟩ e R acc (ds.headD .any)
  | _=>False):=zR
@[simp] theorem OR{zs parts v1}:opW C hs K ns dst (.bld zs parts) v1 e R acc=((∀p∈parts,isS (vd (ac e) p.2.2)=true/\p.1+p.2.1<=zs.length/\match (generalizing:=false) vd (ac e) p.2.2 with
    | .agg ds=>ds.length=p.2.1
    | .agx ds=>ds.length=p.2.1
    | .any=>False
    | .tpx _=>False
    | .ptx _=>False
    | .rfx _ _ _=>False
    | .fny _ _ _=>False
    | .fnx _ _=>False
    | _=>p.2.1=1) /\
   ((parts.all fun p=>isV (vd (ac e) p.2.2))=true->dW C hs K ns dst ⟨⟩ e R acc (.agg (iQ zs (parts.map fun p=>(p.1,p.2.1,vd (ac e) p.2.2))))) /\
   ((parts.all fun p=>isV (vd (ac e) p.2.2))=false->dW C hs K ns dst ⟨⟩ e R acc (.agx (iQ zs (parts.map fun p=>(p.1,p.2.1,fw (vd (ac e) p.2.2))))))):=zR
@[simp] theorem Ni{x v1}:opW C hs K ns dst (.lens x) v1 e R acc=(match (generalizing:=false) vd (ac e) x with
  | .str s=>dW C hs K ns dst ⟨⟩ e R acc (.int .i64 s.length)
  | _=>False):=zR
@[simp] theorem PL{g xs v1}:opW C hs K ns dst (.mk g xs) v1 e R acc=((∀x∈xs,isP (vd (ac e) x)=true)/\((xs.all fun x=>isV (vd (ac e) x))=true->dW C hs K ns dst ⟨⟩ e R acc (.fn g (xs.map (vd (ac e)))))/\((xs.all fun x=>isV (vd (ac e) x))=false->dW C hs K ns dst ⟨⟩ e R acc (.fnx g (xs.map (vd (ac e)))))):=zR
@[simp] theorem PM{x y v1}:opW C hs K ns dst (.mn x y) v1 e R acc=(match (generalizing:=false) vd (ac e) x,vd (ac e) y with
  | .int k a,.int k' b=>k=k'/\dW C hs K ns dst ⟨⟩ e R acc (.int k (if b<a then b else a))
  | _,_=>False):=zR
@[simp] theorem PN{x y v1}:opW C hs K ns dst (.mx x y) v1 e R acc=(match (generalizing:=false) vd (ac e) x,vd (ac e) y with
  | .int k a,.int k' b=>k=k'/\dW C hs K ns dst ⟨⟩ e R acc (.int k (if a<b then b else a))
  | _,_=>False):=zR
@[simp] theorem KQ{x y c v1}:opW C hs K ns dst (.add64 x y c) v1 e R acc=(match (generalizing:=false) vd (ac e) x,vd (ac e) y,vd (ac e) c with
  | .int .u64 a,.int .u64 b,.int .u64 k=>0<=a/\a<18446744073709551616/\0<=b/\b<18446744073709551616/\0<=k/\k<=1 /\
    dW C hs K ns dst ⟨⟩ e R acc (.tup [.int .u64 ((a+b+k)%18446744073709551616),.int .u64 ((a+b+k)/18446744073709551616)])
  | _,_,_=>False):=zR
@[simp] theorem KZ{x y c v1}:opW C hs K ns dst (.sub64 x y c) v1 e R acc=(match (generalizing:=false) vd (ac e) x,vd (ac e) y,vd (ac e) c with
  | .int .u64 a,.int .u64 b,.int .u64 k=>0<=a/\a<18446744073709551616/\0<=b/\b<18446744073709551616/\0<=k/\k<=1 /\
    dW C hs K ns dst ⟨⟩ e R acc (.tup [.int .u64 ((a-b-k)%18446744073709551616),.int .u64 (if a<b+k then 1 else 0)])
  | _,_,_=>False):=zR
@[simp] theorem Nj{sz v1}:opW C hs K ns dst (.nilo sz) v1 e R acc=(match (generalizing:=false) dst with
  | some t=>0<sz/\doW C hs K ns ⟨⟩ e R acc [(t,.ref (.r (rt t 0)) 0 0),(rt t 0,.blk sz [])] [(rt t 0,true)]
  | none=>False):=zR
@[simp] theorem OT{x t v1}:opW C hs K ns (some t) (.box [] x) v1 e R acc=jH (ac e) (vd (ac e) x) [] (fun cs bs=>bs.contains (rt t 0)=false/\doW C hs K ns ⟨⟩ e R acc ((t,.adr (.r (rt t 0)) 0 0)::(rt t 0,.blk cs.length [cs])::cM bs) [(rt t 0,true)]) ⟨⟩:=zR
@[simp] theorem OM{zs v1}:opW C hs K ns dst (.alc zs) v1 e R acc=(match (generalizing:=false) dst with
  | some t=>doW C hs K ns ⟨⟩ e R acc [(t,.adr (.r (rt t 0)) 0 0),(rt t 0,.blk zs.length [zs])] [(rt t 0,true)]
  | none=>False):=zR
@[simp] theorem OS{sz len zs parts t v1}:opW C hs K ns (some t) (.bls sz len zs [] parts) v1 e R acc=tE (ac e) sz parts (List.replicate len zs) [] (fun es bs=>bG bs=true/\bs.contains (rt t 0)=false/\doW C hs K ns ⟨⟩ e R acc ((t,.ref (.r (rt t 0)) 0 len)::(rt t 0,.blk sz es)::cM bs) [(rt t 0,true)]) ⟨⟩:=zR
@[simp] theorem O4{sz by_ zs n c v1}:opW C hs K ns dst (.mks sz by_ zs n c) v1 e R acc=(match (generalizing:=false) dst with
  | some t=>match (generalizing:=false) vd (ac e) n,vd (ac e) c with
   | .int _ n,.int _ c=>0<=n/\n<=c/\c*by_<=140737488355328/\doW C hs K ns ⟨⟩ e R acc [(t,.ref (.r (rt t 0)) 0 n.toNat),(rt t 0,.blk sz (List.replicate c.toNat zs))] [(rt t 0,true)]
   | _,_=>False
  | none=>False):=zR
def stM(C:CC)(hs:Option (List Nat))(K:Env->Prop)(ns:List au)(_:Tag (hs,K,ns))(e:Env)(R:List Nat)(acc:List (List Nat×List Nat))(n:Nat)(v:D)(cs:List D)(bs:List Nat)(a:D):Prop:=match a with
 | .adr (.r b) i off=>bs.contains b=false/\fx (ac e b) (fun sz es=>jl es[i]? (fun r=>off+n<=r.length/\doW C hs K ns ⟨⟩ e R acc ((b,.blk sz (bK es i off n cs))::cM bs) (stK v [] b)) ⟨⟩) ⟨⟩
 | .adr (.n b i0 o0) i off=>bs=[]/\(∀c∈cs,aA c=true)/\fx (ac e b) (fun sz0 es0=>jl es0[i0]? (fun row0=>mQ row0[o0]? (fun sz es=>jl es[i]? (fun r=>off+n<=r.length/\doW C hs K ns ⟨⟩ e R acc [(b,.blk sz0 (bK es0 i0 o0 1 [.own sz (bK es i off n cs)]))] []) ⟨⟩) ⟨⟩) ⟨⟩) ⟨⟩
 | _=>False
@[simp] theorem Qb{n v cs bs b i off}:stM C hs K ns u e R acc n v cs bs (.adr (.r b) i off)=(bs.contains b=false/\fx (ac e b) (fun sz es=>jl es[i]? (fun r=>off+n<=r.length/\doW C hs K ns ⟨⟩ e R acc ((b,.blk sz (bK es i off n cs))::cM bs) (stK v [] b)) ⟨⟩) ⟨⟩):=zR
@[simp] theorem Qa{n v cs bs b i0 o0 i off}:stM C hs K ns u e R acc n v cs bs (.adr (.n b i0 o0) i off)=(bs=[]/\(∀c∈cs,aA c=true)/\fx (ac e b) (fun sz0 es0=>jl es0[i0]? (fun row0=>mQ row0[o0]? (fun sz es=>jl es[i]? (fun r=>off+n<=r.length/\doW C hs K ns ⟨⟩ e R acc [(b,.blk sz0 (bK es0 i0 o0 1 [.own sz (bK es i off n cs)]))] []) ⟨⟩) ⟨⟩) ⟨⟩) ⟨⟩):=zR
@[simp] theorem PO{n a v v1}:opW C hs K ns dst (.st n [] a v) v1 e R acc=(dst=none/\jH (ac e) (vd (ac e) v) [] (fun cs bs=>cs.length=n/\stM C hs K ns ⟨⟩ e R acc n (vd (ac e) v) cs bs (vd (ac e) a)) ⟨⟩):=by
 show(dst=none/\fV (ac e) (vd (ac e) v) [] _)=(dst=none/\fV (ac e) (vd (ac e) v) [] _)
 congr 1
 congr 1
 funext cs bs
 cases vd (ac e) a<;>try rfl
 rename_i p i off
 cases p with
 | r b =>
  simp only[stM,fx,gC]
  cases ac e b<;>rfl
 | n b i0 o0 =>
  simp only[stM,fx,gC,kU]
  cases ac e b<;>rfl
def BI(C:CC)(hs:Option (List Nat))(K:Env->Prop)(ns:List au)(_:Tag (hs,K,ns))(e:Env)(R:List Nat)(acc:List (List Nat×List Nat))(t sz by_:Nat)(rowsY:List (List D))(bs:List Nat)(x:D):Prop:=match x with
 | .nils=>rowsY.length*by_<=140737488355328/\doW C hs K ns ⟨⟩ e R acc ((t,.ref (.r (rt t 0)) 0 rowsY.length)::(rt t 0,.blk sz rowsY)::cM bs) [(rt t 0,true)]
 | .ref (.r c) k n=>c≠rt t 0/\bs.contains c=false/\fx (ac e c) (fun sz' es=>sz'=sz/\k+n<=es.length/\(n+rowsY.length)*by_<=140737488355328 /\
      doW C hs K ns ⟨⟩ e R acc ((t,.ref (.r (rt t 0)) 0 (n+rowsY.length))::(rt t 0,.blk sz ((es.drop k).take n++rowsY))::(c,.any)::cM bs) [(rt t 0,true)]) ⟨⟩
 | .ref (.n c i o) k n=>c≠rt t 0/\bs.contains c=false/\fx (ac e c) (fun sz0 es0=>jl es0[i]? (fun row0=>mQ row0[o]? (fun sz' es=>sz'=sz/\k+n<=es.length/\(n+rowsY.length)*by_<=140737488355328 /\
      doW C hs K ns ⟨⟩ e R acc ((t,.ref (.r (rt t 0)) 0 (n+rowsY.length))::(rt t 0,.blk sz ((es.drop k).take n++rowsY))::(c,.blk sz0 (bK es0 i o 1 [.any]))::cM bs) [(rt t 0,true)]) ⟨⟩) ⟨⟩) ⟨⟩
 | _=>False
@[simp] theorem Pi{t sz by_ rowsY bs c k n}:BI C hs K ns u e R acc t sz by_ rowsY bs (.ref (.r c) k n)=(c≠rt t 0/\bs.contains c=false/\fx (ac e c) (fun sz' es=>sz'=sz/\k+n<=es.length/\(n+rowsY.length)*by_<=140737488355328 /\
      doW C hs K ns ⟨⟩ e R acc ((t,.ref (.r (rt t 0)) 0 (n+rowsY.length))::(rt t 0,.blk sz ((es.drop k).take n++rowsY))::(c,.any)::cM bs) [(rt t 0,true)]) ⟨⟩):=zR
@[simp] theorem Ph{t sz by_ rowsY bs c i o k n}:BI C hs K ns u e R acc t sz by_ rowsY bs (.ref (.n c i o) k n)=(c≠rt t 0/\bs.contains c=false/\fx (ac e c) (fun sz0 es0=>jl es0[i]? (fun row0=>mQ row0[o]? (fun sz' es=>sz'=sz/\k+n<=es.length/\(n+rowsY.length)*by_<=140737488355328 /\
      doW C hs K ns ⟨⟩ e R acc ((t,.ref (.r (rt t 0)) 0 (n+rowsY.length))::(rt t 0,.blk sz ((es.drop k).take n++rowsY))::(c,.blk sz0 (bK es0 i o 1 [.any]))::cM bs) [(rt t 0,true)]) ⟨⟩) ⟨⟩) ⟨⟩):=zR
@[simp] theorem ON{sz by_ mv x y t v1}:opW C hs K ns (some t) (.app sz by_ mv x y) v1 e R acc=m3 (ac e) mv (vd (ac e) y) sz (fun rowsY bs=>bs.contains (rt t 0)=false/\BI C hs K ns ⟨⟩ e R acc t sz by_ rowsY bs (vd (ac e) x)) ⟨⟩:=by
 unfold opW m3
 simp only[aG]
 congr 1
 funext rowsY bs
 congr 1
 cases vd (ac e) x<;>try rfl
 rename_i p k n
 cases p with
 | r c =>
  simp only[BI,fx]
  cases ac e c<;>rfl
 | n c i o =>
  simp only[BI,fx,gC,kU]
  cases hl:ac e c<;>try rfl
  rename_i sz0 es0
  refine congrArg _ (congrArg _ (propext ⟨?_,?_⟩))
  ·rintro⟨row0,h1,es,h2,h3⟩
   exact⟨row0,h1,sz,es,h2,rfl,h3⟩
  ·rintro⟨row0,h1,sz',es,h2,rfl,h3⟩
   exact⟨row0,h1,es,h2,h3⟩
@[simp] theorem NE{g b n xs sz es}:Jq C g hs K ns dst u e R acc b n xs (.blk sz es)=(es.length=n/\(∀e∈es,∀c∈e,aA c=true)/\(∀x∈xs,bW (fbE (ac e) b) (vd (fbE (ac e) b) x))/\wq C g hs K ns dst ⟨⟩ e R acc b sz es (xs.map (dpv (fbE (ac e) b))) (xs.all fun y=>isV (vd (fbE (ac e) b) y))):=zR
@[simp] theorem NG{g xs b k n}:NF C g hs K ns dst u e R acc xs (.ref (.r b) k n)=(k=0/\Jq C g hs K ns dst ⟨⟩ e R acc b n xs (ac e b)):=zR
@[simp] theorem KX{g x xs v1}:opW C hs K ns dst (.callS g x xs) v1 e R acc=(NF C g hs K ns dst ⟨⟩ e R acc xs (vd (ac e) x)):=by
 cases dst<;>rfl
def EH(n:Nat)(d:D):Prop:=match d with
 | .blk _ es=>es.length=n/\∀e∈es,∀c∈e,bP c=true
 | _=>False
def uu(f:Nat->D)(b:Nat)(d:D):Prop:=match d with
 | .ref (.r c) k n=>k=0/\c≠b/\EH n (f c)
 | d=>isV d=true
def FY(d:D):D:=match d with
 | .blk sz es=>.own sz es
 | _=>.any
def xO(f:Nat->D)(d:D):D:=match d with
 | .ref (.r c) _ _=>FY (f c)
 | d=>d
@[simp] theorem LD{n sz es}:EH n (.blk sz es)=(es.length=n/\∀e∈es,∀c∈e,bP c=true):=zR
@[simp] theorem Nn{sz es}:FY (.blk sz es)=.own sz es:=zR
@[simp] theorem NR{f:Nat->D}{b:Nat}{x:Opd}:oM f b x=uu f b (vd f x):=by
 unfold oM uu EH
 cases vd f x<;>rfl
@[simp] theorem NS{f:Nat->D}{x:Opd}:nr f x=xO f (vd f x):=by
 unfold nr xO FY
 cases vd f x<;>rfl
@[simp] theorem JK{f:Nat->D}{b c k n}:uu f b (.ref (.r c) k n)=(k=0/\c≠b/\EH n (f c)):=zR
@[simp] theorem JN{f:Nat->D}{c k n}:xO f (.ref (.r c) k n)=FY (f c):=zR
@[simp] theorem JJ{f:Nat->D}{b k n}:uu f b (.int k n)=True:=by simp[uu,isV]
@[simp] theorem JM{f:Nat->D}{k n}:xO f (.int k n)=.int k n:=zR
def Cm(C:CC)(g:Nat)(hs:Option (List Nat))(K:Env->Prop)(ns:List au)(t:Nat)(_:Tag (hs,K,ns))(e:Env)(R:List Nat)(acc:List (List Nat×List Nat))(sz:Nat)(W:List (List D))(ds:List D)(q:Nat×D):Prop :=
 ∃es':List (List D),(∀e∈es',e.length=sz/\∀c∈e,bP c=true)/\C g (.own sz W::ds) .any [.own sz es',.nils,.nils]/\doW C hs K ns ⟨⟩ e R acc [(t,.ref (.r (rt t 0)) 0 es'.length),(rt t 0,.blk sz es'),q] [(rt t 0,true)]
theorem oY{g:Nat}{hs:Option (List Nat)}{K:Env->Prop}{ns:List au}{t:Nat}{u:Tag (hs,K,ns)}{e:Env}{R:List Nat}{acc:List (List Nat×List Nat)}{sz:Nat}{W es':List (List D)}{ds:List D}{q:Nat×D}(h:C g (.own sz W::ds) .any [.own sz es',.nils,.nils])(hu:∀e∈es',e.length=sz/\∀c∈e,bP c=true)
  (hk:doW C hs K ns ⟨⟩ e R acc [(t,.ref (.r (rt t 0)) 0 es'.length),(rt t 0,.blk sz es'),q] [(rt t 0,true)]):Cm C g hs K ns t u e R acc sz W ds q:=⟨es',hu,h,hk⟩
def Cl(C:CC)(g:Nat)(hs:Option (List Nat))(K:Env->Prop)(ns:List au)(t:Nat)(_:Tag (hs,K,ns))(e:Env)(R:List Nat)(acc:List (List Nat×List Nat))(xs:List Opd)(d:D):Prop:=match d with
 | .ref (.r b) k n=>fx (ac e b) (fun sz es=>k+n<=es.length/\b≠rt t 0/\0<sz/\(∀e∈(es.drop k).take n,∀c∈e,bP c=true)/\(∀x∈xs,oM (ac e) b x)/\Cm C g hs K ns t ⟨⟩ e R acc sz ((es.drop k).take n) (xs.map (nr (ac e))) (b,.any)) ⟨⟩
 | .ref (.n b i o) k n=>fx (ac e b) (fun sz0 es0=>jl es0[i]? (fun row0=>mQ row0[o]? (fun sz es=>k+n<=es.length/\b≠rt t 0/\0<sz/\(∀e∈(es.drop k).take n,∀c∈e,bP c=true)/\(∀x∈xs,oM (ac e) b x) /\
   Cm C g hs K ns t ⟨⟩ e R acc sz ((es.drop k).take n) (xs.map (nr (ac e))) (b,.blk sz0 (bK es0 i o 1 [.any]))) ⟨⟩) ⟨⟩) ⟨⟩
 | _=>False
@[simp] theorem Py{g xs t b k n}:Cl C g hs K ns t u e R acc xs (.ref (.r b) k n)=fx (ac e b) (fun sz es=>k+n<=es.length/\b≠rt t 0/\0<sz/\(∀e∈(es.drop k).take n,∀c∈e,bP c=true)/\(∀x∈xs,oM (ac e) b x)/\Cm C g hs K ns t ⟨⟩ e R acc sz ((es.drop k).take n) (xs.map (nr (ac e))) (b,.any)) ⟨⟩:=zR
@[simp] theorem Px{g xs t b i o k n}:Cl C g hs K ns t u e R acc xs (.ref (.n b i o) k n)=fx (ac e b) (fun sz0 es0=>jl es0[i]? (fun row0=>mQ row0[o]? (fun sz es=>k+n<=es.length/\b≠rt t 0/\0<sz/\(∀e∈(es.drop k).take n,∀c∈e,bP c=true)/\(∀x∈xs,oM (ac e) b x) /\
   Cm C g hs K ns t ⟨⟩ e R acc sz ((es.drop k).take n) (xs.map (nr (ac e))) (b,.blk sz0 (bK es0 i o 1 [.any]))) ⟨⟩) ⟨⟩) ⟨⟩:=zR
@[simp] theorem KS{g x xs t v1}:opW C hs K ns (some t) (.callE g x xs) v1 e R acc=Cl C g hs K ns t ⟨⟩ e R acc xs (vd (ac e) x):=by
 unfold opW
 simp only[aG]
 cases vd (ac e) x<;>try rfl
 rename_i p k n
 cases p with
 | r b =>
  simp only[Cl,fx,aX,Pa.root,dL]
  cases ac e b<;>rfl
 | n b i o =>
  simp only[Cl,fx,gC,kU,aX,Pa.root,dL]
  cases hl:ac e b<;>try rfl
  rename_i sz0 es0
  simp only
  cases hi:es0[i]? with
  | none=>simp
  | some row0 =>
   simp only[x1p,x0s,exists_eq_left']
   cases ho:row0[o]? with
   | none=>simp
   | some d =>
    cases d
    case own sz es=>exact propext ⟨fun h=>⟨sz,es,rfl,h⟩,fun⟨sz',es',h0,h⟩=>by cases h0;exact h⟩
    all_goals simp
@[simp] theorem J8{f:Nat->D}{b k n sz es}:eG f (.ref (.r b) k n) (.own sz es)=(k=0/\n=es.length/\f b=.blk sz es):=zR
@[simp] theorem Lh{t d}:jA (some t) d=[(t,d)]:=zR
@[simp] theorem Ju:fC none=[]:=zR
def IC(C:CC)(g:Nat)(hs:Option (List Nat))(K:Env->Prop)(ns:List au)(dst:Option Nat)(_:Tag (hs,K,ns))(e:Env)(R:List Nat)(acc:List (List Nat×List Nat))(b sz:Nat)(es:List (List D))(ds:List D):Prop :=
 ∃d,∃es':List (List D),0<es'.length/\C g (.blk sz es::ds) d [.blk sz es']/\doW C hs K ns ⟨⟩ e R acc (jA dst d++[(b,.blk sz es')]) [(b,false)]
theorem gx{g:Nat}{hs:Option (List Nat)}{K:Env->Prop}{ns:List au}{dst:Option Nat}{u:Tag (hs,K,ns)}{e:Env}{R:List Nat}{acc:List (List Nat×List Nat)}{b sz:Nat}{es es':List (List D)}{ds:List D}{d:D}(h:C g (.blk sz es::ds) d [.blk sz es'])(hp:0<es'.length)
  (hk:doW C hs K ns ⟨⟩ e R acc (jA dst d++[(b,.blk sz es')]) [(b,false)]):IC C g hs K ns dst u e R acc b sz es ds:=⟨d,es',hp,h,hk⟩
def MY(C:CC)(g:Nat)(hs:Option (List Nat))(K:Env->Prop)(ns:List au)(dst:Option Nat)(_:Tag (hs,K,ns))(e:Env)(R:List Nat)(acc:List (List Nat×List Nat))(xs:List Opd)(d:D):Prop:=match d with
 | .adr (.r b) i off=>i=0/\off=0/\fx (ac e b) (fun sz es=>0<es.length/\(∀x∈xs,isV (vd (ac e) x)=true)/\IC C g hs K ns dst ⟨⟩ e R acc b sz es (xs.map (vd (ac e)))) ⟨⟩
 | _=>False
@[simp] theorem PI{g xs b i off}:MY C g hs K ns dst u e R acc xs (.adr (.r b) i off)=(i=0/\off=0/\fx (ac e b) (fun sz es=>0<es.length/\(∀x∈xs,isV (vd (ac e) x)=true)/\IC C g hs K ns dst ⟨⟩ e R acc b sz es (xs.map (vd (ac e)))) ⟨⟩):=zR
@[simp] theorem KV{g x xs v1}:opW C hs K ns dst (.callL g x xs) v1 e R acc=MY C g hs K ns dst ⟨⟩ e R acc xs (vd (ac e) x):=by
 unfold opW
 simp only[aG]
 cases vd (ac e) x<;>first|rfl|skip
def ES(C:CC)(hs:Option (List Nat))(K:Env->Prop)(ns:List au)(dst:Option Nat)(_:Tag (hs,K,ns))(e:Env)(R:List Nat)(acc:List (List Nat×List Nat))(zs:List D)(d:D):Prop:=match d with
 | .nils=>doW C hs K ns ⟨⟩ e R acc (fC dst) []
 | .ref (.r b) k n=>fx (ac e b) (fun sz es=>k+n<=es.length/\zs.length=sz/\(∀e∈es,∀c∈e,aA c=true)/\(∀c∈zs,aA c=true)/\doW C hs K ns ⟨⟩ e R acc (fC dst++[(b,.blk sz (eM es k n zs))]) []) ⟨⟩
 | .ref (.n b i o) k n=>fx (ac e b) (fun sz0 es0=>jl es0[i]? (fun row0=>mQ row0[o]? (fun sz es=>k+n<=es.length/\zs.length=sz/\(∀c∈zs,aA c=true)/\doW C hs K ns ⟨⟩ e R acc (fC dst++[(b,.blk sz0 (bK es0 i o 1 [.own sz (eM es k n zs)]))]) []) ⟨⟩) ⟨⟩) ⟨⟩
 | _=>False
@[simp] theorem Pl{zs b k n}:ES C hs K ns dst u e R acc zs (.ref (.r b) k n)=fx (ac e b) (fun sz es=>k+n<=es.length/\zs.length=sz/\(∀e∈es,∀c∈e,aA c=true)/\(∀c∈zs,aA c=true)/\doW C hs K ns ⟨⟩ e R acc (fC dst++[(b,.blk sz (eM es k n zs))]) []) ⟨⟩:=zR
@[simp] theorem OU{zs x v1}:opW C hs K ns dst (.clr zs x) v1 e R acc=ES C hs K ns dst ⟨⟩ e R acc zs (vd (ac e) x):=by
 unfold opW
 simp only[aG]
 cases vd (ac e) x<;>try rfl
 rename_i p k n
 cases p with
 | r b =>
  simp only[ES,fx]
  cases ac e b<;>rfl
 | n b i o =>
  simp only[ES,fx,gC,kU]
  cases ac e b<;>rfl
def BS(C:CC)(g:Nat)(hs:Option (List Nat))(K:Env->Prop)(ns:List au)(dst:Option Nat)(_:Tag (hs,K,ns))(e:Env)(R:List Nat)(acc:List (List Nat×List Nat))(b i o sz0 sz:Nat)(es0 es:List (List D))(ds:List D):Prop :=
 ∃es':List (List D),es'.length=es.length/\(∀e∈es',e.length=sz/\∀c∈e,aA c=true)/\C g (.own sz es::ds) .any [.own sz es',.nilp]/\doW C hs K ns ⟨⟩ e R acc (fC dst++[(b,.blk sz0 (bK es0 i o 1 [.own sz es']))]) []
theorem BT{g:Nat}{hs:Option (List Nat)}{K:Env->Prop}{ns:List au}{t:Nat}{u:Tag (hs,K,ns)}{e:Env}{R:List Nat}{acc:List (List Nat×List Nat)}{b i o sz0 sz:Nat}{es0 es es':List (List D)}{ds:List D}(h:C g (.own sz es::ds) .any [.own sz es',.nilp])(hl:es'.length=es.length)(hu:∀e∈es',e.length=sz/\∀c∈e,aA c=true)
  (hk:doW C hs K ns ⟨⟩ e R acc [(t,.tup []),(b,.blk sz0 (bK es0 i o 1 [.own sz es']))] []):BS C g hs K ns (some t) u e R acc b i o sz0 sz es0 es ds:=⟨es',hl,hu,h,hk⟩
def H5(C:CC)(g:Nat)(hs:Option (List Nat))(K:Env->Prop)(ns:List au)(dst:Option Nat)(_:Tag (hs,K,ns))(e:Env)(R:List Nat)(acc:List (List Nat×List Nat))(xs:List Opd)(d:D):Prop:=match d with
 | .ref (.n b i o) k n=>k=0/\fx (ac e b) (fun sz0 es0=>jl es0[i]? (fun row0=>mQ row0[o]? (fun sz es=>es.length=n/\(∀x∈xs,isV (vd (ac e) x)=true)/\BS C g hs K ns dst ⟨⟩ e R acc b i o sz0 sz es0 es (xs.map (vd (ac e)))) ⟨⟩) ⟨⟩) ⟨⟩
 | _=>False
@[simp] theorem Pk{g xs b i o k n}:H5 C g hs K ns dst u e R acc xs (.ref (.n b i o) k n)=(k=0/\fx (ac e b) (fun sz0 es0=>jl es0[i]? (fun row0=>mQ row0[o]? (fun sz es=>es.length=n/\(∀x∈xs,isV (vd (ac e) x)=true)/\BS C g hs K ns dst ⟨⟩ e R acc b i o sz0 sz es0 es (xs.map (vd (ac e)))) ⟨⟩) ⟨⟩) ⟨⟩):=zR
@[simp] theorem KW{g x xs v1}:opW C hs K ns dst (.callN g x xs) v1 e R acc=H5 C g hs K ns dst ⟨⟩ e R acc xs (vd (ac e) x):=by
 unfold opW
 simp only[aG]
 cases vd (ac e) x<;>try rfl
 rename_i p k n
 cases p with
 | r b=>rfl
 | n b i o =>
  simp only[H5,fx,gC,kU]
  cases ac e b<;>rfl
@[simp] theorem KR{g xs t v1}:opW C hs K ns (some t) (.callA g xs) v1 e R acc=((∀x∈xs,isV (vd (ac e) x)=true)/\wn C g hs K ns t ⟨⟩ e R acc (xs.map (vd (ac e)))):=zR
@[simp] theorem KU{g xs t v1}:opW C hs K ns (some t) (.callF g xs) v1 e R acc=((∀x∈xs,bW (ac e) (vd (ac e) x))/\BO C g hs K ns t ⟨⟩ e R acc (xs.map (dpv (ac e)))):=zR
@[simp] theorem Nc{g xs x0 v1}:opW C hs K ns dst (.call g xs x0) v1 e R acc=((∀x∈xs,bW (ac e) (vd (ac e) x))/\uA C g hs K ns dst ⟨⟩ e R acc (xs.all fun x=>isV (vd (ac e) x)) (xs.map (dpv (ac e)))):=zR
def uv(C:CC)(hs:Option (List Nat))(K:Env->Prop)(ns:List au)(t:Nat)(_:Tag (hs,K,ns))(e:Env)(R:List Nat)(acc:List (List Nat×List Nat))(d:D):Prop:=match d with
 | .ref (.r c) k n=>if c=rt t 0 then doW C hs K ns ⟨⟩ e R acc [(t,.ref (.r c) k n)] [] else match ac e c with
  | .blk sz es=>doW C hs K ns ⟨⟩ e R acc [(t,.ref (.r (rt t 0)) k n),(rt t 0,.blk sz es),(c,.any)] [(rt t 0,true)]
  | _=>False
 | d=>isS d=true/\doW C hs K ns ⟨⟩ e R acc [(t,d)] []
@[simp] theorem OO{t x v1}:opW C hs K ns (some t) (.asg x) v1 e R acc=uv C hs K ns t ⟨⟩ e R acc (vd (ac e) x):=zR
@[simp] theorem LE{t c k n}:uv C hs K ns t u e R acc (.ref (.r c) k n)=(if c=rt t 0 then doW C hs K ns ⟨⟩ e R acc [(t,.ref (.r c) k n)] [] else match ac e c with
  | .blk sz es=>doW C hs K ns ⟨⟩ e R acc [(t,.ref (.r (rt t 0)) k n),(rt t 0,.blk sz es),(c,.any)] [(rt t 0,true)]
  | _=>False):=zR
@[simp] theorem JO{t}:uv C hs K ns t u e R acc .nils=doW C hs K ns ⟨⟩ e R acc [(t,.nils)] []:=by simp[uv]
@[simp] theorem EJ{t es}:uv C hs K ns t u e R acc (.sl es)=doW C hs K ns ⟨⟩ e R acc [(t,.sl es)] []:=by simp[uv]
@[simp] theorem LF{t b es}:uv C hs K ns t u e R acc (slx b es)=doW C hs K ns ⟨⟩ e R acc [(t,slx b es)] []:=by
 rcases nY b es with h|⟨h,_⟩<;>rw[h]<;>simp
def Mk(C:CC)(hs:Option (List Nat))(K:Env->Prop)(ns:List au)(t:Nat)(_:Tag (hs,K,ns))(e:Env)(R:List Nat)(acc:List (List Nat×List Nat))(d:D):Prop:=match d with
 | .ref (.r c) k n=>bA (ac e) (.ref (.r c) k n)/\doW C hs K ns ⟨⟩ e R acc [(t,dp1 (ac e) (.ref (.r c) k n)),(c,.any)] []
 | d=>isS d=true/\doW C hs K ns ⟨⟩ e R acc [(t,d)] []
@[simp] theorem OZ{t x v1}:opW C hs K ns (some t) (.frz x) v1 e R acc=Mk C hs K ns t ⟨⟩ e R acc (vd (ac e) x):=zR
@[simp] theorem Ml{t c k n}:Mk C hs K ns t u e R acc (.ref (.r c) k n)=(bA (ac e) (.ref (.r c) k n)/\doW C hs K ns ⟨⟩ e R acc [(t,dp1 (ac e) (.ref (.r c) k n)),(c,.any)] []):=zR
def FH(C:CC)(hs:Option (List Nat))(K:Env->Prop)(ns:List au)(dst:Option Nat)(_:Tag (hs,K,ns))(e:Env)(R:List Nat)(acc:List (List Nat×List Nat))(c i off:Nat)(d:D):Prop:=match d with
 | .blk _ es=>∃r,es[i]? = some r/\∃d,r[off]? = some d/\en dst (kOf C hs K ns e R acc) (ldc (.r c) i off d)
 | _=>False
@[simp] theorem MS{c i off sz es}:FH C hs K ns dst u e R acc c i off (.blk sz es)=jl es[i]? (fun r=>EO r[off]? (fun d=>dW C hs K ns dst ⟨⟩ e R acc (ldc (.r c) i off d)) ⟨⟩) ⟨⟩:=by
 simp only[FH,gC,EP];rfl
def MT(C:CC)(hs:Option (List Nat))(K:Env->Prop)(ns:List au)(dst:Option Nat)(_:Tag (hs,K,ns))(e:Env)(R:List Nat)(acc:List (List Nat×List Nat))(q:Nat)(d:D):Prop:=match d with
 | .adr (.r c) i off=>off=q/\FH C hs K ns dst ⟨⟩ e R acc c i off (ac e c)
 | _=>False
@[simp] theorem MU{q c i off}:MT C hs K ns dst u e R acc q (.adr (.r c) i off)=(off=q/\FH C hs K ns dst ⟨⟩ e R acc c i off (ac e c)):=zR
@[simp] theorem O1{q x v1}:opW C hs K ns dst (.ldQ q x) v1 e R acc=MT C hs K ns dst ⟨⟩ e R acc q (vd (ac e) x):=zR
def EG(C:CC)(hs:Option (List Nat))(K:Env->Prop)(ns:List au)(t:Nat)(_:Tag (hs,K,ns))(e:Env)(R:List Nat)(acc:List (List Nat×List Nat))(sz by_:Nat)(rowsY:List (List D))(c i o k n:Nat)(d:D):Prop:=match d with
 | .blk sz0 es0=>∃row0,es0[i]? = some row0/\∃es,row0[o]? = some (.own sz es)/\k+n<=es.length/\(n+rowsY.length)*by_<=140737488355328 /\
   kOf C hs K ns e R acc [(t,.ref (.r (rt t 0)) 0 (n+rowsY.length)),(rt t 0,.blk sz ((es.drop k).take n++rowsY)),(c,.blk sz0 (bK es0 i o 1 [.any]))] [(rt t 0,true)]
 | _=>False
@[simp] theorem LA{t sz by_ rowsY c i o k n sz0 es0}:EG C hs K ns t u e R acc sz by_ rowsY c i o k n (.blk sz0 es0)=jl es0[i]? (fun row0=>mQ row0[o]? (fun sz' es=>sz'=sz/\k+n<=es.length/\(n+rowsY.length)*by_<=140737488355328 /\
   doW C hs K ns ⟨⟩ e R acc [(t,.ref (.r (rt t 0)) 0 (n+rowsY.length)),(rt t 0,.blk sz ((es.drop k).take n++rowsY)),(c,.blk sz0 (bK es0 i o 1 [.any]))] [(rt t 0,true)]) ⟨⟩) ⟨⟩:=by
 simp only[EG,gC,kU]
 refine propext ⟨?_,?_⟩
 ·rintro⟨row0,h1,es,h2,h3,h4,h5⟩
  exact⟨row0,h1,sz,es,h2,rfl,h3,h4,h5⟩
 ·rintro⟨row0,h1,sz',es,h2,rfl,h3,h4,h5⟩
  exact⟨row0,h1,es,h2,h3,h4,h5⟩
def LB(C:CC)(hs:Option (List Nat))(K:Env->Prop)(ns:List au)(t:Nat)(_:Tag (hs,K,ns))(e:Env)(R:List Nat)(acc:List (List Nat×List Nat))(q sz by_:Nat)(yd:D)(d:D):Prop:=match d with
 | .ref (.n c i o') k n=>o'=q/\fH (ac e) false yd sz fun rowsY bs=>bs=[]/\c≠rt t 0/\EG C hs K ns t ⟨⟩ e R acc sz by_ rowsY c i o' k n (ac e c)
 | _=>False
@[simp] theorem LC{t q sz by_ yd c i o k n}:LB C hs K ns t u e R acc q sz by_ yd (.ref (.n c i o) k n)=(o=q/\m3 (ac e) false yd sz (fun rowsY bs=>bs=[]/\c≠rt t 0/\EG C hs K ns t ⟨⟩ e R acc sz by_ rowsY c i o k n (ac e c)) ⟨⟩):=zR
@[simp] theorem M9{t q sz by_ x y v1}:opW C hs K ns (some t) (.appQ q sz by_ x y) v1 e R acc=LB C hs K ns t ⟨⟩ e R acc q sz by_ (vd (ac e) y) (vd (ac e) x):=zR
def H7(C:CC)(hs:Option (List Nat))(K:Env->Prop)(ns:List au)(t:Nat)(_:Tag (hs,K,ns))(e:Env)(R:List Nat)(acc:List (List Nat×List Nat))(sz:Nat)(rows:List (List D))(b k n:Nat)(d:D):Prop:=match d with
 | .blk sz' es=>sz'=sz/\k+n<=es.length/\(∀e∈es,∀c∈e,aA c=true)/\(∀e∈rows,∀c∈e,aA c=true)/\kOf C hs K ns e R acc [(t,.int .i64 (min rows.length n:Nat)),(b,.blk sz (jN es k (rows.take n)))] []
 | _=>False
@[simp] theorem LU{t sz rows b k n sz' es}:H7 C hs K ns t u e R acc sz rows b k n (.blk sz' es)=(sz'=sz/\k+n<=es.length/\(∀e∈es,∀c∈e,aA c=true)/\(∀e∈rows,∀c∈e,aA c=true)/\doW C hs K ns ⟨⟩ e R acc [(t,.int .i64 (min rows.length n:Nat)),(b,.blk sz (jN es k (rows.take n)))] []):=zR
def LV(C:CC)(hs:Option (List Nat))(K:Env->Prop)(ns:List au)(t:Nat)(_:Tag (hs,K,ns))(e:Env)(R:List Nat)(acc:List (List Nat×List Nat))(sz:Nat)(rows:List (List D))(d:D):Prop:=match d with
 | .ref (.r b) k n=>(n=0->kOf C hs K ns e R acc [(t,.int .i64 0)] [])/\(0<n->H7 C hs K ns t ⟨⟩ e R acc sz rows b k n (ac e b))
 | _=>False
@[simp] theorem LW{t sz rows b k n}:LV C hs K ns t u e R acc sz rows (.ref (.r b) k n)=((n=0->doW C hs K ns ⟨⟩ e R acc [(t,.int .i64 0)] [])/\(0<n->H7 C hs K ns t ⟨⟩ e R acc sz rows b k n (ac e b))):=zR
@[simp] theorem OV{t sz x y v1}:opW C hs K ns (some t) (.cpy sz x y) v1 e R acc=m3 (ac e) false (vd (ac e) y) sz (fun rows bs=>bs=[]/\0<rows.length/\LV C hs K ns t ⟨⟩ e R acc sz rows (vd (ac e) x)) ⟨⟩:=zR
def FG(C:CC)(hs:Option (List Nat))(K:Env->Prop)(ns:List au)(t:Nat)(_:Tag (hs,K,ns))(e:Env)(R:List Nat)(acc:List (List Nat×List Nat))(n c i off:Nat)(d:D):Prop:=match d with
 | .blk _ es=>∃r,es[i]? = some r/\off+n<=r.length/\doW C hs K ns ⟨⟩ e R acc [(t,.agg (((r.drop off).take n).map bq)),(c,.any)] []
 | _=>False
@[simp] theorem MP{t n c i off sz es}:FG C hs K ns t u e R acc n c i off (.blk sz es)=jl es[i]? (fun r=>off+n<=r.length/\doW C hs K ns ⟨⟩ e R acc [(t,.agg (((r.drop off).take n).map bq)),(c,.any)] []) ⟨⟩:=by
 simp only[FG,gC]
def MQ(C:CC)(hs:Option (List Nat))(K:Env->Prop)(ns:List au)(t:Nat)(_:Tag (hs,K,ns))(e:Env)(R:List Nat)(acc:List (List Nat×List Nat))(n:Nat)(d:D):Prop:=match d with
 | .adr (.r c) i off=>FG C hs K ns t ⟨⟩ e R acc n c i off (ac e c)
 | _=>False
@[simp] theorem MR{t n c i off}:MQ C hs K ns t u e R acc n (.adr (.r c) i off)=FG C hs K ns t ⟨⟩ e R acc n c i off (ac e c):=zR
@[simp] theorem O0{t n x v1}:opW C hs K ns (some t) (.ldF n x) v1 e R acc=MQ C hs K ns t ⟨⟩ e R acc n (vd (ac e) x):=zR
def oO(C:CC)(hs:Option (List Nat))(K:Env->Prop)(ns:List au)(dst:Option Nat)(_:Tag (hs,K,ns))(e:Env)(R:List Nat)(acc:List (List Nat×List Nat))(d:D):Prop:=match d with
 | .agx ds=>dW C hs K ns dst ⟨⟩ e R acc (.ptx ds)
 | .agg ds=>dW C hs K ns dst ⟨⟩ e R acc (.ptr ds)
 | d=>aA d=true/\dW C hs K ns dst ⟨⟩ e R acc (.ptr [d])
@[simp] theorem H3{k n}:fJ (.int k n)=[.int k n]:=zR
@[simp] theorem J5{f:Nat->D}{es}:gT f [] es=es:=zR
@[simp] theorem Ii{f:Nat->D}{p ps es}:gT f (p::ps) es=gT f ps (es.set p.1 (fJ (vd f p.2))):=zR
@[simp] theorem Na{sz len zs parts v1}:opW C hs K ns dst (.blsF sz len zs parts) v1 e R acc=((∀p∈parts,p.1<len/\(fJ (vd (ac e) p.2)).length=sz/\∀c∈fJ (vd (ac e) p.2),aA c=true)/\0<len /\
   (∀r∈gT (ac e) parts (List.replicate len zs),∀c∈r,aA c=true)/\dW C hs K ns dst ⟨⟩ e R acc (.sl (gT (ac e) parts (List.replicate len zs)))):=zR
attribute [simp] H4
@[simp] theorem Nb{x v1}:opW C hs K ns dst (.boxF x) v1 e R acc=oO C hs K ns dst ⟨⟩ e R acc (vd (ac e) x):=zR
@[simp] theorem LL{ds}:oO C hs K ns dst u e R acc (.agx ds)=dW C hs K ns dst ⟨⟩ e R acc (.ptx ds):=zR
@[simp] theorem LK{ds}:oO C hs K ns dst u e R acc (.agg ds)=dW C hs K ns dst ⟨⟩ e R acc (.ptr ds):=zR
@[simp] theorem LM{k n}:oO C hs K ns dst u e R acc (.int k n)=dW C hs K ns dst ⟨⟩ e R acc (.ptr [.int k n]):=by simp[oO]
@[simp] theorem LO{n}:oO C hs K ns dst u e R acc (.str n)=dW C hs K ns dst ⟨⟩ e R acc (.ptr [.str n]):=by simp[oO]
@[simp] theorem JP:oO C hs K ns dst u e R acc .nils=dW C hs K ns dst ⟨⟩ e R acc (.ptr [.nils]):=by simp[oO]
@[simp] theorem NT{es}:oO C hs K ns dst u e R acc (.sl es)=dW C hs K ns dst ⟨⟩ e R acc (.ptr [.sl es]):=by simp[oO]
@[simp] theorem LN{b es}:oO C hs K ns dst u e R acc (slx b es)=dW C hs K ns dst ⟨⟩ e R acc (.ptr [slx b es]):=by
 rcases nY b es with h|⟨h,_⟩<;>rw[h]<;>simp
@[simp] theorem O2{x v1}:opW C hs K ns dst (.len x) v1 e R acc=As (vd (ac e) x) (fun n=>dW C hs K ns dst ⟨⟩ e R acc (.int .i64 n)) ⟨⟩:=by
 show res (ac e) _ (.len x)=_
 simp only[res,As]
 cases vd (ac e) x<;>rfl
def C0(C:CC)(hs:Option (List Nat))(K:Env->Prop)(ns:List au)(dst:Option Nat)(_:Tag (hs,K,ns))(e:Env)(R:List Nat)(acc:List (List Nat×List Nat))(sz:Nat)(x i:D):Prop:=match (generalizing:=false) x,i with
  | .sl es,.int _ j=>0<=j/\tn C hs K ns dst ⟨⟩ e R acc sz es j.toNat
  | .slv _ es,.int _ j=>0<=j/\tn C hs K ns dst ⟨⟩ e R acc sz es j.toNat
  | .rfx n sz' ds,.int _ j=>0<=j/\j.toNat<n/\sz'=sz/\dW C hs K ns dst ⟨⟩ e R acc (.ptx (ds.drop (j.toNat*sz)))
  | .ref p k n,.int _ j=>0<=j/\j.toNat<n/\match (generalizing:=false) aX (ac e) p with
   | some (sz',_)=>sz'=sz/\dW C hs K ns dst ⟨⟩ e R acc (.adr p (k+j.toNat) 0)
   | none=>False
  | _,_=>False
@[simp] theorem Ng{sz x i v1}:opW C hs K ns dst (.iadS sz x i) v1 e R acc=C0 C hs K ns dst ⟨⟩ e R acc sz (vd (ac e) x) (vd (ac e) i):=zR
@[simp] theorem N6{sz es k j}:C0 C hs K ns dst u e R acc sz (.sl es) (.int k j)=(0<=j/\tn C hs K ns dst ⟨⟩ e R acc sz es j.toNat):=zR
@[simp] theorem Mr{sz b es k j}:C0 C hs K ns dst u e R acc sz (slx b es) (.int k j)=(0<=j/\tn C hs K ns dst ⟨⟩ e R acc sz es j.toNat):=by
 rcases nY b es with h|⟨h,rfl⟩
 ·rw[h];rfl
 ·rw[h];simp[C0,tn]
@[simp] theorem Mq{sz p k n k' j}:C0 C hs K ns dst u e R acc sz (.ref p k n) (.int k' j)=(0<=j/\j.toNat<n/\match (generalizing:=false) aX (ac e) p with
   | some (sz',_)=>sz'=sz/\dW C hs K ns dst ⟨⟩ e R acc (.adr p (k+j.toNat) 0)
   | none=>False):=zR
def NC(C:CC)(hs:Option (List Nat))(K:Env->Prop)(ns:List au)(dst:Option Nat)(_:Tag (hs,K,ns))(e:Env)(R:List Nat)(acc:List (List Nat×List Nat))(sz:Nat)(x:D)(lo hi:Option Opd):Prop:=match (generalizing:=false) x with
  | .sl es=>(∀e∈es,e.length=sz)/\iE (ac e) hi es.length (fun h=>iE (ac e) lo 0 (fun l=>l<=h/\h<=es.length/\dW C hs K ns dst ⟨⟩ e R acc (.sl ((es.take h).drop l))) ⟨⟩) ⟨⟩
  | .nils=>iE (ac e) hi 0 (fun h=>iE (ac e) lo 0 (fun l=>l<=h/\h<=0/\dW C hs K ns dst ⟨⟩ e R acc (.sl [])) ⟨⟩) ⟨⟩
  | .ref p k n=>match (generalizing:=false) aX (ac e) p with
   | some (sz',_)=>sz'=sz/\iE (ac e) hi n (fun h=>iE (ac e) lo 0 (fun l=>l<=h/\h<=n/\dW C hs K ns dst ⟨⟩ e R acc (.ref p (k+l) (h-l))) ⟨⟩) ⟨⟩
   | none=>False
  | _=>False
@[simp] theorem O9{sz x lo hi v1}:opW C hs K ns dst (.slc sz x lo hi) v1 e R acc=NC C hs K ns dst ⟨⟩ e R acc sz (vd (ac e) x) lo hi:=zR
@[simp] theorem ND{sz p k n lo hi}:NC C hs K ns dst u e R acc sz (.ref p k n) lo hi=(match (generalizing:=false) aX (ac e) p with
   | some (sz',_)=>sz'=sz/\iE (ac e) hi n (fun h=>iE (ac e) lo 0 (fun l=>l<=h/\h<=n/\dW C hs K ns dst ⟨⟩ e R acc (.ref p (k+l) (h-l))) ⟨⟩) ⟨⟩
   | none=>False):=zR
@[simp] theorem KY{x xs v1}:opW C hs K ns dst (.callv x xs) v1 e R acc=(match (generalizing:=false) vd (ac e) x with
  | .fn g cs=>(∀x∈xs,bW (ac e) (vd (ac e) x))/\uA C g hs K ns dst ⟨⟩ e R acc (xs.all fun x=>isV (vd (ac e) x)) (xs.map (dpv (ac e))++cs)
  | .fnx g cs=>(∀x∈xs,bW (ac e) (vd (ac e) x))/\(∀c∈cs,bA (ac e) c)/\uA C g hs K ns dst ⟨⟩ e R acc false (xs.map (dpv (ac e))++cs.map (dp1 (ac e)))
  | _=>False):=by
 simp only[opW,aG,uA,en,x0o,or_false]
 cases vd (ac e) x<;>rfl
def mpT(x:D)(K:Nat->Nat->List D->List D->Prop)(_:Tag K):Prop:=match x with
 | .mp kt et ks vs=>K kt et ks vs
 | _=>False
@[simp] theorem PJ{kt et ks vs K u}:mpT (.mp kt et ks vs) K u=K kt et ks vs:=zR
@[simp] theorem O3{kt et t v1}:opW C hs K ns (some t) (.mkm kt et) v1 e R acc=doW C hs K ns ⟨⟩ e R acc [(t,.mrf (rt t 0)),(rt t 0,.mp kt et [] [])] [(rt t 0,true)]:=zR
def mlM(C:CC)(hs:Option (List Nat))(K:Env->Prop)(ns:List au)(dst:Option Nat)(_:Tag (hs,K,ns))(e:Env)(R:List Nat)(acc:List (List Nat×List Nat))(sh:KSh)(kt et:Nat)(ok:Bool)(z x m:D):Prop:=match m with
 | .mrf b=>mpT (ac e b) (fun kt' et' ks vs=>kt'=kt/\et'=et/\eS sh x/\match ok with
    | true=>dW C hs K ns dst ⟨⟩ e R acc (.tup [(ee ks vs x).getD z,.bool (ee ks vs x).isSome])
    | false=>dW C hs K ns dst ⟨⟩ e R acc ((ee ks vs x).getD z)) ⟨⟩
 | _=>False
@[simp] theorem OK{sh kt et ok z x b}:mlM C hs K ns dst u e R acc sh kt et ok z x (.mrf b)=mpT (ac e b) (fun kt' et' ks vs=>kt'=kt/\et'=et/\eS sh x/\match ok with
    | true=>dW C hs K ns dst ⟨⟩ e R acc (.tup [(ee ks vs x).getD z,.bool (ee ks vs x).isSome])
    | false=>dW C hs K ns dst ⟨⟩ e R acc ((ee ks vs x).getD z)) ⟨⟩:=zR
@[simp] theorem O6{sh kt et ok z m x v1}:opW C hs K ns dst (.mpl sh kt et ok z m x) v1 e R acc=mlM C hs K ns dst ⟨⟩ e R acc sh kt et ok z (vd (ac e) x) (vd (ac e) m):=by
 show res (ac e) _ (.mpl sh kt et ok z m x)=_
 simp only[res,mlM]
 cases vd (ac e) m<;>rfl
def muM(C:CC)(hs:Option (List Nat))(K:Env->Prop)(ns:List au)(_:Tag (hs,K,ns))(e:Env)(R:List Nat)(acc:List (List Nat×List Nat))(sh:KSh)(kt et:Nat)(z x v m:D):Prop:=match m with
 | .mrf b=>mpT (ac e b) (fun kt' et' ks vs=>kt'=kt/\et'=et/\ks.length<maxLen/\eS sh x/\ll z v/\doW C hs K ns ⟨⟩ e R acc [(b,.mp kt et (x::ks) (v::vs))] []) ⟨⟩
 | _=>False
@[simp] theorem OL{sh kt et z x v b}:muM C hs K ns u e R acc sh kt et z x v (.mrf b)=mpT (ac e b) (fun kt' et' ks vs=>kt'=kt/\et'=et/\ks.length<maxLen/\eS sh x/\ll z v/\doW C hs K ns ⟨⟩ e R acc [(b,.mp kt et (x::ks) (v::vs))] []) ⟨⟩:=zR
@[simp] theorem O7{sh kt et z m x v v1}:opW C hs K ns dst (.mpu sh kt et z m x v) v1 e R acc=(dst=none/\muM C hs K ns ⟨⟩ e R acc sh kt et z (vd (ac e) x) (vd (ac e) v) (vd (ac e) m)):=by
 show(dst=none/\_)=_
 congr 1
end
@[simp] theorem Iw{s}:eS .str (.str s)=(s.length<=maxLen):=zR
@[simp] theorem Ic{b z}:ll (.bool z) (.bool b)=True:=zR
attribute [simp] j7 gU bU fZ cZ bR aS fF Dj okR tO mo cX
attribute [simp] vd params ef lI nU qB ml mY AN prune lT isC iQ aX bK dpv cM stK cy rt chk rdS rdR frR fwR iF rdN gQ wrK mnR IZ ldN ai jY uX wOk Pa.root cJ bG
end Go.Gv

namespace Go.Gv
def jT(c:Int):Bool:=(97<=c&&c<=122)||(65<=c&&c<=90)
def o9(c:Int):Bool:=48<=c&&c<=57
def ir(c:UInt8):Bool:=jT c.toNat||o9 c.toNat||c.toNat==95
def dI(s:List UInt8):Nat:=(s.takeWhile ir).length
def iG(n:Int):Bool:=-1125899906842624<=n&&n<=1125899906842624
def ck(s:List UInt8):Bool:=s≠[]&&s.length<=20&&jT (s[0]!).toNat&&dI s==s.length
theorem xE(s:List UInt8):dI s<=s.length:=by unfold dI;exact(List.takeWhile_prefix _).length_le
theorem xC{α:Type}(p:α->Bool):∀(s:List α) (i:Nat) (h:i<s.length),i<=(s.takeWhile p).length->(p s[i]=true->i+1<=(s.takeWhile p).length)/\(p s[i]=false->i=(s.takeWhile p).length)
 | [],i,h,_=>by simp at h
 | x::s,0,h,_=>by
  constructor<;>intro h1<;>simp at h1<;>simp[h1]
 | x::s,i+1,h,h2=>by
  rw[List.takeWhile_cons]at h2 ⊢
  split at h2
  ·rename_i hp
   simp only[hp,if_true,x0T,List.getElem_cons_succ]at h2 ⊢
   have:=xC p s i (by simpa using h) (by omega)
   exact⟨fun e=>by have:=this.1 e;omega,fun e=>by have:=this.2 e;omega⟩
  ·simp at h2
theorem ud{s:List UInt8}{i:Nat}(h:i<s.length)(hi:i<=dI s):ir s[i]=true->i+1<=dI s:=(xC ir s i h hi).1
theorem ue{s:List UInt8}{i:Nat}(h:i<s.length)(hi:i<=dI s):ir s[i]=false->i=dI s:=(xC ir s i h hi).2
theorem wrap_i64{n m:Int}(h:n=m)(h2:-9223372036854775808<=m/\m<9223372036854775808):IntKind.wrap .i64 n=m:=by
 subst h
 have e1:IntKind.i64.signed=true:=rfl
 have e2:(2^(IntKind.i64.bits-1):Int)=9223372036854775808:=rfl
 have e3:(2^IntKind.i64.bits:Int)=18446744073709551616:=rfl
 unfold IntKind.wrap
 simp only[e1,e2,e3,x1T,x0b]
 split<;>omega
variable{C:CC}(hC:al prog C)
include hC
theorem CL(n:Int):C 89 [.int .i64 n] (.bool (iG n)) []:=by
 refine start hC (nf:=N89) rfl rfl ?_
 simp[N89,iG]
 refine ab (fun h=>?_) (fun h=>?_)<;>simp at h<;>simp[h]<;>omega
theorem yH(n l:Int):C 60 [.int .i64 n,.int .i64 l] (.bool (0<=n&&n<=4194304&&1<=l&&l<=16777216)) []:=by
 refine start hC (nf:=N60) rfl rfl ?_
 simp[N60]
 repeat' (refine ab (fun h=>?_) (fun h=>?_)<;>simp at h<;>simp[h]<;>try omega)
theorem EW(c:Int):C 88 [.int .u8 c] (.bool (o9 c)) []:=by
 refine start hC (nf:=N88) rfl rfl ?_
 simp[N88,o9]
 refine ab (fun h=>?_) (fun h=>?_)<;>simp at h<;>simp[h]<;>omega
theorem u9(c:Int):C 70 [.int .u8 c] (.bool (jT c)) []:=by
 refine start hC (nf:=N70) rfl rfl ?_
 simp[N70,jT]
 repeat' (refine ab (fun h=>?_) (fun h=>?_)<;>simp at h<;>simp[h]<;>try omega)
theorem Jw(s:List UInt8)(hs:s.length<2^62):C 71 [.str s] (.int .i64 (dI s)) []:=by
 refine start hC (nf:=N71) rfl rfl ?_
 simp[N71]
 refine ay Nat (fun i=>[(0,.str s),(3,.int .i64 i)]) (fun i=>i<=dI s) (fun i=>dI s-i) 0 (by simp) (by simp) ?_
 intro i hi
 have hle:dI s<=s.length:=xE s
 by_cases hl:i<s.length
 ·simp[hl]
  refine aa (u9 hC _) (.inl rfl) ?_
  have hstep:ir s[i]=true->i+1<=dI s:=ud hl hi
  have hstop:ir s[i]=false->i=dI s:=ue hl hi
  simp only[ir]at hstep hstop
  have hw:IntKind.wrap .i64 ((i:Int)+1)=((i+1:Nat):Int):=wrap_i64 (by omega) (by omega)
  cases h1:jT s[i].toNat with
  | true =>
   simp[h1,hw]at hstep ⊢
   exact⟨i+1,by omega,by omega,rfl⟩
  | false =>
   simp[h1,hl]
   refine aa (EW hC _) (.inl rfl) ?_
   cases h2:o9 s[i].toNat with
   | true =>
    simp[h1,h2,hw]at hstep ⊢
    exact⟨i+1,by omega,by omega,rfl⟩
   | false =>
    simp[hl]
    refine ab (fun h3=>?_) (fun h3=>?_)<;>simp at h3
    ·simp[hw,hl]
     have:=hstep (by simp[show s[i].toNat=95 by omega])
     exact⟨i+1,this,by omega,rfl⟩
    ·have h4:¬s[i].toNat=95:=by omega
     simp[h1,h2,h4]at hstop ⊢
     omega
 ·simp[hl]
  have:i=dI s:=by omega
  omega
theorem gM(s:List UInt8):C 58 [.str s] (.bool (ck s)) []:=by
 refine start hC (nf:=N58) rfl rfl ?_
 simp[N58]
 refine ab (fun h=>?_) (fun h=>?_)<;>simp at h
 ·have hp:0<s.length:=List.length_pos_iff.2 h
  simp[h,hp]
  refine ab (fun h2=>?_) (fun h2=>?_)<;>simp at h2
  ·simp[h2,hp]
   refine aa (u9 hC _) (.inl rfl) ?_
   simp
   refine ab (fun h3=>?_) (fun h3=>?_)
   ·simp[h3,h2]
    refine aa (Jw hC s (by omega)) (.inl rfl) ?_
    simp[ck,h,h3,show s.length<=20 by omega,hp,Int.ofNat_inj]
    rw[x0J];simp
   ·simp[ck,h,h3,hp]
  ·simp[h2,ck]
   omega
 ·subst h
  simp[ck]
end Go.Gv

namespace Go.Gv
structure SlI where
 n:Bool
 l:List Int
 deriving Inhabited
def slI(x:SlI):D:=slx x.n (x.l.map fun n=>[.int .i64 n])
def knD(k:Int×Int):List D:=[.int .i64 k.1,.int .i64 k.2]
structure Sec where
 name:List UInt8
 height:Int
 price:Int
 areaN:Bool
 area:List (Int×Int)
 convN:Bool
 conv:List (Int×Int)
 deriving Inhabited
def aQ(s:Sec):List D:=[.str s.name,.int .i64 s.height,.int .i64 s.price,slx s.areaN (s.area.map knD),slx s.convN (s.conv.map knD)]
def ct{α:Type}(p:α->Bool)(xs:List α):Int:=match xs.findIdx? p with
 | some i=>i
 | none=>-1
theorem dE{α:Type}{p:α->Bool}{xs:List α}{i:Nat}(hj:∀(j:Nat) (h:j<xs.length),j<i->p xs[j]=false)(hi:i<xs.length)(h:p xs[i]=true):ct p xs=i:=by
 have:xs.findIdx? p=some i:=by
  rw[x0Z]
  exact⟨hi,h,fun j hji=>by simp[hj j (by omega) hji]⟩
 simp[ct,this]
theorem fh{α:Type}{p:α->Bool}{xs:List α}(hj:∀(j:Nat) (h:j<xs.length),p xs[j]=false):ct p xs=-1:=by
 have:xs.findIdx? p=none:=by
  rw[x1F]
  intro x hx
  obtain⟨j,h,rfl⟩:=x0K.1 hx
  exact hj j h
 simp[ct,this]
theorem f9{α:Type}(p:α->Bool)(xs:List α):decide (0<=ct p xs)=xs.any p:=by
 unfold ct
 split
 ·rename_i i h
  rw[x0Z]at h
  obtain⟨h1,h2,_⟩:=h
  have:xs.any p=true:=x1e.2 ⟨_,x0h h1,h2⟩
  simp[this]
 ·rename_i h
  rw[x1F]at h
  have:xs.any p=false:=by rw[x0E];intro x hx;simp[h x hx]
  simp[this]
variable{C:CC}(hC:al prog C)
include hC
theorem C1{b:Bool}{xs:List Int}{g:Nat}{cs:List D}(p:Int->Bool)(hs:xs.length<2^62)(hp:∀x∈xs,C g (.int .i64 x::cs) (.bool (p x)) []):C 35 [slx b (xs.map fun x=>[.int .i64 x]),.fn g cs] (.int .i64 (ct p xs)) []:=by
 refine start hC (nf:=N35) rfl rfl ?_
 simp[N35]
 refine ay Nat (fun i=>[(0,slx b (xs.map fun x=>[.int .i64 x])),(1,.fn g cs),(7,.int .i64 xs.length),(8,.int .i64 i)]) (fun i=>i<=xs.length/\∀(j:Nat) (h:j<xs.length),j<i->p xs[j]=false) (fun i=>xs.length-i) 0 (by simp) (by simp) ?_
 rintro i ⟨hi,hj⟩
 simp
 refine ab (fun h=>?_) (fun h=>?_)<;>simp[h]<;>simp at h
 ·have hw:IntKind.wrap .i64 ((i:Int)+1)=((i+1:Nat):Int):=wrap_i64 (by omega) (by omega)
  have hc:=hp _ (x0h h)
  simp[h,x0Q]at hc ⊢
  refine aa hc (.inl rfl) ?_
  simp
  refine ab (fun h1=>?_) (fun h1=>?_)<;>simp[h1,hw]
  ·rw[dE hj h h1]
  ·refine⟨i+1,⟨by omega,fun j hl hjj=>?_⟩,by omega,rfl⟩
   rcases x0y.1 hjj with h2|rfl
   ·exact hj j hl h2
   ·exact h1
 ·rw[fh (fun j hl=>hj j hl (by omega))]
theorem mq{b:Bool}{xs:List Int}{g:Nat}{cs:List D}(p:Int->Bool)(hs:xs.length<2^62)(hp:∀x∈xs,C g (.int .i64 x::cs) (.bool (p x)) []):C 11 [slx b (xs.map fun x=>[.int .i64 x]),.fn g cs] (.bool (xs.any p)) []:=by
 refine start hC (nf:=N11) rfl rfl ?_
 simp[N11]
 refine aa (C1 hC p hs hp) (.inl rfl) ?_
 simp[f9]
theorem pQ{b:Bool}{xs:List Sec}{g:Nat}{cs:List D}(p:Sec->Bool)(hs:xs.length<2^62)(hp:∀x∈xs,C g (.agg (aQ x)::cs) (.bool (p x)) []):C 52 [slx b (xs.map fun x=>aQ x),.fn g cs] (.int .i64 (ct p xs)) []:=by
 refine start hC (nf:=N52) rfl rfl ?_
 simp[N52]
 refine ay Nat (fun i=>[(0,slx b (xs.map fun x=>aQ x)),(1,.fn g cs),(7,.int .i64 xs.length),(8,.int .i64 i)]) (fun i=>i<=xs.length/\∀(j:Nat) (h:j<xs.length),j<i->p xs[j]=false) (fun i=>xs.length-i) 0 (by simp) (by simp) ?_
 rintro i ⟨hi,hj⟩
 simp
 refine ab (fun h=>?_) (fun h=>?_)<;>simp[h]<;>simp at h
 ·have hw:IntKind.wrap .i64 ((i:Int)+1)=((i+1:Nat):Int):=wrap_i64 (by omega) (by omega)
  have hc:=hp _ (x0h h)
  simp[h,aQ]at hc ⊢
  refine aa hc (.inl rfl) ?_
  simp
  refine ab (fun h1=>?_) (fun h1=>?_)<;>simp[h1,hw]
  ·rw[dE hj h h1]
  ·refine⟨i+1,⟨by omega,fun j hl hjj=>?_⟩,by omega,rfl⟩
   rcases x0y.1 hjj with h2|rfl
   ·exact hj j hl h2
   ·exact h1
 ·rw[fh (fun j hl=>hj j hl (by omega))]
theorem CY{b:Bool}{xs:List Sec}{g:Nat}{cs:List D}(p:Sec->Bool)(hs:xs.length<2^62)(hp:∀x∈xs,C g (.agg (aQ x)::cs) (.bool (p x)) []):C 45 [slx b (xs.map fun x=>aQ x),.fn g cs] (.bool (xs.any p)) []:=by
 refine start hC (nf:=N45) rfl rfl ?_
 simp[N45]
 refine aa (pQ hC p hs hp) (.inl rfl) ?_
 simp[f9]
end Go.Gv

namespace Go.Gv
abbrev Edg:=Nat×Nat
def edK(e:Edg):List D:=knD ((e.1:Int),(e.2:Int))
def edI(e:Edg):Int×Int:=((e.1:Int),(e.2:Int))
theorem xW(es:List Edg):es.map edK=(es.map edI).map knD:=by simp[edK,edI]
def bg(l:List Nat):List (List D):=l.map fun k:Nat=>[.int .i64 (k:Int)]
def inG(n:Nat)(es:List Edg):Prop:=∀e∈es,e.1<n/\e.2<n
def nxt(n:Nat)(es:List Edg)(i:Nat):List Nat:=(List.range n).filter fun k=>es.contains (i,k)
theorem iw{n:Nat}{es:List Edg}{i k:Nat}:k∈nxt n es i↔k<n/\(i,k)∈es:=by simp[nxt]
theorem sb(n:Nat)(es:List Edg)(i:Nat):(nxt n es i).Nodup:=List.Pairwise.filter _ List.nodup_range
theorem yn(n:Nat)(es:List Edg)(i:Nat):(nxt n es i).length<=n:=by
 have:=x08 (fun k=>es.contains (i,k)) (List.range n)
 simpa[nxt]using this
theorem km{α:Type}{n k:Nat}{f:Nat->α}(x:α):((List.range n).map f).set k x=(List.range n).map fun v=>if v=k then x else f v:=by
 apply x1J
 ·simp
 ·intro i h1 h2
  simp only[List.getElem_set,x0Q,List.getElem_range]
  by_cases e:k=i
  ·rw[if_pos e,if_pos e.symm]
  ·rw[if_neg e,if_neg (Ne.symm e)]
def tgs(es:List Edg)(i:Nat):List Nat:=(es.filter fun e=>e.1==i).map (·.2)
theorem FK{es:List Edg}{i k:Nat}:k∈tgs es i↔(i,k)∈es:=by
 unfold tgs
 simp only[x0w,x1n,x0r]
 constructor
 ·rintro⟨⟨a,b⟩,⟨h1,h2⟩,h3⟩
  simp only at h2 h3
  subst h2 h3
  exact h1
 ·intro h
  exact⟨(i,k),⟨h,rfl⟩,rfl⟩
theorem Ej{es:List Edg}{j:Nat}(hj:j<es.length)(v:Nat):tgs (es.take (j+1)) v=tgs (es.take j) v++(if es[j].1=v then [es[j].2] else []):=by
 unfold tgs
 rw[x0m hj,List.filter_append,x1d]
 congr 1
 by_cases h:es[j].1=v<;>simp[h]
theorem yS(es:List Edg)(i:Nat):(tgs es i).length<=es.length:=by
 unfold tgs
 rw[x0S]
 exact x08 _ _
def mW(es:List Edg)(out:List Nat)(v:Nat):Bool:=es.all fun e=>!(e.2==v)||out.contains e.1
theorem mX{es:List Edg}{out:List Nat}{v:Nat}:mW es out v=true↔∀u,(u,v)∈es->u∈out:=by
 unfold mW
 simp only[x0f,x0u,x0t,beq_eq_false_iff_ne,x0R]
 constructor
 ·intro h u hu
  rcases h _ hu with h|h
  ·exact absurd rfl h
  ·exact h
 ·rintro h ⟨a,b⟩ he
  by_cases e:b=v
  ·subst e;exact .inr (h a he)
  ·exact .inl e
def dS(n:Nat)(es:List Edg)(out:List Nat):List Nat:=(List.range n).filter fun v=>!out.contains v&&mW es out v
theorem iU{n:Nat}{es:List Edg}{out:List Nat}{v:Nat}:v∈dS n es out↔v<n/\v∉out/\∀u,(u,v)∈es->u∈out:=by
 simp only[dS,x1n,x0M,x0a,x0t,<- mX]
 simp
def ku(n:Nat)(es:List Edg)(out:List Nat):List Nat:=match dS n es out with
 | []=>out
 | v::_=>out++[v]
def aU(n:Nat)(es:List Edg):Nat->List Nat
 | 0=>[]
 | m+1=>ku n es (aU n es m)
def bk(n:Nat)(es:List Edg):List Nat:=aU n es n
def fW(n:Nat)(es:List Edg)(out:List Nat)(k:Nat):Nat:=((List.range n).filter fun u=>es.contains (u,k)&&!out.contains u).length
def nA(es:List Edg)(i k:Nat):Nat:=((List.range i).filter fun u=>es.contains (u,k)).length
theorem BW(n:Nat)(es:List Edg)(k:Nat):nA es n k=fW n es [] k:=by
 unfold nA fW
 congr 1
 apply List.filter_congr
 simp
theorem zV(es:List Edg)(i k:Nat):nA es (i+1) k=nA es i k+(if (i,k)∈es then 1 else 0):=by
 unfold nA
 rw[List.range_succ,List.filter_append,x0C]
 by_cases h:(i,k)∈es<;>simp[h]
theorem ET(es:List Edg)(i k:Nat):nA es i k<=i:=by
 have:=x08 (fun u=>es.contains (u,k)) (List.range i)
 simpa[nA]using this
theorem rE{n:Nat}{es:List Edg}(hg:inG n es){out:List Nat}{k:Nat}:fW n es out k=0↔mW es out k=true:=by
 rw[mX]
 unfold fW
 rw[List.length_eq_zero_iff,List.filter_eq_nil_iff]
 constructor
 ·intro h u hu
  have:=h u (by simpa using (hg _ hu).1)
  simp at this
  exact this hu
 ·intro h u hu
  simp
  exact fun he=>h u he
theorem nD{α:Type}(l:List α)(p q:α->Bool):(l.filter p).length=(l.filter fun a=>p a&&q a).length+(l.filter fun a=>p a&&!q a).length:=by
 induction l with
 | nil=>rfl
 | cons a l ih =>
  simp only[List.filter_cons]
  cases p a<;>cases q a<;>simp<;>omega
theorem rD{n:Nat}{es:List Edg}{out:List Nat}{i:Nat}(hi:i<n)(ho:i∉out)(k:Nat):fW n es out k=fW n es (out++[i]) k+(if (i,k)∈es then 1 else 0):=by
 unfold fW
 rw[nD (List.range n) (fun u=>es.contains (u,k)&&!out.contains u) (fun u=>!(u==i))]
 congr 1
 ·congr 1
  apply List.filter_congr
  intro u _
  rw[x0J]
  simp[and_assoc]
 ·have e:(List.range n).filter (fun a=>(es.contains (a,k)&&!out.contains a)&&!!(a==i))=if (i,k)∈es then [i] else []:=by
   have h1:(List.range n).filter (fun a=>(es.contains (a,k)&&!out.contains a)&&!!(a==i))=((List.range n).filter (fun a=>a==i)).filter fun a=>es.contains (a,k)&&!out.contains a:=by
    rw[List.filter_filter]
    apply List.filter_congr
    intro u _
    simp
   have h2:(List.range n).filter (fun a=>a==i)=[i]:=by
    have:(List.range n).filter (fun a=>a==i)=List.replicate ((List.range n).count i) i:=List.filter_beq i
    rw[this,List.nodup_range.count,if_pos (by simpa using hi)]
    rfl
   rw[h1,h2]
   by_cases h:(i,k)∈es<;>simp[h,ho]
  rw[e]
  split<;>rfl
end Go.Gv

namespace Go.Gv
structure SlC (C:CC):Prop where
 sort:∀zs:List Int,zs.length<2^40->C 366 [.own 1 (zs.map fun n=>[.int .i64 n])] .any [.own 1 ((zs.mergeSort fun x y=>decide (x<=y)).map fun n=>[.int .i64 n]),.nilp]
 compact:∀zs:List Int,zs.length<2^40->C 523 [.own 1 (zs.map fun n=>[.int .i64 n])] .any [.own 1 ((Lib.compact zs).map fun n=>[.int .i64 n]),.nils,.nils]
 insert:∀(zs:List Int) (i:Nat) (x:Int),i<=zs.length->zs.length<2^40->C 519 [.own 1 (zs.map fun n=>[.int .i64 n]),.int .i64 i,.own 1 [[.int .i64 x]]] .any [.own 1 ((zs.take i++x::zs.drop i).map fun n=>[.int .i64 n]),.nils,.nils]
theorem lM:∀{l l':List Int},l.Pairwise (·<·)->l'.Pairwise (·<·)->(∀x,x∈l↔x∈l')->l=l'
 | [],[],_,_,_=>rfl
 | [],b::_,_,_,h=>by simpa using (h b).2 (by simp)
 | a::_,[],_,_,h=>by simpa using (h a).1 (by simp)
 | a::l,b::l',h1,h2,h=>by
  rw[List.pairwise_cons]at h1 h2
  have e:a=b:=by
   have x1:=(h a).1 (by simp)
   have x2:=(h b).2 (by simp)
   simp only[x0H]at x1 x2
   rcases x1 with x1|x1
   ·exact x1
   ·rcases x2 with x2|x2
    ·exact x2.symm
    ·have:=h2.1 a x1;have:=h1.1 b x2;omega
  subst e
  congr 1
  refine lM h1.2 h2.2 fun x=>?_
  have:=h x
  simp only[x0H]at this
  constructor
  ·intro hx
   have h3:=h1.1 x hx
   rcases this.1 (.inr hx)with h4|h4
   ·omega
   ·exact h4
  ·intro hx
   have h3:=h2.1 x hx
   rcases this.2 (.inr hx)with h4|h4
   ·omega
   ·exact h4
theorem l9{d:Array Int}(hs:∀j,0<j->j<d.size->d[j-1]!<=d[j]!):∀m,m<=d.size->(Lib.compactUpTo d m).Pairwise (·<·)/\(∀x,x∈Lib.compactUpTo d m↔∃j,j<m/\d[j]! = x)/\∀x∈Lib.compactUpTo d m,x<=d[m-1]!
 | 0,_=>by simp[Lib.compactUpTo]
 | m+1,hm=>by
  obtain⟨h1,h2,h3⟩:=l9 hs m (by omega)
  rw[Lib.compactUpTo_succ]
  by_cases hk:Lib.keeps d m=true
  ·rw[if_pos hk]
   have hlt:∀x∈Lib.compactUpTo d m,x<d[m]!:=fun x hx=>by
    have h4:=h3 x hx
    simp only[Lib.keeps,x0b]at hk
    rcases hk with rfl|hk
    ·obtain⟨j,hj,_⟩:=(h2 x).1 hx;omega
    ·rcases x0X m with h0|h0
     ·subst h0;obtain⟨j,hj,_⟩:=(h2 x).1 hx;omega
     ·have:=hs m h0 (by omega);omega
   refine⟨List.pairwise_append.2 ⟨h1,by simp,fun a ha b hb=>by simp at hb;subst hb;exact hlt a ha⟩,fun x=>?_,fun x hx=>?_⟩
   ·simp only[x0n,x1h,h2]
    constructor
    ·rintro(⟨j,hj,rfl⟩|rfl)
     ·exact⟨j,by omega,rfl⟩
     ·exact⟨m,by omega,rfl⟩
    ·rintro⟨j,hj,rfl⟩
     by_cases e:j=m
     ·exact .inr (by rw[e])
     ·exact .inl ⟨j,by omega,rfl⟩
   ·simp only[x0n,x1h]at hx
    rcases hx with hx|hx
    ·exact Int.le_of_lt (hlt x hx)
    ·rw[hx];exact x00 _
  ·rw[if_neg hk,x1M]
   have hm0:0<m:=by
    rcases x0X m with h|h
    ·subst h;exact absurd (Lib.keeps_lt_one d 0 (by omega)) hk
    ·exact h
   have he:d[m]! = d[m-1]!:=by
    apply Classical.byContradiction
    intro h
    exact hk (Lib.keeps_pos h)
   refine⟨h1,fun x=>?_,fun x hx=>?_⟩
   ·rw[h2]
    constructor
    ·rintro⟨j,hj,rfl⟩;exact⟨j,by omega,rfl⟩
    ·rintro⟨j,hj,rfl⟩
     by_cases e:j=m
     ·subst e;exact⟨j-1,by omega,he.symm⟩
     ·exact⟨j,by omega,rfl⟩
   ·have:=h3 x hx
    simp only[Nat.add_sub_cancel,he]
    exact this
theorem sS{n:Nat}{es:List Edg}(hg:inG n es)(i:Nat):Lib.compact (((tgs es i).map fun k:Nat=>(k:Int)).mergeSort fun x y=>decide (x<=y))=(nxt n es i).map fun k:Nat=>(k:Int):=by
 obtain⟨zs,hz⟩:∃zs,zs=((tgs es i).map fun k:Nat=>(k:Int)).mergeSort fun x y=>decide (x<=y):=⟨_,rfl⟩
 rw[<- hz]
 have hp:zs.Pairwise (·<=·):=by
  have h:=List.pairwise_mergeSort (le:=fun x y:Int=>decide (x<=y)) (fun a b c h1 h2=>by simp at *;omega) (fun a b=>by simp;omega) ((tgs es i).map fun k:Nat=>(k:Int))
  rw[<- hz]at h
  exact h.imp fun h=>by simpa using h
 have hm:∀x,x∈zs↔∃k:Nat,(i,k)∈es/\(k:Int)=x:=fun x=>by
  rw[hz,List.mem_mergeSort,x0w]
  simp only[FK]
 have hs:∀j,0<j->j<zs.toArray.size->zs.toArray[j-1]!<=zs.toArray[j]!:=fun j h1 h2=>by
  have h3:j<zs.length:=by simpa using h2
  rw[x0c zs.toArray (j-1) (by simpa using (by omega:j-1<zs.length)),x0c zs.toArray j h2]
  exact x1w.1 hp (j-1) j (by omega) h3 (by omega)
 obtain⟨h1,h2,_⟩:=l9 hs zs.length (by simp)
 refine lM h1 ?_ fun x=>?_
 ·rw[List.pairwise_map]
  have:(nxt n es i).Pairwise (·<·):=List.Pairwise.filter _ x1N
  exact this.imp fun h=>by omega
 ·unfold Lib.compact
  rw[h2,x0w]
  constructor
  ·rintro⟨j,hj,rfl⟩
   rw[x0c zs.toArray j (by simpa using hj)]
   obtain⟨k,k1,k2⟩:=(hm _).1 (x0h (l:=zs) hj)
   exact⟨k,iw.2 ⟨(hg _ k1).2,k1⟩,by simpa using k2⟩
  ·rintro⟨k,hk,rfl⟩
   obtain⟨j,hj,e⟩:=x0K.1 ((hm k).2 ⟨k,(iw.1 hk).2,rfl⟩)
   exact⟨j,hj,by rw[x0c zs.toArray j (by simpa using hj)];simpa using e⟩
variable{C:CC}(hC:al prog C)
include hC
theorem MI(n i:Int):C 516 [.int .i64 n,.int .i64 i] (.bool (decide (0<=i)&&decide (i<n))) []:=by
 refine start hC (nf:=N516) rfl rfl ?_
 simp[N516]
 refine ab (fun h=>?_) (fun h=>?_)<;>simp at h<;>simp[h]<;>omega
theorem Fv{b:Bool}{xs:List (Int×Int)}{g:Nat}{cs:List D}(p:(Int×Int)->Bool)(hs:xs.length<2^62)(hp:∀x∈xs,C g (.agg (knD x)::cs) (.bool (p x)) []):C 522 [slx b (xs.map fun x=>knD x),.fn g cs] (.int .i64 (ct p xs)) []:=by
 refine start hC (nf:=N522) rfl rfl ?_
 simp[N522]
 refine ay Nat (fun i=>[(0,slx b (xs.map fun x=>knD x)),(1,.fn g cs),(7,.int .i64 xs.length),(8,.int .i64 i)]) (fun i=>i<=xs.length/\∀(j:Nat) (h:j<xs.length),j<i->p xs[j]=false) (fun i=>xs.length-i) 0 (by simp) (by simp) ?_
 rintro i ⟨hi,hj⟩
 simp
 refine ab (fun h=>?_) (fun h=>?_)<;>simp[h]<;>simp at h
 ·have hw:IntKind.wrap .i64 ((i:Int)+1)=((i+1:Nat):Int):=wrap_i64 (by omega) (by omega)
  have hc:=hp _ (x0h h)
  simp[h,knD]at hc ⊢
  refine aa hc (.inl rfl) ?_
  simp
  refine ab (fun h1=>?_) (fun h1=>?_)<;>simp[h1,hw]
  ·rw[dE hj h h1]
  ·refine⟨i+1,⟨by omega,fun j hl hjj=>?_⟩,by omega,rfl⟩
   rcases x0y.1 hjj with h2|rfl
   ·exact hj j hl h2
   ·exact h1
 ·rw[fh (fun j hl=>hj j hl (by omega))]
theorem Fn{b:Bool}{xs:List (Int×Int)}{g:Nat}{cs:List D}(p:(Int×Int)->Bool)(hs:xs.length<2^62)(hp:∀x∈xs,C g (.agg (knD x)::cs) (.bool (p x)) []):C 514 [slx b (xs.map fun x=>knD x),.fn g cs] (.bool (xs.any p)) []:=by
 refine start hC (nf:=N514) rfl rfl ?_
 simp[N514]
 refine aa (Fv hC p hs hp) (.inl rfl) ?_
 simp[f9]
def uM(n:Int)(e:Int×Int):Bool:=!((decide (0<=e.1)&&decide (e.1<n))&&(decide (0<=e.2)&&decide (e.2<n)))
theorem EZ(n:Int)(e:Int×Int):C 515 [.agg (knD e),.ptr [.int .i64 n]] (.bool (uM n e)) []:=by
 refine start hC (nf:=N515) rfl rfl ?_
 simp[N515,knD]
 refine aa (MI hC n e.1) (.inl rfl) ?_
 unfold uM
 cases h:(decide (0<=e.1)&&decide (e.1<n))
 ·simp
 ·simp
  refine aa (MI hC n e.2) (.inl rfl) ?_
  simp
def gOk(n:Int)(es:List (Int×Int)):Bool:=decide (0<=n)&&decide (n<=300)&&decide (es.length<=1000)&&!es.any (uM n)
theorem uY(b:Bool)(n:Int)(es:List (Int×Int))(hl:es.length<2^62):C 503 [.int .i64 n,slx b (es.map knD)] (.bool (gOk n es)) []:=by
 have k1:=Fn hC (b:=b) (xs:=es) (g:=515) (cs:=[.ptr [.int .i64 n]]) (uM n) hl (fun x _=>EZ hC n x)
 refine start hC (nf:=N503) rfl rfl ?_
 simp[N503]
 by_cases h1:n<0
 ·simp[h1,gOk,show ¬0<=n by omega]
 by_cases h2:300<n
 ·simp[h1,h2,gOk,show ¬n<=300 by omega]
 by_cases h3:(1000:Int)<es.length
 ·simp[h1,h2,h3,gOk,show ¬es.length<=1000 by omega]
 simp[h1,h2,h3]
 refine aa k1 (.inl rfl) ?_
 simp[gOk,show 0<=n by omega,show n<=300 by omega,show es.length<=1000 by omega]
theorem CT{n:Nat}{es:List Edg}(hn:n<=300)(he:es.length<=1000)(hg:inG n es):gOk n (es.map edI)=true:=by
 unfold gOk
 simp only[x0a,x0b,x0S,x0t,x0E,x0w]
 refine⟨⟨⟨by omega,by omega⟩,he⟩,?_⟩
 rintro x ⟨e,h1,rfl⟩
 obtain⟨h2,h3⟩:=hg e h1
 simp only[uM,edI,x0t,x1A,x0a,x0b]
 simp
 omega
end Go.Gv

namespace Go.Gv
section
variable{C:CC}
theorem kX{f:Nat->D}{dst:Option Nat}{K K':KT}{o:NOp}(h:aG C f dst K o)(hk:∀ws ks,K ws ks->K' ws ks):aG C f dst K' o:=by
 obtain⟨ws,ks,h1,h2⟩:=qA h
 exact h2 K' (hk ws ks h1)
theorem jo{e:Env}{dst:Option Nat}{K K':Env->Prop}(h:iB e dst K)(hk:∀e,K e->K' e):iB e dst K':=by
 unfold iB at h ⊢
 split at h
 ·exact hk _ h
 ·exact hk _ h
theorem ja{K K':Env->Prop}(hk:∀e,K e->K' e):∀(ns:List au) (e:Env),i9 C K ns e->i9 C K' ns e
 | [],e,h=>hk e h
 | o::os,e,h=>by
  rw[i9]at h ⊢
  split at h
  ·exact kX h (fun ws ks h1=>ja hk os _ h1)
  ·split at h
   ·exact⟨fun hb=>kX (h.1 hb) (fun ws ks h1=>ja hk os _ h1),fun hb=>jo (h.2 hb) (fun e h1=>ja hk os e h1)⟩
   ·exact jo h (fun e h1=>ja hk os e h1)
   ·exact h.elim
theorem i8{hs:List Nat}{K K':Env->Prop}(hk:∀e,K e->K' e):∀(ns:List au) (e:Env) (acc:List (List Nat×List Nat)),jB C hs K ns e acc->jB C hs K' ns e acc
 | [],e,acc,h=>⟨h.1,hk e h.2⟩
 | o::os,e,acc,h=>by
  rw[jB]at h ⊢
  refine⟨h.1,?_⟩
  have h:=h.2
  split at h
  ·exact kX h (fun ws ks h1=>⟨h1.1,i8 hk os _ _ h1.2⟩)
  ·split at h
   ·exact⟨fun hb=>kX (h.1 hb) (fun ws ks h1=>⟨h1.1,i8 hk os _ _ h1.2⟩),fun hb=>jo (h.2 hb) (fun e h1=>i8 hk os e _ h1)⟩
   ·exact jo h (fun e h1=>i8 hk os e _ h1)
   ·exact h.elim
theorem fD:∀(c:cL) (Q Q':bS->Env->Prop) (e:Env),(∀t e,Q t e->Q' t e)->wpN C c Q e->wpN C c Q' e
 | .skip,Q,Q',e,hq,h=>hq _ _ h
 | .reg dr hs keep ops,Q,Q',e,hq,h=>by
  cases dr with
  | false=>exact ja (fun e h=>hq _ _ h) ops e h
  | true=>exact i8 (fun e h=>hq _ _ h) ops e [] h
 | .seq x y,Q,Q',e,hq,h=>fD x _ _ e (fun t e h=>by
   cases t with
   | nrm=>exact fD y Q Q' e hq h
   | ext i=>exact hq _ _ h
   | ret=>exact hq _ _ h) h
 | .cond c x y,Q,Q',e,hq,h=>by
  rw[wpN]at h ⊢
  split at h
  ·exact⟨fun hb=>fD x Q Q' e hq (h.1 hb),fun hb=>fD y Q Q' e hq (h.2 hb)⟩
  ·exact⟨fD x Q Q' e hq h.1,fD y Q Q' e hq h.2⟩
  ·exact h.elim
 | .block id c,Q,Q',e,hq,h=>fD c _ _ e (fun t e h=>by
   cases t with
   | nrm=>exact hq _ _ h
   | ext i =>
    simp only at h ⊢
    split
    ·rename_i hi;rw[if_pos hi]at h;exact hq _ _ h
    ·rename_i hi;rw[if_neg hi]at h;exact hq _ _ h
   | ret=>exact hq _ _ h) h
 | .loop c,Q,Q',e,hq,h=>by
  obtain⟨S,G,I,m,s0,h1,h2,h3⟩:=h
  refine⟨S,G,I,m,s0,h1,h2,fun s hs=>fD c _ _ _ (fun t e h=>?_) (h3 s hs)⟩
  cases t with
  | nrm=>exact h
  | ext i=>exact hq _ _ h
  | ret=>exact hq _ _ h
 | .exit id,Q,Q',e,hq,h=>hq _ _ h
 | .ret,Q,Q',e,hq,h=>hq _ _ h
def FW(id:Nat)(S:Type)(G:S->Env)(J:S->Prop)(Q:bS->Env->Prop):bS->Env->Prop:=fun t e=>match t with
 | .ext i=>if i=id then ∃s,J s/\lT e (G s) else Q (.ext i) e
 | t=>Q t e
variable{Q:bS->Env->Prop}{e:Env}
@[simp] theorem E6{id S G J u i}:dA (FW id S G J Q) u (.ext i) e=if i=id then ∃s,J s/\lT e (G s) else dA Q ⟨⟩ (.ext i) e:=zR
theorem vg{c:cL}{u:Tag (c,Q)}(id:Nat)(S:Type)(G:S->Env)(J:S->Prop)(h:yi C c (FW id S G J Q) ⟨⟩ e)(hr:∀s e,J s->lT e (G s)->dA Q ⟨⟩ (.ext id) e):yi C c Q u e :=
 fD (.loop c) (FW id S G J Q) Q e (fun t e g=>by
  cases t with
  | nrm=>exact g
  | ret=>exact g
  | ext i =>
   simp only[FW]at g
   by_cases hi:i=id
   ·rw[if_pos hi]at g
    obtain⟨s,h1,h2⟩:=g
    rw[hi]
    exact hr s e h1 h2
   ·rw[if_neg hi]at g
    exact g) h
end
@[simp] theorem Nv{C:CC}{hs:Option (List Nat)}{K:Env->Prop}{ns:List au}{dst:Option Nat}{u:Tag (hs,K,ns)}{e:Env}{R:List Nat}{acc:List (List Nat×List Nat)}{α:Type}[Inhabited α]{n:Nat}{ag:Bool}{p:Pa}{xs:List α}{f:α->List D}{i off:Nat} :
  AU C hs K ns dst u e R acc n ag p (xs.map f) i off=(i<xs.length/\off+n<=(f xs[i]!).length/\match ag with
    | true=>((((f xs[i]!).drop off).take n).all isV=true->dW C hs K ns dst ⟨⟩ e R acc (.agg (((f xs[i]!).drop off).take n))) /\
      ((((f xs[i]!).drop off).take n).all isV=false->dW C hs K ns dst ⟨⟩ e R acc (.agx ((((f xs[i]!).drop off).take n).mapIdx fun j c=>ldc p i (off+j) c)))
    | false=>dW C hs K ns dst ⟨⟩ e R acc (ldc p i off (((f xs[i]!).drop off).headD .any))):=by
 apply propext
 constructor
 ·rintro⟨r,h,h1,h2⟩
  rw[x0z,x0p]at h
  obtain⟨x,hx,rfl⟩:=h
  obtain⟨hi,rfl⟩:=x0d.1 hx
  rw[x0c xs i hi]
  refine⟨hi,h1,?_⟩
  cases ag<;>exact h2
 ·rintro⟨hi,h1,h2⟩
  rw[x0c xs i hi]at h1 h2
  refine yC (r:=f xs[i]) (by rw[x0z,x0e hi];rfl) h1 ?_
  cases ag<;>exact h2
@[simp] theorem Ky{b all ks n}:bu ((b,all)::ks) (.ptx n)=if n.any (aT b all) then .any else bu ks (.ptx n):=by
 have h:bu ((b,all)::ks) (.ptx n)=bif (n.any (aT b all)||aN ks (.ptx n)) then .any else .ptx n:=eL ..
 rw[h,eL]
 cases n.any (aT b all)<;>rfl
@[simp] theorem KL{b all n es}:aT b all (slx n es)=false:=by cases n<;>cases es<;>rfl
@[simp] theorem KJ{b all p k n}:aT b all (.ref p k n)=cy b all p:=zR
@[simp] theorem KI{b all k n}:aT b all (.int k n)=false:=zR
@[simp] theorem IE{b all n}:aT b all (.bool n)=false:=zR
@[simp] theorem KM{b all n}:aT b all (.str n)=false:=zR
@[simp] theorem IF{b all}:aT b all .nils=false:=zR
@[simp] theorem M7{b all n}:aT b all (.sl n)=false:=zR
@[simp] theorem Kw{b all ks c}:bu ((b,all)::ks) (.mrf c)=if (all&&c==b) then .any else bu ks (.mrf c):=by
 have h:bu ((b,all)::ks) (.mrf c)=bif ((all&&c==b)||aN ks (.mrf c)) then .any else .mrf c:=eL ..
 rw[h,eL]
 cases all&&c==b<;>rfl
end Go.Gv

namespace Go.Gv
section
variable{C:CC}{hs:Option (List Nat)}{K:Env->Prop}{ns:List au}{dst:Option Nat}{u:Tag (hs,K,ns)}{e:Env}{R:List Nat}{acc:List (List Nat×List Nat)}
theorem aD{sz:Nat}{es:List (List D)}{i:Nat}{c:List D}(h:es[i]? = some c):tn C hs K ns dst u e R acc sz es i=(c.length=sz/\dW C hs K ns dst ⟨⟩ e R acc (.ptr c)):=by
 apply propext
 unfold tn dW
 rw[h]
 exact⟨fun⟨_,h1,h2⟩=>by cases h1;exact h2,fun h2=>⟨c,rfl,h2⟩⟩
theorem bj{n:Nat}{ag:Bool}{p:Pa}{es:List (List D)}{i off:Nat}{r:List D}(hr:es[i]? = some r):AU C hs K ns dst u e R acc n ag p es i off=(off+n<=r.length/\match ag with
    | true=>(((r.drop off).take n).all isV=true->dW C hs K ns dst ⟨⟩ e R acc (.agg ((r.drop off).take n))) /\
      (((r.drop off).take n).all isV=false->dW C hs K ns dst ⟨⟩ e R acc (.agx (((r.drop off).take n).mapIdx fun j c=>ldc p i (off+j) c)))
    | false=>dW C hs K ns dst ⟨⟩ e R acc (ldc p i off ((r.drop off).headD .any))):=by
 apply propext
 constructor
 ·rintro⟨r',h,h1,h2⟩
  rw[hr]at h
  cases h
  refine⟨h1,?_⟩
  cases ag<;>exact h2
 ·rintro⟨h1,h2⟩
  refine yC hr h1 ?_
  cases ag<;>exact h2
theorem DJ{n:Nat}{ag:Bool}{p:Pa}{off:Nat}{c0:List D}{es:List (List D)}:AU C hs K ns dst u e R acc n ag p (c0::es) 0 off=(off+n<=c0.length/\match ag with
    | true=>(((c0.drop off).take n).all isV=true->dW C hs K ns dst ⟨⟩ e R acc (.agg ((c0.drop off).take n))) /\
      (((c0.drop off).take n).all isV=false->dW C hs K ns dst ⟨⟩ e R acc (.agx (((c0.drop off).take n).mapIdx fun j c=>ldc p 0 (off+j) c)))
    | false=>dW C hs K ns dst ⟨⟩ e R acc (ldc p 0 off ((c0.drop off).headD .any))):=bj rfl
attribute [simp] DJ
end
end Go.Gv

namespace Go.Gv
section
variable{C:CC}{hs:Option (List Nat)}{K:Env->Prop}{ns:List au}{dst:Option Nat}{u:Tag (hs,K,ns)}{e:Env}{R:List Nat}{acc:List (List Nat×List Nat)}
end
end Go.Gv

namespace Go.Gv
theorem pg{α:Type}(n:Nat)(x:α):List.replicate n x=(List.range n).map fun _=>x:=by simp[List.map_const']
theorem nI(l:List Nat):bg l=(l.map fun k:Nat=>(k:Int)).map fun n=>[.int .i64 n]:=by simp[bg]
theorem FC{l:List Int}:∀e∈(l.map fun n=>[D.int .i64 n]),e.length=1/\∀c∈e,aA c=true:=by
 intro e he
 simp only[x0w]at he
 obtain⟨k,_,rfl⟩:=he
 simp[aA]
theorem FD{l:List Int}:∀e∈(l.map fun n=>[D.int .i64 n]),e.length=1/\∀c∈e,bP c=true:=by
 intro e he
 simp only[x0w]at he
 obtain⟨k,_,rfl⟩:=he
 simp[bP]
def ndD(l:List Nat):D:=.sl (bg l)
def IX(n:Nat)(es:List Edg):D:=.sl ((List.range n).map fun v=>[ndD (nxt n es v)])
def oR(n:Nat)(es:List Edg)(j:Nat):List (List D):=(List.range n).map fun v=>[.own 1 (bg (tgs (es.take j) v))]
def oS(n:Nat)(es:List Edg)(j:Nat):List (List D):=(List.range n).map fun v=>[.own 1 (bg (if v<j then nxt n es v else tgs es v))]
theorem aY(l:List Nat):(bg l).length=l.length:=by simp[bg]
theorem iT(l:List Nat):(bg l).take l.length=bg l:=by rw[<- aY l];exact x0L
theorem my(l:List Nat)(k:Nat):bg l++[[.int .i64 (k:Int)]]=bg (l++[k]):=by simp[bg]
theorem yc{l:List Nat}:∀e∈bg l,e.length=1/\∀c∈e,aA c=true:=by
 intro e he
 simp only[bg,x0w]at he
 obtain⟨k,_,rfl⟩:=he
 simp[aA]
theorem tp{l:List Nat}:∀e∈bg l,e.length=1/\∀c∈e,bP c=true:=by
 intro e he
 simp only[bg,x0w]at he
 obtain⟨k,_,rfl⟩:=he
 simp[bP]
variable{C:CC}(hC:al prog C)
include hC
theorem IV(hS:SlC C){b:Bool}{n:Nat}{es:List Edg}(hn:n<=300)(he:es.length<=1000)(hg:inG n es):C 517 [.int .i64 n,slx b (es.map edK)] (IX n es) []:=by
 refine start hC (nf:=N517) rfl rfl ?_
 simp[N517]
 refine⟨by omega,?_⟩
 refine ay Nat (fun j=>[(5,.ref (.r 10080) 0 n),(10080,.blk 1 (oR n es j)),(11,slx b (es.map edK)),(12,.int .i64 es.length),(13,.int .i64 j)]) (fun j=>j<=es.length) (fun j=>es.length-j) 0 (by simp) (by simp[oR,tgs,bg,pg]) ?_
 rintro j hj
 simp
 refine ab (fun h=>?_) (fun h=>?_)<;>simp[h]<;>simp at h
 ·have hw:IntKind.wrap .i64 ((j:Int)+1)=((j+1:Nat):Int):=wrap_i64 (by omega) (by omega)
  have hin:=hg _ (x0h h)
  have hr:(oR n es j)[es[j].1]? = some [.own 1 (bg (tgs (es.take j) es[j].1))]:=by simp[oR,hin.1]
  have hlt:=yS (es.take j) es[j].1
  have hb:(tgs (es.take j) es[j].1).length<=1000:=by simp at hlt;omega
  have hrl:(oR n es j).length=n:=by simp[oR]
  have hr2:es[j].1<(oR n es j).length:=by omega
  simp[h,edK,knD,bj hr,hin,hr,aY]
  refine⟨by omega,?_⟩
  simp only[iT,my]
  have e1:∀e,e∈bg (tgs (es.take j) es[j].1)\/e=[.int .i64 (es[j].2:Int)]->∀c∈e,aA c=true:=by
   rintro e (h1|rfl)
   ·exact(yc e h1).2
   ·simp[aA]
  have e2:(((oR n es j).set es[j].1 [.any]).set es[j].1 [.own 1 (bg (tgs (es.take j) es[j].1++[es[j].2]))])=oR n es (j+1):=by
   rw[List.set_set]
   unfold oR
   rw[km]
   apply x0j
   intro v _
   rw[Ej h]
   by_cases e:v=es[j].1
   ·subst e;simp
   ·rw[if_neg e,if_neg (Ne.symm e),x1M]
  refine⟨e1,?_⟩
  simp[hr2,e2]
  refine⟨aw (by decide +kernel),?_⟩
  simp[hw]
  refine⟨j+1,by omega,by omega,?_,by simp⟩
  simp only[iT,my]
  rw[<- e2,List.set_set]
 ·have e0:oR n es j=oS n es 0:=by
   unfold oR oS
   rw[x0i h]
   simp
  rw[e0]
  refine ay Nat (fun j=>[(5,.ref (.r 10080) 0 n),(10080,.blk 1 (oS n es j)),(32,.int .i64 n),(33,.int .i64 j)]) (fun j=>j<=n) (fun j=>n-j) 0 (by simp) (by simp) ?_
  clear e0 h hj j
  rintro j hj
  simp
  refine ab (fun h=>?_) (fun h=>?_)<;>simp[h]<;>simp at h
  ·have hw:IntKind.wrap .i64 ((j:Int)+1)=((j+1:Nat):Int):=wrap_i64 (by omega) (by omega)
   have hr:(oS n es j)[j]? = some [.own 1 (bg (tgs es j))]:=by simp[oS,h]
   have hl:=yS es j
   simp[h,bj hr,hr,aY]
   have ks:=hS.sort ((tgs es j).map fun k:Nat=>(k:Int)) (by simp;omega)
   have kc:=hS.compact (((tgs es j).map fun k:Nat=>(k:Int)).mergeSort fun x y=>decide (x<=y)) (by simp[List.length_mergeSort];omega)
   rw[sS hg,<- nI]at kc
   rw[<- nI]at ks
   have hsl:(((tgs es j).map fun k:Nat=>(k:Int)).mergeSort fun x y=>decide (x<=y)).length=(tgs es j).length:=by simp[List.length_mergeSort]
   obtain⟨zs,hz⟩:∃zs,zs=((tgs es j).map fun k:Nat=>(k:Int)).mergeSort fun x y=>decide (x<=y):=⟨_,rfl⟩
   rw[<- hz]at ks kc hsl
   have hjl:j<(oS n es j).length:=by simp[oS,h]
   have e1:(((oS n es j).set j [.own 1 (zs.map fun n=>[.int .i64 n])]).set j [.any]).set j [.own 1 (bg (nxt n es j))]=oS n es (j+1):=by
    rw[List.set_set,List.set_set]
    unfold oS
    rw[km]
    apply x0j
    intro v _
    by_cases e:v=j
    ·subst e;simp
    ·rw[if_neg e]
     by_cases e2:v<j
     ·rw[if_pos e2,if_pos (by omega)]
     ·rw[if_neg e2,if_neg (by omega)]
   refine BT ks (by rw[x0S,hsl,aY]) FC ?_
   have hset:∀x,((oS n es j).set j x)[j]? = some x:=fun x=>by simp[hjl]
   simp[hr,h,bj (hset _),hset]
   refine⟨fun e he=>(FD e (x0O he)).2,?_⟩
   have e3:(zs.map fun n=>[D.int .i64 n]).take zs.length=zs.map fun n=>[D.int .i64 n]:=x0i (by simp)
   rw[e3]
   refine oY kc tp ?_
   simp[hr,h,bj (hset _),hset]
   rw[List.set_set,List.set_set]at e1
   exact⟨fun e he=>(yc e he).2,j+1,by omega,by omega,e1,hw⟩
  ·have e:j=n:=by omega
   subst e
   simp[oS]
   unfold IX
   rw[x0i (by simp)]
   congr 1
   apply x0j
   intro v hv
   have:v<j:=by simpa using hv
   simp[this,bq,ndD]
end Go.Gv

namespace Go.Gv
open Go.Lib
theorem vj(a:Nat)(ha:a<18446744073709551616):bits .and .u64 (a:Int) 4294967295=((a%4294967296:Nat):Int):=by
 have h:=bits_and_u64_nat a 4294967295 ha (by omega)
 have e:a &&& 4294967295=a%4294967296:=Nat.and_two_pow_sub_one_eq_mod a 32
 rw[e]at h
 exact h
theorem qK(a k:Nat):Int.fdiv (a:Int) (2^k)=((a/2^k:Nat):Int):=by
 rw[Int.fdiv_eq_ediv_of_nonneg _ (by exact Int.pow_nonneg (by omega))]
 norm_cast
theorem yG(a:Nat):Int.fdiv (a:Int) (2^min 32 IntKind.u64.bits)=((a/4294967296:Nat):Int):=qK a 32
theorem Ax(a b:Nat):(a:Int)*(b:Int)=((a*b:Nat):Int):=(Int.natCast_mul a b).symm
theorem Lv(a b:Nat):(a:Int)+(b:Int)=((a+b:Nat):Int):=(Int.natCast_add a b).symm
theorem cP(a:Nat)(ha:a<18446744073709551616):IntKind.u64.wrap (a:Int)=(a:Int):=by
 have e1:IntKind.u64.signed=false:=rfl
 have e3:(2^IntKind.u64.bits:Int)=18446744073709551616:=rfl
 unfold IntKind.wrap
 simp only[e1,e3,x1C]
 simp
 omega
theorem Er(a:Nat):IntKind.u64.wrap (a:Int)=((a%18446744073709551616:Nat):Int):=by
 have e1:IntKind.u64.signed=false:=rfl
 have e3:(2^IntKind.u64.bits:Int)=18446744073709551616:=rfl
 unfold IntKind.wrap
 simp only[e1,e3,x1C]
 simp
variable{C:CC}(hC:al prog C)
include hC
theorem lQ(x y:Nat)(hx:x<18446744073709551616)(hy:y<18446744073709551616):C 91 [.int .u64 x,.int .u64 y] (.tup [.int .u64 ((x*y/18446744073709551616:Nat):Int),.int .u64 ((x*y%18446744073709551616:Nat):Int)]) []:=by
 refine start hC (nf:=N91) rfl rfl ?_
 obtain⟨bd,bt,bw,hhi⟩:=Lib.mul64_hi x y hx hy
 have ba:=Lib.half_mul_le (a:=x/4294967296) (b:=y/4294967296) (by omega) (by omega)
 have bb:=Lib.half_mul_le (a:=x/4294967296) (b:=y%4294967296) (by omega) (by omega)
 have bc:=Lib.half_mul_le (a:=x%4294967296) (b:=y/4294967296) (by omega) (by omega)
 have ba':x/4294967296*(y/4294967296)<18446744073709551616:=by omega
 have bb':x/4294967296*(y%4294967296)<18446744073709551616:=by omega
 have bc':x%4294967296*(y/4294967296)<18446744073709551616:=by omega
 have bh1:x/4294967296*(y/4294967296)+(x/4294967296*(y%4294967296)+x%4294967296*(y%4294967296)/4294967296)/4294967296<18446744073709551616:=by omega
 have bh:x/4294967296*(y/4294967296)+(x/4294967296*(y%4294967296)+x%4294967296*(y%4294967296)/4294967296)/4294967296+((x/4294967296*(y%4294967296)+x%4294967296*(y%4294967296)/4294967296)%4294967296+x%4294967296*(y/4294967296))/4294967296<18446744073709551616:=by omega
 simp[N91]
 simp only[vj x hx,vj y hy,yG,Ax,Lv,cP _ bd,cP _ bb',cP _ bt,vj _ bt,cP _ bc',cP _ bw,cP _ ba',cP _ bh1,cP _ bh,Er (x*y)]
 rw[hhi]
 exact⟨by omega,by omega⟩
end Go.Gv

namespace Go.Gv
theorem Hz(a:Nat):Int.fdiv (a:Int) (2^min 16 IntKind.u64.bits)=((a/65536:Nat):Int):=qK a 16
theorem Gp(a:Nat):Int.fdiv (a:Int) (2^min 8 IntKind.u64.bits)=((a/256:Nat):Int):=qK a 8
theorem NO(a:Nat)(h:a<256):IntKind.u8.wrap (a:Int)=(a:Int):=by
 have e1:IntKind.u8.signed=false:=rfl
 have e3:(2^IntKind.u8.bits:Int)=256:=rfl
 unfold IntKind.wrap
 simp only[e1,e3,x1C]
 simp
 omega
theorem wW:S1.length=256/\∀n:Fin 256,S1[n.val]?.getD 0=UInt8.ofNat (bitLen n.val)/\bitLen n.val<=8:=by decide +kernel
theorem gc{x n z:Nat}{m:Int}(hz:z<256)(hm:m=n)(hn:n<=56)(h:n+bitLen z=bitLen x):0<=IntKind.u8.wrap (z:Int)/\(IntKind.u8.wrap (z:Int)).toNat<S1.length/\IntKind.i64.wrap (m+IntKind.i64.wrap ↑(S1[(IntKind.u8.wrap (z:Int)).toNat]?.getD default).toNat)=(bitLen x:Int):=by
 rw[NO z hz]
 obtain⟨h1,h2⟩:=wW
 obtain⟨h3,h4⟩:=h2 ⟨z,hz⟩
 have e:(S1[(z:Int).toNat]?.getD default).toNat=bitLen z:=by
  show(S1[z]?.getD 0).toNat=bitLen z
  simp only at h3 h4
  rw[h3,UInt8.toNat_ofNat']
  omega
 simp only at h4
 rw[e]
 have e2:IntKind.i64.wrap (bitLen z:Int)=(bitLen z:Int):=wrap_i64 rfl (by omega)
 refine⟨by omega,by omega,?_⟩
 rw[e2,hm]
 exact wrap_i64 (by omega) (by omega)
variable{C:CC}(hC:al prog C)
include hC
theorem ED(x:Nat)(hx:x<18446744073709551616):C 111 [.int .u64 x] (.int .i64 (bitLen x)) []:=by
 refine start hC (nf:=N111) rfl rfl ?_
 have key:∀(b z:Nat),2^b<=z->bitLen z=b+bitLen (z/2^b):=fun b z h=>bitLen_shift z b (by
  have:=Nat.div_pos h (Nat.two_pow_pos b)
  omega)
 simp[N111]
 refine ab (fun h1=>?_) (fun h1=>?_)<;>simp at h1
 ·obtain⟨y,hy⟩:∃y:Nat,y=x/4294967296:=⟨_,rfl⟩
  have e1:Int.fdiv (x:Int) (2^min 32 IntKind.u64.bits)=(y:Int):=by rw[yG,hy]
  have k1:=key 32 x (by omega)
  simp[e1]
  refine ab (fun h2=>?_) (fun h2=>?_)<;>simp at h2
  ·obtain⟨z,hz⟩:∃z:Nat,z=y/65536:=⟨_,rfl⟩
   have e2:Int.fdiv (y:Int) (2^min 16 IntKind.u64.bits)=(z:Int):=by rw[Hz,hz]
   have k2:=key 16 y (by omega)
   simp[e2]
   refine ab (fun h3=>?_) (fun h3=>?_)<;>simp at h3
   ·obtain⟨v,hv⟩:∃v:Nat,v=z/256:=⟨_,rfl⟩
    have e3:Int.fdiv (z:Int) (2^min 8 IntKind.u64.bits)=(v:Int):=by rw[Gp,hv]
    have k3:=key 8 z (by omega)
    simp[e3]
    refine gc (n:=56) (by omega) ?_ (by omega) ?_
    ·decide
    ·simp only[Nat.reducePow]at k1 k2 k3
     rw[<- hy]at k1;rw[<- hz]at k2;rw[<- hv]at k3;omega
   ·simp
    refine gc (n:=48) (by omega) ?_ (by omega) ?_
    ·decide
    ·simp only[Nat.reducePow]at k1 k2
     rw[<- hy]at k1;rw[<- hz]at k2;omega
  ·simp
   refine ab (fun h3=>?_) (fun h3=>?_)<;>simp at h3
   ·obtain⟨v,hv⟩:∃v:Nat,v=y/256:=⟨_,rfl⟩
    have e3:Int.fdiv (y:Int) (2^min 8 IntKind.u64.bits)=(v:Int):=by rw[Gp,hv]
    have k3:=key 8 y (by omega)
    simp[e3]
    refine gc (n:=40) (by omega) ?_ (by omega) ?_
    ·decide
    ·simp only[Nat.reducePow]at k1 k3
     rw[<- hy]at k1;rw[<- hv]at k3;omega
   ·simp
    refine gc (n:=32) (by omega) ?_ (by omega) ?_
    ·decide
    ·simp only[Nat.reducePow]at k1
     rw[<- hy]at k1;omega
 ·simp
  refine ab (fun h2=>?_) (fun h2=>?_)<;>simp at h2
  ·obtain⟨z,hz⟩:∃z:Nat,z=x/65536:=⟨_,rfl⟩
   have e2:Int.fdiv (x:Int) (2^min 16 IntKind.u64.bits)=(z:Int):=by rw[Hz,hz]
   have k2:=key 16 x (by omega)
   simp[e2]
   refine ab (fun h3=>?_) (fun h3=>?_)<;>simp at h3
   ·obtain⟨v,hv⟩:∃v:Nat,v=z/256:=⟨_,rfl⟩
    have e3:Int.fdiv (z:Int) (2^min 8 IntKind.u64.bits)=(v:Int):=by rw[Gp,hv]
    have k3:=key 8 z (by omega)
    simp[e3]
    refine gc (n:=24) (by omega) ?_ (by omega) ?_
    ·decide
    ·simp only[Nat.reducePow]at k2 k3
     rw[<- hz]at k2;rw[<- hv]at k3;omega
   ·simp
    refine gc (n:=16) (by omega) ?_ (by omega) ?_
    ·decide
    ·simp only[Nat.reducePow]at k2
     rw[<- hz]at k2;omega
  ·simp
   refine ab (fun h3=>?_) (fun h3=>?_)<;>simp at h3
   ·obtain⟨v,hv⟩:∃v:Nat,v=x/256:=⟨_,rfl⟩
    have e3:Int.fdiv (x:Int) (2^min 8 IntKind.u64.bits)=(v:Int):=by rw[Gp,hv]
    have k3:=key 8 x (by omega)
    simp[e3]
    refine gc (n:=8) (by omega) ?_ (by omega) ?_
    ·decide
    ·simp only[Nat.reducePow]at k3
     rw[<- hv]at k3;omega
   ·simp
    have:=gc (x:=x) (n:=0) (m:=0) (z:=x) (by omega) rfl (by omega) (by omega)
    simpa using this
theorem nk(x:Nat)(hx:x<18446744073709551616):C 102 [.int .u64 x] (.int .i64 ((64-bitLen x:Nat):Int)) []:=by
 have hb:bitLen x<=64:=by
  unfold bitLen
  split
  ·omega
  ·rename_i h
   have:=(Nat.log2_lt h).2 (show x<2^64 by omega)
   omega
 refine start hC (nf:=N102) rfl rfl ?_
 simp[N102]
 refine aa (ED hC x hx) (.inl rfl) ?_
 have e:IntKind.wrap .i64 (64-(bitLen x:Int))=((64-bitLen x:Nat):Int):=wrap_i64 (by omega) (by omega)
 simp[e]
end Go.Gv

namespace Go.Gv
structure DvI (u d a b q r:Nat):Prop where
 sum:q*a+r=u
 ge:(u*4294967296+d)/(a*4294967296+b)<=q
 rlt:r<4294967296
 qle:q<=4294967297
section
variable{u d a b q r:Nat}
theorem Dv.mul(h:q*a+r=u):q*(a*4294967296+b)+r*4294967296=u*4294967296+q*b:=by
 subst h
 rw[Nat.mul_add,<- Nat.mul_assoc,x0I]
 omega
theorem Dv.lt(_:0<a)(hu:u<a*4294967296+b)(hd:d<4294967296):(u*4294967296+d)/(a*4294967296+b)<4294967296:=by
 rw[x1G (by omega)]
 have:(u+1)*4294967296<=(a*4294967296+b)*4294967296:=x0q _ hu
 omega
theorem DvI.first(ha:2147483648<=a)(ha2:a<4294967296)(hb:b<4294967296)(hu:u<a*4294967296+b)(hd:d<4294967296):DvI u d a b (u/a) (u%a) where
 sum:=by rw[x1b];exact x1u u a
 rlt:=by have:=x1P u (show 0<a by omega);omega
 ge:=by
  rw[Nat.le_div_iff_mul_le (by omega)]
  have h:=Nat.div_mul_le_self (u*4294967296+d) (a*4294967296+b)
  generalize (u*4294967296+d)/(a*4294967296+b)=Q at *
  rw[Nat.mul_add,<- Nat.mul_assoc]at h
  generalize Q*b=z at *
  generalize Q*a=x at *
  omega
 qle:=by
  have:u/a<4294967298:=by
   rw[x1G (by omega)]
   omega
  omega
theorem DvI.more(h:DvI u d a b q r)(ha:0<a)(hu:u<a*4294967296+b)(hd:d<4294967296)(hc:4294967296<=q\/4294967296*r+d<q*b):(u*4294967296+d)/(a*4294967296+b)+1<=q:=by
 rcases hc with hc|hc
 ·have:=Dv.lt (d:=d) ha hu hd
  omega
 ·have h1:=Dv.mul (b:=b) h.sum
  have:(u*4294967296+d)/(a*4294967296+b)<q:=by
   rw[x1G (by omega)]
   generalize q*(a*4294967296+b)=z at *
   generalize q*b=x at *
   omega
  omega
theorem DvI.done(h:DvI u d a b q r)(ha:0<a)(hc:q*b<=4294967296*r+d):q=(u*4294967296+d)/(a*4294967296+b):=by
 have h1:=Dv.mul (b:=b) h.sum
 have h2:=h.ge
 have:q<=(u*4294967296+d)/(a*4294967296+b):=by
  rw[Nat.le_div_iff_mul_le (by omega)]
  generalize q*(a*4294967296+b)=z at *
  generalize q*b=x at *
  omega
 omega
theorem DvI.next(h:DvI u d a b q r)(ha:0<a)(hu:u<a*4294967296+b)(hd:d<4294967296)(hc:4294967296<=q\/4294967296*r+d<q*b) :
  1<=q/\(q-1)*a+(r+a)=u/\(u*4294967296+d)/(a*4294967296+b)<=q-1/\q-1<=4294967296:=by
 have h1:=h.more ha hu hd hc
 have h2:=h.qle
 have h3:=h.sum
 generalize (u*4294967296+d)/(a*4294967296+b)=Q at *
 obtain⟨q',rfl⟩:∃q',q=q'+1:=⟨q-1,by omega⟩
 refine⟨by omega,?_,by omega,by omega⟩
 rw[x0I]at h3
 simp only[Nat.add_sub_cancel]
 omega
theorem Dv.stop(hs:q*a+r=u)(hg:(u*4294967296+d)/(a*4294967296+b)<=q)(hq:q<=4294967296)(ha:0<a)(hb:b<4294967296)(hr:4294967296<=r):q=(u*4294967296+d)/(a*4294967296+b):=by
 have h1:=Dv.mul (b:=b) hs
 have h3:q*b<=4294967296*4294967295:=x1B hq (by omega)
 have:q<=(u*4294967296+d)/(a*4294967296+b):=by
  rw[Nat.le_div_iff_mul_le (by omega)]
  generalize q*(a*4294967296+b)=z at *
  generalize q*b=x at *
  omega
 omega
theorem DvI.bnd(h:DvI u d a b q r)(hb:b<4294967296):q*b<18446744073709551616:=by
 have:=x1B h.qle (show b<=4294967295 by omega)
 omega
end
theorem Ib{N y S A K un0 y':Nat}(hy:0<y)(hs:0<S)(hy':y'=y*S)(hn:N*S=A*K+un0) :
  A/y'*K+(A%y'*K+un0)/y'=N/y/\(A%y'*K+un0)%y'/S=N%y:=by
 have hyp:0<y':=by rw[hy'];exact Nat.mul_pos hy hs
 have e1:=x1u A y'
 have e2:=x1u (A%y'*K+un0) y'
 have l2:=x1P (A%y'*K+un0) hyp
 have tot:y'*(A/y'*K+(A%y'*K+un0)/y')+(A%y'*K+un0)%y'=N*S:=by
  rw[hn,Nat.mul_add,x0Y,e2,<- Nat.mul_assoc,<- x0Y,<- x0I,e1]
 have hq:N*S/y'=A/y'*K+(A%y'*K+un0)/y':=by
  rw[<- tot,Nat.mul_add_div hyp,Nat.div_eq_of_lt l2,x1r]
 have hr:N*S%y'=(A%y'*K+un0)%y':=by
  rw[<- tot,Nat.mul_add_mod,Nat.mod_eq_of_lt l2]
 rw[hy',Nat.mul_div_mul_right _ _ hs]at hq
 rw[hy',Nat.mul_mod_mul_right]at hr
 rw[hy']at *
 exact⟨hq.symm,by rw[<- hr,Nat.mul_div_cancel _ hs]⟩
end Go.Gv

namespace Go.Gv
theorem yR(a b:Nat):Int.tdiv (a:Int) (b:Int)=((a/b:Nat):Int):=by
 rw[Int.tdiv_eq_ediv_of_nonneg (by omega)];norm_cast
theorem HE(a b:Nat):Int.tmod (a:Int) (b:Int)=((a%b:Nat):Int):=by
 rw[Int.tmod_eq_emod_of_nonneg (by omega)];norm_cast
theorem jb(a:Int):IntKind.u64.wrap a=a%18446744073709551616:=by
 have e1:IntKind.u64.signed=false:=rfl
 have e3:(2^IntKind.u64.bits:Int)=18446744073709551616:=rfl
 unfold IntKind.wrap
 simp only[e1,e3,x1C]
 simp
theorem orN(a b i:Nat)(hb:b<2^i)(h:a*2^i+b<18446744073709551616):bits .or .u64 ((a*2^i:Nat):Int) (b:Int)=((a*2^i+b:Nat):Int):=by
 rw[bits_or_u64_nat _ _ (by omega) (by omega),x1b a,Nat.two_pow_add_eq_or_of_lt hb]
theorem Ay(a m b s:Nat):(a*m+b)*s=a*s*m+b*s:=by rw[x0I,Nat.mul_right_comm]
theorem NI{H B W U d1 d0:Nat}(hU:U=H+B)(h1:d1=W/4294967296)(h0:d0=W%4294967296):H*18446744073709551616+(B*18446744073709551616+W)=(U*4294967296+d1)*4294967296+d0:=by omega
theorem IW{y s:Nat}(h0:y≠0)(hy:y<18446744073709551616)(hs:s=64-bitLen y):s<=63/\9223372036854775808<=y*2^s/\y*2^s<18446744073709551616:=by
 obtain⟨h1,h2⟩:=bitLen_spec y
 have h3:=h2 h0
 have hb:bitLen y<=64:=by
  unfold bitLen
  rw[if_neg h0]
  have:=(Nat.log2_lt h0).2 (show y<2^64 by omega)
  omega
 have hb1:1<=bitLen y:=by unfold bitLen;rw[if_neg h0];omega
 have e:bitLen y+s=64:=by omega
 refine⟨by omega,?_,?_⟩
 ·have:=x0q (2^s) h3
  rw[<- Nat.pow_add,show bitLen y-1+s=63 by omega]at this
  omega
 ·have:=Nat.mul_lt_mul_of_pos_right h1 (Nat.two_pow_pos s)
  rw[<- Nat.pow_add,e]at this
  omega
variable{C:CC}(hC:al prog C)
include hC
theorem xH(hi lo y:Nat)(h:hi<y)(hy:y<18446744073709551616)(hl:lo<18446744073709551616) :
  C 92 [.int .u64 hi,.int .u64 lo,.int .u64 y] (.tup [.int .u64 (((hi*18446744073709551616+lo)/y:Nat):Int),.int .u64 (((hi*18446744073709551616+lo)%y:Nat):Int)]) []:=by
 refine start hC (nf:=N92) rfl rfl ?_
 have h1:¬y=0:=by omega
 have h2:¬y<=hi:=by omega
 generalize hres:D.tup [D.int .u64 (((hi*18446744073709551616+lo)/y:Nat):Int),.int .u64 (((hi*18446744073709551616+lo)%y:Nat):Int)]=res
 simp[N92]
 refine ab (fun h=>?_) (fun _=>?_)
 ·simp at h;omega
 simp
 refine ab (fun h=>?_) (fun _=>?_)
 ·simp at h;omega
 simp
 refine ab (fun h=>?_) (fun h3=>?_)
 ·simp at h
  have:hi=0:=by omega
  subst this
  have hq:lo/y<18446744073709551616:=by have:=Nat.div_le_self lo y;omega
  obtain⟨q,hq'⟩:∃q,q=lo/y:=⟨_,rfl⟩
  obtain⟨r,hr'⟩:∃r,r=lo%y:=⟨_,rfl⟩
  have e1:Int.tdiv (lo:Int) (y:Int)=(q:Int):=by rw[yR,hq']
  have e2:Int.tmod (lo:Int) (y:Int)=(r:Int):=by rw[HE,hr']
  simp[h1,e1,e2,cP q (by omega)]
  refine⟨aw (by decide +kernel),?_⟩
  rw[<- hres,hq',hr',Nat.zero_mul,x1a]
 simp
 refine aa (nk hC y hy) (.inl rfl) ?_
 generalize hs:64-bitLen y=s
 obtain⟨s1,s2,s3⟩:=IW h1 hy hs.symm
 have w1:IntKind.u64.wrap (s:Int)=(s:Int):=cP _ (by omega)
 have w2:IntKind.u64.wrap (64-(s:Int))=((64-s:Nat):Int):=by rw[jb];omega
 have m1:min s IntKind.u64.bits=s:=by show min s 64=s;omega
 have m2:min (64-s) IntKind.u64.bits=64-s:=by show min (64-s) 64=64-s;omega
 obtain⟨Y,hY⟩:∃Y,Y=y*2^s:=⟨_,rfl⟩
 obtain⟨H,hH⟩:∃H,H=hi*2^s:=⟨_,rfl⟩
 obtain⟨W,hW⟩:∃W,W=lo*2^s%18446744073709551616:=⟨_,rfl⟩
 obtain⟨B,hB⟩:∃B,B=lo/2^(64-s):=⟨_,rfl⟩
 rw[<- hY]at s2 s3
 have hHY:H+2^s<=Y:=by
  have:=x0q (2^s) h
  rw[hH,hY]
  rw[x04]at this
  exact this
 have hBs:B<2^s:=by
  rw[hB,x1G (Nat.two_pow_pos _),<- Nat.pow_add,show s+(64-s)=64 by omega]
  exact hl
 obtain⟨U,hU⟩:∃U,U=H+B:=⟨_,rfl⟩
 have hUY:U<Y:=by omega
 have eY:IntKind.u64.wrap ((y:Int)*2^s)=(Y:Int):=by
  rw[show(y:Int)*2^s=(Y:Int) by rw[hY];norm_cast];exact cP _ s3
 have eH:IntKind.u64.wrap ((hi:Int)*2^s)=(H:Int):=by
  rw[show(hi:Int)*2^s=(H:Int) by rw[hH];norm_cast];exact cP _ (by omega)
 have eW:IntKind.u64.wrap ((lo:Int)*2^s)=(W:Int):=by
  rw[show(lo:Int)*2^s=((lo*2^s:Nat):Int) by norm_cast,Er,hW]
 have eB:Int.fdiv (lo:Int) (2^(64-s))=(B:Int):=by rw[qK,hB]
 have eU:bits .or .u64 (H:Int) (B:Int)=(U:Int):=by
  rw[hU,hH];exact orN hi B s hBs (by omega)
 obtain⟨Y1,hY1⟩:∃Y1,Y1=Y/4294967296:=⟨_,rfl⟩
 obtain⟨Y0,hY0⟩:∃Y0,Y0=Y%4294967296:=⟨_,rfl⟩
 obtain⟨d1,hd1⟩:∃d1,d1=W/4294967296:=⟨_,rfl⟩
 obtain⟨d0,hd0⟩:∃d0,d0=W%4294967296:=⟨_,rfl⟩
 have eY1:Int.fdiv (Y:Int) (2^min 32 IntKind.u64.bits)=(Y1:Int):=by rw[yG,hY1]
 have eY0:bits .and .u64 (Y:Int) 4294967295=(Y0:Int):=by rw[vj _ s3,hY0]
 have hW64:W<18446744073709551616:=by rw[hW];exact x1P _ (by omega)
 have ed1:Int.fdiv (W:Int) (2^min 32 IntKind.u64.bits)=(d1:Int):=by rw[yG,hd1]
 have ed0:bits .and .u64 (W:Int) 4294967295=(d0:Int):=by rw[vj _ hW64,hd0]
 have hY1a:2147483648<=Y1:=by omega
 have hY1b:Y1<4294967296:=by omega
 have hY0b:Y0<4294967296:=by omega
 have hd1b:d1<4294967296:=by omega
 have hd0b:d0<4294967296:=by omega
 have hYs:Y1*4294967296+Y0=Y:=by omega
 have nz:¬Y1=0:=by omega
 have inv1:=DvI.first hY1a hY1b hY0b (u:=U) (d:=d1) (by omega) hd1b
 obtain⟨q,hq⟩:∃q,q=U/Y1:=⟨_,rfl⟩
 obtain⟨r,hr⟩:∃r,r=U%Y1:=⟨_,rfl⟩
 rw[<- hq,<- hr]at inv1
 have eq1:Int.tdiv (U:Int) (Y1:Int)=(q:Int):=by rw[yR,hq]
 have eq2:IntKind.u64.wrap (q:Int)=(q:Int):=cP _ (by have:=inv1.qle;omega)
 have sub1:∀(u a q r:Nat),q*a+r=u->u<18446744073709551616->IntKind.u64.wrap ((u:Int)-IntKind.u64.wrap ((q:Int)*(a:Int)))=(r:Int):=fun u a q r e hu=>by
  rw[Ax,jb,jb]
  generalize q*a=z at *
  omega
 have er:IntKind.u64.wrap ((U:Int)-IntKind.u64.wrap ((q:Int)*(Y1:Int)))=(r:Int):=sub1 _ _ _ _ inv1.sum (by omega)
 simp[w1,w2,m1,m2,eY,eH,eW,eB,eU,eY1,eY0,ed1,ed0,eq1,eq2,er,nz]
 have bm:∀{u d q r:Nat},DvI u d Y1 Y0 q r->IntKind.u64.wrap ((q:Int)*(Y0:Int))=((q*Y0:Nat):Int):=fun i=>by rw[Ax];exact cP _ (i.bnd hY0b)
 have bp:∀{u d q r:Nat},d<4294967296->DvI u d Y1 Y0 q r->IntKind.u64.wrap (IntKind.u64.wrap (4294967296*(r:Int))+(d:Int))=((4294967296*r+d:Nat):Int):=fun{u d q r} hd i=>by
  have:=i.rlt
  rw[show(4294967296:Int)*(r:Int)=((4294967296*r:Nat):Int) by omega,cP (4294967296*r) (by omega),Lv]
  exact cP _ (by omega)
 obtain⟨Q1,hQ1⟩:∃Q1,Q1=(U*4294967296+d1)/(Y1*4294967296+Y0):=⟨_,rfl⟩
 refine vg 0 Nat (fun x=>[(2,.int .u64 Y),(8,.int .u64 s),(9,.int .u64 Y1),(10,.int .u64 Y0),(11,.int .u64 U),(13,.int .u64 d1),(14,.int .u64 d0),(15,.int .u64 x)]) (fun x=>x=Q1) ?_ ?_
 ·refine ay (Nat×Nat) (fun x=>[(2,.int .u64 Y),(8,.int .u64 s),(9,.int .u64 Y1),(10,.int .u64 Y0),(11,.int .u64 U),(13,.int .u64 d1),(14,.int .u64 d0),(15,.int .u64 x.1),(16,.int .u64 x.2)]) (fun x=>DvI U d1 Y1 Y0 x.1 x.2) (fun x=>4294967296-x.2) (q,r) inv1 (by simp) ?_
  rintro⟨a,c⟩ inv
  simp only at inv
  have b1:=bm inv
  have b2:=bp hd1b inv
  have b3:=inv.rlt
  have b4:=inv.qle
  have fin:(4294967296<=a\/4294967296*c+d1<a*Y0)->∃a' c':Nat,IntKind.u64.wrap ((a:Int)-1)=(a':Int)/\IntKind.u64.wrap ((c:Int)+(Y1:Int))=(c':Int)/\c'=c+Y1/\(4294967296<=c'->a'=Q1)/\(c'<4294967296->DvI U d1 Y1 Y0 a' c'):=fun hc=>by
   obtain⟨n1,n2,n3,n4⟩:=inv.next (by omega) (by rw[hYs];exact hUY) hd1b hc
   refine⟨a-1,c+Y1,by rw[jb];omega,by rw[jb];omega,rfl,fun hc=>(Dv.stop n2 n3 n4 (by omega) hY0b hc).trans hQ1.symm,fun hc=>⟨n2,n3,hc,by omega⟩⟩
  simp
  refine ab (fun c1=>?_) (fun c1=>?_)<;>simp[c1]<;>simp at c1
  ·obtain⟨a',c',k1,k2,k3,k4,k5⟩:=fin (.inl (by omega))
   simp[k1,k2]
   refine ab (fun c2=>?_) (fun c2=>?_)<;>simp[c2,k1,k2]<;>simp at c2
   ·rw[k4 (by omega)]
   ·exact⟨_,_,k5 (by omega),by omega,rfl,rfl⟩
  ·simp[b1,b2]
   refine ab (fun c3=>?_) (fun c3=>?_)<;>simp[c3]<;>simp at c3
   ·obtain⟨a',c',k1,k2,k3,k4,k5⟩:=fin (.inr (by omega))
    simp[k1,k2]
    refine ab (fun c2=>?_) (fun c2=>?_)<;>simp[c2,k1,k2]<;>simp at c2
    ·rw[k4 (by omega)]
    ·exact⟨_,_,k5 (by omega),by omega,rfl,rfl⟩
   ·rw[(inv.done (by omega) (by omega)).trans hQ1.symm]
 intro q1 e hq1 hw
 subst hq1
 simp at hw
 obtain⟨g2,g8,g9,g10,g11,g13,g14,g15⟩:=hw
 obtain⟨V,hV⟩:∃V,V=(U*4294967296+d1)%(Y1*4294967296+Y0):=⟨_,rfl⟩
 have hVY:V<Y:=by rw[hV,hYs];exact x1P _ (by omega)
 have sum1:q1*Y+V=U*4294967296+d1:=by rw[hQ1,hV,hYs,x1b];exact x1u _ _
 have eV:IntKind.u64.wrap (IntKind.u64.wrap (IntKind.u64.wrap ((U:Int)*4294967296)+(d1:Int))-IntKind.u64.wrap ((q1:Int)*(Y:Int)))=(V:Int):=by
  rw[Ax q1 Y]
  simp only[jb]
  generalize q1*Y=z at *
  omega
 have inv2:=DvI.first hY1a hY1b hY0b (u:=V) (d:=d0) (by omega) hd0b
 obtain⟨q2,hq2⟩:∃q,q=V/Y1:=⟨_,rfl⟩
 obtain⟨r2,hr2⟩:∃r,r=V%Y1:=⟨_,rfl⟩
 rw[<- hq2,<- hr2]at inv2
 have eq3:Int.tdiv (V:Int) (Y1:Int)=(q2:Int):=by rw[yR,hq2]
 have eq4:IntKind.u64.wrap (q2:Int)=(q2:Int):=cP _ (by have:=inv2.qle;omega)
 have er2:IntKind.u64.wrap ((V:Int)-IntKind.u64.wrap ((q2:Int)*(Y1:Int)))=(r2:Int):=sub1 _ _ _ _ inv2.sum (by omega)
 simp[g2,g8,g9,g10,g11,g13,g14,g15,eV,eq3,eq4,er2,nz]
 obtain⟨Q0,hQ0⟩:∃Q0,Q0=(V*4294967296+d0)/(Y1*4294967296+Y0):=⟨_,rfl⟩
 refine vg 2 Nat (fun x=>[(2,.int .u64 Y),(8,.int .u64 s),(14,.int .u64 d0),(15,.int .u64 q1),(17,.int .u64 V),(18,.int .u64 x)]) (fun x=>x=Q0) ?_ ?_
 ·refine ay (Nat×Nat) (fun x=>[(2,.int .u64 Y),(8,.int .u64 s),(9,.int .u64 Y1),(10,.int .u64 Y0),(14,.int .u64 d0),(15,.int .u64 q1),(16,.int .u64 x.2),(17,.int .u64 V),(18,.int .u64 x.1)]) (fun x=>DvI V d0 Y1 Y0 x.1 x.2) (fun x=>4294967296-x.2) (q2,r2) inv2 (by simp) ?_
  rintro⟨a,c⟩ inv
  simp only at inv
  have b1:=bm inv
  have b2:=bp hd0b inv
  have b3:=inv.rlt
  have b4:=inv.qle
  have fin:(4294967296<=a\/4294967296*c+d0<a*Y0)->∃a' c':Nat,IntKind.u64.wrap ((a:Int)-1)=(a':Int)/\IntKind.u64.wrap ((c:Int)+(Y1:Int))=(c':Int)/\c'=c+Y1/\(4294967296<=c'->a'=Q0)/\(c'<4294967296->DvI V d0 Y1 Y0 a' c'):=fun hc=>by
   obtain⟨n1,n2,n3,n4⟩:=inv.next (by omega) (by rw[hYs];exact hVY) hd0b hc
   refine⟨a-1,c+Y1,by rw[jb];omega,by rw[jb];omega,rfl,fun hc=>(Dv.stop n2 n3 n4 (by omega) hY0b hc).trans hQ0.symm,fun hc=>⟨n2,n3,hc,by omega⟩⟩
  simp
  refine ab (fun c1=>?_) (fun c1=>?_)<;>simp[c1]<;>simp at c1
  ·obtain⟨a',c',k1,k2,k3,k4,k5⟩:=fin (.inl (by omega))
   simp[k1,k2]
   refine ab (fun c2=>?_) (fun c2=>?_)<;>simp[c2,k1,k2]<;>simp at c2
   ·rw[k4 (by omega)]
   ·exact⟨_,_,k5 (by omega),by omega,rfl,rfl⟩
  ·simp[b1,b2]
   refine ab (fun c3=>?_) (fun c3=>?_)<;>simp[c3]<;>simp at c3
   ·obtain⟨a',c',k1,k2,k3,k4,k5⟩:=fin (.inr (by omega))
    simp[k1,k2]
    refine ab (fun c2=>?_) (fun c2=>?_)<;>simp[c2,k1,k2]<;>simp at c2
    ·rw[k4 (by omega)]
    ·exact⟨_,_,k5 (by omega),by omega,rfl,rfl⟩
   ·rw[(inv.done (by omega) (by omega)).trans hQ0.symm]
 intro q0 e hq0 hw
 subst hq0
 simp at hw
 obtain⟨g2,g8,g14,g15,g17,g18⟩:=hw
 have l1:q1<4294967296:=by rw[hQ1];exact Dv.lt (by omega) (by omega) hd1b
 have l0:q0<4294967296:=by rw[hQ0];exact Dv.lt (by omega) (by omega) hd0b
 obtain⟨R,hR⟩:∃R,R=(V*4294967296+d0)%(Y1*4294967296+Y0):=⟨_,rfl⟩
 have hRY:R<Y:=by rw[hR,hYs];exact x1P _ (by omega)
 have sum0:q0*Y+R=V*4294967296+d0:=by rw[hQ0,hR,hYs,x1b];exact x1u _ _
 have eR:IntKind.u64.wrap (IntKind.u64.wrap (IntKind.u64.wrap ((V:Int)*4294967296)+(d0:Int))-IntKind.u64.wrap ((q0:Int)*(Y:Int)))=(R:Int):=by
  rw[Ax q0 Y]
  simp only[jb]
  generalize q0*Y=z at *
  omega
 obtain⟨Z,hZ⟩:∃Z,Z=R/2^s:=⟨_,rfl⟩
 have eZ:Int.fdiv (R:Int) (2^s)=(Z:Int):=by rw[qK,hZ]
 have eQ:IntKind.u64.wrap (IntKind.u64.wrap ((q1:Int)*4294967296)+(q0:Int))=((q1*4294967296+q0:Nat):Int):=by
  simp only[jb]
  omega
 obtain⟨T,hT⟩:∃T,T=q1*4294967296+q0:=⟨_,rfl⟩
 rw[<- hT]at eQ
 simp[g2,g8,g14,g15,g17,g18,w1,m1,eR,eZ,eQ]
 have hW2:lo*2^s=B*18446744073709551616+W:=by
  have e1:lo*2^s/18446744073709551616=B:=by
   rw[hB,show(18446744073709551616:Nat)=2^(64-s)*2^s by rw[<- Nat.pow_add,show 64-s+s=64 by omega],Nat.mul_div_mul_right _ _ (Nat.two_pow_pos s)]
  have e2:=x1u (lo*2^s) 18446744073709551616
  omega
 have tot:(hi*18446744073709551616+lo)*2^s=(U*4294967296+d1)*4294967296+d0:=by
  rw[Ay,hW2,<- hH]
  exact NI hU hd1 hd0
 obtain⟨f1,f2⟩:=Ib (N:=hi*18446744073709551616+lo) (y:=y) (S:=2^s) (A:=U*4294967296+d1) (K:=4294967296) (un0:=d0) (y':=Y1*4294967296+Y0) (by omega) (Nat.two_pow_pos s) (by rw[hYs,hY]) tot
 rw[<- hV,<- hQ1,<- hQ0,<- hT]at f1
 rw[<- hV,<- hR,<- hZ]at f2
 rw[<- hres,f1,f2]
end Go.Gv
